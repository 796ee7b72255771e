/- Several texts in one: AstQ, AstR, AstS, AstT. -/
import Derived.Test.YtalalcpefggniaaGreatDoorMrgF
/- ast, part Q: Equal. -/
set_option linter.unusedSimpArgs false
set_option linter.unusedVariables false
namespace Go.Proofs.YtalalcpefggniaaGreatDoor.E
open Go

theorem ex_len {m : Mem} {e : Ex} {cs : List Value} (h : exRep m e cs) : cs.length = 8 := by
  obtain ⟨x, rfl⟩ := exRep_nd h; rfl
/-- The fact that EqualFunc asks. -/
theorem eqX_fact {m : Mem} {l l2 : List Ex} {xs ys : List Value} (h1 : exsRep m l xs) (h2 : exsRep m l2 ys) {f : FuncId} (hf : ∀ a ∈ l, ∀ b ∈ l2, ∀ ca cb m', leM m m' → exRep m' a ca → exRep m' b cb → Ans f [.v (.agg ⟨ca⟩), .v (.agg ⟨cb⟩)] m' (.bool (eqE a b))) :
    ∀ i, i < l.length → l.length = l2.length → ∃ X Y : Nd, (xs.drop (i * 8)).take 8 = X.cs ∧ (ys.drop (i * 8)).take 8 = Y.cs ∧ ∀ m', leM m m' → Ans f [.v (.agg ⟨X.cs⟩), .v (.agg ⟨Y.cs⟩)] m' (.bool (atB eqE l l2 i)) := fun i hi he => by
  have r1 := exs_at h1 hi
  have r2 := exs_at h2 (by omega : i < l2.length)
  obtain ⟨X, hX⟩ := exRep_nd r1
  obtain ⟨Y, hY⟩ := exRep_nd r2
  rw [hX] at r1
  rw [hY] at r2
  refine ⟨X, Y, hX, hY, fun m' hle => ?_⟩
  rw [atB_at hi (by omega)]
  exact hf _ (List.getElem_mem hi) _ (List.getElem_mem _) _ _ m' hle (exRep_upM hle r1) (exRep_upM hle r2)
set_option maxHeartbeats 4000000 in
set_option maxRecDepth 20000 in
theorem eqE_all : ∀ (h : Nat) (a b : Ex) (ca cb : List Value) (m : Mem), depthE a ≤ h → exRep m a ca → exRep m b cb → Ans 121 [.v (.agg ⟨ca⟩), .v (.agg ⟨cb⟩)] m (.bool (eqE a b))
  | 0, .mk k n s c ty args, b, ca, cb, m, hd, _, _ => by simp [depthE] at hd
  | h + 1, .mk k n s c ty args, .mk k' n' s' c' ty' args', ca, cb, m, hd, ha, hb => by
    simp only [exRep] at ha hb
    obtain ⟨a, cp, xs, rfl, hcp, hr, hok, hes⟩ := ha
    obtain ⟨a', cp', xs', rfl, hcp', hr', hok', hes'⟩ := hb
    simp only [depthE] at hd
    have hE := fun m' (hle : leM m m') => eqfNd 121 (atB eqE args args') a args.length cp a' args'.length cp' xs xs' m' (Rds_upM hle hr) (Rds_upM hle hr') hok.2.2.2.2.2 (by kernel_rfl)
      (eqX_fact (exsRep_upM hle hes) (exsRep_upM hle hes') fun x hx y hy cx cy m'' hle2 r1 r2 => eqE_all h x y cx cy m'' (by have := depthL_mem hx; omega) r1 r2)
    simp only [← all2_allB] at hE
    refine enter cfN puN Tryz.func121 rfl rfl (by kernel_rfl) rfl ?_ ?_
    · simp only [go_sem, ↓imp_tf, ↓imp_ft, ↓reduceIte, Nat.reduceBEq, Nat.reduceAdd, Nat.reduceMul, Nat.reduceSub, Nat.reduceEqDiff, Nat.reduceLT, Nat.reduceLeDiff, Option.map, Option.bind, List.map, List.length, reduceCtorEq, Option.toList, Option.getD, List.set, List.drop, List.take, Int.reduceToNat, exC]
    · simp only [go_sem, ↓imp_tf, ↓imp_ft, ↓reduceIte, Nat.reduceBEq, Nat.reduceAdd, Nat.reduceMul, Nat.reduceSub, Nat.reduceEqDiff, Nat.reduceLT, Nat.reduceLeDiff, Option.map, Option.bind, List.map, List.length, reduceCtorEq, Option.toList, Option.getD, List.set, List.drop, List.take, Int.reduceToNat, exC, eqOkT]
      refine ⟨fun h => ⟨by kernel_rfl, FnV_of ((hE m (.inl rfl)).mono ?_)⟩, fun h => ?_⟩
      · clear hE
        rintro r H' m2 hm2 ⟨hle2, rfl, rfl⟩
        simp only [go_sem, ↓imp_tf, ↓imp_ft, ↓reduceIte, Nat.reduceBEq, Nat.reduceAdd, Nat.reduceMul, Nat.reduceSub, Nat.reduceEqDiff, Nat.reduceLT, Nat.reduceLeDiff, Option.map, Option.bind, List.map, List.length, reduceCtorEq, Option.toList, Option.getD, List.set, List.drop, List.take, Int.reduceToNat]
        refine ⟨hle2, ?_⟩
        simp only [eqE, eqEs_all2, Ty.eq, h, decide_true, Bool.true_and]
      · clear hE
        simp only [eqE, Ty.eq]
        rcases h with (((h | h) | h) | h) | h | h | h <;> simp [h]
/-- The fact that EqualFunc asks, for any rows. -/
theorem eq_fact {α N : Type} {R : Mem → α → List Value → Prop} {csN : N → List Value} {sz : Nat} {e : α → α → Bool} (hup : ∀ m m' a c, leM m m' → R m a c → R m' a c) (hN : ∀ m a c, R m a c → ∃ x : N, c = csN x) {m : Mem} {l l2 : List α} {xs ys : List Value}
    (h1 : ∀ i (hi : i < l.length), R m l[i] ((xs.drop (i * sz)).take sz)) (h2 : ∀ i (hi : i < l2.length), R m l2[i] ((ys.drop (i * sz)).take sz)) {f : FuncId} (hf : ∀ a ∈ l, ∀ b ∈ l2, ∀ ca cb m', leM m m' → R m' a ca → R m' b cb → Ans f [.v (.agg ⟨ca⟩), .v (.agg ⟨cb⟩)] m' (.bool (e a b))) :
    ∀ i, i < l.length → l.length = l2.length → ∃ X Y : N, (xs.drop (i * sz)).take sz = csN X ∧ (ys.drop (i * sz)).take sz = csN Y ∧ ∀ m', leM m m' → Ans f [.v (.agg ⟨csN X⟩), .v (.agg ⟨csN Y⟩)] m' (.bool (atB e l l2 i)) := fun i hi he => by
  have r1 := h1 i hi
  have r2 := h2 i (by omega : i < l2.length)
  obtain ⟨X, hX⟩ := hN _ _ _ r1
  obtain ⟨Y, hY⟩ := hN _ _ _ r2
  rw [hX] at r1
  rw [hY] at r2
  refine ⟨X, Y, hX, hY, fun m' hle => ?_⟩
  rw [atB_at hi (by omega)]
  exact hf _ (List.getElem_mem hi) _ (List.getElem_mem _) _ _ m' (hle) (hup _ _ _ _ hle r1) (hup _ _ _ _ hle r2)

set_option maxHeartbeats 4000000 in
set_option maxRecDepth 20000 in
theorem eqS_all : ∀ (h : Nat) (a b : St) (ca cb : List Value) (m : Mem), depthS a ≤ h → stRep m a ca → stRep m b cb → Ans 54 [.v (.agg ⟨ca⟩), .v (.agg ⟨cb⟩)] m (.bool (eqS a b))
  | 0, .mk k nm ty tg ex body alt, b, ca, cb, m, hd, _, _ => by simp [depthS] at hd
  | h + 1, .mk k nm ty tg ex body alt, .mk k' nm' ty' tg' ex' body' alt', ca, cb, m, hd, ha, hb => by
    simp only [stRep] at ha hb
    obtain ⟨x, ⟨rfl, rfl, rfl, rfl⟩, htg, hex, ⟨hl, hcp, hl2, hcp2⟩, hok, xs, ys, r1, r2, s1, s2⟩ := ha
    obtain ⟨x', ⟨rfl, rfl, rfl, rfl⟩, htg', hex', ⟨hl', hcp', hl2', hcp2'⟩, hok', xs', ys', r1', r2', s1', s2'⟩ := hb
    simp only [depthS] at hd
    have hT := fun m' (hle : leM m m') => eqE_all _ tg tg' x.tg.cs x'.tg.cs m' (Nat.le_refl _) (exRep_upM hle htg) (exRep_upM hle htg')
    have hX := fun m' (hle : leM m m') => eqE_all _ ex ex' x.ex.cs x'.ex.cs m' (Nat.le_refl _) (exRep_upM hle hex) (exRep_upM hle hex')
    have hB : ∀ m', leM m m' → Ans 122 [.v (.slice x.a x.l x.cp), .v (.slice x'.a x'.l x'.cp), .v (.func (.func 54) ⟨[]⟩ ⟨[]⟩)] m' (.bool (eqSs body body')) := fun m' hle => by
      have hf := eq_fact (R := stRep) (csN := Sd.cs) (e := eqS) (f := 54) (fun _ _ _ _ => stRep_upM) (fun _ _ _ => stRep_sd) (fun i hi => sts_at (stsRep_upM hle s1) hi) (fun i hi => sts_at (stsRep_upM hle s1') hi)
        (fun a ha b hb ca cb m2 hle2 => eqS_all h a b ca cb m2 (by have := depthSs_mem ha; omega))
      rw [eqSs_all2, all2_allB]
      rw [← hl, ← hl'] at hf ⊢
      exact eqfSd _ _ x.a x.l x.cp x'.a x'.l x'.cp xs xs' m' (Rds_upM hle r1) (Rds_upM hle r1') (by rw [hl]; exact hok.l) (by kernel_rfl) hf
    have hA : ∀ m', leM m m' → Ans 122 [.v (.slice x.b x.l2 x.cp2), .v (.slice x'.b x'.l2 x'.cp2), .v (.func (.func 54) ⟨[]⟩ ⟨[]⟩)] m' (.bool (eqSs alt alt')) := fun m' hle => by
      have hf := eq_fact (R := stRep) (csN := Sd.cs) (e := eqS) (f := 54) (fun _ _ _ _ => stRep_upM) (fun _ _ _ => stRep_sd) (fun i hi => sts_at (stsRep_upM hle s2) hi) (fun i hi => sts_at (stsRep_upM hle s2') hi)
        (fun a ha b hb ca cb m2 hle2 => eqS_all h a b ca cb m2 (by have := depthSs_mem ha; omega))
      rw [eqSs_all2, all2_allB]
      rw [← hl2, ← hl2'] at hf ⊢
      exact eqfSd _ _ x.b x.l2 x.cp2 x'.b x'.l2 x'.cp2 ys ys' m' (Rds_upM hle r2) (Rds_upM hle r2') (by rw [hl2]; exact hok.l2) (by kernel_rfl) hf
    clear s1 s2 s1' s2'
    refine enter cfN puN Tryz.func54 rfl rfl (by kernel_rfl) rfl ?_ ?_
    · simp only [go_sem, ↓imp_tf, ↓imp_ft, ↓reduceIte, Nat.reduceBEq, Nat.reduceAdd, Nat.reduceMul, Nat.reduceSub, Nat.reduceEqDiff, Nat.reduceLT, Nat.reduceLeDiff, Option.map, Option.bind, List.map, List.length, reduceCtorEq, Option.toList, Option.getD, List.set, List.drop, List.take, Int.reduceToNat, Sd.cs, Nd.cs]
    · simp only [go_sem, ↓imp_tf, ↓imp_ft, ↓reduceIte, Nat.reduceBEq, Nat.reduceAdd, Nat.reduceMul, Nat.reduceSub, Nat.reduceEqDiff, Nat.reduceLT, Nat.reduceLeDiff, Option.map, Option.bind, List.map, List.length, reduceCtorEq, Option.toList, Option.getD, List.set, List.drop, List.take, Int.reduceToNat, Sd.cs, Nd.cs, eqOkT]
      refine ⟨fun h => ⟨by kernel_rfl, FnV_of ((FnH_den (hT m (.inl rfl)) (fun V => rfl)).mono ?_)⟩, fun h => ?_⟩
      · clear hT
        rintro r H' m2 hm2 ⟨l2, rfl, rfl⟩
        simp only [go_sem, ↓imp_tf, ↓imp_ft, ↓reduceIte, Nat.reduceBEq, Nat.reduceAdd, Nat.reduceMul, Nat.reduceSub, Nat.reduceEqDiff, Nat.reduceLT, Nat.reduceLeDiff, Option.map, Option.bind, List.map, List.length, reduceCtorEq, Option.toList, Option.getD, List.set, List.drop, List.take, Int.reduceToNat, Sd.cs, Nd.cs]
        have e0 : eqS (St.mk x.k x.name x.ty tg ex body alt) (St.mk x'.k x'.name x'.ty tg' ex' body' alt') = (eqE tg tg' && eqE ex ex' && eqSs body body' && eqSs alt alt') := by simp only [eqS, Ty.eq, h, decide_true, Bool.true_and]
        refine ⟨fun h1 => ⟨by kernel_rfl, FnV_of ((FnH_den (hX m2 l2) (fun V => rfl)).mono ?_)⟩, fun h1 => ?_⟩
        · clear hX
          rintro r H' m3 hm3 ⟨l3, rfl, rfl⟩
          simp only [go_sem, ↓imp_tf, ↓imp_ft, ↓reduceIte, Nat.reduceBEq, Nat.reduceAdd, Nat.reduceMul, Nat.reduceSub, Nat.reduceEqDiff, Nat.reduceLT, Nat.reduceLeDiff, Option.map, Option.bind, List.map, List.length, reduceCtorEq, Option.toList, Option.getD, List.set, List.drop, List.take, Int.reduceToNat, Sd.cs, Nd.cs]
          refine ⟨fun h2 => ⟨by kernel_rfl, FnV_of ((hB m3 (leM_tr l2 l3)).mono ?_)⟩, fun h2 => ?_⟩
          · clear hB
            rintro r H' m4 hm4 ⟨l4, rfl, rfl⟩
            simp only [go_sem, ↓imp_tf, ↓imp_ft, ↓reduceIte, Nat.reduceBEq, Nat.reduceAdd, Nat.reduceMul, Nat.reduceSub, Nat.reduceEqDiff, Nat.reduceLT, Nat.reduceLeDiff, Option.map, Option.bind, List.map, List.length, reduceCtorEq, Option.toList, Option.getD, List.set, List.drop, List.take, Int.reduceToNat, Sd.cs, Nd.cs]
            refine ⟨fun h3 => ⟨by kernel_rfl, FnV_of ((hA m4 (leM_tr (leM_tr l2 l3) l4)).mono ?_)⟩, fun h3 => ?_⟩
            · clear hA
              rintro r H' m5 hm5 ⟨l5, rfl, rfl⟩
              simp only [go_sem, ↓imp_tf, ↓imp_ft, ↓reduceIte, Nat.reduceBEq, Nat.reduceAdd, Nat.reduceMul, Nat.reduceSub, Nat.reduceEqDiff, Nat.reduceLT, Nat.reduceLeDiff, Option.map, Option.bind, List.map, List.length, reduceCtorEq, Option.toList, Option.getD, List.set, List.drop, List.take, Int.reduceToNat, Sd.cs, Nd.cs]
              refine ⟨leM_tr (leM_tr (leM_tr l2 l3) l4) l5, ?_⟩
              rw [e0, h1, h2, h3]; rfl
            · refine ⟨leM_tr (leM_tr l2 l3) l4, ?_⟩
              rw [e0, h3, Bool.and_false]; rfl
          · refine ⟨leM_tr l2 l3, ?_⟩
            rw [e0, h2, Bool.and_false]; rfl
        · refine ⟨l2, ?_⟩
          rw [e0, h1]; rfl
      · clear hT hX hB hA
        simp only [eqS, Ty.eq]
        rcases h with (h | h) | h | h | h <;> simp [h]
set_option maxHeartbeats 4000000 in
set_option maxRecDepth 20000 in
theorem eqM_all (a b : Md) (ca cb : List Value) (m : Mem) (ha : mdRep m a ca) (hb : mdRep m b cb) : Ans 127 [.v (.agg ⟨ca⟩), .v (.agg ⟨cb⟩)] m (.bool (eqM a b)) := by
  obtain ⟨fl, res, name, params, hb, body⟩ := a
  obtain ⟨fl', res', name', params', hb', body'⟩ := b
  obtain ⟨x, ⟨rfl, rfl, rfl, rfl, rfl⟩, ⟨hpl, hpc, hl, hcp⟩, hok, r1, xs, r2, s2⟩ := ha
  obtain ⟨x', ⟨rfl, rfl, rfl, rfl, rfl⟩, ⟨hpl', hpc', hl', hcp'⟩, hok', r1', xs', r2', s2'⟩ := hb
  simp only at hpl hl hpl' hl' r1 r1' s2 s2'
  have hP : ∀ m', leM m m' → Ans 176 [.v (.slice x.pa x.pl x.pc), .v (.slice x'.pa x'.pl x'.pc)] m' (.bool (all2 Pc.eq params params')) := fun m' hle => by
    rw [all2_allB, ← hpl, ← hpl']
    refine eqlPc _ x.pa x.pl x.pc x'.pa x'.pl x'.pc _ _ m' (Rds_upM hle r1) (Rds_upM hle r1') (by rw [hpl]; exact hok.pl) fun i hi he => ?_
    exact ⟨params[i], params'[i], flat_at (f := Pc.cs) (sz := 4) (fun _ => rfl) (by omega), flat_at (f := Pc.cs) (sz := 4) (fun _ => rfl) (by omega), atB_at (by omega) (by omega)⟩
  have hB : ∀ m', leM m m' → Ans 122 [.v (.slice x.a x.l x.cp), .v (.slice x'.a x'.l x'.cp), .v (.func (.func 54) ⟨[]⟩ ⟨[]⟩)] m' (.bool (eqSs body body')) := fun m' hle => by
    have hf := eq_fact (R := stRep) (csN := Sd.cs) (e := eqS) (f := 54) (fun _ _ _ _ => stRep_upM) (fun _ _ _ => stRep_sd) (fun i hi => sts_at (stsRep_upM hle s2) hi) (fun i hi => sts_at (stsRep_upM hle s2') hi)
      (fun a ha b hb ca cb m2 hle2 => eqS_all _ a b ca cb m2 (Nat.le_refl _))
    rw [eqSs_all2, all2_allB]
    rw [← hl, ← hl'] at hf ⊢
    exact eqfSd _ _ x.a x.l x.cp x'.a x'.l x'.cp xs xs' m' (Rds_upM hle r2) (Rds_upM hle r2') (by rw [hl]; exact hok.l) (by kernel_rfl) hf
  clear s2 s2'
  refine enter cfN puN Tryz.func127 rfl rfl (by kernel_rfl) rfl ?_ ?_
  · simp only [go_sem, ↓imp_tf, ↓imp_ft, ↓reduceIte, Nat.reduceBEq, Nat.reduceAdd, Nat.reduceMul, Nat.reduceSub, Nat.reduceEqDiff, Nat.reduceLT, Nat.reduceLeDiff, Option.map, Option.bind, List.map, List.length, reduceCtorEq, Option.toList, Option.getD, List.set, List.drop, List.take, Int.reduceToNat, Mc.cs]
  · simp only [go_sem, ↓imp_tf, ↓imp_ft, ↓reduceIte, Nat.reduceBEq, Nat.reduceAdd, Nat.reduceMul, Nat.reduceSub, Nat.reduceEqDiff, Nat.reduceLT, Nat.reduceLeDiff, Option.map, Option.bind, List.map, List.length, reduceCtorEq, Option.toList, Option.getD, List.set, List.drop, List.take, Int.reduceToNat, Mc.cs, eqOkT]
    refine ⟨by kernel_rfl, fun h => ⟨by kernel_rfl, FnV_of ((hP m (.inl rfl)).mono ?_)⟩, fun h => ?_⟩
    · clear hP
      rintro r H' m2 hm2 ⟨l2, rfl, rfl⟩
      simp only [go_sem, ↓imp_tf, ↓imp_ft, ↓reduceIte, Nat.reduceBEq, Nat.reduceAdd, Nat.reduceMul, Nat.reduceSub, Nat.reduceEqDiff, Nat.reduceLT, Nat.reduceLeDiff, Option.map, Option.bind, List.map, List.length, reduceCtorEq, Option.toList, Option.getD, List.set, List.drop, List.take, Int.reduceToNat, Mc.cs]
      have e0 : eqM ⟨x.fl, x.res, x.name, params, x.hb, body⟩ ⟨x'.fl, x'.res, x'.name, params', x'.hb, body'⟩ = (all2 Pc.eq params params' && eqSs body body') := by simp only [eqM, Ty.eq, h, decide_true, Bool.true_and]
      refine ⟨fun h1 => ⟨by kernel_rfl, FnV_of ((hB m2 l2).mono ?_)⟩, fun h1 => ?_⟩
      · clear hB
        rintro r H' m3 hm3 ⟨l3, rfl, rfl⟩
        simp only [go_sem, ↓imp_tf, ↓imp_ft, ↓reduceIte, Nat.reduceBEq, Nat.reduceAdd, Nat.reduceMul, Nat.reduceSub, Nat.reduceEqDiff, Nat.reduceLT, Nat.reduceLeDiff, Option.map, Option.bind, List.map, List.length, reduceCtorEq, Option.toList, Option.getD, List.set, List.drop, List.take, Int.reduceToNat, Mc.cs]
        refine ⟨leM_tr l2 l3, ?_⟩
        rw [e0, h1]; rfl
      · refine ⟨l2, ?_⟩
        rw [e0, h1]; rfl
    · clear hP hB
      simp only [eqM, Ty.eq]
      rcases h with ((h | h | h | h) | h) | h <;> simp [h]
theorem mdRep_mc {m : Mem} {e : Md} {cs : List Value} (h : mdRep m e cs) : ∃ x : Mc, cs = x.cs := by
  obtain ⟨x, h1, _⟩ := h
  exact ⟨x, h1.1⟩
theorem cdRep_cc {m : Mem} {e : Cd} {cs : List Value} (h : cdRep m e cs) : ∃ x : Cc, cs = x.cs := by
  obtain ⟨x, h1, _⟩ := h
  exact ⟨x, h1.1⟩
set_option maxHeartbeats 4000000 in
set_option maxRecDepth 20000 in
theorem eqC_all (a b : Cd) (ca cb : List Value) (m : Mem) (ha : cdRep m a ca) (hb : cdRep m b cb) : Ans 59 [.v (.agg ⟨ca⟩), .v (.agg ⟨cb⟩)] m (.bool (eqC a b)) := by
  obtain ⟨fl, name, super, ifs, fields, methods, init⟩ := a
  obtain ⟨fl', name', super', ifs', fields', methods', init'⟩ := b
  obtain ⟨x, ⟨rfl, rfl, rfl, rfl⟩, ⟨hil, hic, hfn, hfc, hml, hmc, hsl, hsc⟩, hok, r1, r2, xs, ys, r3, s3, r4, s4⟩ := ha
  obtain ⟨x', ⟨rfl, rfl, rfl, rfl⟩, ⟨hil', hic', hfn', hfc', hml', hmc', hsl', hsc'⟩, hok', r1', r2', xs', ys', r3', s3', r4', s4'⟩ := hb
  simp only at hil hfn hml hsl r1 r2 s3 s4 hil' hfn' hml' hsl' r1' r2' s3' s4'
  have hI := fun m' (hle : leM m m') => eqlS ifs ifs' x.ia x.il x.ic x'.ia x'.il x'.ic m' (Rds_upM hle r1) (Rds_upM hle r1') (by rw [hil]; exact hok.il)
  have hF : ∀ m', leM m m' → Ans 125 [.v (.slice x.fa x.fn x.fc), .v (.slice x'.fa x'.fn x'.fc)] m' (.bool (all2 Fc.eq fields fields')) := fun m' hle => by
    rw [all2_allB, ← hfn, ← hfn']
    refine eqlFc _ x.fa x.fn x.fc x'.fa x'.fn x'.fc _ _ m' (Rds_upM hle r2) (Rds_upM hle r2') (by rw [hfn]; exact hok.fn) fun i hi he => ?_
    exact ⟨fields[i], fields'[i], flat_at (f := Fc.cs) (sz := 5) (fun _ => rfl) (by omega), flat_at (f := Fc.cs) (sz := 5) (fun _ => rfl) (by omega), atB_at (by omega) (by omega)⟩
  have hM : ∀ m', leM m m' → Ans 126 [.v (.slice x.ma x.ml x.mc), .v (.slice x'.ma x'.ml x'.mc), .v (.func (.func 127) ⟨[]⟩ ⟨[]⟩)] m' (.bool (all2 eqM methods methods')) := fun m' hle => by
    have hf := eq_fact (R := mdRep) (csN := Mc.cs) (e := eqM) (f := 127) (fun _ _ _ _ h => mdRep_up h) (fun _ _ _ => mdRep_mc) (fun i hi => mdRep_up hle (ls_at s3 hi)) (fun i hi => mdRep_up hle (ls_at s3' hi))
      (fun a ha b hb ca cb m2 hle2 => eqM_all a b ca cb m2)
    rw [all2_allB]
    rw [← hml, ← hml'] at hf ⊢
    exact eqfMc _ _ x.ma x.ml x.mc x'.ma x'.ml x'.mc xs xs' m' (Rds_upM hle r3) (Rds_upM hle r3') (by rw [hml]; exact hok.ml) (by kernel_rfl) hf
  have hB : ∀ m', leM m m' → Ans 122 [.v (.slice x.sa x.sl x.sc), .v (.slice x'.sa x'.sl x'.sc), .v (.func (.func 54) ⟨[]⟩ ⟨[]⟩)] m' (.bool (eqSs init init')) := fun m' hle => by
    have hf := eq_fact (R := stRep) (csN := Sd.cs) (e := eqS) (f := 54) (fun _ _ _ _ => stRep_upM) (fun _ _ _ => stRep_sd) (fun i hi => sts_at (stsRep_upM hle s4) hi) (fun i hi => sts_at (stsRep_upM hle s4') hi)
      (fun a ha b hb ca cb m2 hle2 => eqS_all _ a b ca cb m2 (Nat.le_refl _))
    rw [eqSs_all2, all2_allB]
    rw [← hsl, ← hsl'] at hf ⊢
    exact eqfSd _ _ x.sa x.sl x.sc x'.sa x'.sl x'.sc ys ys' m' (Rds_upM hle r4) (Rds_upM hle r4') (by rw [hsl]; exact hok.l) (by kernel_rfl) hf
  clear s3 s3' s4 s4'
  refine enter cfN puN Tryz.func59 rfl rfl (by kernel_rfl) rfl ?_ ?_
  · simp only [go_sem, ↓imp_tf, ↓imp_ft, ↓reduceIte, Nat.reduceBEq, Nat.reduceAdd, Nat.reduceMul, Nat.reduceSub, Nat.reduceEqDiff, Nat.reduceLT, Nat.reduceLeDiff, Option.map, Option.bind, List.map, List.length, reduceCtorEq, Option.toList, Option.getD, List.set, List.drop, List.take, Int.reduceToNat, Cc.cs]
  · simp only [go_sem, ↓imp_tf, ↓imp_ft, ↓reduceIte, Nat.reduceBEq, Nat.reduceAdd, Nat.reduceMul, Nat.reduceSub, Nat.reduceEqDiff, Nat.reduceLT, Nat.reduceLeDiff, Option.map, Option.bind, List.map, List.length, reduceCtorEq, Option.toList, Option.getD, List.set, List.drop, List.take, Int.reduceToNat, Cc.cs]
    refine ⟨fun h => ⟨by kernel_rfl, FnV_of ((hI m (.inl rfl)).mono ?_)⟩, fun h => ?_⟩
    · clear hI
      rintro r H' m2 hm2 ⟨l2, rfl, rfl⟩
      simp only [go_sem, ↓imp_tf, ↓imp_ft, ↓reduceIte, Nat.reduceBEq, Nat.reduceAdd, Nat.reduceMul, Nat.reduceSub, Nat.reduceEqDiff, Nat.reduceLT, Nat.reduceLeDiff, Option.map, Option.bind, List.map, List.length, reduceCtorEq, Option.toList, Option.getD, List.set, List.drop, List.take, Int.reduceToNat, Cc.cs]
      have e0 : eqC ⟨x.fl, x.name, x.super, ifs, fields, methods, init⟩ ⟨x'.fl, x'.name, x'.super, ifs', fields', methods', init'⟩ = (decide (ifs = ifs') && all2 Fc.eq fields fields' && all2 eqM methods methods' && eqSs init init') := by simp only [eqC, h, decide_true, Bool.true_and]
      refine ⟨fun h1 => ⟨by kernel_rfl, FnV_of ((hF m2 l2).mono ?_)⟩, fun h1 => ?_⟩
      · clear hF
        rintro r H' m3 hm3 ⟨l3, rfl, rfl⟩
        simp only [go_sem, ↓imp_tf, ↓imp_ft, ↓reduceIte, Nat.reduceBEq, Nat.reduceAdd, Nat.reduceMul, Nat.reduceSub, Nat.reduceEqDiff, Nat.reduceLT, Nat.reduceLeDiff, Option.map, Option.bind, List.map, List.length, reduceCtorEq, Option.toList, Option.getD, List.set, List.drop, List.take, Int.reduceToNat, Cc.cs]
        refine ⟨fun h2 => ⟨by kernel_rfl, FnV_of ((hM m3 (leM_tr l2 l3)).mono ?_)⟩, fun h2 => ?_⟩
        · clear hM
          rintro r H' m4 hm4 ⟨l4, rfl, rfl⟩
          simp only [go_sem, ↓imp_tf, ↓imp_ft, ↓reduceIte, Nat.reduceBEq, Nat.reduceAdd, Nat.reduceMul, Nat.reduceSub, Nat.reduceEqDiff, Nat.reduceLT, Nat.reduceLeDiff, Option.map, Option.bind, List.map, List.length, reduceCtorEq, Option.toList, Option.getD, List.set, List.drop, List.take, Int.reduceToNat, Cc.cs]
          refine ⟨fun h3 => ⟨by kernel_rfl, FnV_of ((hB m4 (leM_tr (leM_tr l2 l3) l4)).mono ?_)⟩, fun h3 => ?_⟩
          · clear hB
            rintro r H' m5 hm5 ⟨l5, rfl, rfl⟩
            simp only [go_sem, ↓imp_tf, ↓imp_ft, ↓reduceIte, Nat.reduceBEq, Nat.reduceAdd, Nat.reduceMul, Nat.reduceSub, Nat.reduceEqDiff, Nat.reduceLT, Nat.reduceLeDiff, Option.map, Option.bind, List.map, List.length, reduceCtorEq, Option.toList, Option.getD, List.set, List.drop, List.take, Int.reduceToNat, Cc.cs]
            refine ⟨leM_tr (leM_tr (leM_tr l2 l3) l4) l5, ?_⟩
            rw [e0, decide_eq_true h1, h2, h3]; rfl
          · refine ⟨leM_tr (leM_tr l2 l3) l4, ?_⟩
            rw [e0, h3, Bool.and_false]; rfl
        · refine ⟨leM_tr l2 l3, ?_⟩
          rw [e0, h2, Bool.and_false]; rfl
      · refine ⟨l2, ?_⟩
        rw [e0, decide_eq_false h1]; rfl
    · clear hI hF hM hB
      simp only [eqC]
      rcases h with (h | h) | h <;> simp [h]
theorem equal_spec (a b : List Cd) (p : Option Addr) (n c : Nat) (p' : Option Addr) (n' c' : Nat) (m : Mem) (ha : prRep m a p n c) (hb : prRep m b p' n' c') : Ans 25 [.v (.slice p n c), .v (.slice p' n' c')] m (.bool (all2 eqC a b)) := by
  obtain ⟨hl, hcp, hn, xs, r1, s1⟩ := ha
  obtain ⟨hl', hcp', hn', xs', r1', s1'⟩ := hb
  have hA : Ans 58 [.v (.slice p n c), .v (.slice p' n' c'), .v (.func (.func 59) ⟨[]⟩ ⟨[]⟩)] m (.bool (all2 eqC a b)) := by
    have hf := eq_fact (R := cdRep) (csN := Cc.cs) (e := eqC) (f := 59) (fun _ _ _ _ h => cdRep_up h) (fun _ _ _ => cdRep_cc) (fun i hi => ls_at s1 hi) (fun i hi => ls_at s1' hi)
      (fun a ha b hb ca cb m2 hle2 => eqC_all a b ca cb m2)
    rw [all2_allB]
    rw [← hl, ← hl'] at hf ⊢
    exact eqfCc _ _ p n c p' n' c' xs xs' m r1 r1' hn (by kernel_rfl) hf
  clear s1 s1'
  refine enter cfN puN Tryz.func25 rfl rfl (by kernel_rfl) rfl ?_ ?_
  · simp only [go_sem, ↓imp_tf, ↓imp_ft, ↓reduceIte, Nat.reduceBEq, Nat.reduceAdd, Nat.reduceMul, Nat.reduceSub, Nat.reduceEqDiff, Nat.reduceLT, Nat.reduceLeDiff, Option.map, Option.bind, List.map, List.length, reduceCtorEq, Option.toList, Option.getD, List.set, List.drop, List.take, Int.reduceToNat]
  · simp only [go_sem, ↓imp_tf, ↓imp_ft, ↓reduceIte, Nat.reduceBEq, Nat.reduceAdd, Nat.reduceMul, Nat.reduceSub, Nat.reduceEqDiff, Nat.reduceLT, Nat.reduceLeDiff, Option.map, Option.bind, List.map, List.length, reduceCtorEq, Option.toList, Option.getD, List.set, List.drop, List.take, Int.reduceToNat]
    refine ⟨by kernel_rfl, FnV_of (hA.mono ?_)⟩
    clear hA
    rintro r H' m2 hm2 ⟨l2, rfl, rfl⟩
    simp only [go_sem, ↓imp_tf, ↓imp_ft, ↓reduceIte, Nat.reduceBEq, Nat.reduceAdd, Nat.reduceMul, Nat.reduceSub, Nat.reduceEqDiff, Nat.reduceLT, Nat.reduceLeDiff, Option.map, Option.bind, List.map, List.length, reduceCtorEq, Option.toList, Option.getD, List.set, List.drop, List.take, Int.reduceToNat]
    exact l2
end Go.Proofs.YtalalcpefggniaaGreatDoor.E

/- ast, part R: IndexFunc and ContainsFunc over parameters, fields, methods, texts (by genR.py). -/
set_option linter.unusedSimpArgs false
set_option linter.unusedVariables false
namespace Go.Proofs.YtalalcpefggniaaGreatDoor.E
open Go
def anyB (n : Nat) (B : Nat → Bool) : Bool := (List.range n).any B
theorem anyB_succ {n : Nat} {B : Nat → Bool} : anyB (n + 1) B = (anyB n B || B n) := by simp [anyB, List.range_succ, List.any_append]
theorem anyB_yes {n k : Nat} {B : Nat → Bool} (hk : k < n) (h : B k = true) : anyB n B = true := by
  simp only [anyB, List.any_eq_true, List.mem_range]
  exact ⟨k, hk, h⟩
theorem anyB_list {α : Type} (p : α → Bool) : ∀ (l : List α) (B : Nat → Bool), (∀ i (h : i < l.length), B i = p l[i]) → anyB l.length B = l.any p
  | [], _, _ => rfl
  | x :: r, B, h => by
    have h0 := h 0 (by simp)
    have hr := anyB_list p r (fun i => B (i + 1)) fun i hi => h (i + 1) (by simpa using hi)
    rw [List.any_cons, ← hr, List.length_cons]
    simp only [anyB, List.range_succ_eq_map, List.any_cons, List.any_map, h0, List.getElem_cons_zero]
    rfl

set_option maxHeartbeats 4000000 in
set_option maxRecDepth 20000 in
theorem ixfPc (f : FuncId) (B : Nat → Bool) (a : Option Addr) (n c : Nat) (xs : List Value) (m : Mem) (hr : Rds m a n 4 xs) (hn : n ≤ big) (hok : fnOk Tryz.prog f = true)
    (hx : ∀ i, i < n → ∃ X : Pc, (xs.drop (i * 4)).take 4 = X.cs ∧ ∀ m', leM m m' → Ans f [.v (.agg ⟨X.cs⟩)] m' (.bool (B i))) :
    FnH Tryz.prog 182 [.v (.slice a n c), .v (.func (.func f) ⟨[]⟩ ⟨[]⟩)] ⟨[], []⟩ m fun r H' m' => leM m m' ∧ H' = ⟨[], []⟩ ∧ ∃ i : Int, r = .v (.int .i64 i) ∧ decide (0 ≤ i) = anyB n B := by
  refine enter cfN puN Tryz.func182 rfl rfl (by kernel_rfl) rfl ?_ ?_
  · simp only [go_sem, ↓imp_tf, ↓imp_ft, ↓reduceIte, Nat.reduceBEq, Nat.reduceAdd, Nat.reduceMul, Nat.reduceSub, Nat.reduceEqDiff, Nat.reduceLT, Nat.reduceLeDiff, Option.map, Option.bind, List.map, List.length, reduceCtorEq, Option.toList, Option.getD, List.set, List.drop, List.take, Int.reduceToNat]
  · simp only [go_sem, ↓imp_tf, ↓imp_ft, ↓reduceIte, Nat.reduceBEq, Nat.reduceAdd, Nat.reduceMul, Nat.reduceSub, Nat.reduceEqDiff, Nat.reduceLT, Nat.reduceLeDiff, Option.map, Option.bind, List.map, List.length, reduceCtorEq, Option.toList, Option.getD, List.set, List.drop, List.take, Int.reduceToNat]
    refine WP_loop puN (fun x : Nat × Mem => ⟨[⟨0, [], .v (.slice a n c)⟩, ⟨1, [], .v (.func (.func f) ⟨[]⟩ ⟨[]⟩)⟩, ⟨7, [], .v (.int .i64 n)⟩, ⟨8, [], .v (.int .i64 x.1)⟩], [], [], [], 0, x.2⟩)
      (fun x => leM m x.2 ∧ x.1 ≤ n ∧ anyB x.1 B = false) (fun x => n - x.1) (0, m) (by kernel_rfl) (fun _ _ => Nat.le_refl _) (fun x hx => hx.1) (fun _ => ?_) ?_ ?_ ?_
    · simp only [go_sem, ↓imp_tf, ↓imp_ft, ↓reduceIte, Nat.reduceBEq, Nat.reduceAdd, Nat.reduceMul, Nat.reduceSub, Nat.reduceEqDiff, Nat.reduceLT, Nat.reduceLeDiff, Option.map, Option.bind, List.map, List.length, reduceCtorEq, Option.toList, Option.getD, List.set, List.drop, List.take, Int.reduceToNat]
    · simp only [go_sem, ↓imp_tf, ↓imp_ft, ↓reduceIte, Nat.reduceBEq, Nat.reduceAdd, Nat.reduceMul, Nat.reduceSub, Nat.reduceEqDiff, Nat.reduceLT, Nat.reduceLeDiff, Option.map, Option.bind, List.map, List.length, reduceCtorEq, Option.toList, Option.getD, List.set, List.drop, List.take, Int.reduceToNat]
      rfl
    · exact ⟨.inl rfl, Nat.zero_le _, rfl⟩
    · rintro ⟨k, mm⟩ ⟨h1, h2, h3⟩
      simp only at h1 h2 h3
      have hown : cfN.own f = false := rfl
      have hy : ∀ (hk : k < n), ∃ X : Pc, (Rd mm (ptrAt a (k * 4)) X.cs ∧ a ≠ none) ∧ Ans f [.v (.agg ⟨X.cs⟩)] mm (.bool (B k)) := fun hk => by
          obtain ⟨X, e1, e3⟩ := hx k hk
          have r1 := Rds_cells (Rds_upM h1 hr) hk
          rw [e1] at r1
          exact ⟨X, r1, e3 mm h1⟩
      clear hx
      simp only [go_sem, ↓imp_tf, ↓imp_ft, ↓reduceIte, Nat.reduceBEq, Nat.reduceAdd, Nat.reduceMul, Nat.reduceSub, Nat.reduceEqDiff, Nat.reduceLT, Nat.reduceLeDiff, Option.map, Option.bind, List.map, List.length, reduceCtorEq, Option.toList, Option.getD, List.set, List.drop, List.take, Int.reduceToNat, hown]
      refine ⟨fun hlt => ?_, fun hge => ⟨h1, ?_⟩⟩
      · have hk : k < n := by clear hy; omega
        refine Exists.elim (hy hk) fun X hy' => ⟨⟨by clear hy hy'; omega, hlt, hy'.1.2⟩, X.cs, ⟨hy'.1.1, rfl⟩, ?_⟩
        clear hy
        have ha := hy'.2
        clear hy'
        simp only [go_sem, ↓imp_tf, ↓imp_ft, ↓reduceIte, Nat.reduceBEq, Nat.reduceAdd, Nat.reduceMul, Nat.reduceSub, Nat.reduceEqDiff, Nat.reduceLT, Nat.reduceLeDiff, Option.map, Option.bind, List.map, List.length, reduceCtorEq, Option.toList, Option.getD, List.set, List.drop, List.take, Int.reduceToNat, hown, Pc.cs]
        refine ⟨hok, FnV_of ((FnH_den ha (fun V => rfl)).mono ?_)⟩
        clear ha
        rintro r H' m' hm ⟨hle, rfl, rfl⟩
        simp only [go_sem, ↓imp_tf, ↓imp_ft, ↓reduceIte, Nat.reduceBEq, Nat.reduceAdd, Nat.reduceMul, Nat.reduceSub, Nat.reduceEqDiff, Nat.reduceLT, Nat.reduceLeDiff, Option.map, Option.bind, List.map, List.length, reduceCtorEq, Option.toList, Option.getD, List.set, List.drop, List.take, Int.reduceToNat]
        refine ⟨fun hb => ⟨leM_tr h1 hle, ?_⟩, fun hb => ⟨by unfold I64; simp only [big] at hn; omega, (k + 1, m'), ⟨by simp, .inl rfl⟩, ⟨leM_tr h1 hle, by simp only; omega, ?_⟩, by simp only; omega⟩⟩
        · rw [anyB_yes hk hb]
          simp
        · simp only
          rw [anyB_succ, h3, hb]
          rfl
      · have : k = n := by clear hy; omega
        rw [← this, h3]
        rfl
set_option maxHeartbeats 4000000 in
set_option maxRecDepth 20000 in
theorem ctfPc (f : FuncId) (B : Nat → Bool) (a : Option Addr) (n c : Nat) (xs : List Value) (m : Mem) (hr : Rds m a n 4 xs) (hn : n ≤ big) (hok : fnOk Tryz.prog f = true)
    (hx : ∀ i, i < n → ∃ X : Pc, (xs.drop (i * 4)).take 4 = X.cs ∧ ∀ m', leM m m' → Ans f [.v (.agg ⟨X.cs⟩)] m' (.bool (B i))) :
    Ans 147 [.v (.slice a n c), .v (.func (.func f) ⟨[]⟩ ⟨[]⟩)] m (.bool (anyB n B)) := by
  refine enter cfN puN Tryz.func147 rfl rfl (by kernel_rfl) rfl ?_ ?_
  · simp only [go_sem, ↓imp_tf, ↓imp_ft, ↓reduceIte, Nat.reduceBEq, Nat.reduceAdd, Nat.reduceMul, Nat.reduceSub, Nat.reduceEqDiff, Nat.reduceLT, Nat.reduceLeDiff, Option.map, Option.bind, List.map, List.length, reduceCtorEq, Option.toList, Option.getD, List.set, List.drop, List.take, Int.reduceToNat]
  · simp only [go_sem, ↓imp_tf, ↓imp_ft, ↓reduceIte, Nat.reduceBEq, Nat.reduceAdd, Nat.reduceMul, Nat.reduceSub, Nat.reduceEqDiff, Nat.reduceLT, Nat.reduceLeDiff, Option.map, Option.bind, List.map, List.length, reduceCtorEq, Option.toList, Option.getD, List.set, List.drop, List.take, Int.reduceToNat]
    refine ⟨by kernel_rfl, FnV_of ((ixfPc f B a n c xs m hr hn hok hx).mono ?_)⟩
    clear hx
    rintro r H' m' hm ⟨hle, rfl, i, rfl, hi⟩
    simp only [go_sem, ↓imp_tf, ↓imp_ft, ↓reduceIte, Nat.reduceBEq, Nat.reduceAdd, Nat.reduceMul, Nat.reduceSub, Nat.reduceEqDiff, Nat.reduceLT, Nat.reduceLeDiff, Option.map, Option.bind, List.map, List.length, reduceCtorEq, Option.toList, Option.getD, List.set, List.drop, List.take, Int.reduceToNat]
    exact ⟨hle, hi⟩

set_option maxHeartbeats 4000000 in
set_option maxRecDepth 20000 in
theorem ixfFc (f : FuncId) (B : Nat → Bool) (a : Option Addr) (n c : Nat) (xs : List Value) (m : Mem) (hr : Rds m a n 5 xs) (hn : n ≤ big) (hok : fnOk Tryz.prog f = true)
    (hx : ∀ i, i < n → ∃ X : Fc, (xs.drop (i * 5)).take 5 = X.cs ∧ ∀ m', leM m m' → Ans f [.v (.agg ⟨X.cs⟩)] m' (.bool (B i))) :
    FnH Tryz.prog 149 [.v (.slice a n c), .v (.func (.func f) ⟨[]⟩ ⟨[]⟩)] ⟨[], []⟩ m fun r H' m' => leM m m' ∧ H' = ⟨[], []⟩ ∧ ∃ i : Int, r = .v (.int .i64 i) ∧ decide (0 ≤ i) = anyB n B := by
  refine enter cfN puN Tryz.func149 rfl rfl (by kernel_rfl) rfl ?_ ?_
  · simp only [go_sem, ↓imp_tf, ↓imp_ft, ↓reduceIte, Nat.reduceBEq, Nat.reduceAdd, Nat.reduceMul, Nat.reduceSub, Nat.reduceEqDiff, Nat.reduceLT, Nat.reduceLeDiff, Option.map, Option.bind, List.map, List.length, reduceCtorEq, Option.toList, Option.getD, List.set, List.drop, List.take, Int.reduceToNat]
  · simp only [go_sem, ↓imp_tf, ↓imp_ft, ↓reduceIte, Nat.reduceBEq, Nat.reduceAdd, Nat.reduceMul, Nat.reduceSub, Nat.reduceEqDiff, Nat.reduceLT, Nat.reduceLeDiff, Option.map, Option.bind, List.map, List.length, reduceCtorEq, Option.toList, Option.getD, List.set, List.drop, List.take, Int.reduceToNat]
    refine WP_loop puN (fun x : Nat × Mem => ⟨[⟨0, [], .v (.slice a n c)⟩, ⟨1, [], .v (.func (.func f) ⟨[]⟩ ⟨[]⟩)⟩, ⟨7, [], .v (.int .i64 n)⟩, ⟨8, [], .v (.int .i64 x.1)⟩], [], [], [], 0, x.2⟩)
      (fun x => leM m x.2 ∧ x.1 ≤ n ∧ anyB x.1 B = false) (fun x => n - x.1) (0, m) (by kernel_rfl) (fun _ _ => Nat.le_refl _) (fun x hx => hx.1) (fun _ => ?_) ?_ ?_ ?_
    · simp only [go_sem, ↓imp_tf, ↓imp_ft, ↓reduceIte, Nat.reduceBEq, Nat.reduceAdd, Nat.reduceMul, Nat.reduceSub, Nat.reduceEqDiff, Nat.reduceLT, Nat.reduceLeDiff, Option.map, Option.bind, List.map, List.length, reduceCtorEq, Option.toList, Option.getD, List.set, List.drop, List.take, Int.reduceToNat]
    · simp only [go_sem, ↓imp_tf, ↓imp_ft, ↓reduceIte, Nat.reduceBEq, Nat.reduceAdd, Nat.reduceMul, Nat.reduceSub, Nat.reduceEqDiff, Nat.reduceLT, Nat.reduceLeDiff, Option.map, Option.bind, List.map, List.length, reduceCtorEq, Option.toList, Option.getD, List.set, List.drop, List.take, Int.reduceToNat]
      rfl
    · exact ⟨.inl rfl, Nat.zero_le _, rfl⟩
    · rintro ⟨k, mm⟩ ⟨h1, h2, h3⟩
      simp only at h1 h2 h3
      have hown : cfN.own f = false := rfl
      have hy : ∀ (hk : k < n), ∃ X : Fc, (Rd mm (ptrAt a (k * 5)) X.cs ∧ a ≠ none) ∧ Ans f [.v (.agg ⟨X.cs⟩)] mm (.bool (B k)) := fun hk => by
          obtain ⟨X, e1, e3⟩ := hx k hk
          have r1 := Rds_cells (Rds_upM h1 hr) hk
          rw [e1] at r1
          exact ⟨X, r1, e3 mm h1⟩
      clear hx
      simp only [go_sem, ↓imp_tf, ↓imp_ft, ↓reduceIte, Nat.reduceBEq, Nat.reduceAdd, Nat.reduceMul, Nat.reduceSub, Nat.reduceEqDiff, Nat.reduceLT, Nat.reduceLeDiff, Option.map, Option.bind, List.map, List.length, reduceCtorEq, Option.toList, Option.getD, List.set, List.drop, List.take, Int.reduceToNat, hown]
      refine ⟨fun hlt => ?_, fun hge => ⟨h1, ?_⟩⟩
      · have hk : k < n := by clear hy; omega
        refine Exists.elim (hy hk) fun X hy' => ⟨⟨by clear hy hy'; omega, hlt, hy'.1.2⟩, X.cs, ⟨hy'.1.1, rfl⟩, ?_⟩
        clear hy
        have ha := hy'.2
        clear hy'
        simp only [go_sem, ↓imp_tf, ↓imp_ft, ↓reduceIte, Nat.reduceBEq, Nat.reduceAdd, Nat.reduceMul, Nat.reduceSub, Nat.reduceEqDiff, Nat.reduceLT, Nat.reduceLeDiff, Option.map, Option.bind, List.map, List.length, reduceCtorEq, Option.toList, Option.getD, List.set, List.drop, List.take, Int.reduceToNat, hown, Fc.cs]
        refine ⟨hok, FnV_of ((FnH_den ha (fun V => rfl)).mono ?_)⟩
        clear ha
        rintro r H' m' hm ⟨hle, rfl, rfl⟩
        simp only [go_sem, ↓imp_tf, ↓imp_ft, ↓reduceIte, Nat.reduceBEq, Nat.reduceAdd, Nat.reduceMul, Nat.reduceSub, Nat.reduceEqDiff, Nat.reduceLT, Nat.reduceLeDiff, Option.map, Option.bind, List.map, List.length, reduceCtorEq, Option.toList, Option.getD, List.set, List.drop, List.take, Int.reduceToNat]
        refine ⟨fun hb => ⟨leM_tr h1 hle, ?_⟩, fun hb => ⟨by unfold I64; simp only [big] at hn; omega, (k + 1, m'), ⟨by simp, .inl rfl⟩, ⟨leM_tr h1 hle, by simp only; omega, ?_⟩, by simp only; omega⟩⟩
        · rw [anyB_yes hk hb]
          simp
        · simp only
          rw [anyB_succ, h3, hb]
          rfl
      · have : k = n := by clear hy; omega
        rw [← this, h3]
        rfl
set_option maxHeartbeats 4000000 in
set_option maxRecDepth 20000 in
theorem ctfFc (f : FuncId) (B : Nat → Bool) (a : Option Addr) (n c : Nat) (xs : List Value) (m : Mem) (hr : Rds m a n 5 xs) (hn : n ≤ big) (hok : fnOk Tryz.prog f = true)
    (hx : ∀ i, i < n → ∃ X : Fc, (xs.drop (i * 5)).take 5 = X.cs ∧ ∀ m', leM m m' → Ans f [.v (.agg ⟨X.cs⟩)] m' (.bool (B i))) :
    Ans 73 [.v (.slice a n c), .v (.func (.func f) ⟨[]⟩ ⟨[]⟩)] m (.bool (anyB n B)) := by
  refine enter cfN puN Tryz.func73 rfl rfl (by kernel_rfl) rfl ?_ ?_
  · simp only [go_sem, ↓imp_tf, ↓imp_ft, ↓reduceIte, Nat.reduceBEq, Nat.reduceAdd, Nat.reduceMul, Nat.reduceSub, Nat.reduceEqDiff, Nat.reduceLT, Nat.reduceLeDiff, Option.map, Option.bind, List.map, List.length, reduceCtorEq, Option.toList, Option.getD, List.set, List.drop, List.take, Int.reduceToNat]
  · simp only [go_sem, ↓imp_tf, ↓imp_ft, ↓reduceIte, Nat.reduceBEq, Nat.reduceAdd, Nat.reduceMul, Nat.reduceSub, Nat.reduceEqDiff, Nat.reduceLT, Nat.reduceLeDiff, Option.map, Option.bind, List.map, List.length, reduceCtorEq, Option.toList, Option.getD, List.set, List.drop, List.take, Int.reduceToNat]
    refine ⟨by kernel_rfl, FnV_of ((ixfFc f B a n c xs m hr hn hok hx).mono ?_)⟩
    clear hx
    rintro r H' m' hm ⟨hle, rfl, i, rfl, hi⟩
    simp only [go_sem, ↓imp_tf, ↓imp_ft, ↓reduceIte, Nat.reduceBEq, Nat.reduceAdd, Nat.reduceMul, Nat.reduceSub, Nat.reduceEqDiff, Nat.reduceLT, Nat.reduceLeDiff, Option.map, Option.bind, List.map, List.length, reduceCtorEq, Option.toList, Option.getD, List.set, List.drop, List.take, Int.reduceToNat]
    exact ⟨hle, hi⟩

set_option maxHeartbeats 4000000 in
set_option maxRecDepth 20000 in
theorem ixfMc (f : FuncId) (B : Nat → Bool) (a : Option Addr) (n c : Nat) (xs : List Value) (m : Mem) (hr : Rds m a n 8 xs) (hn : n ≤ big) (hok : fnOk Tryz.prog f = true)
    (hx : ∀ i, i < n → ∃ X : Mc, (xs.drop (i * 8)).take 8 = X.cs ∧ ∀ m', leM m m' → Ans f [.v (.agg ⟨X.cs⟩)] m' (.bool (B i))) :
    FnH Tryz.prog 150 [.v (.slice a n c), .v (.func (.func f) ⟨[]⟩ ⟨[]⟩)] ⟨[], []⟩ m fun r H' m' => leM m m' ∧ H' = ⟨[], []⟩ ∧ ∃ i : Int, r = .v (.int .i64 i) ∧ decide (0 ≤ i) = anyB n B := by
  refine enter cfN puN Tryz.func150 rfl rfl (by kernel_rfl) rfl ?_ ?_
  · simp only [go_sem, ↓imp_tf, ↓imp_ft, ↓reduceIte, Nat.reduceBEq, Nat.reduceAdd, Nat.reduceMul, Nat.reduceSub, Nat.reduceEqDiff, Nat.reduceLT, Nat.reduceLeDiff, Option.map, Option.bind, List.map, List.length, reduceCtorEq, Option.toList, Option.getD, List.set, List.drop, List.take, Int.reduceToNat]
  · simp only [go_sem, ↓imp_tf, ↓imp_ft, ↓reduceIte, Nat.reduceBEq, Nat.reduceAdd, Nat.reduceMul, Nat.reduceSub, Nat.reduceEqDiff, Nat.reduceLT, Nat.reduceLeDiff, Option.map, Option.bind, List.map, List.length, reduceCtorEq, Option.toList, Option.getD, List.set, List.drop, List.take, Int.reduceToNat]
    refine WP_loop puN (fun x : Nat × Mem => ⟨[⟨0, [], .v (.slice a n c)⟩, ⟨1, [], .v (.func (.func f) ⟨[]⟩ ⟨[]⟩)⟩, ⟨7, [], .v (.int .i64 n)⟩, ⟨8, [], .v (.int .i64 x.1)⟩], [], [], [], 0, x.2⟩)
      (fun x => leM m x.2 ∧ x.1 ≤ n ∧ anyB x.1 B = false) (fun x => n - x.1) (0, m) (by kernel_rfl) (fun _ _ => Nat.le_refl _) (fun x hx => hx.1) (fun _ => ?_) ?_ ?_ ?_
    · simp only [go_sem, ↓imp_tf, ↓imp_ft, ↓reduceIte, Nat.reduceBEq, Nat.reduceAdd, Nat.reduceMul, Nat.reduceSub, Nat.reduceEqDiff, Nat.reduceLT, Nat.reduceLeDiff, Option.map, Option.bind, List.map, List.length, reduceCtorEq, Option.toList, Option.getD, List.set, List.drop, List.take, Int.reduceToNat]
    · simp only [go_sem, ↓imp_tf, ↓imp_ft, ↓reduceIte, Nat.reduceBEq, Nat.reduceAdd, Nat.reduceMul, Nat.reduceSub, Nat.reduceEqDiff, Nat.reduceLT, Nat.reduceLeDiff, Option.map, Option.bind, List.map, List.length, reduceCtorEq, Option.toList, Option.getD, List.set, List.drop, List.take, Int.reduceToNat]
      rfl
    · exact ⟨.inl rfl, Nat.zero_le _, rfl⟩
    · rintro ⟨k, mm⟩ ⟨h1, h2, h3⟩
      simp only at h1 h2 h3
      have hown : cfN.own f = false := rfl
      have hy : ∀ (hk : k < n), ∃ X : Mc, (Rd mm (ptrAt a (k * 8)) X.cs ∧ a ≠ none) ∧ Ans f [.v (.agg ⟨X.cs⟩)] mm (.bool (B k)) := fun hk => by
          obtain ⟨X, e1, e3⟩ := hx k hk
          have r1 := Rds_cells (Rds_upM h1 hr) hk
          rw [e1] at r1
          exact ⟨X, r1, e3 mm h1⟩
      clear hx
      simp only [go_sem, ↓imp_tf, ↓imp_ft, ↓reduceIte, Nat.reduceBEq, Nat.reduceAdd, Nat.reduceMul, Nat.reduceSub, Nat.reduceEqDiff, Nat.reduceLT, Nat.reduceLeDiff, Option.map, Option.bind, List.map, List.length, reduceCtorEq, Option.toList, Option.getD, List.set, List.drop, List.take, Int.reduceToNat, hown]
      refine ⟨fun hlt => ?_, fun hge => ⟨h1, ?_⟩⟩
      · have hk : k < n := by clear hy; omega
        refine Exists.elim (hy hk) fun X hy' => ⟨⟨by clear hy hy'; omega, hlt, hy'.1.2⟩, X.cs, ⟨hy'.1.1, rfl⟩, ?_⟩
        clear hy
        have ha := hy'.2
        clear hy'
        simp only [go_sem, ↓imp_tf, ↓imp_ft, ↓reduceIte, Nat.reduceBEq, Nat.reduceAdd, Nat.reduceMul, Nat.reduceSub, Nat.reduceEqDiff, Nat.reduceLT, Nat.reduceLeDiff, Option.map, Option.bind, List.map, List.length, reduceCtorEq, Option.toList, Option.getD, List.set, List.drop, List.take, Int.reduceToNat, hown, Mc.cs]
        refine ⟨hok, FnV_of ((FnH_den ha (fun V => rfl)).mono ?_)⟩
        clear ha
        rintro r H' m' hm ⟨hle, rfl, rfl⟩
        simp only [go_sem, ↓imp_tf, ↓imp_ft, ↓reduceIte, Nat.reduceBEq, Nat.reduceAdd, Nat.reduceMul, Nat.reduceSub, Nat.reduceEqDiff, Nat.reduceLT, Nat.reduceLeDiff, Option.map, Option.bind, List.map, List.length, reduceCtorEq, Option.toList, Option.getD, List.set, List.drop, List.take, Int.reduceToNat]
        refine ⟨fun hb => ⟨leM_tr h1 hle, ?_⟩, fun hb => ⟨by unfold I64; simp only [big] at hn; omega, (k + 1, m'), ⟨by simp, .inl rfl⟩, ⟨leM_tr h1 hle, by simp only; omega, ?_⟩, by simp only; omega⟩⟩
        · rw [anyB_yes hk hb]
          simp
        · simp only
          rw [anyB_succ, h3, hb]
          rfl
      · have : k = n := by clear hy; omega
        rw [← this, h3]
        rfl
set_option maxHeartbeats 4000000 in
set_option maxRecDepth 20000 in
theorem ctfMc (f : FuncId) (B : Nat → Bool) (a : Option Addr) (n c : Nat) (xs : List Value) (m : Mem) (hr : Rds m a n 8 xs) (hn : n ≤ big) (hok : fnOk Tryz.prog f = true)
    (hx : ∀ i, i < n → ∃ X : Mc, (xs.drop (i * 8)).take 8 = X.cs ∧ ∀ m', leM m m' → Ans f [.v (.agg ⟨X.cs⟩)] m' (.bool (B i))) :
    Ans 74 [.v (.slice a n c), .v (.func (.func f) ⟨[]⟩ ⟨[]⟩)] m (.bool (anyB n B)) := by
  refine enter cfN puN Tryz.func74 rfl rfl (by kernel_rfl) rfl ?_ ?_
  · simp only [go_sem, ↓imp_tf, ↓imp_ft, ↓reduceIte, Nat.reduceBEq, Nat.reduceAdd, Nat.reduceMul, Nat.reduceSub, Nat.reduceEqDiff, Nat.reduceLT, Nat.reduceLeDiff, Option.map, Option.bind, List.map, List.length, reduceCtorEq, Option.toList, Option.getD, List.set, List.drop, List.take, Int.reduceToNat]
  · simp only [go_sem, ↓imp_tf, ↓imp_ft, ↓reduceIte, Nat.reduceBEq, Nat.reduceAdd, Nat.reduceMul, Nat.reduceSub, Nat.reduceEqDiff, Nat.reduceLT, Nat.reduceLeDiff, Option.map, Option.bind, List.map, List.length, reduceCtorEq, Option.toList, Option.getD, List.set, List.drop, List.take, Int.reduceToNat]
    refine ⟨by kernel_rfl, FnV_of ((ixfMc f B a n c xs m hr hn hok hx).mono ?_)⟩
    clear hx
    rintro r H' m' hm ⟨hle, rfl, i, rfl, hi⟩
    simp only [go_sem, ↓imp_tf, ↓imp_ft, ↓reduceIte, Nat.reduceBEq, Nat.reduceAdd, Nat.reduceMul, Nat.reduceSub, Nat.reduceEqDiff, Nat.reduceLT, Nat.reduceLeDiff, Option.map, Option.bind, List.map, List.length, reduceCtorEq, Option.toList, Option.getD, List.set, List.drop, List.take, Int.reduceToNat]
    exact ⟨hle, hi⟩

set_option maxHeartbeats 4000000 in
set_option maxRecDepth 20000 in
theorem ixfS (f : FuncId) (B : Nat → Bool) (a : Option Addr) (n c : Nat) (xs : List Value) (m : Mem) (hr : Rds m a n 1 xs) (hn : n ≤ big) (hok : fnOk Tryz.prog f = true)
    (hx : ∀ i, i < n → ∃ s : List UInt8, xs[i]? = some (.string (bs s)) ∧ ∀ m', leM m m' → Ans f [.v (.string (bs s))] m' (.bool (B i))) :
    FnH Tryz.prog 148 [.v (.slice a n c), .v (.func (.func f) ⟨[]⟩ ⟨[]⟩)] ⟨[], []⟩ m fun r H' m' => leM m m' ∧ H' = ⟨[], []⟩ ∧ ∃ i : Int, r = .v (.int .i64 i) ∧ decide (0 ≤ i) = anyB n B := by
  refine enter cfN puN Tryz.func148 rfl rfl (by kernel_rfl) rfl ?_ ?_
  · simp only [go_sem, ↓imp_tf, ↓imp_ft, ↓reduceIte, Nat.reduceBEq, Nat.reduceAdd, Nat.reduceMul, Nat.reduceSub, Nat.reduceEqDiff, Nat.reduceLT, Nat.reduceLeDiff, Option.map, Option.bind, List.map, List.length, reduceCtorEq, Option.toList, Option.getD, List.set, List.drop, List.take, Int.reduceToNat]
  · simp only [go_sem, ↓imp_tf, ↓imp_ft, ↓reduceIte, Nat.reduceBEq, Nat.reduceAdd, Nat.reduceMul, Nat.reduceSub, Nat.reduceEqDiff, Nat.reduceLT, Nat.reduceLeDiff, Option.map, Option.bind, List.map, List.length, reduceCtorEq, Option.toList, Option.getD, List.set, List.drop, List.take, Int.reduceToNat]
    refine WP_loop puN (fun x : Nat × Mem => ⟨[⟨0, [], .v (.slice a n c)⟩, ⟨1, [], .v (.func (.func f) ⟨[]⟩ ⟨[]⟩)⟩, ⟨7, [], .v (.int .i64 n)⟩, ⟨8, [], .v (.int .i64 x.1)⟩], [], [], [], 0, x.2⟩)
      (fun x => leM m x.2 ∧ x.1 ≤ n ∧ anyB x.1 B = false) (fun x => n - x.1) (0, m) (by kernel_rfl) (fun _ _ => Nat.le_refl _) (fun x hx => hx.1) (fun _ => ?_) ?_ ?_ ?_
    · simp only [go_sem, ↓imp_tf, ↓imp_ft, ↓reduceIte, Nat.reduceBEq, Nat.reduceAdd, Nat.reduceMul, Nat.reduceSub, Nat.reduceEqDiff, Nat.reduceLT, Nat.reduceLeDiff, Option.map, Option.bind, List.map, List.length, reduceCtorEq, Option.toList, Option.getD, List.set, List.drop, List.take, Int.reduceToNat]
    · simp only [go_sem, ↓imp_tf, ↓imp_ft, ↓reduceIte, Nat.reduceBEq, Nat.reduceAdd, Nat.reduceMul, Nat.reduceSub, Nat.reduceEqDiff, Nat.reduceLT, Nat.reduceLeDiff, Option.map, Option.bind, List.map, List.length, reduceCtorEq, Option.toList, Option.getD, List.set, List.drop, List.take, Int.reduceToNat]
      rfl
    · exact ⟨.inl rfl, Nat.zero_le _, rfl⟩
    · rintro ⟨k, mm⟩ ⟨h1, h2, h3⟩
      simp only at h1 h2 h3
      have hown : cfN.own f = false := rfl
      have hy : ∀ (hk : k < n), ∃ s : List UInt8, (Rd mm (ptrAt a k) [.string (bs s)] ∧ a ≠ none) ∧ Ans f [.v (.string (bs s))] mm (.bool (B k)) := fun hk => by
          obtain ⟨s, e1, e3⟩ := hx k hk
          obtain ⟨hk', r1, hne⟩ := Rds_one (Rds_upM h1 hr) hk
          rw [List.getElem?_eq_getElem hk'] at e1
          rw [Option.some.inj e1] at r1
          exact ⟨s, ⟨r1, hne⟩, e3 mm h1⟩
      clear hx
      simp only [go_sem, ↓imp_tf, ↓imp_ft, ↓reduceIte, Nat.reduceBEq, Nat.reduceAdd, Nat.reduceMul, Nat.reduceSub, Nat.reduceEqDiff, Nat.reduceLT, Nat.reduceLeDiff, Option.map, Option.bind, List.map, List.length, reduceCtorEq, Option.toList, Option.getD, List.set, List.drop, List.take, Int.reduceToNat, hown]
      refine ⟨fun hlt => ?_, fun hge => ⟨h1, ?_⟩⟩
      · have hk : k < n := by clear hy; omega
        refine Exists.elim (hy hk) fun s hy' => ⟨⟨by clear hy hy'; omega, hlt, hy'.1.2⟩, _, hy'.1.1, ?_⟩
        clear hy
        have ha := hy'.2
        clear hy'
        refine ⟨hok, FnV_of ((ha).mono ?_)⟩
        clear ha
        rintro r H' m' hm ⟨hle, rfl, rfl⟩
        simp only [go_sem, ↓imp_tf, ↓imp_ft, ↓reduceIte, Nat.reduceBEq, Nat.reduceAdd, Nat.reduceMul, Nat.reduceSub, Nat.reduceEqDiff, Nat.reduceLT, Nat.reduceLeDiff, Option.map, Option.bind, List.map, List.length, reduceCtorEq, Option.toList, Option.getD, List.set, List.drop, List.take, Int.reduceToNat]
        refine ⟨fun hb => ⟨leM_tr h1 hle, ?_⟩, fun hb => ⟨by unfold I64; simp only [big] at hn; omega, (k + 1, m'), ⟨by simp, .inl rfl⟩, ⟨leM_tr h1 hle, by simp only; omega, ?_⟩, by simp only; omega⟩⟩
        · rw [anyB_yes hk hb]
          simp
        · simp only
          rw [anyB_succ, h3, hb]
          rfl
      · have : k = n := by clear hy; omega
        rw [← this, h3]
        rfl
set_option maxHeartbeats 4000000 in
set_option maxRecDepth 20000 in
theorem ctfS (f : FuncId) (B : Nat → Bool) (a : Option Addr) (n c : Nat) (xs : List Value) (m : Mem) (hr : Rds m a n 1 xs) (hn : n ≤ big) (hok : fnOk Tryz.prog f = true)
    (hx : ∀ i, i < n → ∃ s : List UInt8, xs[i]? = some (.string (bs s)) ∧ ∀ m', leM m m' → Ans f [.v (.string (bs s))] m' (.bool (B i))) :
    Ans 72 [.v (.slice a n c), .v (.func (.func f) ⟨[]⟩ ⟨[]⟩)] m (.bool (anyB n B)) := by
  refine enter cfN puN Tryz.func72 rfl rfl (by kernel_rfl) rfl ?_ ?_
  · simp only [go_sem, ↓imp_tf, ↓imp_ft, ↓reduceIte, Nat.reduceBEq, Nat.reduceAdd, Nat.reduceMul, Nat.reduceSub, Nat.reduceEqDiff, Nat.reduceLT, Nat.reduceLeDiff, Option.map, Option.bind, List.map, List.length, reduceCtorEq, Option.toList, Option.getD, List.set, List.drop, List.take, Int.reduceToNat]
  · simp only [go_sem, ↓imp_tf, ↓imp_ft, ↓reduceIte, Nat.reduceBEq, Nat.reduceAdd, Nat.reduceMul, Nat.reduceSub, Nat.reduceEqDiff, Nat.reduceLT, Nat.reduceLeDiff, Option.map, Option.bind, List.map, List.length, reduceCtorEq, Option.toList, Option.getD, List.set, List.drop, List.take, Int.reduceToNat]
    refine ⟨by kernel_rfl, FnV_of ((ixfS f B a n c xs m hr hn hok hx).mono ?_)⟩
    clear hx
    rintro r H' m' hm ⟨hle, rfl, i, rfl, hi⟩
    simp only [go_sem, ↓imp_tf, ↓imp_ft, ↓reduceIte, Nat.reduceBEq, Nat.reduceAdd, Nat.reduceMul, Nat.reduceSub, Nat.reduceEqDiff, Nat.reduceLT, Nat.reduceLeDiff, Option.map, Option.bind, List.map, List.length, reduceCtorEq, Option.toList, Option.getD, List.set, List.drop, List.take, Int.reduceToNat]
    exact ⟨hle, hi⟩

end Go.Proofs.YtalalcpefggniaaGreatDoor.E

/- ast, part S: well-formed statements: the parts. -/
set_option linter.unusedSimpArgs false
set_option linter.unusedVariables false
namespace Go.Proofs.YtalalcpefggniaaGreatDoor.E
open Go

def zE : Ex := .mk 0 0 [] [] zTy []
def emptyL (k n : Int) (s c : List UInt8) (ty : Ty) (l : Nat) : Bool := decide (l = 0) && decide (k = 0) && decide (n = 0) && decide (s = []) && decide (c = []) && Ty.eq ty zTy
/-- The zero expression. -/
def emptyE : Ex → Bool | .mk k n s c ty args => emptyL k n s c ty args.length
def superE : Ex → Bool | .mk k n s c ty args => emptyL k n s c ty 0 && decide (args.length ≤ 16) && validEs args
def targetE (e : Ex) : Bool := (decide (e.k = 6) || decide (e.k = 7) || decide (e.k = 8) || decide (e.k = 9)) && validE e
def callE (e : Ex) : Bool := (decide (e.k = 10) || decide (e.k = 11) || decide (e.k = 12) || decide (e.k = 13)) && validE e
def St.k : St → Int | .mk k _ _ _ _ _ _ => k
def usedS (k : Int) (nm : List UInt8) (ty : Ty) (tg ex : Ex) (body alt : List St) : St :=
  if k = 1 then .mk k nm ty zE ex [] []
  else if k = 2 then .mk k [] zTy tg ex [] []
  else if k = 4 then .mk k [] zTy zE ex body alt
  else if k = 5 ∨ k = 9 then .mk k [] zTy zE ex body []
  else if k = 8 then .mk k nm ty zE zE body alt
  else if k = 10 then .mk k [] zTy zE zE body []
  else .mk k [] zTy zE ex [] []
def okStm (k : Int) (nm : List UInt8) (ty : Ty) (tg ex : Ex) (B : Bool) : Bool :=
  if k = 1 then identL nm && valueTy ty.dim ty.base ty.name && validE ex
  else if k = 2 then targetE tg && validE ex
  else if k = 3 then callE ex
  else if k = 4 ∨ k = 5 ∨ k = 9 then B && validE ex
  else if k = 6 then emptyE ex || validE ex
  else if k = 7 then validE ex
  else if k = 8 then B && identL nm && valueTy ty.dim ty.base ty.name
  else if k = 10 then B
  else if k = 11 then superE ex
  else false
mutual
/-- Well-formed. -/
def validS : St → Bool
  | .mk k nm ty tg ex body alt => okStm k nm ty tg ex (decide (body.length ≤ 32) && validSs false body && (decide (alt.length ≤ 32) && validSs false alt)) && eqS (.mk k nm ty tg ex body alt) (usedS k nm ty tg ex body alt)
def validSs : Bool → List St → Bool
  | _, [] => true
  | sup, e :: r => (!decide (e.k = 11) || sup) && validS e && validSs false r
end
def blockL (sup : Bool) (l : List St) : Bool := decide (l.length ≤ 32) && validSs sup l
def blk1 (sup : Bool) (i : Nat) (e : St) : Bool := (!decide (e.k = 11) || (sup && decide (i = 0))) && validS e
theorem validSs_take : ∀ {l : List St} {sup : Bool} {i : Nat} (hi : i < l.length), validSs sup (l.take (i + 1)) = (validSs sup (l.take i) && blk1 sup i l[i])
  | [], _, _, hi => absurd hi (Nat.not_lt_zero _)
  | e :: r, sup, 0, _ => by simp [validSs, blk1]
  | e :: r, sup, i + 1, hi => by
    have := validSs_take (l := r) (sup := false) (i := i) (by simpa using hi)
    simp only [List.take_succ_cons, validSs, this, List.getElem_cons_succ]
    simp only [blk1, Bool.false_and, Nat.add_one_ne_zero, decide_false, Bool.and_false, Bool.and_assoc]
theorem validSs_no : ∀ {l : List St} {sup : Bool} {i : Nat} (hi : i < l.length), blk1 sup i l[i] = false → validSs sup l = false := fun {l sup i} hi h => by
  have h1 := validSs_take (sup := sup) hi
  rw [h, Bool.and_false] at h1
  have : ∀ (l : List St) (sup : Bool) (j : Nat), validSs sup (l.take j) = false → validSs sup l = false := by
    intro l
    induction l with
    | nil => intro sup j h; simpa using h
    | cons e r ih =>
      intro sup j h
      cases j with
      | zero => simp [validSs] at h
      | succ j =>
        simp only [List.take_succ_cons, validSs] at h ⊢
        cases h2 : validSs false (r.take j) with
        | false => rw [ih false j h2, Bool.and_false]
        | true => rw [h2, Bool.and_true] at h; rw [h, Bool.false_and]
  exact this l sup (i + 1) h1
set_option maxHeartbeats 4000000 in
set_option maxRecDepth 20000 in
theorem empty_spec (x : Nd) (m : Mem) : Ans 52 [.v (.agg ⟨x.cs⟩)] m (.bool (emptyL x.k x.n x.s x.c x.ty x.l)) := by
  refine enter cfN puN Tryz.func52 rfl rfl (by kernel_rfl) rfl ?_ ?_
  · simp only [go_sem, ↓imp_tf, ↓imp_ft, ↓reduceIte, Nat.reduceBEq, Nat.reduceAdd, Nat.reduceMul, Nat.reduceSub, Nat.reduceEqDiff, Nat.reduceLT, Nat.reduceLeDiff, Option.map, Option.bind, List.map, List.length, reduceCtorEq, Option.toList, Option.getD, List.set, List.drop, List.take, Int.reduceToNat, Nd.cs]
  · simp only [go_sem, ↓imp_tf, ↓imp_ft, ↓reduceIte, Nat.reduceBEq, Nat.reduceAdd, Nat.reduceMul, Nat.reduceSub, Nat.reduceEqDiff, Nat.reduceLT, Nat.reduceLeDiff, Option.map, Option.bind, List.map, List.length, reduceCtorEq, Option.toList, Option.getD, List.set, List.drop, List.take, Int.reduceToNat, Nd.cs, eqOkT]
    have e0 : decide ((x.l : Int) = 0) = decide (x.l = 0) := by rw [decide_eq_decide]; omega
    rw [e0]
    rfl
/-- What is asked of an expression's cells. -/
theorem ex_parts {m : Mem} {k n : Int} {s c : List UInt8} {ty : Ty} {args : List Ex} {cs : List Value} (h : exRep m (.mk k n s c ty args) cs) : ∃ x : Nd, cs = x.cs ∧ x.k = k ∧ x.n = n ∧ x.s = s ∧ x.c = c ∧ x.ty = ty ∧ x.l = args.length ∧ x.l ≤ x.cp ∧ x.l ≤ big ∧ ∃ xs, Rds m x.a x.l 8 xs ∧ exsRep m args xs := by
  simp only [exRep] at h
  obtain ⟨a, cp, xs, rfl, h1, h2, h3, h4⟩ := h
  exact ⟨⟨k, n, s, c, ty, a, args.length, cp⟩, rfl, rfl, rfl, rfl, rfl, rfl, rfl, h1, h3.2.2.2.2.2, xs, h2, h4⟩
set_option maxHeartbeats 4000000 in
set_option maxRecDepth 20000 in
theorem bad_spec (e : Ex) (cs : List Value) (m : Mem) (hg : Glob m) (he : exRep m e cs) : Ans 120 [.v (.agg ⟨cs⟩)] m (.bool (!validE e)) := by
  have hV := valid_all _ e cs m (Nat.le_refl _) hg he
  obtain ⟨x, rfl⟩ := exRep_nd he
  refine enter cfN puN Tryz.func120 rfl rfl (by kernel_rfl) rfl ?_ ?_
  · simp only [go_sem, ↓imp_tf, ↓imp_ft, ↓reduceIte, Nat.reduceBEq, Nat.reduceAdd, Nat.reduceMul, Nat.reduceSub, Nat.reduceEqDiff, Nat.reduceLT, Nat.reduceLeDiff, Option.map, Option.bind, List.map, List.length, reduceCtorEq, Option.toList, Option.getD, List.set, List.drop, List.take, Int.reduceToNat, Nd.cs]
  · simp only [go_sem, ↓imp_tf, ↓imp_ft, ↓reduceIte, Nat.reduceBEq, Nat.reduceAdd, Nat.reduceMul, Nat.reduceSub, Nat.reduceEqDiff, Nat.reduceLT, Nat.reduceLeDiff, Option.map, Option.bind, List.map, List.length, reduceCtorEq, Option.toList, Option.getD, List.set, List.drop, List.take, Int.reduceToNat, Nd.cs]
    refine ⟨by kernel_rfl, FnV_of ((FnH_den hV (fun V => rfl)).mono ?_)⟩
    rintro r H' m2 hm2 ⟨hle2, rfl, rfl⟩
    simp only [go_sem, ↓imp_tf, ↓imp_ft, ↓reduceIte, Nat.reduceBEq, Nat.reduceAdd, Nat.reduceMul, Nat.reduceSub, Nat.reduceEqDiff, Nat.reduceLT, Nat.reduceLeDiff, Option.map, Option.bind, List.map, List.length, reduceCtorEq, Option.toList, Option.getD, List.set, List.drop, List.take, Int.reduceToNat]
    exact hle2
set_option maxHeartbeats 4000000 in
set_option maxRecDepth 20000 in
theorem super_spec (e : Ex) (cs : List Value) (m : Mem) (hg : Glob m) (he : exRep m e cs) : Ans 53 [.v (.agg ⟨cs⟩)] m (.bool (superE e)) := by
  cases e with
  | mk k n s c ty args =>
    obtain ⟨x, rfl, rfl, rfl, rfl, rfl, rfl, hl, hcp, hn, xs, hr, hes⟩ := ex_parts he
    have hE := empty_spec ⟨x.k, x.n, x.s, x.c, x.ty, none, 0, 0⟩ m
    have hv := fun m' (hm : leM m m') => containsX_spec 120 (fun e => !validE e) args x.a x.l x.cp xs m' hl.symm (Rds_upM hm hr) (exsRep_upM hm hes) hn (by kernel_rfl) (fun i hi cs m2 hle hrep => bad_spec _ cs m2 (hg.upM (leM_tr hm hle)) hrep)
    refine enter cfN puN Tryz.func53 rfl rfl (by kernel_rfl) rfl ?_ ?_
    · simp only [go_sem, ↓imp_tf, ↓imp_ft, ↓reduceIte, Nat.reduceBEq, Nat.reduceAdd, Nat.reduceMul, Nat.reduceSub, Nat.reduceEqDiff, Nat.reduceLT, Nat.reduceLeDiff, Option.map, Option.bind, List.map, List.length, reduceCtorEq, Option.toList, Option.getD, List.set, List.drop, List.take, Int.reduceToNat, Nd.cs]
    · simp only [go_sem, ↓imp_tf, ↓imp_ft, ↓reduceIte, Nat.reduceBEq, Nat.reduceAdd, Nat.reduceMul, Nat.reduceSub, Nat.reduceEqDiff, Nat.reduceLT, Nat.reduceLeDiff, Option.map, Option.bind, List.map, List.length, reduceCtorEq, Option.toList, Option.getD, List.set, List.drop, List.take, Int.reduceToNat, Nd.cs]
      refine ⟨by kernel_rfl, FnV_of ((FnH_den hE (fun V => rfl)).mono ?_)⟩
      clear hE
      rintro r H' m2 hm2 ⟨hle2, rfl, rfl⟩
      simp only [go_sem, ↓imp_tf, ↓imp_ft, ↓reduceIte, Nat.reduceBEq, Nat.reduceAdd, Nat.reduceMul, Nat.reduceSub, Nat.reduceEqDiff, Nat.reduceLT, Nat.reduceLeDiff, Option.map, Option.bind, List.map, List.length, reduceCtorEq, Option.toList, Option.getD, List.set, List.drop, List.take, Int.reduceToNat]
      have e0 : superE (Ex.mk x.k x.n x.s x.c x.ty args) = (emptyL x.k x.n x.s x.c x.ty 0 && decide (args.length ≤ 16) && validEs args) := rfl
      refine ⟨fun h => ⟨by kernel_rfl, FnV_of ((hv m2 hle2).mono ?_)⟩, fun h => ⟨hle2, ?_⟩⟩
      · clear hv
        rintro r H' m3 hm3 ⟨hle3, rfl, rfl⟩
        simp only [go_sem, ↓imp_tf, ↓imp_ft, ↓reduceIte, Nat.reduceBEq, Nat.reduceAdd, Nat.reduceMul, Nat.reduceSub, Nat.reduceEqDiff, Nat.reduceLT, Nat.reduceLeDiff, Option.map, Option.bind, List.map, List.length, reduceCtorEq, Option.toList, Option.getD, List.set, List.drop, List.take, Int.reduceToNat]
        refine ⟨leM_tr hle2 hle3, ?_⟩
        rw [e0, h.1, decide_eq_true (by omega : args.length ≤ 16), validEs_any]
        rfl
      · clear hv
        rw [e0]
        rcases h with h | h
        · rw [h]; rfl
        · rw [decide_eq_false (by omega : ¬ args.length ≤ 16), Bool.and_false]; rfl
set_option maxHeartbeats 4000000 in
set_option maxRecDepth 20000 in
theorem target_spec (e : Ex) (cs : List Value) (m : Mem) (hg : Glob m) (he : exRep m e cs) : Ans 50 [.v (.agg ⟨cs⟩)] m (.bool (targetE e)) := by
  have hV := valid_all _ e cs m (Nat.le_refl _) hg he
  cases e with
  | mk k n s c ty args =>
    obtain ⟨x, rfl, rfl, rfl, rfl, rfl, rfl, hl, hcp, hn, xs, hr, hes⟩ := ex_parts he
    refine enter cfN puN Tryz.func50 rfl rfl (by kernel_rfl) rfl ?_ ?_
    · simp only [go_sem, ↓imp_tf, ↓imp_ft, ↓reduceIte, Nat.reduceBEq, Nat.reduceAdd, Nat.reduceMul, Nat.reduceSub, Nat.reduceEqDiff, Nat.reduceLT, Nat.reduceLeDiff, Option.map, Option.bind, List.map, List.length, reduceCtorEq, Option.toList, Option.getD, List.set, List.drop, List.take, Int.reduceToNat, Nd.cs]
    · simp only [go_sem, ↓imp_tf, ↓imp_ft, ↓reduceIte, Nat.reduceBEq, Nat.reduceAdd, Nat.reduceMul, Nat.reduceSub, Nat.reduceEqDiff, Nat.reduceLT, Nat.reduceLeDiff, Option.map, Option.bind, List.map, List.length, reduceCtorEq, Option.toList, Option.getD, List.set, List.drop, List.take, Int.reduceToNat, Nd.cs]
      refine ⟨fun e0 => ⟨fun _ => ⟨by kernel_rfl, FnV_of ((FnH_den hV (fun V => rfl)).mono ?_)⟩, fun n => absurd e0 n⟩, fun n0 => ⟨fun e1 => ⟨fun _ => ⟨by kernel_rfl, FnV_of ((FnH_den hV (fun V => rfl)).mono ?_)⟩, fun n => absurd e1 n⟩, fun n1 => ⟨fun e2 => ⟨fun _ => ⟨by kernel_rfl, FnV_of ((FnH_den hV (fun V => rfl)).mono ?_)⟩, fun n => absurd e2 n⟩, fun n2 => ⟨fun e3 => ⟨by kernel_rfl, FnV_of ((FnH_den hV (fun V => rfl)).mono ?_)⟩, fun n3 => ?_⟩⟩⟩⟩
      · clear hV
        rintro r H' m2 hm2 ⟨hle2, rfl, rfl⟩
        simp only [go_sem, ↓imp_tf, ↓imp_ft, ↓reduceIte, Nat.reduceBEq, Nat.reduceAdd, Nat.reduceMul, Nat.reduceSub, Nat.reduceEqDiff, Nat.reduceLT, Nat.reduceLeDiff, Option.map, Option.bind, List.map, List.length, reduceCtorEq, Option.toList, Option.getD, List.set, List.drop, List.take, Int.reduceToNat]
        refine ⟨hle2, ?_⟩
        simp [targetE, Ex.k, e0]
      · clear hV
        rintro r H' m2 hm2 ⟨hle2, rfl, rfl⟩
        simp only [go_sem, ↓imp_tf, ↓imp_ft, ↓reduceIte, Nat.reduceBEq, Nat.reduceAdd, Nat.reduceMul, Nat.reduceSub, Nat.reduceEqDiff, Nat.reduceLT, Nat.reduceLeDiff, Option.map, Option.bind, List.map, List.length, reduceCtorEq, Option.toList, Option.getD, List.set, List.drop, List.take, Int.reduceToNat]
        refine ⟨hle2, ?_⟩
        simp [targetE, Ex.k, e1]
      · clear hV
        rintro r H' m2 hm2 ⟨hle2, rfl, rfl⟩
        simp only [go_sem, ↓imp_tf, ↓imp_ft, ↓reduceIte, Nat.reduceBEq, Nat.reduceAdd, Nat.reduceMul, Nat.reduceSub, Nat.reduceEqDiff, Nat.reduceLT, Nat.reduceLeDiff, Option.map, Option.bind, List.map, List.length, reduceCtorEq, Option.toList, Option.getD, List.set, List.drop, List.take, Int.reduceToNat]
        refine ⟨hle2, ?_⟩
        simp [targetE, Ex.k, e2]
      · clear hV
        rintro r H' m2 hm2 ⟨hle2, rfl, rfl⟩
        simp only [go_sem, ↓imp_tf, ↓imp_ft, ↓reduceIte, Nat.reduceBEq, Nat.reduceAdd, Nat.reduceMul, Nat.reduceSub, Nat.reduceEqDiff, Nat.reduceLT, Nat.reduceLeDiff, Option.map, Option.bind, List.map, List.length, reduceCtorEq, Option.toList, Option.getD, List.set, List.drop, List.take, Int.reduceToNat]
        refine ⟨hle2, ?_⟩
        simp [targetE, Ex.k, e3]
      · clear hV
        simp [targetE, Ex.k, n0, n1, n2, n3]
set_option maxHeartbeats 4000000 in
set_option maxRecDepth 20000 in
theorem call_spec (e : Ex) (cs : List Value) (m : Mem) (hg : Glob m) (he : exRep m e cs) : Ans 51 [.v (.agg ⟨cs⟩)] m (.bool (callE e)) := by
  have hV := valid_all _ e cs m (Nat.le_refl _) hg he
  cases e with
  | mk k n s c ty args =>
    obtain ⟨x, rfl, rfl, rfl, rfl, rfl, rfl, hl, hcp, hn, xs, hr, hes⟩ := ex_parts he
    refine enter cfN puN Tryz.func51 rfl rfl (by kernel_rfl) rfl ?_ ?_
    · simp only [go_sem, ↓imp_tf, ↓imp_ft, ↓reduceIte, Nat.reduceBEq, Nat.reduceAdd, Nat.reduceMul, Nat.reduceSub, Nat.reduceEqDiff, Nat.reduceLT, Nat.reduceLeDiff, Option.map, Option.bind, List.map, List.length, reduceCtorEq, Option.toList, Option.getD, List.set, List.drop, List.take, Int.reduceToNat, Nd.cs]
    · simp only [go_sem, ↓imp_tf, ↓imp_ft, ↓reduceIte, Nat.reduceBEq, Nat.reduceAdd, Nat.reduceMul, Nat.reduceSub, Nat.reduceEqDiff, Nat.reduceLT, Nat.reduceLeDiff, Option.map, Option.bind, List.map, List.length, reduceCtorEq, Option.toList, Option.getD, List.set, List.drop, List.take, Int.reduceToNat, Nd.cs]
      refine ⟨fun e0 => ⟨fun _ => ⟨by kernel_rfl, FnV_of ((FnH_den hV (fun V => rfl)).mono ?_)⟩, fun n => absurd e0 n⟩, fun n0 => ⟨fun e1 => ⟨fun _ => ⟨by kernel_rfl, FnV_of ((FnH_den hV (fun V => rfl)).mono ?_)⟩, fun n => absurd e1 n⟩, fun n1 => ⟨fun e2 => ⟨fun _ => ⟨by kernel_rfl, FnV_of ((FnH_den hV (fun V => rfl)).mono ?_)⟩, fun n => absurd e2 n⟩, fun n2 => ⟨fun e3 => ⟨by kernel_rfl, FnV_of ((FnH_den hV (fun V => rfl)).mono ?_)⟩, fun n3 => ?_⟩⟩⟩⟩
      · clear hV
        rintro r H' m2 hm2 ⟨hle2, rfl, rfl⟩
        simp only [go_sem, ↓imp_tf, ↓imp_ft, ↓reduceIte, Nat.reduceBEq, Nat.reduceAdd, Nat.reduceMul, Nat.reduceSub, Nat.reduceEqDiff, Nat.reduceLT, Nat.reduceLeDiff, Option.map, Option.bind, List.map, List.length, reduceCtorEq, Option.toList, Option.getD, List.set, List.drop, List.take, Int.reduceToNat]
        refine ⟨hle2, ?_⟩
        simp [callE, Ex.k, e0]
      · clear hV
        rintro r H' m2 hm2 ⟨hle2, rfl, rfl⟩
        simp only [go_sem, ↓imp_tf, ↓imp_ft, ↓reduceIte, Nat.reduceBEq, Nat.reduceAdd, Nat.reduceMul, Nat.reduceSub, Nat.reduceEqDiff, Nat.reduceLT, Nat.reduceLeDiff, Option.map, Option.bind, List.map, List.length, reduceCtorEq, Option.toList, Option.getD, List.set, List.drop, List.take, Int.reduceToNat]
        refine ⟨hle2, ?_⟩
        simp [callE, Ex.k, e1]
      · clear hV
        rintro r H' m2 hm2 ⟨hle2, rfl, rfl⟩
        simp only [go_sem, ↓imp_tf, ↓imp_ft, ↓reduceIte, Nat.reduceBEq, Nat.reduceAdd, Nat.reduceMul, Nat.reduceSub, Nat.reduceEqDiff, Nat.reduceLT, Nat.reduceLeDiff, Option.map, Option.bind, List.map, List.length, reduceCtorEq, Option.toList, Option.getD, List.set, List.drop, List.take, Int.reduceToNat]
        refine ⟨hle2, ?_⟩
        simp [callE, Ex.k, e2]
      · clear hV
        rintro r H' m2 hm2 ⟨hle2, rfl, rfl⟩
        simp only [go_sem, ↓imp_tf, ↓imp_ft, ↓reduceIte, Nat.reduceBEq, Nat.reduceAdd, Nat.reduceMul, Nat.reduceSub, Nat.reduceEqDiff, Nat.reduceLT, Nat.reduceLeDiff, Option.map, Option.bind, List.map, List.length, reduceCtorEq, Option.toList, Option.getD, List.set, List.drop, List.take, Int.reduceToNat]
        refine ⟨hle2, ?_⟩
        simp [callE, Ex.k, e3]
      · clear hV
        simp [callE, Ex.k, n0, n1, n2, n3]
/-- What is asked of a statement's cells. -/
theorem st_parts {m : Mem} {k : Int} {nm : List UInt8} {ty : Ty} {tg ex : Ex} {body alt : List St} {cs : List Value} (h : stRep m (.mk k nm ty tg ex body alt) cs) :
    ∃ x : Sd, cs = x.cs ∧ x.k = k ∧ x.name = nm ∧ x.ty = ty ∧ exRep m tg x.tg.cs ∧ exRep m ex x.ex.cs ∧ x.l = body.length ∧ x.l ≤ x.cp ∧ x.l2 = alt.length ∧ x.l2 ≤ x.cp2 ∧ StOk k nm ty body.length alt.length ∧ ∃ xs ys, Rds m x.a x.l 23 xs ∧ Rds m x.b x.l2 23 ys ∧ stsRep m body xs ∧ stsRep m alt ys := by
  simp only [stRep] at h
  obtain ⟨x, ⟨h1, h2, h3, h4⟩, h5, h6, ⟨h7, h8, h9, h10⟩, h11, xs, ys, h12, h13, h14, h15⟩ := h
  exact ⟨x, h1, h2, h3, h4, h5, h6, h7, h8, h9, h10, h11, xs, ys, h12, h13, h14, h15⟩
set_option maxHeartbeats 4000000 in
set_option maxRecDepth 20000 in
theorem block_spec (sup : Bool) (l : List St) (a : Option Addr) (n c : Nat) (xs : List Value) (m : Mem) (hl : n = l.length) (hr : Rds m a n 23 xs) (hs : stsRep m l xs) (hn : n ≤ big)
    (hV : ∀ e ∈ l, ∀ cs m', leM m m' → stRep m' e cs → Ans 21 [.v (.agg ⟨cs⟩)] m' (.bool (validS e))) :
    Ans 47 [.v (.slice a n c), .v (.bool sup)] m (.bool (decide (l.length ≤ 32) && validSs sup l)) := by
  refine enter cfN puN Tryz.func47 rfl rfl (by kernel_rfl) rfl ?_ ?_
  · simp only [go_sem, ↓imp_tf, ↓imp_ft, ↓reduceIte, Nat.reduceBEq, Nat.reduceAdd, Nat.reduceMul, Nat.reduceSub, Nat.reduceEqDiff, Nat.reduceLT, Nat.reduceLeDiff, Option.map, Option.bind, List.map, List.length, reduceCtorEq, Option.toList, Option.getD, List.set, List.drop, List.take, Int.reduceToNat]
  · simp only [go_sem, ↓imp_tf, ↓imp_ft, ↓reduceIte, Nat.reduceBEq, Nat.reduceAdd, Nat.reduceMul, Nat.reduceSub, Nat.reduceEqDiff, Nat.reduceLT, Nat.reduceLeDiff, Option.map, Option.bind, List.map, List.length, reduceCtorEq, Option.toList, Option.getD, List.set, List.drop, List.take, Int.reduceToNat]
    refine ⟨fun h => ?_, fun h => ?_⟩
    · rw [decide_eq_false (by clear hV; omega)]; rfl
    · have hE : (decide (l.length ≤ 32) && validSs sup l) = validSs sup l := by rw [decide_eq_true (by clear hV; omega)]; rfl
      rw [hE]
      clear hE
      refine WP_loop puN (fun x : Nat × Mem => ⟨[⟨1, [], .v (.bool sup)⟩, ⟨10, [], .v (.slice a n c)⟩, ⟨11, [], .v (.int .i64 n)⟩, ⟨12, [], .v (.int .i64 x.1)⟩], [], [], [], 0, x.2⟩)
        (fun x => leM m x.2 ∧ x.1 ≤ n ∧ validSs sup (l.take x.1) = true) (fun x => n - x.1) (0, m) (by kernel_rfl) (fun _ _ => Nat.le_refl _) (fun x hx => hx.1) (fun _ => ?_) ?_ ?_ ?_
      · simp only [go_sem, ↓imp_tf, ↓imp_ft, ↓reduceIte, Nat.reduceBEq, Nat.reduceAdd, Nat.reduceMul, Nat.reduceSub, Nat.reduceEqDiff, Nat.reduceLT, Nat.reduceLeDiff, Option.map, Option.bind, List.map, List.length, reduceCtorEq, Option.toList, Option.getD, List.set, List.drop, List.take, Int.reduceToNat]
      · simp only [go_sem, ↓imp_tf, ↓imp_ft, ↓reduceIte, Nat.reduceBEq, Nat.reduceAdd, Nat.reduceMul, Nat.reduceSub, Nat.reduceEqDiff, Nat.reduceLT, Nat.reduceLeDiff, Option.map, Option.bind, List.map, List.length, reduceCtorEq, Option.toList, Option.getD, List.set, List.drop, List.take, Int.reduceToNat]
        rfl
      · exact ⟨.inl rfl, Nat.zero_le _, by simp [validSs]⟩
      · rintro ⟨k, mm⟩ ⟨h1, h2, h3⟩
        simp only at h1 h2 h3
        have hy : ∀ (hk : k < l.length), ∃ X : Sd, (Rd mm (ptrAt a (k * 23)) X.cs ∧ a ≠ none) ∧ X.k = l[k].k ∧ Ans 21 [.v (.agg ⟨X.cs⟩)] mm (.bool (validS l[k])) := fun hk => by
          have hrep := stRep_upM h1 (sts_at hs hk)
          have hkx : ∃ X : Sd, (xs.drop (k * 23)).take 23 = X.cs ∧ X.k = l[k].k := by
            cases hlk : l[k] with
            | mk k' nm ty tg ex body alt =>
              rw [hlk] at hrep
              obtain ⟨X, e1, e2, _⟩ := st_parts hrep
              exact ⟨X, e1, e2⟩
          obtain ⟨X, e1, e2⟩ := hkx
          have r1 := Rds_cells (Rds_upM h1 hr) (by omega : k < n)
          rw [e1] at r1 hrep
          exact ⟨X, r1, e2, hV _ (List.getElem_mem hk) _ _ h1 hrep⟩
        clear hV
        simp only [go_sem, ↓imp_tf, ↓imp_ft, ↓reduceIte, Nat.reduceBEq, Nat.reduceAdd, Nat.reduceMul, Nat.reduceSub, Nat.reduceEqDiff, Nat.reduceLT, Nat.reduceLeDiff, Option.map, Option.bind, List.map, List.length, reduceCtorEq, Option.toList, Option.getD, List.set, List.drop, List.take, Int.reduceToNat]
        refine ⟨fun hlt => ?_, fun hge => ⟨h1, ?_⟩⟩
        · have hk : k < l.length := by clear hy; omega
          refine Exists.elim (hy hk) fun X hy' => ⟨⟨by clear hy hy'; omega, hlt, hy'.1.2⟩, X.cs, ⟨hy'.1.1, rfl⟩, ?_⟩
          clear hy
          have hkk := hy'.2.1
          have ha := hy'.2.2
          clear hy'
          simp only [go_sem, ↓imp_tf, ↓imp_ft, ↓reduceIte, Nat.reduceBEq, Nat.reduceAdd, Nat.reduceMul, Nat.reduceSub, Nat.reduceEqDiff, Nat.reduceLT, Nat.reduceLeDiff, Option.map, Option.bind, List.map, List.length, reduceCtorEq, Option.toList, Option.getD, List.set, List.drop, List.take, Int.reduceToNat, Sd.cs, Nd.cs]
          refine ⟨fun hc => ⟨by kernel_rfl, FnV_of ((FnH_den ha (fun V => rfl)).mono ?_)⟩, fun hc => ⟨h1, ?_⟩⟩
          · clear ha
            have hb : blk1 sup k l[k] = validS l[k] := by
              rw [hkk] at hc
              rcases hc with hc | hc
              · simp [blk1, hc]
              · have : k = 0 := by omega
                simp [blk1, hc.1, this]
            rintro r H' m2 hm2 ⟨hle2, rfl, rfl⟩
            simp only [go_sem, ↓imp_tf, ↓imp_ft, ↓reduceIte, Nat.reduceBEq, Nat.reduceAdd, Nat.reduceMul, Nat.reduceSub, Nat.reduceEqDiff, Nat.reduceLT, Nat.reduceLeDiff, Option.map, Option.bind, List.map, List.length, reduceCtorEq, Option.toList, Option.getD, List.set, List.drop, List.take, Int.reduceToNat]
            refine ⟨fun hv => ⟨leM_tr h1 hle2, ?_⟩, fun hv => ⟨by unfold I64; simp only [big] at hn; omega, (k + 1, m2), ⟨by simp, .inl rfl⟩, ⟨leM_tr h1 hle2, by simp only; omega, ?_⟩, by simp only; omega⟩⟩
            · rw [validSs_no hk (by rw [hb]; exact hv)]
            · simp only
              rw [validSs_take hk, h3, hb, hv]
              rfl
          · clear ha
            rw [hkk] at hc
            rw [validSs_no hk]
            rcases hc.2 with h0 | h0
            · simp [blk1, hc.1, h0]
            · have : ¬ k = 0 := by omega
              simp [blk1, hc.1, this]
        · have : k = n := by clear hy; omega
          rw [List.take_of_length_le (by clear hy; omega)] at h3
          rw [h3]
end Go.Proofs.YtalalcpefggniaaGreatDoor.E

/- ast, part T: well-formed statements, kind by kind (by genT.py). -/
set_option linter.unusedSimpArgs false
set_option linter.unusedVariables false
namespace Go.Proofs.YtalalcpefggniaaGreatDoor.E
open Go

def zNd : Nd := ⟨0, 0, [], [], zTy, none, 0, 0⟩
theorem Rds_nil {m : Mem} {sz : Nat} : Rds m none 0 sz [] := ⟨by simp, fun h => absurd h (Nat.lt_irrefl _)⟩
theorem z_ok : TyOk zTy := ⟨by unfold I64; decide, by decide, by decide⟩
theorem z_rep {m : Mem} : exRep m zE zNd.cs := by
  simp only [zE, exRep]
  exact ⟨none, 0, [], rfl, Nat.le_refl _, Rds_nil, ⟨by unfold I64; decide, by unfold I64; decide, by decide, by decide, z_ok, by decide⟩, by simp only [exsRep]⟩
theorem st_mk {m : Mem} (U : Sd) {tg ex : Ex} {body alt : List St} {xs ys : List Value} (htg : exRep m tg U.tg.cs) (hex : exRep m ex U.ex.cs) (hl : U.l = body.length) (hcp : U.l ≤ U.cp) (hl2 : U.l2 = alt.length) (hcp2 : U.l2 ≤ U.cp2) (hok : StOk U.k U.name U.ty body.length alt.length)
    (r1 : Rds m U.a U.l 23 xs) (r2 : Rds m U.b U.l2 23 ys) (s1 : stsRep m body xs) (s2 : stsRep m alt ys) : stRep m (.mk U.k U.name U.ty tg ex body alt) U.cs := by
  simp only [stRep]
  exact ⟨U, ⟨rfl, rfl, rfl, rfl⟩, htg, hex, ⟨hl, hcp, hl2, hcp2⟩, hok, xs, ys, r1, r2, s1, s2⟩
theorem nd_inj {x y : Nd} (h : x.cs = y.cs) : x = y := by
  obtain ⟨k, n, s, c, ⟨d, b, nm⟩, a, l, cp⟩ := x
  obtain ⟨k', n', s', c', ⟨d', b', nm'⟩, a', l', cp'⟩ := y
  simp only [Nd.cs, List.cons.injEq, Value.int.injEq, Value.string.injEq, Value.slice.injEq, and_true, true_and] at h
  obtain ⟨h1, h2, h3, h4, h5, h6, h7, h8, h9, h10⟩ := h
  rw [h1, h2, bs_inj h3, bs_inj h4, h5, h6, bs_inj h7, h8, h9, h10]
theorem empty_of {m : Mem} {e : Ex} {x : Nd} (h : exRep m e x.cs) (m' : Mem) : Ans 52 [.v (.agg ⟨x.cs⟩)] m' (.bool (emptyE e)) := by
  cases e with
  | mk k n s c ty args =>
    obtain ⟨y, hy, h1, h2, h3, h4, h5, h6, _⟩ := ex_parts h
    have := empty_spec x m'
    rw [nd_inj hy] at this ⊢
    rw [h1, h2, h3, h4, h5, h6] at this
    exact this
theorem sts_nil {m : Mem} : stsRep m [] [] := by simp only [stsRep]

set_option maxHeartbeats 4000000 in
set_option maxRecDepth 20000 in
theorem vst1 (nm : List UInt8) (ty : Ty) (tN eN : Nd) (a : Option Addr) (l cp : Nat) (b : Option Addr) (l2 cp2 : Nat) (tg ex : Ex) (body alt : List St) (xs ys : List Value) (m : Mem) (hg : Glob m)
    (htg : exRep m tg tN.cs) (hex : exRep m ex eN.cs) (hl : l = body.length) (hcp : l ≤ cp) (hl2 : l2 = alt.length) (hcp2 : l2 ≤ cp2) (hok : StOk 1 nm ty body.length alt.length) (r1 : Rds m a l 23 xs) (r2 : Rds m b l2 23 ys) (s1 : stsRep m body xs) (s2 : stsRep m alt ys) (B1 B2 B V : Bool)
    (hB : ∀ m', leM m m' → Ans 47 [.v (.slice a l cp), .v (.bool false)] m' (.bool B1)) (hA : ∀ m', leM m m' → Ans 47 [.v (.slice b l2 cp2), .v (.bool false)] m' (.bool B2)) (hBB : B = (B1 && B2))
    (e0 : V = ((identL nm && valueTy ty.dim ty.base ty.name && validE ex) && eqS (St.mk 1 nm ty tg ex body alt) (St.mk 1 nm ty zE ex [] []))) : Ans 21 [.v (.agg ⟨Sd.cs ⟨1, nm, ty, tN, eN, a, l, cp, b, l2, cp2⟩⟩)] m (.bool V) := by
  have hQ : ∀ m', leM m m' → Ans 54 [.v (.agg ⟨Sd.cs ⟨1, nm, ty, tN, eN, a, l, cp, b, l2, cp2⟩⟩), .v (.agg ⟨Sd.cs ⟨1, nm, ty, zNd, eN, none, 0, 0, none, 0, 0⟩⟩)] m' (.bool (eqS (St.mk 1 nm ty tg ex body alt) (St.mk 1 nm ty zE ex [] []))) := fun m' hle =>
    eqS_all _ _ _ _ _ m' (Nat.le_refl _) (st_mk (m := m') (⟨1, nm, ty, tN, eN, a, l, cp, b, l2, cp2⟩ : Sd) (exRep_upM hle htg) (exRep_upM hle hex) hl hcp hl2 hcp2 hok (Rds_upM hle r1) (Rds_upM hle r2) (stsRep_upM hle s1) (stsRep_upM hle s2))
      (st_mk (m := m') (⟨1, nm, ty, zNd, eN, none, 0, 0, none, 0, 0⟩ : Sd) z_rep (exRep_upM hle hex) rfl (Nat.le_refl _) rfl (Nat.le_refl _) ⟨hok.k, hok.nm, hok.ty, Nat.zero_le _, Nat.zero_le _⟩ Rds_nil Rds_nil sts_nil sts_nil )
  have hBL1 : BL nm := Nat.le_trans hok.nm (by decide)
  have hBL2 : BL ty.name := Nat.le_trans hok.ty.2.2 (by decide)
  have hX := fun m' (hle : leM m m') => valid_all _ ex eN.cs m' (Nat.le_refl _) (hg.upM hle) (exRep_upM hle hex)
  clear s1 s2 r1 r2
  refine enter cfV puV Tryz.func21 rfl rfl (by kernel_rfl) rfl ?_ ?_
  · simp only [go_sem, ↓imp_tf, ↓imp_ft, ↓reduceIte, Nat.reduceBEq, Nat.reduceAdd, Nat.reduceMul, Nat.reduceSub, Nat.reduceEqDiff, Nat.reduceLT, Nat.reduceLeDiff, Option.map, Option.bind, List.map, List.length, reduceCtorEq, Option.toList, Option.getD, List.set, List.drop, List.take, Int.reduceToNat, Sd.cs, Nd.cs, zNd, zTy, Int.reduceEq, decide_true, decide_false]
  · simp only [go_sem, ↓imp_tf, ↓imp_ft, ↓reduceIte, Nat.reduceBEq, Nat.reduceAdd, Nat.reduceMul, Nat.reduceSub, Nat.reduceEqDiff, Nat.reduceLT, Nat.reduceLeDiff, Option.map, Option.bind, List.map, List.length, reduceCtorEq, Option.toList, Option.getD, List.set, List.drop, List.take, Int.reduceToNat, Sd.cs, Nd.cs, zNd, zTy, Int.reduceEq, decide_true, decide_false]
    refine ⟨by kernel_rfl, FnV_of ((hB m (.inl rfl)).mono ?_)⟩
    clear hB
    rintro r H' m1 hm1 ⟨l1, rfl, rfl⟩
    simp only [go_sem, ↓imp_tf, ↓imp_ft, ↓reduceIte, Nat.reduceBEq, Nat.reduceAdd, Nat.reduceMul, Nat.reduceSub, Nat.reduceEqDiff, Nat.reduceLT, Nat.reduceLeDiff, Option.map, Option.bind, List.map, List.length, reduceCtorEq, Option.toList, Option.getD, List.set, List.drop, List.take, Int.reduceToNat, Sd.cs, Nd.cs, zNd, zTy, Int.reduceEq, decide_true, decide_false]
    refine ⟨fun b1 => ⟨by kernel_rfl, FnV_of ((hA m1 l1).mono ?_)⟩, fun b1 => ?_⟩
    · clear hA
      rintro r H' m2 hm2 ⟨l2', rfl, rfl⟩
      have lm2 := leM_tr l1 l2'
      simp only [go_sem, ↓imp_tf, ↓imp_ft, ↓reduceIte, Nat.reduceBEq, Nat.reduceAdd, Nat.reduceMul, Nat.reduceSub, Nat.reduceEqDiff, Nat.reduceLT, Nat.reduceLeDiff, Option.map, Option.bind, List.map, List.length, reduceCtorEq, Option.toList, Option.getD, List.set, List.drop, List.take, Int.reduceToNat, Sd.cs, Nd.cs, zNd, zTy, Int.reduceEq, decide_true, decide_false]
      refine ⟨hBL1, fun _ => hBL2, fun c => ?_, fun c => ?_⟩
      · refine ⟨by kernel_rfl, FnV_of ((FnH_den (hX m2 lm2) (fun V => rfl)).mono ?_)⟩
        clear hX
        rintro r H' w1 hw1 ⟨lw1, rfl, rfl⟩
        simp only [go_sem, ↓imp_tf, ↓imp_ft, ↓reduceIte, Nat.reduceBEq, Nat.reduceAdd, Nat.reduceMul, Nat.reduceSub, Nat.reduceEqDiff, Nat.reduceLT, Nat.reduceLeDiff, Option.map, Option.bind, List.map, List.length, reduceCtorEq, Option.toList, Option.getD, List.set, List.drop, List.take, Int.reduceToNat, Sd.cs, Nd.cs, zNd, zTy, Int.reduceEq, decide_true, decide_false]
        refine ⟨fun c1 => ?_, fun c1 => ?_⟩
        · refine ⟨by kernel_rfl, FnV_of ((FnH_den (hQ w1 (leM_tr lm2 lw1)) (fun V => rfl)).mono ?_)⟩
          clear hQ
          rintro r H' w2 hw2 ⟨lw2, rfl, rfl⟩
          simp only [go_sem, ↓imp_tf, ↓imp_ft, ↓reduceIte, Nat.reduceBEq, Nat.reduceAdd, Nat.reduceMul, Nat.reduceSub, Nat.reduceEqDiff, Nat.reduceLT, Nat.reduceLeDiff, Option.map, Option.bind, List.map, List.length, reduceCtorEq, Option.toList, Option.getD, List.set, List.drop, List.take, Int.reduceToNat, Sd.cs, Nd.cs, zNd, zTy, Int.reduceEq, decide_true, decide_false]
          refine ⟨leM_tr (leM_tr lm2 lw1) lw2, ?_⟩
          rw [e0, c.1, c.2, c1]
          rfl
        · refine ⟨(leM_tr lm2 lw1), ?_⟩
          rw [e0, c.1, c.2, c1]
          rfl
      · refine ⟨lm2, ?_⟩
        rw [e0]
        rcases c with c | c <;> simp [c]
    · clear hA
      refine ⟨hBL1, fun _ => hBL2, fun c => ?_, fun c => ?_⟩
      · refine ⟨by kernel_rfl, FnV_of ((FnH_den (hX m1 l1) (fun V => rfl)).mono ?_)⟩
        clear hX
        rintro r H' w3 hw3 ⟨lw3, rfl, rfl⟩
        simp only [go_sem, ↓imp_tf, ↓imp_ft, ↓reduceIte, Nat.reduceBEq, Nat.reduceAdd, Nat.reduceMul, Nat.reduceSub, Nat.reduceEqDiff, Nat.reduceLT, Nat.reduceLeDiff, Option.map, Option.bind, List.map, List.length, reduceCtorEq, Option.toList, Option.getD, List.set, List.drop, List.take, Int.reduceToNat, Sd.cs, Nd.cs, zNd, zTy, Int.reduceEq, decide_true, decide_false]
        refine ⟨fun c3 => ?_, fun c3 => ?_⟩
        · refine ⟨by kernel_rfl, FnV_of ((FnH_den (hQ w3 (leM_tr l1 lw3)) (fun V => rfl)).mono ?_)⟩
          clear hQ
          rintro r H' w4 hw4 ⟨lw4, rfl, rfl⟩
          simp only [go_sem, ↓imp_tf, ↓imp_ft, ↓reduceIte, Nat.reduceBEq, Nat.reduceAdd, Nat.reduceMul, Nat.reduceSub, Nat.reduceEqDiff, Nat.reduceLT, Nat.reduceLeDiff, Option.map, Option.bind, List.map, List.length, reduceCtorEq, Option.toList, Option.getD, List.set, List.drop, List.take, Int.reduceToNat, Sd.cs, Nd.cs, zNd, zTy, Int.reduceEq, decide_true, decide_false]
          refine ⟨leM_tr (leM_tr l1 lw3) lw4, ?_⟩
          rw [e0, c.1, c.2, c3]
          rfl
        · refine ⟨(leM_tr l1 lw3), ?_⟩
          rw [e0, c.1, c.2, c3]
          rfl
      · refine ⟨l1, ?_⟩
        rw [e0]
        rcases c with c | c <;> simp [c]

set_option maxHeartbeats 4000000 in
set_option maxRecDepth 20000 in
theorem vst2 (nm : List UInt8) (ty : Ty) (tN eN : Nd) (a : Option Addr) (l cp : Nat) (b : Option Addr) (l2 cp2 : Nat) (tg ex : Ex) (body alt : List St) (xs ys : List Value) (m : Mem) (hg : Glob m)
    (htg : exRep m tg tN.cs) (hex : exRep m ex eN.cs) (hl : l = body.length) (hcp : l ≤ cp) (hl2 : l2 = alt.length) (hcp2 : l2 ≤ cp2) (hok : StOk 2 nm ty body.length alt.length) (r1 : Rds m a l 23 xs) (r2 : Rds m b l2 23 ys) (s1 : stsRep m body xs) (s2 : stsRep m alt ys) (B1 B2 B V : Bool)
    (hB : ∀ m', leM m m' → Ans 47 [.v (.slice a l cp), .v (.bool false)] m' (.bool B1)) (hA : ∀ m', leM m m' → Ans 47 [.v (.slice b l2 cp2), .v (.bool false)] m' (.bool B2)) (hBB : B = (B1 && B2))
    (e0 : V = ((targetE tg && validE ex) && eqS (St.mk 2 nm ty tg ex body alt) (St.mk 2 [] zTy tg ex [] []))) : Ans 21 [.v (.agg ⟨Sd.cs ⟨2, nm, ty, tN, eN, a, l, cp, b, l2, cp2⟩⟩)] m (.bool V) := by
  have hQ : ∀ m', leM m m' → Ans 54 [.v (.agg ⟨Sd.cs ⟨2, nm, ty, tN, eN, a, l, cp, b, l2, cp2⟩⟩), .v (.agg ⟨Sd.cs ⟨2, [], zTy, tN, eN, none, 0, 0, none, 0, 0⟩⟩)] m' (.bool (eqS (St.mk 2 nm ty tg ex body alt) (St.mk 2 [] zTy tg ex [] []))) := fun m' hle =>
    eqS_all _ _ _ _ _ m' (Nat.le_refl _) (st_mk (m := m') (⟨2, nm, ty, tN, eN, a, l, cp, b, l2, cp2⟩ : Sd) (exRep_upM hle htg) (exRep_upM hle hex) hl hcp hl2 hcp2 hok (Rds_upM hle r1) (Rds_upM hle r2) (stsRep_upM hle s1) (stsRep_upM hle s2))
      (st_mk (m := m') (⟨2, [], zTy, tN, eN, none, 0, 0, none, 0, 0⟩ : Sd) (exRep_upM hle htg) (exRep_upM hle hex) rfl (Nat.le_refl _) rfl (Nat.le_refl _) ⟨hok.k, Nat.zero_le _, z_ok, Nat.zero_le _, Nat.zero_le _⟩ Rds_nil Rds_nil sts_nil sts_nil )
  have hX := fun m' (hle : leM m m') => valid_all _ ex eN.cs m' (Nat.le_refl _) (hg.upM hle) (exRep_upM hle hex)
  have hT := fun m' (hle : leM m m') => target_spec tg tN.cs m' (hg.upM hle) (exRep_upM hle htg)
  clear s1 s2 r1 r2
  refine enter cfV puV Tryz.func21 rfl rfl (by kernel_rfl) rfl ?_ ?_
  · simp only [go_sem, ↓imp_tf, ↓imp_ft, ↓reduceIte, Nat.reduceBEq, Nat.reduceAdd, Nat.reduceMul, Nat.reduceSub, Nat.reduceEqDiff, Nat.reduceLT, Nat.reduceLeDiff, Option.map, Option.bind, List.map, List.length, reduceCtorEq, Option.toList, Option.getD, List.set, List.drop, List.take, Int.reduceToNat, Sd.cs, Nd.cs, zNd, zTy, Int.reduceEq, decide_true, decide_false]
  · simp only [go_sem, ↓imp_tf, ↓imp_ft, ↓reduceIte, Nat.reduceBEq, Nat.reduceAdd, Nat.reduceMul, Nat.reduceSub, Nat.reduceEqDiff, Nat.reduceLT, Nat.reduceLeDiff, Option.map, Option.bind, List.map, List.length, reduceCtorEq, Option.toList, Option.getD, List.set, List.drop, List.take, Int.reduceToNat, Sd.cs, Nd.cs, zNd, zTy, Int.reduceEq, decide_true, decide_false]
    refine ⟨by kernel_rfl, FnV_of ((hB m (.inl rfl)).mono ?_)⟩
    clear hB
    rintro r H' m1 hm1 ⟨l1, rfl, rfl⟩
    simp only [go_sem, ↓imp_tf, ↓imp_ft, ↓reduceIte, Nat.reduceBEq, Nat.reduceAdd, Nat.reduceMul, Nat.reduceSub, Nat.reduceEqDiff, Nat.reduceLT, Nat.reduceLeDiff, Option.map, Option.bind, List.map, List.length, reduceCtorEq, Option.toList, Option.getD, List.set, List.drop, List.take, Int.reduceToNat, Sd.cs, Nd.cs, zNd, zTy, Int.reduceEq, decide_true, decide_false]
    refine ⟨fun b1 => ⟨by kernel_rfl, FnV_of ((hA m1 l1).mono ?_)⟩, fun b1 => ?_⟩
    · clear hA
      rintro r H' m2 hm2 ⟨l2', rfl, rfl⟩
      have lm2 := leM_tr l1 l2'
      simp only [go_sem, ↓imp_tf, ↓imp_ft, ↓reduceIte, Nat.reduceBEq, Nat.reduceAdd, Nat.reduceMul, Nat.reduceSub, Nat.reduceEqDiff, Nat.reduceLT, Nat.reduceLeDiff, Option.map, Option.bind, List.map, List.length, reduceCtorEq, Option.toList, Option.getD, List.set, List.drop, List.take, Int.reduceToNat, Sd.cs, Nd.cs, zNd, zTy, Int.reduceEq, decide_true, decide_false]
      refine ⟨by kernel_rfl, FnV_of ((FnH_den (hT m2 lm2) (fun V => rfl)).mono ?_)⟩
      clear hT
      rintro r H' w1 hw1 ⟨lw1, rfl, rfl⟩
      simp only [go_sem, ↓imp_tf, ↓imp_ft, ↓reduceIte, Nat.reduceBEq, Nat.reduceAdd, Nat.reduceMul, Nat.reduceSub, Nat.reduceEqDiff, Nat.reduceLT, Nat.reduceLeDiff, Option.map, Option.bind, List.map, List.length, reduceCtorEq, Option.toList, Option.getD, List.set, List.drop, List.take, Int.reduceToNat, Sd.cs, Nd.cs, zNd, zTy, Int.reduceEq, decide_true, decide_false]
      refine ⟨fun c => ?_, fun c => ?_⟩
      · refine ⟨by kernel_rfl, FnV_of ((FnH_den (hX w1 (leM_tr lm2 lw1)) (fun V => rfl)).mono ?_)⟩
        clear hX
        rintro r H' w2 hw2 ⟨lw2, rfl, rfl⟩
        simp only [go_sem, ↓imp_tf, ↓imp_ft, ↓reduceIte, Nat.reduceBEq, Nat.reduceAdd, Nat.reduceMul, Nat.reduceSub, Nat.reduceEqDiff, Nat.reduceLT, Nat.reduceLeDiff, Option.map, Option.bind, List.map, List.length, reduceCtorEq, Option.toList, Option.getD, List.set, List.drop, List.take, Int.reduceToNat, Sd.cs, Nd.cs, zNd, zTy, Int.reduceEq, decide_true, decide_false]
        refine ⟨fun c2 => ?_, fun c2 => ?_⟩
        · refine ⟨by kernel_rfl, FnV_of ((FnH_den (hQ w2 (leM_tr (leM_tr lm2 lw1) lw2)) (fun V => rfl)).mono ?_)⟩
          clear hQ
          rintro r H' w3 hw3 ⟨lw3, rfl, rfl⟩
          simp only [go_sem, ↓imp_tf, ↓imp_ft, ↓reduceIte, Nat.reduceBEq, Nat.reduceAdd, Nat.reduceMul, Nat.reduceSub, Nat.reduceEqDiff, Nat.reduceLT, Nat.reduceLeDiff, Option.map, Option.bind, List.map, List.length, reduceCtorEq, Option.toList, Option.getD, List.set, List.drop, List.take, Int.reduceToNat, Sd.cs, Nd.cs, zNd, zTy, Int.reduceEq, decide_true, decide_false]
          refine ⟨leM_tr (leM_tr (leM_tr lm2 lw1) lw2) lw3, ?_⟩
          rw [e0, c, c2]
          rfl
        · refine ⟨(leM_tr (leM_tr lm2 lw1) lw2), ?_⟩
          rw [e0, c, c2]
          rfl
      · refine ⟨(leM_tr lm2 lw1), ?_⟩
        rw [e0, c]
        rfl
    · clear hA
      refine ⟨by kernel_rfl, FnV_of ((FnH_den (hT m1 l1) (fun V => rfl)).mono ?_)⟩
      clear hT
      rintro r H' w4 hw4 ⟨lw4, rfl, rfl⟩
      simp only [go_sem, ↓imp_tf, ↓imp_ft, ↓reduceIte, Nat.reduceBEq, Nat.reduceAdd, Nat.reduceMul, Nat.reduceSub, Nat.reduceEqDiff, Nat.reduceLT, Nat.reduceLeDiff, Option.map, Option.bind, List.map, List.length, reduceCtorEq, Option.toList, Option.getD, List.set, List.drop, List.take, Int.reduceToNat, Sd.cs, Nd.cs, zNd, zTy, Int.reduceEq, decide_true, decide_false]
      refine ⟨fun c => ?_, fun c => ?_⟩
      · refine ⟨by kernel_rfl, FnV_of ((FnH_den (hX w4 (leM_tr l1 lw4)) (fun V => rfl)).mono ?_)⟩
        clear hX
        rintro r H' w5 hw5 ⟨lw5, rfl, rfl⟩
        simp only [go_sem, ↓imp_tf, ↓imp_ft, ↓reduceIte, Nat.reduceBEq, Nat.reduceAdd, Nat.reduceMul, Nat.reduceSub, Nat.reduceEqDiff, Nat.reduceLT, Nat.reduceLeDiff, Option.map, Option.bind, List.map, List.length, reduceCtorEq, Option.toList, Option.getD, List.set, List.drop, List.take, Int.reduceToNat, Sd.cs, Nd.cs, zNd, zTy, Int.reduceEq, decide_true, decide_false]
        refine ⟨fun c5 => ?_, fun c5 => ?_⟩
        · refine ⟨by kernel_rfl, FnV_of ((FnH_den (hQ w5 (leM_tr (leM_tr l1 lw4) lw5)) (fun V => rfl)).mono ?_)⟩
          clear hQ
          rintro r H' w6 hw6 ⟨lw6, rfl, rfl⟩
          simp only [go_sem, ↓imp_tf, ↓imp_ft, ↓reduceIte, Nat.reduceBEq, Nat.reduceAdd, Nat.reduceMul, Nat.reduceSub, Nat.reduceEqDiff, Nat.reduceLT, Nat.reduceLeDiff, Option.map, Option.bind, List.map, List.length, reduceCtorEq, Option.toList, Option.getD, List.set, List.drop, List.take, Int.reduceToNat, Sd.cs, Nd.cs, zNd, zTy, Int.reduceEq, decide_true, decide_false]
          refine ⟨leM_tr (leM_tr (leM_tr l1 lw4) lw5) lw6, ?_⟩
          rw [e0, c, c5]
          rfl
        · refine ⟨(leM_tr (leM_tr l1 lw4) lw5), ?_⟩
          rw [e0, c, c5]
          rfl
      · refine ⟨(leM_tr l1 lw4), ?_⟩
        rw [e0, c]
        rfl

set_option maxHeartbeats 4000000 in
set_option maxRecDepth 20000 in
theorem vst3 (nm : List UInt8) (ty : Ty) (tN eN : Nd) (a : Option Addr) (l cp : Nat) (b : Option Addr) (l2 cp2 : Nat) (tg ex : Ex) (body alt : List St) (xs ys : List Value) (m : Mem) (hg : Glob m)
    (htg : exRep m tg tN.cs) (hex : exRep m ex eN.cs) (hl : l = body.length) (hcp : l ≤ cp) (hl2 : l2 = alt.length) (hcp2 : l2 ≤ cp2) (hok : StOk 3 nm ty body.length alt.length) (r1 : Rds m a l 23 xs) (r2 : Rds m b l2 23 ys) (s1 : stsRep m body xs) (s2 : stsRep m alt ys) (B1 B2 B V : Bool)
    (hB : ∀ m', leM m m' → Ans 47 [.v (.slice a l cp), .v (.bool false)] m' (.bool B1)) (hA : ∀ m', leM m m' → Ans 47 [.v (.slice b l2 cp2), .v (.bool false)] m' (.bool B2)) (hBB : B = (B1 && B2))
    (e0 : V = (callE ex && eqS (St.mk 3 nm ty tg ex body alt) (St.mk 3 [] zTy zE ex [] []))) : Ans 21 [.v (.agg ⟨Sd.cs ⟨3, nm, ty, tN, eN, a, l, cp, b, l2, cp2⟩⟩)] m (.bool V) := by
  have hQ : ∀ m', leM m m' → Ans 54 [.v (.agg ⟨Sd.cs ⟨3, nm, ty, tN, eN, a, l, cp, b, l2, cp2⟩⟩), .v (.agg ⟨Sd.cs ⟨3, [], zTy, zNd, eN, none, 0, 0, none, 0, 0⟩⟩)] m' (.bool (eqS (St.mk 3 nm ty tg ex body alt) (St.mk 3 [] zTy zE ex [] []))) := fun m' hle =>
    eqS_all _ _ _ _ _ m' (Nat.le_refl _) (st_mk (m := m') (⟨3, nm, ty, tN, eN, a, l, cp, b, l2, cp2⟩ : Sd) (exRep_upM hle htg) (exRep_upM hle hex) hl hcp hl2 hcp2 hok (Rds_upM hle r1) (Rds_upM hle r2) (stsRep_upM hle s1) (stsRep_upM hle s2))
      (st_mk (m := m') (⟨3, [], zTy, zNd, eN, none, 0, 0, none, 0, 0⟩ : Sd) z_rep (exRep_upM hle hex) rfl (Nat.le_refl _) rfl (Nat.le_refl _) ⟨hok.k, Nat.zero_le _, z_ok, Nat.zero_le _, Nat.zero_le _⟩ Rds_nil Rds_nil sts_nil sts_nil )
  have hX := fun m' (hle : leM m m') => call_spec ex eN.cs m' (hg.upM hle) (exRep_upM hle hex)
  clear s1 s2 r1 r2
  refine enter cfV puV Tryz.func21 rfl rfl (by kernel_rfl) rfl ?_ ?_
  · simp only [go_sem, ↓imp_tf, ↓imp_ft, ↓reduceIte, Nat.reduceBEq, Nat.reduceAdd, Nat.reduceMul, Nat.reduceSub, Nat.reduceEqDiff, Nat.reduceLT, Nat.reduceLeDiff, Option.map, Option.bind, List.map, List.length, reduceCtorEq, Option.toList, Option.getD, List.set, List.drop, List.take, Int.reduceToNat, Sd.cs, Nd.cs, zNd, zTy, Int.reduceEq, decide_true, decide_false]
  · simp only [go_sem, ↓imp_tf, ↓imp_ft, ↓reduceIte, Nat.reduceBEq, Nat.reduceAdd, Nat.reduceMul, Nat.reduceSub, Nat.reduceEqDiff, Nat.reduceLT, Nat.reduceLeDiff, Option.map, Option.bind, List.map, List.length, reduceCtorEq, Option.toList, Option.getD, List.set, List.drop, List.take, Int.reduceToNat, Sd.cs, Nd.cs, zNd, zTy, Int.reduceEq, decide_true, decide_false]
    refine ⟨by kernel_rfl, FnV_of ((hB m (.inl rfl)).mono ?_)⟩
    clear hB
    rintro r H' m1 hm1 ⟨l1, rfl, rfl⟩
    simp only [go_sem, ↓imp_tf, ↓imp_ft, ↓reduceIte, Nat.reduceBEq, Nat.reduceAdd, Nat.reduceMul, Nat.reduceSub, Nat.reduceEqDiff, Nat.reduceLT, Nat.reduceLeDiff, Option.map, Option.bind, List.map, List.length, reduceCtorEq, Option.toList, Option.getD, List.set, List.drop, List.take, Int.reduceToNat, Sd.cs, Nd.cs, zNd, zTy, Int.reduceEq, decide_true, decide_false]
    refine ⟨fun b1 => ⟨by kernel_rfl, FnV_of ((hA m1 l1).mono ?_)⟩, fun b1 => ?_⟩
    · clear hA
      rintro r H' m2 hm2 ⟨l2', rfl, rfl⟩
      have lm2 := leM_tr l1 l2'
      simp only [go_sem, ↓imp_tf, ↓imp_ft, ↓reduceIte, Nat.reduceBEq, Nat.reduceAdd, Nat.reduceMul, Nat.reduceSub, Nat.reduceEqDiff, Nat.reduceLT, Nat.reduceLeDiff, Option.map, Option.bind, List.map, List.length, reduceCtorEq, Option.toList, Option.getD, List.set, List.drop, List.take, Int.reduceToNat, Sd.cs, Nd.cs, zNd, zTy, Int.reduceEq, decide_true, decide_false]
      refine ⟨by kernel_rfl, FnV_of ((FnH_den (hX m2 lm2) (fun V => rfl)).mono ?_)⟩
      clear hX
      rintro r H' w1 hw1 ⟨lw1, rfl, rfl⟩
      simp only [go_sem, ↓imp_tf, ↓imp_ft, ↓reduceIte, Nat.reduceBEq, Nat.reduceAdd, Nat.reduceMul, Nat.reduceSub, Nat.reduceEqDiff, Nat.reduceLT, Nat.reduceLeDiff, Option.map, Option.bind, List.map, List.length, reduceCtorEq, Option.toList, Option.getD, List.set, List.drop, List.take, Int.reduceToNat, Sd.cs, Nd.cs, zNd, zTy, Int.reduceEq, decide_true, decide_false]
      refine ⟨fun c1 => ?_, fun c1 => ?_⟩
      · refine ⟨by kernel_rfl, FnV_of ((FnH_den (hQ w1 (leM_tr lm2 lw1)) (fun V => rfl)).mono ?_)⟩
        clear hQ
        rintro r H' w2 hw2 ⟨lw2, rfl, rfl⟩
        simp only [go_sem, ↓imp_tf, ↓imp_ft, ↓reduceIte, Nat.reduceBEq, Nat.reduceAdd, Nat.reduceMul, Nat.reduceSub, Nat.reduceEqDiff, Nat.reduceLT, Nat.reduceLeDiff, Option.map, Option.bind, List.map, List.length, reduceCtorEq, Option.toList, Option.getD, List.set, List.drop, List.take, Int.reduceToNat, Sd.cs, Nd.cs, zNd, zTy, Int.reduceEq, decide_true, decide_false]
        refine ⟨leM_tr (leM_tr lm2 lw1) lw2, ?_⟩
        rw [e0, c1]
        rfl
      · refine ⟨(leM_tr lm2 lw1), ?_⟩
        rw [e0, c1]
        rfl
    · clear hA
      refine ⟨by kernel_rfl, FnV_of ((FnH_den (hX m1 l1) (fun V => rfl)).mono ?_)⟩
      clear hX
      rintro r H' w3 hw3 ⟨lw3, rfl, rfl⟩
      simp only [go_sem, ↓imp_tf, ↓imp_ft, ↓reduceIte, Nat.reduceBEq, Nat.reduceAdd, Nat.reduceMul, Nat.reduceSub, Nat.reduceEqDiff, Nat.reduceLT, Nat.reduceLeDiff, Option.map, Option.bind, List.map, List.length, reduceCtorEq, Option.toList, Option.getD, List.set, List.drop, List.take, Int.reduceToNat, Sd.cs, Nd.cs, zNd, zTy, Int.reduceEq, decide_true, decide_false]
      refine ⟨fun c3 => ?_, fun c3 => ?_⟩
      · refine ⟨by kernel_rfl, FnV_of ((FnH_den (hQ w3 (leM_tr l1 lw3)) (fun V => rfl)).mono ?_)⟩
        clear hQ
        rintro r H' w4 hw4 ⟨lw4, rfl, rfl⟩
        simp only [go_sem, ↓imp_tf, ↓imp_ft, ↓reduceIte, Nat.reduceBEq, Nat.reduceAdd, Nat.reduceMul, Nat.reduceSub, Nat.reduceEqDiff, Nat.reduceLT, Nat.reduceLeDiff, Option.map, Option.bind, List.map, List.length, reduceCtorEq, Option.toList, Option.getD, List.set, List.drop, List.take, Int.reduceToNat, Sd.cs, Nd.cs, zNd, zTy, Int.reduceEq, decide_true, decide_false]
        refine ⟨leM_tr (leM_tr l1 lw3) lw4, ?_⟩
        rw [e0, c3]
        rfl
      · refine ⟨(leM_tr l1 lw3), ?_⟩
        rw [e0, c3]
        rfl

set_option maxHeartbeats 4000000 in
set_option maxRecDepth 20000 in
theorem vst4 (nm : List UInt8) (ty : Ty) (tN eN : Nd) (a : Option Addr) (l cp : Nat) (b : Option Addr) (l2 cp2 : Nat) (tg ex : Ex) (body alt : List St) (xs ys : List Value) (m : Mem) (hg : Glob m)
    (htg : exRep m tg tN.cs) (hex : exRep m ex eN.cs) (hl : l = body.length) (hcp : l ≤ cp) (hl2 : l2 = alt.length) (hcp2 : l2 ≤ cp2) (hok : StOk 4 nm ty body.length alt.length) (r1 : Rds m a l 23 xs) (r2 : Rds m b l2 23 ys) (s1 : stsRep m body xs) (s2 : stsRep m alt ys) (B1 B2 B V : Bool)
    (hB : ∀ m', leM m m' → Ans 47 [.v (.slice a l cp), .v (.bool false)] m' (.bool B1)) (hA : ∀ m', leM m m' → Ans 47 [.v (.slice b l2 cp2), .v (.bool false)] m' (.bool B2)) (hBB : B = (B1 && B2))
    (e0 : V = ((B && validE ex) && eqS (St.mk 4 nm ty tg ex body alt) (St.mk 4 [] zTy zE ex body alt))) : Ans 21 [.v (.agg ⟨Sd.cs ⟨4, nm, ty, tN, eN, a, l, cp, b, l2, cp2⟩⟩)] m (.bool V) := by
  have hQ : ∀ m', leM m m' → Ans 54 [.v (.agg ⟨Sd.cs ⟨4, nm, ty, tN, eN, a, l, cp, b, l2, cp2⟩⟩), .v (.agg ⟨Sd.cs ⟨4, [], zTy, zNd, eN, a, l, cp, b, l2, cp2⟩⟩)] m' (.bool (eqS (St.mk 4 nm ty tg ex body alt) (St.mk 4 [] zTy zE ex body alt))) := fun m' hle =>
    eqS_all _ _ _ _ _ m' (Nat.le_refl _) (st_mk (m := m') (⟨4, nm, ty, tN, eN, a, l, cp, b, l2, cp2⟩ : Sd) (exRep_upM hle htg) (exRep_upM hle hex) hl hcp hl2 hcp2 hok (Rds_upM hle r1) (Rds_upM hle r2) (stsRep_upM hle s1) (stsRep_upM hle s2))
      (st_mk (m := m') (⟨4, [], zTy, zNd, eN, a, l, cp, b, l2, cp2⟩ : Sd) z_rep (exRep_upM hle hex) hl hcp hl2 hcp2 ⟨hok.k, Nat.zero_le _, z_ok, hok.l, hok.l2⟩ (Rds_upM hle r1) (Rds_upM hle r2) (stsRep_upM hle s1) (stsRep_upM hle s2) )
  have hX := fun m' (hle : leM m m') => valid_all _ ex eN.cs m' (Nat.le_refl _) (hg.upM hle) (exRep_upM hle hex)
  clear s1 s2 r1 r2
  refine enter cfV puV Tryz.func21 rfl rfl (by kernel_rfl) rfl ?_ ?_
  · simp only [go_sem, ↓imp_tf, ↓imp_ft, ↓reduceIte, Nat.reduceBEq, Nat.reduceAdd, Nat.reduceMul, Nat.reduceSub, Nat.reduceEqDiff, Nat.reduceLT, Nat.reduceLeDiff, Option.map, Option.bind, List.map, List.length, reduceCtorEq, Option.toList, Option.getD, List.set, List.drop, List.take, Int.reduceToNat, Sd.cs, Nd.cs, zNd, zTy, Int.reduceEq, decide_true, decide_false]
  · simp only [go_sem, ↓imp_tf, ↓imp_ft, ↓reduceIte, Nat.reduceBEq, Nat.reduceAdd, Nat.reduceMul, Nat.reduceSub, Nat.reduceEqDiff, Nat.reduceLT, Nat.reduceLeDiff, Option.map, Option.bind, List.map, List.length, reduceCtorEq, Option.toList, Option.getD, List.set, List.drop, List.take, Int.reduceToNat, Sd.cs, Nd.cs, zNd, zTy, Int.reduceEq, decide_true, decide_false]
    refine ⟨by kernel_rfl, FnV_of ((hB m (.inl rfl)).mono ?_)⟩
    clear hB
    rintro r H' m1 hm1 ⟨l1, rfl, rfl⟩
    simp only [go_sem, ↓imp_tf, ↓imp_ft, ↓reduceIte, Nat.reduceBEq, Nat.reduceAdd, Nat.reduceMul, Nat.reduceSub, Nat.reduceEqDiff, Nat.reduceLT, Nat.reduceLeDiff, Option.map, Option.bind, List.map, List.length, reduceCtorEq, Option.toList, Option.getD, List.set, List.drop, List.take, Int.reduceToNat, Sd.cs, Nd.cs, zNd, zTy, Int.reduceEq, decide_true, decide_false]
    refine ⟨fun b1 => ⟨by kernel_rfl, FnV_of ((hA m1 l1).mono ?_)⟩, fun b1 => ?_⟩
    · clear hA
      rintro r H' m2 hm2 ⟨l2', rfl, rfl⟩
      have lm2 := leM_tr l1 l2'
      simp only [go_sem, ↓imp_tf, ↓imp_ft, ↓reduceIte, Nat.reduceBEq, Nat.reduceAdd, Nat.reduceMul, Nat.reduceSub, Nat.reduceEqDiff, Nat.reduceLT, Nat.reduceLeDiff, Option.map, Option.bind, List.map, List.length, reduceCtorEq, Option.toList, Option.getD, List.set, List.drop, List.take, Int.reduceToNat, Sd.cs, Nd.cs, zNd, zTy, Int.reduceEq, decide_true, decide_false]
      refine ⟨fun b2 => ?_, fun b2 => ?_⟩
      · refine ⟨by kernel_rfl, FnV_of ((FnH_den (hX m2 lm2) (fun V => rfl)).mono ?_)⟩
        clear hX
        rintro r H' w1 hw1 ⟨lw1, rfl, rfl⟩
        simp only [go_sem, ↓imp_tf, ↓imp_ft, ↓reduceIte, Nat.reduceBEq, Nat.reduceAdd, Nat.reduceMul, Nat.reduceSub, Nat.reduceEqDiff, Nat.reduceLT, Nat.reduceLeDiff, Option.map, Option.bind, List.map, List.length, reduceCtorEq, Option.toList, Option.getD, List.set, List.drop, List.take, Int.reduceToNat, Sd.cs, Nd.cs, zNd, zTy, Int.reduceEq, decide_true, decide_false]
        refine ⟨fun c1 => ?_, fun c1 => ?_⟩
        · refine ⟨by kernel_rfl, FnV_of ((FnH_den (hQ w1 (leM_tr lm2 lw1)) (fun V => rfl)).mono ?_)⟩
          clear hQ
          rintro r H' w2 hw2 ⟨lw2, rfl, rfl⟩
          simp only [go_sem, ↓imp_tf, ↓imp_ft, ↓reduceIte, Nat.reduceBEq, Nat.reduceAdd, Nat.reduceMul, Nat.reduceSub, Nat.reduceEqDiff, Nat.reduceLT, Nat.reduceLeDiff, Option.map, Option.bind, List.map, List.length, reduceCtorEq, Option.toList, Option.getD, List.set, List.drop, List.take, Int.reduceToNat, Sd.cs, Nd.cs, zNd, zTy, Int.reduceEq, decide_true, decide_false]
          refine ⟨leM_tr (leM_tr lm2 lw1) lw2, ?_⟩
          rw [e0, hBB, b1, b2, c1]
          rfl
        · refine ⟨(leM_tr lm2 lw1), ?_⟩
          rw [e0, hBB, b1, b2, c1]
          rfl
      · refine ⟨lm2, ?_⟩
        rw [e0, hBB, b1, b2]
        rfl
    · clear hA
      refine ⟨l1, ?_⟩
      rw [e0, hBB, b1]
      rfl

set_option maxHeartbeats 4000000 in
set_option maxRecDepth 20000 in
theorem vst5 (nm : List UInt8) (ty : Ty) (tN eN : Nd) (a : Option Addr) (l cp : Nat) (b : Option Addr) (l2 cp2 : Nat) (tg ex : Ex) (body alt : List St) (xs ys : List Value) (m : Mem) (hg : Glob m)
    (htg : exRep m tg tN.cs) (hex : exRep m ex eN.cs) (hl : l = body.length) (hcp : l ≤ cp) (hl2 : l2 = alt.length) (hcp2 : l2 ≤ cp2) (hok : StOk 5 nm ty body.length alt.length) (r1 : Rds m a l 23 xs) (r2 : Rds m b l2 23 ys) (s1 : stsRep m body xs) (s2 : stsRep m alt ys) (B1 B2 B V : Bool)
    (hB : ∀ m', leM m m' → Ans 47 [.v (.slice a l cp), .v (.bool false)] m' (.bool B1)) (hA : ∀ m', leM m m' → Ans 47 [.v (.slice b l2 cp2), .v (.bool false)] m' (.bool B2)) (hBB : B = (B1 && B2))
    (e0 : V = ((B && validE ex) && eqS (St.mk 5 nm ty tg ex body alt) (St.mk 5 [] zTy zE ex body []))) : Ans 21 [.v (.agg ⟨Sd.cs ⟨5, nm, ty, tN, eN, a, l, cp, b, l2, cp2⟩⟩)] m (.bool V) := by
  have hQ : ∀ m', leM m m' → Ans 54 [.v (.agg ⟨Sd.cs ⟨5, nm, ty, tN, eN, a, l, cp, b, l2, cp2⟩⟩), .v (.agg ⟨Sd.cs ⟨5, [], zTy, zNd, eN, a, l, cp, none, 0, 0⟩⟩)] m' (.bool (eqS (St.mk 5 nm ty tg ex body alt) (St.mk 5 [] zTy zE ex body []))) := fun m' hle =>
    eqS_all _ _ _ _ _ m' (Nat.le_refl _) (st_mk (m := m') (⟨5, nm, ty, tN, eN, a, l, cp, b, l2, cp2⟩ : Sd) (exRep_upM hle htg) (exRep_upM hle hex) hl hcp hl2 hcp2 hok (Rds_upM hle r1) (Rds_upM hle r2) (stsRep_upM hle s1) (stsRep_upM hle s2))
      (st_mk (m := m') (⟨5, [], zTy, zNd, eN, a, l, cp, none, 0, 0⟩ : Sd) z_rep (exRep_upM hle hex) hl hcp rfl (Nat.le_refl _) ⟨hok.k, Nat.zero_le _, z_ok, hok.l, Nat.zero_le _⟩ (Rds_upM hle r1) Rds_nil (stsRep_upM hle s1) sts_nil )
  have hX := fun m' (hle : leM m m') => valid_all _ ex eN.cs m' (Nat.le_refl _) (hg.upM hle) (exRep_upM hle hex)
  clear s1 s2 r1 r2
  refine enter cfV puV Tryz.func21 rfl rfl (by kernel_rfl) rfl ?_ ?_
  · simp only [go_sem, ↓imp_tf, ↓imp_ft, ↓reduceIte, Nat.reduceBEq, Nat.reduceAdd, Nat.reduceMul, Nat.reduceSub, Nat.reduceEqDiff, Nat.reduceLT, Nat.reduceLeDiff, Option.map, Option.bind, List.map, List.length, reduceCtorEq, Option.toList, Option.getD, List.set, List.drop, List.take, Int.reduceToNat, Sd.cs, Nd.cs, zNd, zTy, Int.reduceEq, decide_true, decide_false]
  · simp only [go_sem, ↓imp_tf, ↓imp_ft, ↓reduceIte, Nat.reduceBEq, Nat.reduceAdd, Nat.reduceMul, Nat.reduceSub, Nat.reduceEqDiff, Nat.reduceLT, Nat.reduceLeDiff, Option.map, Option.bind, List.map, List.length, reduceCtorEq, Option.toList, Option.getD, List.set, List.drop, List.take, Int.reduceToNat, Sd.cs, Nd.cs, zNd, zTy, Int.reduceEq, decide_true, decide_false]
    refine ⟨by kernel_rfl, FnV_of ((hB m (.inl rfl)).mono ?_)⟩
    clear hB
    rintro r H' m1 hm1 ⟨l1, rfl, rfl⟩
    simp only [go_sem, ↓imp_tf, ↓imp_ft, ↓reduceIte, Nat.reduceBEq, Nat.reduceAdd, Nat.reduceMul, Nat.reduceSub, Nat.reduceEqDiff, Nat.reduceLT, Nat.reduceLeDiff, Option.map, Option.bind, List.map, List.length, reduceCtorEq, Option.toList, Option.getD, List.set, List.drop, List.take, Int.reduceToNat, Sd.cs, Nd.cs, zNd, zTy, Int.reduceEq, decide_true, decide_false]
    refine ⟨fun b1 => ⟨by kernel_rfl, FnV_of ((hA m1 l1).mono ?_)⟩, fun b1 => ?_⟩
    · clear hA
      rintro r H' m2 hm2 ⟨l2', rfl, rfl⟩
      have lm2 := leM_tr l1 l2'
      simp only [go_sem, ↓imp_tf, ↓imp_ft, ↓reduceIte, Nat.reduceBEq, Nat.reduceAdd, Nat.reduceMul, Nat.reduceSub, Nat.reduceEqDiff, Nat.reduceLT, Nat.reduceLeDiff, Option.map, Option.bind, List.map, List.length, reduceCtorEq, Option.toList, Option.getD, List.set, List.drop, List.take, Int.reduceToNat, Sd.cs, Nd.cs, zNd, zTy, Int.reduceEq, decide_true, decide_false]
      refine ⟨fun b2 => ?_, fun b2 => ?_⟩
      · refine ⟨by kernel_rfl, FnV_of ((FnH_den (hX m2 lm2) (fun V => rfl)).mono ?_)⟩
        clear hX
        rintro r H' w1 hw1 ⟨lw1, rfl, rfl⟩
        simp only [go_sem, ↓imp_tf, ↓imp_ft, ↓reduceIte, Nat.reduceBEq, Nat.reduceAdd, Nat.reduceMul, Nat.reduceSub, Nat.reduceEqDiff, Nat.reduceLT, Nat.reduceLeDiff, Option.map, Option.bind, List.map, List.length, reduceCtorEq, Option.toList, Option.getD, List.set, List.drop, List.take, Int.reduceToNat, Sd.cs, Nd.cs, zNd, zTy, Int.reduceEq, decide_true, decide_false]
        refine ⟨fun c1 => ?_, fun c1 => ?_⟩
        · refine ⟨by kernel_rfl, FnV_of ((FnH_den (hQ w1 (leM_tr lm2 lw1)) (fun V => rfl)).mono ?_)⟩
          clear hQ
          rintro r H' w2 hw2 ⟨lw2, rfl, rfl⟩
          simp only [go_sem, ↓imp_tf, ↓imp_ft, ↓reduceIte, Nat.reduceBEq, Nat.reduceAdd, Nat.reduceMul, Nat.reduceSub, Nat.reduceEqDiff, Nat.reduceLT, Nat.reduceLeDiff, Option.map, Option.bind, List.map, List.length, reduceCtorEq, Option.toList, Option.getD, List.set, List.drop, List.take, Int.reduceToNat, Sd.cs, Nd.cs, zNd, zTy, Int.reduceEq, decide_true, decide_false]
          refine ⟨leM_tr (leM_tr lm2 lw1) lw2, ?_⟩
          rw [e0, hBB, b1, b2, c1]
          rfl
        · refine ⟨(leM_tr lm2 lw1), ?_⟩
          rw [e0, hBB, b1, b2, c1]
          rfl
      · refine ⟨lm2, ?_⟩
        rw [e0, hBB, b1, b2]
        rfl
    · clear hA
      refine ⟨l1, ?_⟩
      rw [e0, hBB, b1]
      rfl

set_option maxHeartbeats 4000000 in
set_option maxRecDepth 20000 in
theorem vst6 (nm : List UInt8) (ty : Ty) (tN eN : Nd) (a : Option Addr) (l cp : Nat) (b : Option Addr) (l2 cp2 : Nat) (tg ex : Ex) (body alt : List St) (xs ys : List Value) (m : Mem) (hg : Glob m)
    (htg : exRep m tg tN.cs) (hex : exRep m ex eN.cs) (hl : l = body.length) (hcp : l ≤ cp) (hl2 : l2 = alt.length) (hcp2 : l2 ≤ cp2) (hok : StOk 6 nm ty body.length alt.length) (r1 : Rds m a l 23 xs) (r2 : Rds m b l2 23 ys) (s1 : stsRep m body xs) (s2 : stsRep m alt ys) (B1 B2 B V : Bool)
    (hB : ∀ m', leM m m' → Ans 47 [.v (.slice a l cp), .v (.bool false)] m' (.bool B1)) (hA : ∀ m', leM m m' → Ans 47 [.v (.slice b l2 cp2), .v (.bool false)] m' (.bool B2)) (hBB : B = (B1 && B2))
    (e0 : V = ((emptyE ex || validE ex) && eqS (St.mk 6 nm ty tg ex body alt) (St.mk 6 [] zTy zE ex [] []))) : Ans 21 [.v (.agg ⟨Sd.cs ⟨6, nm, ty, tN, eN, a, l, cp, b, l2, cp2⟩⟩)] m (.bool V) := by
  have hQ : ∀ m', leM m m' → Ans 54 [.v (.agg ⟨Sd.cs ⟨6, nm, ty, tN, eN, a, l, cp, b, l2, cp2⟩⟩), .v (.agg ⟨Sd.cs ⟨6, [], zTy, zNd, eN, none, 0, 0, none, 0, 0⟩⟩)] m' (.bool (eqS (St.mk 6 nm ty tg ex body alt) (St.mk 6 [] zTy zE ex [] []))) := fun m' hle =>
    eqS_all _ _ _ _ _ m' (Nat.le_refl _) (st_mk (m := m') (⟨6, nm, ty, tN, eN, a, l, cp, b, l2, cp2⟩ : Sd) (exRep_upM hle htg) (exRep_upM hle hex) hl hcp hl2 hcp2 hok (Rds_upM hle r1) (Rds_upM hle r2) (stsRep_upM hle s1) (stsRep_upM hle s2))
      (st_mk (m := m') (⟨6, [], zTy, zNd, eN, none, 0, 0, none, 0, 0⟩ : Sd) z_rep (exRep_upM hle hex) rfl (Nat.le_refl _) rfl (Nat.le_refl _) ⟨hok.k, Nat.zero_le _, z_ok, Nat.zero_le _, Nat.zero_le _⟩ Rds_nil Rds_nil sts_nil sts_nil )
  have hX := fun m' (hle : leM m m') => valid_all _ ex eN.cs m' (Nat.le_refl _) (hg.upM hle) (exRep_upM hle hex)
  have hZ := fun m' (_ : leM m m') => empty_of hex m'
  clear s1 s2 r1 r2
  refine enter cfV puV Tryz.func21 rfl rfl (by kernel_rfl) rfl ?_ ?_
  · simp only [go_sem, ↓imp_tf, ↓imp_ft, ↓reduceIte, Nat.reduceBEq, Nat.reduceAdd, Nat.reduceMul, Nat.reduceSub, Nat.reduceEqDiff, Nat.reduceLT, Nat.reduceLeDiff, Option.map, Option.bind, List.map, List.length, reduceCtorEq, Option.toList, Option.getD, List.set, List.drop, List.take, Int.reduceToNat, Sd.cs, Nd.cs, zNd, zTy, Int.reduceEq, decide_true, decide_false]
  · simp only [go_sem, ↓imp_tf, ↓imp_ft, ↓reduceIte, Nat.reduceBEq, Nat.reduceAdd, Nat.reduceMul, Nat.reduceSub, Nat.reduceEqDiff, Nat.reduceLT, Nat.reduceLeDiff, Option.map, Option.bind, List.map, List.length, reduceCtorEq, Option.toList, Option.getD, List.set, List.drop, List.take, Int.reduceToNat, Sd.cs, Nd.cs, zNd, zTy, Int.reduceEq, decide_true, decide_false]
    refine ⟨by kernel_rfl, FnV_of ((hB m (.inl rfl)).mono ?_)⟩
    clear hB
    rintro r H' m1 hm1 ⟨l1, rfl, rfl⟩
    simp only [go_sem, ↓imp_tf, ↓imp_ft, ↓reduceIte, Nat.reduceBEq, Nat.reduceAdd, Nat.reduceMul, Nat.reduceSub, Nat.reduceEqDiff, Nat.reduceLT, Nat.reduceLeDiff, Option.map, Option.bind, List.map, List.length, reduceCtorEq, Option.toList, Option.getD, List.set, List.drop, List.take, Int.reduceToNat, Sd.cs, Nd.cs, zNd, zTy, Int.reduceEq, decide_true, decide_false]
    refine ⟨fun b1 => ⟨by kernel_rfl, FnV_of ((hA m1 l1).mono ?_)⟩, fun b1 => ?_⟩
    · clear hA
      rintro r H' m2 hm2 ⟨l2', rfl, rfl⟩
      have lm2 := leM_tr l1 l2'
      simp only [go_sem, ↓imp_tf, ↓imp_ft, ↓reduceIte, Nat.reduceBEq, Nat.reduceAdd, Nat.reduceMul, Nat.reduceSub, Nat.reduceEqDiff, Nat.reduceLT, Nat.reduceLeDiff, Option.map, Option.bind, List.map, List.length, reduceCtorEq, Option.toList, Option.getD, List.set, List.drop, List.take, Int.reduceToNat, Sd.cs, Nd.cs, zNd, zTy, Int.reduceEq, decide_true, decide_false]
      refine ⟨by kernel_rfl, FnV_of ((FnH_den (hZ m2 lm2) (fun V => rfl)).mono ?_)⟩
      clear hZ
      rintro r H' w1 hw1 ⟨lw1, rfl, rfl⟩
      simp only [go_sem, ↓imp_tf, ↓imp_ft, ↓reduceIte, Nat.reduceBEq, Nat.reduceAdd, Nat.reduceMul, Nat.reduceSub, Nat.reduceEqDiff, Nat.reduceLT, Nat.reduceLeDiff, Option.map, Option.bind, List.map, List.length, reduceCtorEq, Option.toList, Option.getD, List.set, List.drop, List.take, Int.reduceToNat, Sd.cs, Nd.cs, zNd, zTy, Int.reduceEq, decide_true, decide_false]
      refine ⟨fun c => ?_, fun c => ?_⟩
      · refine ⟨by kernel_rfl, FnV_of ((FnH_den (hX w1 (leM_tr lm2 lw1)) (fun V => rfl)).mono ?_)⟩
        clear hX
        rintro r H' w2 hw2 ⟨lw2, rfl, rfl⟩
        simp only [go_sem, ↓imp_tf, ↓imp_ft, ↓reduceIte, Nat.reduceBEq, Nat.reduceAdd, Nat.reduceMul, Nat.reduceSub, Nat.reduceEqDiff, Nat.reduceLT, Nat.reduceLeDiff, Option.map, Option.bind, List.map, List.length, reduceCtorEq, Option.toList, Option.getD, List.set, List.drop, List.take, Int.reduceToNat, Sd.cs, Nd.cs, zNd, zTy, Int.reduceEq, decide_true, decide_false]
        refine ⟨fun c2 => ?_, fun c2 => ?_⟩
        · refine ⟨by kernel_rfl, FnV_of ((FnH_den (hQ w2 (leM_tr (leM_tr lm2 lw1) lw2)) (fun V => rfl)).mono ?_)⟩
          clear hQ
          rintro r H' w3 hw3 ⟨lw3, rfl, rfl⟩
          simp only [go_sem, ↓imp_tf, ↓imp_ft, ↓reduceIte, Nat.reduceBEq, Nat.reduceAdd, Nat.reduceMul, Nat.reduceSub, Nat.reduceEqDiff, Nat.reduceLT, Nat.reduceLeDiff, Option.map, Option.bind, List.map, List.length, reduceCtorEq, Option.toList, Option.getD, List.set, List.drop, List.take, Int.reduceToNat, Sd.cs, Nd.cs, zNd, zTy, Int.reduceEq, decide_true, decide_false]
          refine ⟨leM_tr (leM_tr (leM_tr lm2 lw1) lw2) lw3, ?_⟩
          rw [e0, c, c2]
          rfl
        · refine ⟨(leM_tr (leM_tr lm2 lw1) lw2), ?_⟩
          rw [e0, c, c2]
          rfl
      · refine ⟨by kernel_rfl, FnV_of ((FnH_den (hQ w1 (leM_tr lm2 lw1)) (fun V => rfl)).mono ?_)⟩
        clear hQ
        rintro r H' w4 hw4 ⟨lw4, rfl, rfl⟩
        simp only [go_sem, ↓imp_tf, ↓imp_ft, ↓reduceIte, Nat.reduceBEq, Nat.reduceAdd, Nat.reduceMul, Nat.reduceSub, Nat.reduceEqDiff, Nat.reduceLT, Nat.reduceLeDiff, Option.map, Option.bind, List.map, List.length, reduceCtorEq, Option.toList, Option.getD, List.set, List.drop, List.take, Int.reduceToNat, Sd.cs, Nd.cs, zNd, zTy, Int.reduceEq, decide_true, decide_false]
        refine ⟨leM_tr (leM_tr lm2 lw1) lw4, ?_⟩
        rw [e0, c]
        rfl
    · clear hA
      refine ⟨by kernel_rfl, FnV_of ((FnH_den (hZ m1 l1) (fun V => rfl)).mono ?_)⟩
      clear hZ
      rintro r H' w5 hw5 ⟨lw5, rfl, rfl⟩
      simp only [go_sem, ↓imp_tf, ↓imp_ft, ↓reduceIte, Nat.reduceBEq, Nat.reduceAdd, Nat.reduceMul, Nat.reduceSub, Nat.reduceEqDiff, Nat.reduceLT, Nat.reduceLeDiff, Option.map, Option.bind, List.map, List.length, reduceCtorEq, Option.toList, Option.getD, List.set, List.drop, List.take, Int.reduceToNat, Sd.cs, Nd.cs, zNd, zTy, Int.reduceEq, decide_true, decide_false]
      refine ⟨fun c => ?_, fun c => ?_⟩
      · refine ⟨by kernel_rfl, FnV_of ((FnH_den (hX w5 (leM_tr l1 lw5)) (fun V => rfl)).mono ?_)⟩
        clear hX
        rintro r H' w6 hw6 ⟨lw6, rfl, rfl⟩
        simp only [go_sem, ↓imp_tf, ↓imp_ft, ↓reduceIte, Nat.reduceBEq, Nat.reduceAdd, Nat.reduceMul, Nat.reduceSub, Nat.reduceEqDiff, Nat.reduceLT, Nat.reduceLeDiff, Option.map, Option.bind, List.map, List.length, reduceCtorEq, Option.toList, Option.getD, List.set, List.drop, List.take, Int.reduceToNat, Sd.cs, Nd.cs, zNd, zTy, Int.reduceEq, decide_true, decide_false]
        refine ⟨fun c6 => ?_, fun c6 => ?_⟩
        · refine ⟨by kernel_rfl, FnV_of ((FnH_den (hQ w6 (leM_tr (leM_tr l1 lw5) lw6)) (fun V => rfl)).mono ?_)⟩
          clear hQ
          rintro r H' w7 hw7 ⟨lw7, rfl, rfl⟩
          simp only [go_sem, ↓imp_tf, ↓imp_ft, ↓reduceIte, Nat.reduceBEq, Nat.reduceAdd, Nat.reduceMul, Nat.reduceSub, Nat.reduceEqDiff, Nat.reduceLT, Nat.reduceLeDiff, Option.map, Option.bind, List.map, List.length, reduceCtorEq, Option.toList, Option.getD, List.set, List.drop, List.take, Int.reduceToNat, Sd.cs, Nd.cs, zNd, zTy, Int.reduceEq, decide_true, decide_false]
          refine ⟨leM_tr (leM_tr (leM_tr l1 lw5) lw6) lw7, ?_⟩
          rw [e0, c, c6]
          rfl
        · refine ⟨(leM_tr (leM_tr l1 lw5) lw6), ?_⟩
          rw [e0, c, c6]
          rfl
      · refine ⟨by kernel_rfl, FnV_of ((FnH_den (hQ w5 (leM_tr l1 lw5)) (fun V => rfl)).mono ?_)⟩
        clear hQ
        rintro r H' w8 hw8 ⟨lw8, rfl, rfl⟩
        simp only [go_sem, ↓imp_tf, ↓imp_ft, ↓reduceIte, Nat.reduceBEq, Nat.reduceAdd, Nat.reduceMul, Nat.reduceSub, Nat.reduceEqDiff, Nat.reduceLT, Nat.reduceLeDiff, Option.map, Option.bind, List.map, List.length, reduceCtorEq, Option.toList, Option.getD, List.set, List.drop, List.take, Int.reduceToNat, Sd.cs, Nd.cs, zNd, zTy, Int.reduceEq, decide_true, decide_false]
        refine ⟨leM_tr (leM_tr l1 lw5) lw8, ?_⟩
        rw [e0, c]
        rfl

set_option maxHeartbeats 4000000 in
set_option maxRecDepth 20000 in
theorem vst7 (nm : List UInt8) (ty : Ty) (tN eN : Nd) (a : Option Addr) (l cp : Nat) (b : Option Addr) (l2 cp2 : Nat) (tg ex : Ex) (body alt : List St) (xs ys : List Value) (m : Mem) (hg : Glob m)
    (htg : exRep m tg tN.cs) (hex : exRep m ex eN.cs) (hl : l = body.length) (hcp : l ≤ cp) (hl2 : l2 = alt.length) (hcp2 : l2 ≤ cp2) (hok : StOk 7 nm ty body.length alt.length) (r1 : Rds m a l 23 xs) (r2 : Rds m b l2 23 ys) (s1 : stsRep m body xs) (s2 : stsRep m alt ys) (B1 B2 B V : Bool)
    (hB : ∀ m', leM m m' → Ans 47 [.v (.slice a l cp), .v (.bool false)] m' (.bool B1)) (hA : ∀ m', leM m m' → Ans 47 [.v (.slice b l2 cp2), .v (.bool false)] m' (.bool B2)) (hBB : B = (B1 && B2))
    (e0 : V = (validE ex && eqS (St.mk 7 nm ty tg ex body alt) (St.mk 7 [] zTy zE ex [] []))) : Ans 21 [.v (.agg ⟨Sd.cs ⟨7, nm, ty, tN, eN, a, l, cp, b, l2, cp2⟩⟩)] m (.bool V) := by
  have hQ : ∀ m', leM m m' → Ans 54 [.v (.agg ⟨Sd.cs ⟨7, nm, ty, tN, eN, a, l, cp, b, l2, cp2⟩⟩), .v (.agg ⟨Sd.cs ⟨7, [], zTy, zNd, eN, none, 0, 0, none, 0, 0⟩⟩)] m' (.bool (eqS (St.mk 7 nm ty tg ex body alt) (St.mk 7 [] zTy zE ex [] []))) := fun m' hle =>
    eqS_all _ _ _ _ _ m' (Nat.le_refl _) (st_mk (m := m') (⟨7, nm, ty, tN, eN, a, l, cp, b, l2, cp2⟩ : Sd) (exRep_upM hle htg) (exRep_upM hle hex) hl hcp hl2 hcp2 hok (Rds_upM hle r1) (Rds_upM hle r2) (stsRep_upM hle s1) (stsRep_upM hle s2))
      (st_mk (m := m') (⟨7, [], zTy, zNd, eN, none, 0, 0, none, 0, 0⟩ : Sd) z_rep (exRep_upM hle hex) rfl (Nat.le_refl _) rfl (Nat.le_refl _) ⟨hok.k, Nat.zero_le _, z_ok, Nat.zero_le _, Nat.zero_le _⟩ Rds_nil Rds_nil sts_nil sts_nil )
  have hX := fun m' (hle : leM m m') => valid_all _ ex eN.cs m' (Nat.le_refl _) (hg.upM hle) (exRep_upM hle hex)
  clear s1 s2 r1 r2
  refine enter cfV puV Tryz.func21 rfl rfl (by kernel_rfl) rfl ?_ ?_
  · simp only [go_sem, ↓imp_tf, ↓imp_ft, ↓reduceIte, Nat.reduceBEq, Nat.reduceAdd, Nat.reduceMul, Nat.reduceSub, Nat.reduceEqDiff, Nat.reduceLT, Nat.reduceLeDiff, Option.map, Option.bind, List.map, List.length, reduceCtorEq, Option.toList, Option.getD, List.set, List.drop, List.take, Int.reduceToNat, Sd.cs, Nd.cs, zNd, zTy, Int.reduceEq, decide_true, decide_false]
  · simp only [go_sem, ↓imp_tf, ↓imp_ft, ↓reduceIte, Nat.reduceBEq, Nat.reduceAdd, Nat.reduceMul, Nat.reduceSub, Nat.reduceEqDiff, Nat.reduceLT, Nat.reduceLeDiff, Option.map, Option.bind, List.map, List.length, reduceCtorEq, Option.toList, Option.getD, List.set, List.drop, List.take, Int.reduceToNat, Sd.cs, Nd.cs, zNd, zTy, Int.reduceEq, decide_true, decide_false]
    refine ⟨by kernel_rfl, FnV_of ((hB m (.inl rfl)).mono ?_)⟩
    clear hB
    rintro r H' m1 hm1 ⟨l1, rfl, rfl⟩
    simp only [go_sem, ↓imp_tf, ↓imp_ft, ↓reduceIte, Nat.reduceBEq, Nat.reduceAdd, Nat.reduceMul, Nat.reduceSub, Nat.reduceEqDiff, Nat.reduceLT, Nat.reduceLeDiff, Option.map, Option.bind, List.map, List.length, reduceCtorEq, Option.toList, Option.getD, List.set, List.drop, List.take, Int.reduceToNat, Sd.cs, Nd.cs, zNd, zTy, Int.reduceEq, decide_true, decide_false]
    refine ⟨fun b1 => ⟨by kernel_rfl, FnV_of ((hA m1 l1).mono ?_)⟩, fun b1 => ?_⟩
    · clear hA
      rintro r H' m2 hm2 ⟨l2', rfl, rfl⟩
      have lm2 := leM_tr l1 l2'
      simp only [go_sem, ↓imp_tf, ↓imp_ft, ↓reduceIte, Nat.reduceBEq, Nat.reduceAdd, Nat.reduceMul, Nat.reduceSub, Nat.reduceEqDiff, Nat.reduceLT, Nat.reduceLeDiff, Option.map, Option.bind, List.map, List.length, reduceCtorEq, Option.toList, Option.getD, List.set, List.drop, List.take, Int.reduceToNat, Sd.cs, Nd.cs, zNd, zTy, Int.reduceEq, decide_true, decide_false]
      refine ⟨by kernel_rfl, FnV_of ((FnH_den (hX m2 lm2) (fun V => rfl)).mono ?_)⟩
      clear hX
      rintro r H' w1 hw1 ⟨lw1, rfl, rfl⟩
      simp only [go_sem, ↓imp_tf, ↓imp_ft, ↓reduceIte, Nat.reduceBEq, Nat.reduceAdd, Nat.reduceMul, Nat.reduceSub, Nat.reduceEqDiff, Nat.reduceLT, Nat.reduceLeDiff, Option.map, Option.bind, List.map, List.length, reduceCtorEq, Option.toList, Option.getD, List.set, List.drop, List.take, Int.reduceToNat, Sd.cs, Nd.cs, zNd, zTy, Int.reduceEq, decide_true, decide_false]
      refine ⟨fun c1 => ?_, fun c1 => ?_⟩
      · refine ⟨by kernel_rfl, FnV_of ((FnH_den (hQ w1 (leM_tr lm2 lw1)) (fun V => rfl)).mono ?_)⟩
        clear hQ
        rintro r H' w2 hw2 ⟨lw2, rfl, rfl⟩
        simp only [go_sem, ↓imp_tf, ↓imp_ft, ↓reduceIte, Nat.reduceBEq, Nat.reduceAdd, Nat.reduceMul, Nat.reduceSub, Nat.reduceEqDiff, Nat.reduceLT, Nat.reduceLeDiff, Option.map, Option.bind, List.map, List.length, reduceCtorEq, Option.toList, Option.getD, List.set, List.drop, List.take, Int.reduceToNat, Sd.cs, Nd.cs, zNd, zTy, Int.reduceEq, decide_true, decide_false]
        refine ⟨leM_tr (leM_tr lm2 lw1) lw2, ?_⟩
        rw [e0, c1]
        rfl
      · refine ⟨(leM_tr lm2 lw1), ?_⟩
        rw [e0, c1]
        rfl
    · clear hA
      refine ⟨by kernel_rfl, FnV_of ((FnH_den (hX m1 l1) (fun V => rfl)).mono ?_)⟩
      clear hX
      rintro r H' w3 hw3 ⟨lw3, rfl, rfl⟩
      simp only [go_sem, ↓imp_tf, ↓imp_ft, ↓reduceIte, Nat.reduceBEq, Nat.reduceAdd, Nat.reduceMul, Nat.reduceSub, Nat.reduceEqDiff, Nat.reduceLT, Nat.reduceLeDiff, Option.map, Option.bind, List.map, List.length, reduceCtorEq, Option.toList, Option.getD, List.set, List.drop, List.take, Int.reduceToNat, Sd.cs, Nd.cs, zNd, zTy, Int.reduceEq, decide_true, decide_false]
      refine ⟨fun c3 => ?_, fun c3 => ?_⟩
      · refine ⟨by kernel_rfl, FnV_of ((FnH_den (hQ w3 (leM_tr l1 lw3)) (fun V => rfl)).mono ?_)⟩
        clear hQ
        rintro r H' w4 hw4 ⟨lw4, rfl, rfl⟩
        simp only [go_sem, ↓imp_tf, ↓imp_ft, ↓reduceIte, Nat.reduceBEq, Nat.reduceAdd, Nat.reduceMul, Nat.reduceSub, Nat.reduceEqDiff, Nat.reduceLT, Nat.reduceLeDiff, Option.map, Option.bind, List.map, List.length, reduceCtorEq, Option.toList, Option.getD, List.set, List.drop, List.take, Int.reduceToNat, Sd.cs, Nd.cs, zNd, zTy, Int.reduceEq, decide_true, decide_false]
        refine ⟨leM_tr (leM_tr l1 lw3) lw4, ?_⟩
        rw [e0, c3]
        rfl
      · refine ⟨(leM_tr l1 lw3), ?_⟩
        rw [e0, c3]
        rfl

set_option maxHeartbeats 4000000 in
set_option maxRecDepth 20000 in
theorem vst8 (nm : List UInt8) (ty : Ty) (tN eN : Nd) (a : Option Addr) (l cp : Nat) (b : Option Addr) (l2 cp2 : Nat) (tg ex : Ex) (body alt : List St) (xs ys : List Value) (m : Mem) (hg : Glob m)
    (htg : exRep m tg tN.cs) (hex : exRep m ex eN.cs) (hl : l = body.length) (hcp : l ≤ cp) (hl2 : l2 = alt.length) (hcp2 : l2 ≤ cp2) (hok : StOk 8 nm ty body.length alt.length) (r1 : Rds m a l 23 xs) (r2 : Rds m b l2 23 ys) (s1 : stsRep m body xs) (s2 : stsRep m alt ys) (B1 B2 B V : Bool)
    (hB : ∀ m', leM m m' → Ans 47 [.v (.slice a l cp), .v (.bool false)] m' (.bool B1)) (hA : ∀ m', leM m m' → Ans 47 [.v (.slice b l2 cp2), .v (.bool false)] m' (.bool B2)) (hBB : B = (B1 && B2))
    (e0 : V = ((B && identL nm && valueTy ty.dim ty.base ty.name) && eqS (St.mk 8 nm ty tg ex body alt) (St.mk 8 nm ty zE zE body alt))) : Ans 21 [.v (.agg ⟨Sd.cs ⟨8, nm, ty, tN, eN, a, l, cp, b, l2, cp2⟩⟩)] m (.bool V) := by
  have hQ : ∀ m', leM m m' → Ans 54 [.v (.agg ⟨Sd.cs ⟨8, nm, ty, tN, eN, a, l, cp, b, l2, cp2⟩⟩), .v (.agg ⟨Sd.cs ⟨8, nm, ty, zNd, zNd, a, l, cp, b, l2, cp2⟩⟩)] m' (.bool (eqS (St.mk 8 nm ty tg ex body alt) (St.mk 8 nm ty zE zE body alt))) := fun m' hle =>
    eqS_all _ _ _ _ _ m' (Nat.le_refl _) (st_mk (m := m') (⟨8, nm, ty, tN, eN, a, l, cp, b, l2, cp2⟩ : Sd) (exRep_upM hle htg) (exRep_upM hle hex) hl hcp hl2 hcp2 hok (Rds_upM hle r1) (Rds_upM hle r2) (stsRep_upM hle s1) (stsRep_upM hle s2))
      (st_mk (m := m') (⟨8, nm, ty, zNd, zNd, a, l, cp, b, l2, cp2⟩ : Sd) z_rep z_rep hl hcp hl2 hcp2 ⟨hok.k, hok.nm, hok.ty, hok.l, hok.l2⟩ (Rds_upM hle r1) (Rds_upM hle r2) (stsRep_upM hle s1) (stsRep_upM hle s2) )
  have hBL1 : BL nm := Nat.le_trans hok.nm (by decide)
  have hBL2 : BL ty.name := Nat.le_trans hok.ty.2.2 (by decide)
  clear s1 s2 r1 r2
  refine enter cfV puV Tryz.func21 rfl rfl (by kernel_rfl) rfl ?_ ?_
  · simp only [go_sem, ↓imp_tf, ↓imp_ft, ↓reduceIte, Nat.reduceBEq, Nat.reduceAdd, Nat.reduceMul, Nat.reduceSub, Nat.reduceEqDiff, Nat.reduceLT, Nat.reduceLeDiff, Option.map, Option.bind, List.map, List.length, reduceCtorEq, Option.toList, Option.getD, List.set, List.drop, List.take, Int.reduceToNat, Sd.cs, Nd.cs, zNd, zTy, Int.reduceEq, decide_true, decide_false]
  · simp only [go_sem, ↓imp_tf, ↓imp_ft, ↓reduceIte, Nat.reduceBEq, Nat.reduceAdd, Nat.reduceMul, Nat.reduceSub, Nat.reduceEqDiff, Nat.reduceLT, Nat.reduceLeDiff, Option.map, Option.bind, List.map, List.length, reduceCtorEq, Option.toList, Option.getD, List.set, List.drop, List.take, Int.reduceToNat, Sd.cs, Nd.cs, zNd, zTy, Int.reduceEq, decide_true, decide_false]
    refine ⟨by kernel_rfl, FnV_of ((hB m (.inl rfl)).mono ?_)⟩
    clear hB
    rintro r H' m1 hm1 ⟨l1, rfl, rfl⟩
    simp only [go_sem, ↓imp_tf, ↓imp_ft, ↓reduceIte, Nat.reduceBEq, Nat.reduceAdd, Nat.reduceMul, Nat.reduceSub, Nat.reduceEqDiff, Nat.reduceLT, Nat.reduceLeDiff, Option.map, Option.bind, List.map, List.length, reduceCtorEq, Option.toList, Option.getD, List.set, List.drop, List.take, Int.reduceToNat, Sd.cs, Nd.cs, zNd, zTy, Int.reduceEq, decide_true, decide_false]
    refine ⟨fun b1 => ⟨by kernel_rfl, FnV_of ((hA m1 l1).mono ?_)⟩, fun b1 => ?_⟩
    · clear hA
      rintro r H' m2 hm2 ⟨l2', rfl, rfl⟩
      have lm2 := leM_tr l1 l2'
      simp only [go_sem, ↓imp_tf, ↓imp_ft, ↓reduceIte, Nat.reduceBEq, Nat.reduceAdd, Nat.reduceMul, Nat.reduceSub, Nat.reduceEqDiff, Nat.reduceLT, Nat.reduceLeDiff, Option.map, Option.bind, List.map, List.length, reduceCtorEq, Option.toList, Option.getD, List.set, List.drop, List.take, Int.reduceToNat, Sd.cs, Nd.cs, zNd, zTy, Int.reduceEq, decide_true, decide_false]
      refine ⟨fun _ => hBL1, fun _ => hBL2, fun c => ?_, fun c => ?_⟩
      · refine ⟨by kernel_rfl, FnV_of ((FnH_den (hQ m2 lm2) (fun V => rfl)).mono ?_)⟩
        clear hQ
        rintro r H' w1 hw1 ⟨lw1, rfl, rfl⟩
        simp only [go_sem, ↓imp_tf, ↓imp_ft, ↓reduceIte, Nat.reduceBEq, Nat.reduceAdd, Nat.reduceMul, Nat.reduceSub, Nat.reduceEqDiff, Nat.reduceLT, Nat.reduceLeDiff, Option.map, Option.bind, List.map, List.length, reduceCtorEq, Option.toList, Option.getD, List.set, List.drop, List.take, Int.reduceToNat, Sd.cs, Nd.cs, zNd, zTy, Int.reduceEq, decide_true, decide_false]
        refine ⟨leM_tr lm2 lw1, ?_⟩
        rw [e0, hBB, b1, c.1.1, c.1.2, c.2]
        rfl
      · refine ⟨lm2, ?_⟩
        rw [e0, hBB, b1]
        rcases c with (c | c) | c <;> simp [c]
    · clear hA
      refine ⟨l1, ?_⟩
      rw [e0, hBB, b1]
      rfl

set_option maxHeartbeats 4000000 in
set_option maxRecDepth 20000 in
theorem vst9 (nm : List UInt8) (ty : Ty) (tN eN : Nd) (a : Option Addr) (l cp : Nat) (b : Option Addr) (l2 cp2 : Nat) (tg ex : Ex) (body alt : List St) (xs ys : List Value) (m : Mem) (hg : Glob m)
    (htg : exRep m tg tN.cs) (hex : exRep m ex eN.cs) (hl : l = body.length) (hcp : l ≤ cp) (hl2 : l2 = alt.length) (hcp2 : l2 ≤ cp2) (hok : StOk 9 nm ty body.length alt.length) (r1 : Rds m a l 23 xs) (r2 : Rds m b l2 23 ys) (s1 : stsRep m body xs) (s2 : stsRep m alt ys) (B1 B2 B V : Bool)
    (hB : ∀ m', leM m m' → Ans 47 [.v (.slice a l cp), .v (.bool false)] m' (.bool B1)) (hA : ∀ m', leM m m' → Ans 47 [.v (.slice b l2 cp2), .v (.bool false)] m' (.bool B2)) (hBB : B = (B1 && B2))
    (e0 : V = ((B && validE ex) && eqS (St.mk 9 nm ty tg ex body alt) (St.mk 9 [] zTy zE ex body []))) : Ans 21 [.v (.agg ⟨Sd.cs ⟨9, nm, ty, tN, eN, a, l, cp, b, l2, cp2⟩⟩)] m (.bool V) := by
  have hQ : ∀ m', leM m m' → Ans 54 [.v (.agg ⟨Sd.cs ⟨9, nm, ty, tN, eN, a, l, cp, b, l2, cp2⟩⟩), .v (.agg ⟨Sd.cs ⟨9, [], zTy, zNd, eN, a, l, cp, none, 0, 0⟩⟩)] m' (.bool (eqS (St.mk 9 nm ty tg ex body alt) (St.mk 9 [] zTy zE ex body []))) := fun m' hle =>
    eqS_all _ _ _ _ _ m' (Nat.le_refl _) (st_mk (m := m') (⟨9, nm, ty, tN, eN, a, l, cp, b, l2, cp2⟩ : Sd) (exRep_upM hle htg) (exRep_upM hle hex) hl hcp hl2 hcp2 hok (Rds_upM hle r1) (Rds_upM hle r2) (stsRep_upM hle s1) (stsRep_upM hle s2))
      (st_mk (m := m') (⟨9, [], zTy, zNd, eN, a, l, cp, none, 0, 0⟩ : Sd) z_rep (exRep_upM hle hex) hl hcp rfl (Nat.le_refl _) ⟨hok.k, Nat.zero_le _, z_ok, hok.l, Nat.zero_le _⟩ (Rds_upM hle r1) Rds_nil (stsRep_upM hle s1) sts_nil )
  have hX := fun m' (hle : leM m m') => valid_all _ ex eN.cs m' (Nat.le_refl _) (hg.upM hle) (exRep_upM hle hex)
  clear s1 s2 r1 r2
  refine enter cfV puV Tryz.func21 rfl rfl (by kernel_rfl) rfl ?_ ?_
  · simp only [go_sem, ↓imp_tf, ↓imp_ft, ↓reduceIte, Nat.reduceBEq, Nat.reduceAdd, Nat.reduceMul, Nat.reduceSub, Nat.reduceEqDiff, Nat.reduceLT, Nat.reduceLeDiff, Option.map, Option.bind, List.map, List.length, reduceCtorEq, Option.toList, Option.getD, List.set, List.drop, List.take, Int.reduceToNat, Sd.cs, Nd.cs, zNd, zTy, Int.reduceEq, decide_true, decide_false]
  · simp only [go_sem, ↓imp_tf, ↓imp_ft, ↓reduceIte, Nat.reduceBEq, Nat.reduceAdd, Nat.reduceMul, Nat.reduceSub, Nat.reduceEqDiff, Nat.reduceLT, Nat.reduceLeDiff, Option.map, Option.bind, List.map, List.length, reduceCtorEq, Option.toList, Option.getD, List.set, List.drop, List.take, Int.reduceToNat, Sd.cs, Nd.cs, zNd, zTy, Int.reduceEq, decide_true, decide_false]
    refine ⟨by kernel_rfl, FnV_of ((hB m (.inl rfl)).mono ?_)⟩
    clear hB
    rintro r H' m1 hm1 ⟨l1, rfl, rfl⟩
    simp only [go_sem, ↓imp_tf, ↓imp_ft, ↓reduceIte, Nat.reduceBEq, Nat.reduceAdd, Nat.reduceMul, Nat.reduceSub, Nat.reduceEqDiff, Nat.reduceLT, Nat.reduceLeDiff, Option.map, Option.bind, List.map, List.length, reduceCtorEq, Option.toList, Option.getD, List.set, List.drop, List.take, Int.reduceToNat, Sd.cs, Nd.cs, zNd, zTy, Int.reduceEq, decide_true, decide_false]
    refine ⟨fun b1 => ⟨by kernel_rfl, FnV_of ((hA m1 l1).mono ?_)⟩, fun b1 => ?_⟩
    · clear hA
      rintro r H' m2 hm2 ⟨l2', rfl, rfl⟩
      have lm2 := leM_tr l1 l2'
      simp only [go_sem, ↓imp_tf, ↓imp_ft, ↓reduceIte, Nat.reduceBEq, Nat.reduceAdd, Nat.reduceMul, Nat.reduceSub, Nat.reduceEqDiff, Nat.reduceLT, Nat.reduceLeDiff, Option.map, Option.bind, List.map, List.length, reduceCtorEq, Option.toList, Option.getD, List.set, List.drop, List.take, Int.reduceToNat, Sd.cs, Nd.cs, zNd, zTy, Int.reduceEq, decide_true, decide_false]
      refine ⟨fun b2 => ?_, fun b2 => ?_⟩
      · refine ⟨by kernel_rfl, FnV_of ((FnH_den (hX m2 lm2) (fun V => rfl)).mono ?_)⟩
        clear hX
        rintro r H' w1 hw1 ⟨lw1, rfl, rfl⟩
        simp only [go_sem, ↓imp_tf, ↓imp_ft, ↓reduceIte, Nat.reduceBEq, Nat.reduceAdd, Nat.reduceMul, Nat.reduceSub, Nat.reduceEqDiff, Nat.reduceLT, Nat.reduceLeDiff, Option.map, Option.bind, List.map, List.length, reduceCtorEq, Option.toList, Option.getD, List.set, List.drop, List.take, Int.reduceToNat, Sd.cs, Nd.cs, zNd, zTy, Int.reduceEq, decide_true, decide_false]
        refine ⟨fun c1 => ?_, fun c1 => ?_⟩
        · refine ⟨by kernel_rfl, FnV_of ((FnH_den (hQ w1 (leM_tr lm2 lw1)) (fun V => rfl)).mono ?_)⟩
          clear hQ
          rintro r H' w2 hw2 ⟨lw2, rfl, rfl⟩
          simp only [go_sem, ↓imp_tf, ↓imp_ft, ↓reduceIte, Nat.reduceBEq, Nat.reduceAdd, Nat.reduceMul, Nat.reduceSub, Nat.reduceEqDiff, Nat.reduceLT, Nat.reduceLeDiff, Option.map, Option.bind, List.map, List.length, reduceCtorEq, Option.toList, Option.getD, List.set, List.drop, List.take, Int.reduceToNat, Sd.cs, Nd.cs, zNd, zTy, Int.reduceEq, decide_true, decide_false]
          refine ⟨leM_tr (leM_tr lm2 lw1) lw2, ?_⟩
          rw [e0, hBB, b1, b2, c1]
          rfl
        · refine ⟨(leM_tr lm2 lw1), ?_⟩
          rw [e0, hBB, b1, b2, c1]
          rfl
      · refine ⟨lm2, ?_⟩
        rw [e0, hBB, b1, b2]
        rfl
    · clear hA
      refine ⟨l1, ?_⟩
      rw [e0, hBB, b1]
      rfl

set_option maxHeartbeats 4000000 in
set_option maxRecDepth 20000 in
theorem vst10 (nm : List UInt8) (ty : Ty) (tN eN : Nd) (a : Option Addr) (l cp : Nat) (b : Option Addr) (l2 cp2 : Nat) (tg ex : Ex) (body alt : List St) (xs ys : List Value) (m : Mem) (hg : Glob m)
    (htg : exRep m tg tN.cs) (hex : exRep m ex eN.cs) (hl : l = body.length) (hcp : l ≤ cp) (hl2 : l2 = alt.length) (hcp2 : l2 ≤ cp2) (hok : StOk 10 nm ty body.length alt.length) (r1 : Rds m a l 23 xs) (r2 : Rds m b l2 23 ys) (s1 : stsRep m body xs) (s2 : stsRep m alt ys) (B1 B2 B V : Bool)
    (hB : ∀ m', leM m m' → Ans 47 [.v (.slice a l cp), .v (.bool false)] m' (.bool B1)) (hA : ∀ m', leM m m' → Ans 47 [.v (.slice b l2 cp2), .v (.bool false)] m' (.bool B2)) (hBB : B = (B1 && B2))
    (e0 : V = (B && eqS (St.mk 10 nm ty tg ex body alt) (St.mk 10 [] zTy zE zE body []))) : Ans 21 [.v (.agg ⟨Sd.cs ⟨10, nm, ty, tN, eN, a, l, cp, b, l2, cp2⟩⟩)] m (.bool V) := by
  have hQ : ∀ m', leM m m' → Ans 54 [.v (.agg ⟨Sd.cs ⟨10, nm, ty, tN, eN, a, l, cp, b, l2, cp2⟩⟩), .v (.agg ⟨Sd.cs ⟨10, [], zTy, zNd, zNd, a, l, cp, none, 0, 0⟩⟩)] m' (.bool (eqS (St.mk 10 nm ty tg ex body alt) (St.mk 10 [] zTy zE zE body []))) := fun m' hle =>
    eqS_all _ _ _ _ _ m' (Nat.le_refl _) (st_mk (m := m') (⟨10, nm, ty, tN, eN, a, l, cp, b, l2, cp2⟩ : Sd) (exRep_upM hle htg) (exRep_upM hle hex) hl hcp hl2 hcp2 hok (Rds_upM hle r1) (Rds_upM hle r2) (stsRep_upM hle s1) (stsRep_upM hle s2))
      (st_mk (m := m') (⟨10, [], zTy, zNd, zNd, a, l, cp, none, 0, 0⟩ : Sd) z_rep z_rep hl hcp rfl (Nat.le_refl _) ⟨hok.k, Nat.zero_le _, z_ok, hok.l, Nat.zero_le _⟩ (Rds_upM hle r1) Rds_nil (stsRep_upM hle s1) sts_nil )
  clear s1 s2 r1 r2
  refine enter cfV puV Tryz.func21 rfl rfl (by kernel_rfl) rfl ?_ ?_
  · simp only [go_sem, ↓imp_tf, ↓imp_ft, ↓reduceIte, Nat.reduceBEq, Nat.reduceAdd, Nat.reduceMul, Nat.reduceSub, Nat.reduceEqDiff, Nat.reduceLT, Nat.reduceLeDiff, Option.map, Option.bind, List.map, List.length, reduceCtorEq, Option.toList, Option.getD, List.set, List.drop, List.take, Int.reduceToNat, Sd.cs, Nd.cs, zNd, zTy, Int.reduceEq, decide_true, decide_false]
  · simp only [go_sem, ↓imp_tf, ↓imp_ft, ↓reduceIte, Nat.reduceBEq, Nat.reduceAdd, Nat.reduceMul, Nat.reduceSub, Nat.reduceEqDiff, Nat.reduceLT, Nat.reduceLeDiff, Option.map, Option.bind, List.map, List.length, reduceCtorEq, Option.toList, Option.getD, List.set, List.drop, List.take, Int.reduceToNat, Sd.cs, Nd.cs, zNd, zTy, Int.reduceEq, decide_true, decide_false]
    refine ⟨by kernel_rfl, FnV_of ((hB m (.inl rfl)).mono ?_)⟩
    clear hB
    rintro r H' m1 hm1 ⟨l1, rfl, rfl⟩
    simp only [go_sem, ↓imp_tf, ↓imp_ft, ↓reduceIte, Nat.reduceBEq, Nat.reduceAdd, Nat.reduceMul, Nat.reduceSub, Nat.reduceEqDiff, Nat.reduceLT, Nat.reduceLeDiff, Option.map, Option.bind, List.map, List.length, reduceCtorEq, Option.toList, Option.getD, List.set, List.drop, List.take, Int.reduceToNat, Sd.cs, Nd.cs, zNd, zTy, Int.reduceEq, decide_true, decide_false]
    refine ⟨fun b1 => ⟨by kernel_rfl, FnV_of ((hA m1 l1).mono ?_)⟩, fun b1 => ?_⟩
    · clear hA
      rintro r H' m2 hm2 ⟨l2', rfl, rfl⟩
      have lm2 := leM_tr l1 l2'
      simp only [go_sem, ↓imp_tf, ↓imp_ft, ↓reduceIte, Nat.reduceBEq, Nat.reduceAdd, Nat.reduceMul, Nat.reduceSub, Nat.reduceEqDiff, Nat.reduceLT, Nat.reduceLeDiff, Option.map, Option.bind, List.map, List.length, reduceCtorEq, Option.toList, Option.getD, List.set, List.drop, List.take, Int.reduceToNat, Sd.cs, Nd.cs, zNd, zTy, Int.reduceEq, decide_true, decide_false]
      refine ⟨fun b2 => ?_, fun b2 => ?_⟩
      · refine ⟨by kernel_rfl, FnV_of ((FnH_den (hQ m2 lm2) (fun V => rfl)).mono ?_)⟩
        clear hQ
        rintro r H' w1 hw1 ⟨lw1, rfl, rfl⟩
        simp only [go_sem, ↓imp_tf, ↓imp_ft, ↓reduceIte, Nat.reduceBEq, Nat.reduceAdd, Nat.reduceMul, Nat.reduceSub, Nat.reduceEqDiff, Nat.reduceLT, Nat.reduceLeDiff, Option.map, Option.bind, List.map, List.length, reduceCtorEq, Option.toList, Option.getD, List.set, List.drop, List.take, Int.reduceToNat, Sd.cs, Nd.cs, zNd, zTy, Int.reduceEq, decide_true, decide_false]
        refine ⟨leM_tr lm2 lw1, ?_⟩
        rw [e0, hBB, b1, b2]
        rfl
      · refine ⟨lm2, ?_⟩
        rw [e0, hBB, b1, b2]
        rfl
    · clear hA
      refine ⟨l1, ?_⟩
      rw [e0, hBB, b1]
      rfl

set_option maxHeartbeats 4000000 in
set_option maxRecDepth 20000 in
theorem vst11 (nm : List UInt8) (ty : Ty) (tN eN : Nd) (a : Option Addr) (l cp : Nat) (b : Option Addr) (l2 cp2 : Nat) (tg ex : Ex) (body alt : List St) (xs ys : List Value) (m : Mem) (hg : Glob m)
    (htg : exRep m tg tN.cs) (hex : exRep m ex eN.cs) (hl : l = body.length) (hcp : l ≤ cp) (hl2 : l2 = alt.length) (hcp2 : l2 ≤ cp2) (hok : StOk 11 nm ty body.length alt.length) (r1 : Rds m a l 23 xs) (r2 : Rds m b l2 23 ys) (s1 : stsRep m body xs) (s2 : stsRep m alt ys) (B1 B2 B V : Bool)
    (hB : ∀ m', leM m m' → Ans 47 [.v (.slice a l cp), .v (.bool false)] m' (.bool B1)) (hA : ∀ m', leM m m' → Ans 47 [.v (.slice b l2 cp2), .v (.bool false)] m' (.bool B2)) (hBB : B = (B1 && B2))
    (e0 : V = (superE ex && eqS (St.mk 11 nm ty tg ex body alt) (St.mk 11 [] zTy zE ex [] []))) : Ans 21 [.v (.agg ⟨Sd.cs ⟨11, nm, ty, tN, eN, a, l, cp, b, l2, cp2⟩⟩)] m (.bool V) := by
  have hQ : ∀ m', leM m m' → Ans 54 [.v (.agg ⟨Sd.cs ⟨11, nm, ty, tN, eN, a, l, cp, b, l2, cp2⟩⟩), .v (.agg ⟨Sd.cs ⟨11, [], zTy, zNd, eN, none, 0, 0, none, 0, 0⟩⟩)] m' (.bool (eqS (St.mk 11 nm ty tg ex body alt) (St.mk 11 [] zTy zE ex [] []))) := fun m' hle =>
    eqS_all _ _ _ _ _ m' (Nat.le_refl _) (st_mk (m := m') (⟨11, nm, ty, tN, eN, a, l, cp, b, l2, cp2⟩ : Sd) (exRep_upM hle htg) (exRep_upM hle hex) hl hcp hl2 hcp2 hok (Rds_upM hle r1) (Rds_upM hle r2) (stsRep_upM hle s1) (stsRep_upM hle s2))
      (st_mk (m := m') (⟨11, [], zTy, zNd, eN, none, 0, 0, none, 0, 0⟩ : Sd) z_rep (exRep_upM hle hex) rfl (Nat.le_refl _) rfl (Nat.le_refl _) ⟨hok.k, Nat.zero_le _, z_ok, Nat.zero_le _, Nat.zero_le _⟩ Rds_nil Rds_nil sts_nil sts_nil )
  have hX := fun m' (hle : leM m m') => super_spec ex eN.cs m' (hg.upM hle) (exRep_upM hle hex)
  clear s1 s2 r1 r2
  refine enter cfV puV Tryz.func21 rfl rfl (by kernel_rfl) rfl ?_ ?_
  · simp only [go_sem, ↓imp_tf, ↓imp_ft, ↓reduceIte, Nat.reduceBEq, Nat.reduceAdd, Nat.reduceMul, Nat.reduceSub, Nat.reduceEqDiff, Nat.reduceLT, Nat.reduceLeDiff, Option.map, Option.bind, List.map, List.length, reduceCtorEq, Option.toList, Option.getD, List.set, List.drop, List.take, Int.reduceToNat, Sd.cs, Nd.cs, zNd, zTy, Int.reduceEq, decide_true, decide_false]
  · simp only [go_sem, ↓imp_tf, ↓imp_ft, ↓reduceIte, Nat.reduceBEq, Nat.reduceAdd, Nat.reduceMul, Nat.reduceSub, Nat.reduceEqDiff, Nat.reduceLT, Nat.reduceLeDiff, Option.map, Option.bind, List.map, List.length, reduceCtorEq, Option.toList, Option.getD, List.set, List.drop, List.take, Int.reduceToNat, Sd.cs, Nd.cs, zNd, zTy, Int.reduceEq, decide_true, decide_false]
    refine ⟨by kernel_rfl, FnV_of ((hB m (.inl rfl)).mono ?_)⟩
    clear hB
    rintro r H' m1 hm1 ⟨l1, rfl, rfl⟩
    simp only [go_sem, ↓imp_tf, ↓imp_ft, ↓reduceIte, Nat.reduceBEq, Nat.reduceAdd, Nat.reduceMul, Nat.reduceSub, Nat.reduceEqDiff, Nat.reduceLT, Nat.reduceLeDiff, Option.map, Option.bind, List.map, List.length, reduceCtorEq, Option.toList, Option.getD, List.set, List.drop, List.take, Int.reduceToNat, Sd.cs, Nd.cs, zNd, zTy, Int.reduceEq, decide_true, decide_false]
    refine ⟨fun b1 => ⟨by kernel_rfl, FnV_of ((hA m1 l1).mono ?_)⟩, fun b1 => ?_⟩
    · clear hA
      rintro r H' m2 hm2 ⟨l2', rfl, rfl⟩
      have lm2 := leM_tr l1 l2'
      simp only [go_sem, ↓imp_tf, ↓imp_ft, ↓reduceIte, Nat.reduceBEq, Nat.reduceAdd, Nat.reduceMul, Nat.reduceSub, Nat.reduceEqDiff, Nat.reduceLT, Nat.reduceLeDiff, Option.map, Option.bind, List.map, List.length, reduceCtorEq, Option.toList, Option.getD, List.set, List.drop, List.take, Int.reduceToNat, Sd.cs, Nd.cs, zNd, zTy, Int.reduceEq, decide_true, decide_false]
      refine ⟨by kernel_rfl, FnV_of ((FnH_den (hX m2 lm2) (fun V => rfl)).mono ?_)⟩
      clear hX
      rintro r H' w1 hw1 ⟨lw1, rfl, rfl⟩
      simp only [go_sem, ↓imp_tf, ↓imp_ft, ↓reduceIte, Nat.reduceBEq, Nat.reduceAdd, Nat.reduceMul, Nat.reduceSub, Nat.reduceEqDiff, Nat.reduceLT, Nat.reduceLeDiff, Option.map, Option.bind, List.map, List.length, reduceCtorEq, Option.toList, Option.getD, List.set, List.drop, List.take, Int.reduceToNat, Sd.cs, Nd.cs, zNd, zTy, Int.reduceEq, decide_true, decide_false]
      refine ⟨fun c1 => ?_, fun c1 => ?_⟩
      · refine ⟨by kernel_rfl, FnV_of ((FnH_den (hQ w1 (leM_tr lm2 lw1)) (fun V => rfl)).mono ?_)⟩
        clear hQ
        rintro r H' w2 hw2 ⟨lw2, rfl, rfl⟩
        simp only [go_sem, ↓imp_tf, ↓imp_ft, ↓reduceIte, Nat.reduceBEq, Nat.reduceAdd, Nat.reduceMul, Nat.reduceSub, Nat.reduceEqDiff, Nat.reduceLT, Nat.reduceLeDiff, Option.map, Option.bind, List.map, List.length, reduceCtorEq, Option.toList, Option.getD, List.set, List.drop, List.take, Int.reduceToNat, Sd.cs, Nd.cs, zNd, zTy, Int.reduceEq, decide_true, decide_false]
        refine ⟨leM_tr (leM_tr lm2 lw1) lw2, ?_⟩
        rw [e0, c1]
        rfl
      · refine ⟨(leM_tr lm2 lw1), ?_⟩
        rw [e0, c1]
        rfl
    · clear hA
      refine ⟨by kernel_rfl, FnV_of ((FnH_den (hX m1 l1) (fun V => rfl)).mono ?_)⟩
      clear hX
      rintro r H' w3 hw3 ⟨lw3, rfl, rfl⟩
      simp only [go_sem, ↓imp_tf, ↓imp_ft, ↓reduceIte, Nat.reduceBEq, Nat.reduceAdd, Nat.reduceMul, Nat.reduceSub, Nat.reduceEqDiff, Nat.reduceLT, Nat.reduceLeDiff, Option.map, Option.bind, List.map, List.length, reduceCtorEq, Option.toList, Option.getD, List.set, List.drop, List.take, Int.reduceToNat, Sd.cs, Nd.cs, zNd, zTy, Int.reduceEq, decide_true, decide_false]
      refine ⟨fun c3 => ?_, fun c3 => ?_⟩
      · refine ⟨by kernel_rfl, FnV_of ((FnH_den (hQ w3 (leM_tr l1 lw3)) (fun V => rfl)).mono ?_)⟩
        clear hQ
        rintro r H' w4 hw4 ⟨lw4, rfl, rfl⟩
        simp only [go_sem, ↓imp_tf, ↓imp_ft, ↓reduceIte, Nat.reduceBEq, Nat.reduceAdd, Nat.reduceMul, Nat.reduceSub, Nat.reduceEqDiff, Nat.reduceLT, Nat.reduceLeDiff, Option.map, Option.bind, List.map, List.length, reduceCtorEq, Option.toList, Option.getD, List.set, List.drop, List.take, Int.reduceToNat, Sd.cs, Nd.cs, zNd, zTy, Int.reduceEq, decide_true, decide_false]
        refine ⟨leM_tr (leM_tr l1 lw3) lw4, ?_⟩
        rw [e0, c3]
        rfl
      · refine ⟨(leM_tr l1 lw3), ?_⟩
        rw [e0, c3]
        rfl

set_option maxHeartbeats 4000000 in
set_option maxRecDepth 20000 in
theorem vst0 (k : Int) (nm : List UInt8) (ty : Ty) (tN eN : Nd) (a : Option Addr) (l cp : Nat) (b : Option Addr) (l2 cp2 : Nat) (m : Mem) (B1 B2 : Bool) (e : ∀ j : Int, 1 ≤ j → j ≤ 11 → (k = j) = False)
    (hB : ∀ m', leM m m' → Ans 47 [.v (.slice a l cp), .v (.bool false)] m' (.bool B1)) (hA : ∀ m', leM m m' → Ans 47 [.v (.slice b l2 cp2), .v (.bool false)] m' (.bool B2)) :
    Ans 21 [.v (.agg ⟨Sd.cs ⟨k, nm, ty, tN, eN, a, l, cp, b, l2, cp2⟩⟩)] m (.bool false) := by
  have e1 := e 1 (by decide) (by decide)
  have e2 := e 2 (by decide) (by decide)
  have e3 := e 3 (by decide) (by decide)
  have e4 := e 4 (by decide) (by decide)
  have e5 := e 5 (by decide) (by decide)
  have e6 := e 6 (by decide) (by decide)
  have e7 := e 7 (by decide) (by decide)
  have e8 := e 8 (by decide) (by decide)
  have e9 := e 9 (by decide) (by decide)
  have e10 := e 10 (by decide) (by decide)
  have e11 := e 11 (by decide) (by decide)
  refine enter cfV puV Tryz.func21 rfl rfl (by kernel_rfl) rfl ?_ ?_
  · simp only [go_sem, ↓imp_tf, ↓imp_ft, ↓reduceIte, Nat.reduceBEq, Nat.reduceAdd, Nat.reduceMul, Nat.reduceSub, Nat.reduceEqDiff, Nat.reduceLT, Nat.reduceLeDiff, Option.map, Option.bind, List.map, List.length, reduceCtorEq, Option.toList, Option.getD, List.set, List.drop, List.take, Int.reduceToNat, Sd.cs, Nd.cs]
  · simp only [go_sem, ↓imp_tf, ↓imp_ft, ↓reduceIte, Nat.reduceBEq, Nat.reduceAdd, Nat.reduceMul, Nat.reduceSub, Nat.reduceEqDiff, Nat.reduceLT, Nat.reduceLeDiff, Option.map, Option.bind, List.map, List.length, reduceCtorEq, Option.toList, Option.getD, List.set, List.drop, List.take, Int.reduceToNat, Sd.cs, Nd.cs]
    refine ⟨by kernel_rfl, FnV_of ((hB m (.inl rfl)).mono ?_)⟩
    clear hB
    rintro r H' m1 hm1 ⟨l1, rfl, rfl⟩
    simp only [go_sem, ↓imp_tf, ↓imp_ft, ↓reduceIte, Nat.reduceBEq, Nat.reduceAdd, Nat.reduceMul, Nat.reduceSub, Nat.reduceEqDiff, Nat.reduceLT, Nat.reduceLeDiff, Option.map, Option.bind, List.map, List.length, reduceCtorEq, Option.toList, Option.getD, List.set, List.drop, List.take, Int.reduceToNat, Sd.cs, Nd.cs, e1, e2, e3, e4, e5, e6, e7, e8, e9, e10, e11, decide_false]
    refine ⟨fun b1 => ⟨by kernel_rfl, FnV_of ((hA m1 l1).mono ?_)⟩, fun b1 => l1⟩
    clear hA
    rintro r H' m2 hm2 ⟨l2', rfl, rfl⟩
    simp only [go_sem, ↓imp_tf, ↓imp_ft, ↓reduceIte, Nat.reduceBEq, Nat.reduceAdd, Nat.reduceMul, Nat.reduceSub, Nat.reduceEqDiff, Nat.reduceLT, Nat.reduceLeDiff, Option.map, Option.bind, List.map, List.length, reduceCtorEq, Option.toList, Option.getD, List.set, List.drop, List.take, Int.reduceToNat, Sd.cs, Nd.cs, e1, e2, e3, e4, e5, e6, e7, e8, e9, e10, e11, decide_false]
    exact leM_tr l1 l2'
theorem kinds_or {k : Int} : (k = 1 ∨ k = 2 ∨ k = 3 ∨ k = 4 ∨ k = 5 ∨ k = 6 ∨ k = 7 ∨ k = 8 ∨ k = 9 ∨ k = 10 ∨ k = 11) ∨ ∀ j : Int, 1 ≤ j → j ≤ 11 → (k = j) = False := by
  by_cases h : 1 ≤ k ∧ k ≤ 11
  · left; omega
  · right; intro j h1 h2; exact eq_false fun e => h (by omega)
theorem validS_all : ∀ (h : Nat) (e : St) (cs : List Value) (m : Mem), depthS e ≤ h → Glob m → stRep m e cs → Ans 21 [.v (.agg ⟨cs⟩)] m (.bool (validS e))
  | 0, .mk k nm ty tg ex body alt, cs, m, hd, _, _ => by simp [depthS] at hd
  | h + 1, .mk k nm ty tg ex body alt, cs, m, hd, hg, he => by
    obtain ⟨⟨k, nm, ty, tN, eN, a, l, cp, b, l2, cp2⟩, rfl, rfl, rfl, rfl, htg, hex, hl, hcp, hl2, hcp2, hok, xs, ys, r1, r2, s1, s2⟩ := st_parts he
    simp only [depthS] at hd
    simp only at htg hex hl hcp hl2 hcp2 hok r1 r2
    have hB := fun m' (hle : leM m m') => block_spec false body a l cp xs m' hl (Rds_upM hle r1) (stsRep_upM hle s1) (by rw [hl]; exact hok.l) fun e he cs m2 hle2 hrep => validS_all h e cs m2 (by have := depthSs_mem he; omega) (hg.upM (leM_tr hle hle2)) hrep
    have hA := fun m' (hle : leM m m') => block_spec false alt b l2 cp2 ys m' hl2 (Rds_upM hle r2) (stsRep_upM hle s2) (by rw [hl2]; exact hok.l2) fun e he cs m2 hle2 hrep => validS_all h e cs m2 (by have := depthSs_mem he; omega) (hg.upM (leM_tr hle hle2)) hrep
    simp only
    rcases kinds_or (k := k) with hk | hk
    · rcases hk with rfl | rfl | rfl | rfl | rfl | rfl | rfl | rfl | rfl | rfl | rfl
      · exact vst1 nm ty tN eN a l cp b l2 cp2 tg ex body alt xs ys m hg htg hex hl hcp hl2 hcp2 hok r1 r2 s1 s2 _ _ _ _ hB hA rfl (by simp only [validS, okStm, usedS, Int.reduceEq, or_false, or_true, false_or, true_or, if_true, if_false])
      · exact vst2 nm ty tN eN a l cp b l2 cp2 tg ex body alt xs ys m hg htg hex hl hcp hl2 hcp2 hok r1 r2 s1 s2 _ _ _ _ hB hA rfl (by simp only [validS, okStm, usedS, Int.reduceEq, or_false, or_true, false_or, true_or, if_true, if_false])
      · exact vst3 nm ty tN eN a l cp b l2 cp2 tg ex body alt xs ys m hg htg hex hl hcp hl2 hcp2 hok r1 r2 s1 s2 _ _ _ _ hB hA rfl (by simp only [validS, okStm, usedS, Int.reduceEq, or_false, or_true, false_or, true_or, if_true, if_false])
      · exact vst4 nm ty tN eN a l cp b l2 cp2 tg ex body alt xs ys m hg htg hex hl hcp hl2 hcp2 hok r1 r2 s1 s2 _ _ _ _ hB hA rfl (by simp only [validS, okStm, usedS, Int.reduceEq, or_false, or_true, false_or, true_or, if_true, if_false])
      · exact vst5 nm ty tN eN a l cp b l2 cp2 tg ex body alt xs ys m hg htg hex hl hcp hl2 hcp2 hok r1 r2 s1 s2 _ _ _ _ hB hA rfl (by simp only [validS, okStm, usedS, Int.reduceEq, or_false, or_true, false_or, true_or, if_true, if_false])
      · exact vst6 nm ty tN eN a l cp b l2 cp2 tg ex body alt xs ys m hg htg hex hl hcp hl2 hcp2 hok r1 r2 s1 s2 _ _ _ _ hB hA rfl (by simp only [validS, okStm, usedS, Int.reduceEq, or_false, or_true, false_or, true_or, if_true, if_false])
      · exact vst7 nm ty tN eN a l cp b l2 cp2 tg ex body alt xs ys m hg htg hex hl hcp hl2 hcp2 hok r1 r2 s1 s2 _ _ _ _ hB hA rfl (by simp only [validS, okStm, usedS, Int.reduceEq, or_false, or_true, false_or, true_or, if_true, if_false])
      · exact vst8 nm ty tN eN a l cp b l2 cp2 tg ex body alt xs ys m hg htg hex hl hcp hl2 hcp2 hok r1 r2 s1 s2 _ _ _ _ hB hA rfl (by simp only [validS, okStm, usedS, Int.reduceEq, or_false, or_true, false_or, true_or, if_true, if_false])
      · exact vst9 nm ty tN eN a l cp b l2 cp2 tg ex body alt xs ys m hg htg hex hl hcp hl2 hcp2 hok r1 r2 s1 s2 _ _ _ _ hB hA rfl (by simp only [validS, okStm, usedS, Int.reduceEq, or_false, or_true, false_or, true_or, if_true, if_false])
      · exact vst10 nm ty tN eN a l cp b l2 cp2 tg ex body alt xs ys m hg htg hex hl hcp hl2 hcp2 hok r1 r2 s1 s2 _ _ _ _ hB hA rfl (by simp only [validS, okStm, usedS, Int.reduceEq, or_false, or_true, false_or, true_or, if_true, if_false])
      · exact vst11 nm ty tN eN a l cp b l2 cp2 tg ex body alt xs ys m hg htg hex hl hcp hl2 hcp2 hok r1 r2 s1 s2 _ _ _ _ hB hA rfl (by simp only [validS, okStm, usedS, Int.reduceEq, or_false, or_true, false_or, true_or, if_true, if_false])
    · have hv := vst0 k nm ty tN eN a l cp b l2 cp2 m _ _ hk hB hA
      have : validS (.mk k nm ty tg ex body alt) = false := by
        have e : ∀ j : Int, 1 ≤ j → j ≤ 11 → ¬ k = j := fun j h1 h2 h3 => by have := hk j h1 h2; rw [this] at h3; exact h3
        simp only [validS, okStm, hk 1 (by decide) (by decide), hk 2 (by decide) (by decide), hk 3 (by decide) (by decide), hk 4 (by decide) (by decide), hk 5 (by decide) (by decide), hk 6 (by decide) (by decide), hk 7 (by decide) (by decide), hk 8 (by decide) (by decide), hk 9 (by decide) (by decide), hk 10 (by decide) (by decide), hk 11 (by decide) (by decide), or_false, if_false, Bool.false_and]
      rw [this]
      exact hv
theorem block_all (sup : Bool) (l : List St) (a : Option Addr) (n c : Nat) (xs : List Value) (m : Mem) (hg : Glob m) (hl : n = l.length) (hr : Rds m a n 23 xs) (hs : stsRep m l xs) (hn : n ≤ big) :
    Ans 47 [.v (.slice a n c), .v (.bool sup)] m (.bool (blockL sup l)) :=
  block_spec sup l a n c xs m hl hr hs hn fun e _ cs m' hle hrep => validS_all _ e cs m' (Nat.le_refl _) (hg.upM hle) hrep

end Go.Proofs.YtalalcpefggniaaGreatDoor.E

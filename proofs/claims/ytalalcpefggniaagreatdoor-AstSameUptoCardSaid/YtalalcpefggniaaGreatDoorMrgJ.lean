/- Several texts in one: AstZ, AstSa, AstSc, AstSd, AstSb, AstSe. -/
import Derived.Test.YtalalcpefggniaaGreatDoorMrgI
/- ast, part Z: the law on negations. -/
set_option linter.unusedSimpArgs false
set_option linter.unusedVariables false
namespace Go.Proofs.YtalalcpefggniaaGreatDoor.E
open Go

theorem joinL_len (ts : List Tk) : (joinL ts).1.length ≤ 20000 := by
  unfold joinL
  split
  · simp
  · split
    · simp
    · split
      · simp
      · simp only; omega
theorem fmt_len (e : Ex) : (fmtE e).1.length ≤ 20000 := by
  unfold fmtE
  split
  · split
    · simp
    · exact joinL_len _
  · simp
set_option maxHeartbeats 4000000 in
set_option maxRecDepth 20000 in
theorem deeper_spec (e : Ex) (cs : List Value) (m : Mem) (hg : Glob m) (hrep : exRep m e cs) (hsz : sizeE e + 1 ≤ big) (hdp : depthE e + 1 ≤ big) : Ans 8 [.v (.agg ⟨cs⟩)] m (.bool true) := by
  obtain ⟨x, rfl⟩ := exRep_nd hrep
  have hE := exprs_all _ e 300 x.cs m (Nat.le_refl _) (by omega) (by decide) (by decide) hrep
  have hA := fun m' (hle : leM m m') => awake_spec m' (hg.upM hle)
  have hF := fun m' (hle : leM m m') => fexpr_spec e x.cs m' (hg.upM hle) (exRep_upM hle hrep) (by omega) (by omega)
  have hF2 := fun m' (hle : leM m m') (a : Option Addr) (c : Nat) (hc : 1 ≤ c) (hr : Rds m' a 1 8 x.cs) => fexpr_spec (negE e) _ m' (hg.upM hle) (neg_rep hc (exRep_upM hle hrep) hr) (by rw [size_neg]; exact hsz) (by rw [depth_neg]; exact hdp)
  have hD := fun m' (hle : leM m m') => depth_all _ e x.cs m' (Nat.le_refl _) (by omega) (exRep_upM hle hrep)
  have hD2 := fun m' (hle : leM m m') (a : Option Addr) (c : Nat) (hc : 1 ≤ c) (hr : Rds m' a 1 8 x.cs) => depth_all _ (negE e) _ m' (Nat.le_refl _) (by rw [depth_neg]; exact hdp) (neg_rep hc (exRep_upM hle hrep) hr)
  have hV := fun m' (hle : leM m m') => valid_all _ e x.cs m' (Nat.le_refl _) (hg.upM hle) (exRep_upM hle hrep)
  have hV2 := fun m' (hle : leM m m') (a : Option Addr) (c : Nat) (hc : 1 ≤ c) (hr : Rds m' a 1 8 x.cs) => valid_all _ (negE e) _ m' (Nat.le_refl _) (hg.upM hle) (neg_rep hc (exRep_upM hle hrep) hr)
  rw [depth_neg] at hD2
  rw [valid_neg] at hV2
  obtain ⟨d1, d2⟩ := deeper e
  have hl := fmt_len e
  refine enter cfW puW Tryz.func8 rfl rfl (by kernel_rfl) rfl ?_ ?_
  · simp only [go_sem, ↓imp_tf, ↓imp_ft, ↓reduceIte, Nat.reduceBEq, Nat.reduceAdd, Nat.reduceMul, Nat.reduceSub, Nat.reduceEqDiff, Nat.reduceLT, Nat.reduceLeDiff, Option.map, Option.bind, List.map, List.length, reduceCtorEq, Option.toList, Option.getD, List.set, List.drop, List.take, Int.reduceToNat, Nd.cs]
  · simp only [go_sem, ↓imp_tf, ↓imp_ft, ↓reduceIte, Nat.reduceBEq, Nat.reduceAdd, Nat.reduceMul, Nat.reduceSub, Nat.reduceEqDiff, Nat.reduceLT, Nat.reduceLeDiff, Option.map, Option.bind, List.map, List.length, reduceCtorEq, Option.toList, Option.getD, List.set, List.drop, List.take, Int.reduceToNat, Nd.cs]
    refine ⟨by kernel_rfl, FnV_of ((FnH_den hE (fun V => rfl)).mono ?_)⟩
    clear hE
    rintro r H' m1 hm1 ⟨l1, rfl, y, rfl, hy1, hy2⟩
    simp only [go_sem, ↓imp_tf, ↓imp_ft, ↓reduceIte, Nat.reduceBEq, Nat.reduceAdd, Nat.reduceMul, Nat.reduceSub, Nat.reduceEqDiff, Nat.reduceLT, Nat.reduceLeDiff, Option.map, Option.bind, List.map, List.length, reduceCtorEq, Option.toList, Option.getD, List.set, List.drop, List.take, Int.reduceToNat, Nd.cs]
    refine ⟨fun hbig => ⟨by kernel_rfl, FnV_of ((hA m1 l1).mono ?_)⟩, fun hsmall => ⟨by kernel_rfl, FnV_of ((FnH_den (hF m1 l1) (fun V => rfl)).mono ?_)⟩⟩
    · clear hA hF hF2 hD hD2 hV hV2
      rintro r H' m2 hm2 ⟨l2, rfl, rfl⟩
      simp only [go_sem, ↓imp_tf, ↓imp_ft, ↓reduceIte, Nat.reduceBEq, Nat.reduceAdd, Nat.reduceMul, Nat.reduceSub, Nat.reduceEqDiff, Nat.reduceLT, Nat.reduceLeDiff, Option.map, Option.bind, List.map, List.length, reduceCtorEq, Option.toList, Option.getD, List.set, List.drop, List.take, Int.reduceToNat, Nd.cs]
      exact leM_tr l1 l2
    · clear hF
      rintro r H' m2 hm2 ⟨l2, rfl, rfl⟩
      have k2 := leM_tr l1 l2
      simp only [go_sem, ↓imp_tf, ↓imp_ft, ↓reduceIte, Nat.reduceBEq, Nat.reduceAdd, Nat.reduceMul, Nat.reduceSub, Nat.reduceEqDiff, Nat.reduceLT, Nat.reduceLeDiff, Option.map, Option.bind, List.map, List.length, reduceCtorEq, Option.toList, Option.getD, List.set, List.drop, List.take, Int.reduceToNat, Nd.cs]
      refine ⟨by kernel_rfl, fun a3 c3 w3 hw3 hc3 r3 => FnV_of ((FnH_den (hF2 w3 (leM_tr k2 (.inr hw3)) a3 c3 hc3 r3) (fun V => rfl)).mono ?_)⟩
      clear hF2
      rintro r H' m4 hm4 ⟨l4, rfl, rfl⟩
      have k4 := leM_tr (leM_tr k2 (.inr hw3)) l4
      simp only [go_sem, ↓imp_tf, ↓imp_ft, ↓reduceIte, Nat.reduceBEq, Nat.reduceAdd, Nat.reduceMul, Nat.reduceSub, Nat.reduceEqDiff, Nat.reduceLT, Nat.reduceLeDiff, Option.map, Option.bind, List.map, List.length, reduceCtorEq, Option.toList, Option.getD, List.set, List.drop, List.take, Int.reduceToNat, Nd.cs]
      refine WP_draw (.hoist 0 (.hoist 2 (.alt 1 [2] (.alt 3 [] (.hoist 4 (.hoist 5 (.hoist 6 (.hoist 7 (.hoist 9 (.alt 8 [9] (.alt 10 [] (.hoist 11 (.hoist 12 .done)) .stop) .stop)))))) .stop) .stop))) puW (by kernel_rfl) (by kernel_rfl) ?_
      simp only [go_sem, ↓imp_tf, ↓imp_ft, ↓reduceIte, Nat.reduceBEq, Nat.reduceAdd, Nat.reduceMul, Nat.reduceSub, Nat.reduceEqDiff, Nat.reduceLT, Nat.reduceLeDiff, Option.map, Option.bind, List.map, List.length, reduceCtorEq, Option.toList, Option.getD, List.set, List.drop, List.take, Int.reduceToNat, Nd.cs]
      refine ⟨by kernel_rfl, fun a5 c5 w5 hw5 hc5 r5 => FnV_of ((FnH_den (hD2 w5 (leM_tr k4 (.inr hw5)) a5 c5 hc5 r5) (fun V => rfl)).mono ?_)⟩
      clear hD2
      rintro r H' m6 hm6 ⟨l6, rfl, rfl⟩
      have k6 := leM_tr (leM_tr k4 (.inr hw5)) l6
      simp only [go_sem, ↓imp_tf, ↓imp_ft, ↓reduceIte, Nat.reduceBEq, Nat.reduceAdd, Nat.reduceMul, Nat.reduceSub, Nat.reduceEqDiff, Nat.reduceLT, Nat.reduceLeDiff, Option.map, Option.bind, List.map, List.length, reduceCtorEq, Option.toList, Option.getD, List.set, List.drop, List.take, Int.reduceToNat, Nd.cs]
      refine ⟨leM_tr (.inr hw5) l6, by kernel_rfl, FnV_of ((FnH_den (hD m6 k6) (fun V => rfl)).mono ?_)⟩
      clear hD
      rintro r H' m7 hm7 ⟨l7, rfl, rfl⟩
      have k7 := leM_tr k6 l7
      simp only [go_sem, ↓imp_tf, ↓imp_ft, ↓reduceIte, Nat.reduceBEq, Nat.reduceAdd, Nat.reduceMul, Nat.reduceSub, Nat.reduceEqDiff, Nat.reduceLT, Nat.reduceLeDiff, Option.map, Option.bind, List.map, List.length, reduceCtorEq, Option.toList, Option.getD, List.set, List.drop, List.take, Int.reduceToNat, Nd.cs]
      refine ⟨by clear hV hV2 hA; unfold I64; simp only [big] at hdp; omega, fun _ => ⟨by kernel_rfl, fun a8 c8 w8 hw8 hc8 r8 => FnV_of ((FnH_den (hV2 w8 (leM_tr k7 (.inr hw8)) a8 c8 hc8 r8) (fun V => rfl)).mono ?_)⟩, fun h => absurd (by simp) h⟩
      clear hV2
      rintro r H' m9 hm9 ⟨l9, rfl, rfl⟩
      have k9 := leM_tr (leM_tr k7 (.inr hw8)) l9
      simp only [go_sem, ↓imp_tf, ↓imp_ft, ↓reduceIte, Nat.reduceBEq, Nat.reduceAdd, Nat.reduceMul, Nat.reduceSub, Nat.reduceEqDiff, Nat.reduceLT, Nat.reduceLeDiff, Option.map, Option.bind, List.map, List.length, reduceCtorEq, Option.toList, Option.getD, List.set, List.drop, List.take, Int.reduceToNat, Nd.cs]
      refine ⟨leM_tr (.inr hw8) l9, by kernel_rfl, FnV_of ((FnH_den (hV m9 k9) (fun V => rfl)).mono ?_)⟩
      clear hV
      rintro r H' ma hma ⟨la, rfl, rfl⟩
      have ka := leM_tr k9 la
      simp only [go_sem, ↓imp_tf, ↓imp_ft, ↓reduceIte, Nat.reduceBEq, Nat.reduceAdd, Nat.reduceMul, Nat.reduceSub, Nat.reduceEqDiff, Nat.reduceLT, Nat.reduceLeDiff, Option.map, Option.bind, List.map, List.length, reduceCtorEq, Option.toList, Option.getD, List.set, List.drop, List.take, Int.reduceToNat, Nd.cs]
      refine ⟨by kernel_rfl, fun hne => ⟨by kernel_rfl, FnV_of ((hA ma ka).mono ?_)⟩, fun h0 => ⟨by kernel_rfl, FnV_of ((hA ma ka).mono ?_)⟩⟩
      · clear hA
        rintro r H' mb hmb ⟨lb, rfl, rfl⟩
        have hd := d2 (fun h => by rcases hne with h1 | h1; exact h1 h.1; exact h1 h.2)
        simp only [go_sem, ↓imp_tf, ↓imp_ft, ↓reduceIte, Nat.reduceBEq, Nat.reduceAdd, Nat.reduceMul, Nat.reduceSub, Nat.reduceEqDiff, Nat.reduceLT, Nat.reduceLeDiff, Option.map, Option.bind, List.map, List.length, reduceCtorEq, Option.toList, Option.getD, List.set, List.drop, List.take, Int.reduceToNat, Nd.cs]
        refine ⟨leM_tr ka lb, ?_⟩
        unfold errOk at hd
        rcases hd with h | h | h | h
        · refine .inl (.inl (.inl ⟨h.1, ?_⟩))
          rcases h.2 with g | g | g
          · exact .inl (.inl g)
          · exact .inl (.inr g)
          · exact .inr g
        · exact .inl (.inl (.inr h))
        · exact .inl (.inr h)
        · exact .inr h
      · clear hA
        rintro r H' mb hmb ⟨lb, rfl, rfl⟩
        have hd := d1 h0
        simp only [go_sem, ↓imp_tf, ↓imp_ft, ↓reduceIte, Nat.reduceBEq, Nat.reduceAdd, Nat.reduceMul, Nat.reduceSub, Nat.reduceEqDiff, Nat.reduceLT, Nat.reduceLeDiff, Option.map, Option.bind, List.map, List.length, reduceCtorEq, Option.toList, Option.getD, List.set, List.drop, List.take, Int.reduceToNat, Nd.cs]
        exact ⟨by omega, fun _ => by omega, fun _ => by omega, leM_tr ka lb, by simpa using hd⟩
end Go.Proofs.YtalalcpefggniaaGreatDoor.E

/- ast, part Sa: the reference: equal expressions, equal blocks. -/
set_option linter.unusedSimpArgs false
set_option linter.unusedVariables false
namespace Go.Proofs.YtalalcpefggniaaGreatDoor.E
open Go

theorem add_addA (ad : Addr) (i j : Nat) (h : ad.spot = none) : (ad.add i).add j = ad.add (i + j) := by
  obtain ⟨e1, e2, e3⟩ := add_parts ad i h
  obtain ⟨f1, f2, f3⟩ := add_parts (ad.add i) j e3
  obtain ⟨g1, g2, g3⟩ := add_parts ad (i + j) h
  rcases hx : (ad.add i).add j with ⟨b, o, s⟩
  rcases hy : ad.add (i + j) with ⟨b', o', s'⟩
  rw [hx] at f1 f2 f3
  rw [hy] at g1 g2 g3
  simp only at f1 f2 f3 g1 g2 g3
  subst f3 g3
  have h1 : b = b' := by omega
  have h2 : o = o' := by omega
  rw [h1, h2]
theorem Rd_ptr {m : Mem} {x : Value} {cs : List Value} (h : Rd m x cs) : isPtr x := by
  obtain ⟨ad, e, _⟩ := h
  exact ⟨ad, e⟩
/-- A part of cells that are read. -/
theorem Rd_sub {m : Mem} {x : Value} {cs : List Value} (h : Rd m x cs) (o n : Nat) (hn : o + n ≤ cs.length) : Rd m (ptrAdd x o) ((cs.drop o).take n) := by
  obtain ⟨ad, rfl, hs, hc⟩ := h
  obtain ⟨e1, e2, e3⟩ := add_parts ad o hs
  refine ⟨ad.add o, rfl, e3, fun j hj => ?_⟩
  have hl : ((cs.drop o).take n).length = n := by rw [List.length_take, List.length_drop]; omega
  rw [hl] at hj
  obtain ⟨h1, h2⟩ := hc (o + j) (by omega)
  refine ⟨by rw [add_addA ad o j hs, h1, List.getElem?_take, if_pos hj, List.getElem?_drop], by rw [e1, e2]; omega⟩
set_option maxHeartbeats 4000000 in
set_option maxRecDepth 20000 in
theorem same_all : ∀ (h : Nat) (a b : Ex) (ca cb : List Value) (m : Mem), depthE a ≤ h → exRep m a ca → exRep m b cb → Ans 30 [.v (.agg ⟨ca⟩), .v (.agg ⟨cb⟩)] m (.bool (eqE a b))
  | 0, .mk k n s c ty args, b, ca, cb, m, hd, _, _ => by simp [depthE] at hd
  | h + 1, .mk k n s c ty args, .mk k' n' s' c' ty' args', ca, cb, m, hd, ha, hb => by
    obtain ⟨x, rfl, rfl, rfl, rfl, rfl, rfl, hl, hcp, hn, xs, hr, hes⟩ := ex_parts ha
    obtain ⟨x', rfl, rfl, rfl, rfl, rfl, rfl, hl', hcp', hn', xs', hr', hes'⟩ := ex_parts hb
    simp only [depthE] at hd
    have hE := fun m' (hle : leM m m') => eqX_fact (exsRep_upM hle hes) (exsRep_upM hle hes') (f := 30) fun y hy z hz cy cz m'' hle2 r1 r2 => same_all h y z cy cz m'' (by have := depthL_mem hy; omega) r1 r2
    refine enter cfN puN Tryz.func30 rfl rfl (by kernel_rfl) rfl ?_ ?_
    · simp only [go_sem, ↓imp_tf, ↓imp_ft, ↓reduceIte, Nat.reduceBEq, Nat.reduceAdd, Nat.reduceMul, Nat.reduceSub, Nat.reduceEqDiff, Nat.reduceLT, Nat.reduceLeDiff, Option.map, Option.bind, List.map, List.length, reduceCtorEq, Option.toList, Option.getD, List.set, List.drop, List.take, Int.reduceToNat, Nd.cs]
    · simp only [go_sem, ↓imp_tf, ↓imp_ft, ↓reduceIte, Nat.reduceBEq, Nat.reduceAdd, Nat.reduceMul, Nat.reduceSub, Nat.reduceEqDiff, Nat.reduceLT, Nat.reduceLeDiff, Option.map, Option.bind, List.map, List.length, reduceCtorEq, Option.toList, Option.getD, List.set, List.drop, List.take, Int.reduceToNat, Nd.cs, eqOkT]
      have hX : eqE (Ex.mk x.k x.n x.s x.c x.ty args) (Ex.mk x'.k x'.n x'.s x'.c x'.ty args') = (decide (x.k = x'.k) && decide (x.n = x'.n) && decide (x.s = x'.s) && decide (x.c = x'.c) && Ty.eq x.ty x'.ty && (decide (args.length = args'.length) && allB args.length (atB eqE args args'))) := by rw [eqE, eqEs_all2, all2_allB]
      refine ⟨fun h => ?_, fun h => ?_⟩
      · clear hE
        rw [hX]
        simp only [Ty.eq]
        rcases h with ((((h | h) | h) | h) | h | h | h) | h
        · simp [h]
        · simp [h]
        · simp [h]
        · simp [h]
        · simp [h]
        · simp [h]
        · simp [h]
        · rw [decide_eq_false (by omega : ¬ args.length = args'.length)]; simp
      · have hll : args.length = args'.length := by clear hE; omega
        have hX2 : eqE (Ex.mk x.k x.n x.s x.c x.ty args) (Ex.mk x'.k x'.n x'.s x'.c x'.ty args') = allB args.length (atB eqE args args') := by rw [hX]; simp only [Ty.eq, h, hll, decide_true, Bool.true_and]
        clear hX
        refine WP_loop puN (fun y : Nat × Mem => ⟨[⟨2, [], .box 0 0⟩, ⟨3, [], .box 1 0⟩, ⟨5, [], .v (.int .i64 y.1)⟩], [], [⟨0, 32, x.cs.map .v⟩, ⟨1, 32, x'.cs.map .v⟩], [], 2, y.2⟩)
          (fun y => leM m y.2 ∧ y.1 ≤ x.l ∧ allB y.1 (atB eqE args args') = true) (fun y => x.l - y.1) (0, m) (by kernel_rfl) (fun _ _ => Nat.le_refl _) (fun y hy => hy.1) (fun _ => ?_) ?_ ?_ ?_
        · simp only [go_sem, ↓imp_tf, ↓imp_ft, ↓reduceIte, Nat.reduceBEq, Nat.reduceAdd, Nat.reduceMul, Nat.reduceSub, Nat.reduceEqDiff, Nat.reduceLT, Nat.reduceLeDiff, Option.map, Option.bind, List.map, List.length, reduceCtorEq, Option.toList, Option.getD, List.set, List.drop, List.take, Int.reduceToNat, Nd.cs]
        · simp only [go_sem, ↓imp_tf, ↓imp_ft, ↓reduceIte, Nat.reduceBEq, Nat.reduceAdd, Nat.reduceMul, Nat.reduceSub, Nat.reduceEqDiff, Nat.reduceLT, Nat.reduceLeDiff, Option.map, Option.bind, List.map, List.length, reduceCtorEq, Option.toList, Option.getD, List.set, List.drop, List.take, Int.reduceToNat, Nd.cs]
          rfl
        · exact ⟨.inl rfl, Nat.zero_le _, rfl⟩
        · rintro ⟨k, mm⟩ ⟨h1, h2, h3⟩
          simp only at h1 h2 h3
          have hy : ∀ (hk : k < args.length), ∃ X Y : Nd, (Rd mm (ptrAt x.a (k * 8)) X.cs ∧ x.a ≠ none) ∧ (Rd mm (ptrAt x'.a (k * 8)) Y.cs ∧ x'.a ≠ none) ∧ Ans 30 [.v (.agg ⟨X.cs⟩), .v (.agg ⟨Y.cs⟩)] mm (.bool (atB eqE args args' k)) := fun hk => by
            obtain ⟨X, Y, e1, e2, e3⟩ := hE mm h1 k hk hll
            have r1 := Rds_cells (Rds_upM h1 hr) (by omega : k < x.l)
            have r2 := Rds_cells (Rds_upM h1 hr') (by omega : k < x'.l)
            rw [e1] at r1
            rw [e2] at r2
            exact ⟨X, Y, r1, r2, e3 mm (.inl rfl)⟩
          clear hE
          simp only [go_sem, ↓imp_tf, ↓imp_ft, ↓reduceIte, Nat.reduceBEq, Nat.reduceAdd, Nat.reduceMul, Nat.reduceSub, Nat.reduceEqDiff, Nat.reduceLT, Nat.reduceLeDiff, Option.map, Option.bind, List.map, List.length, reduceCtorEq, Option.toList, Option.getD, List.set, List.drop, List.take, Int.reduceToNat, Nd.cs]
          refine ⟨fun hlt => ?_, fun hge => ?_⟩
          · have hk : k < args.length := by clear hy; omega
            refine WP_draw (.hoist 0 (.hoist 1 (.hoist 2 (.hoist 3 (.hoist 4 (.hoist 5 (.hoist 6 (.hoist 7 (.hoist 8 (.hoist 9 (.alt 10 [] (.hoist 11 .done) .stop))))))))))) puN (by kernel_rfl) (by kernel_rfl) ?_
            simp only [go_sem, ↓imp_tf, ↓imp_ft, ↓reduceIte, Nat.reduceBEq, Nat.reduceAdd, Nat.reduceMul, Nat.reduceSub, Nat.reduceEqDiff, Nat.reduceLT, Nat.reduceLeDiff, Option.map, Option.bind, List.map, List.length, reduceCtorEq, Option.toList, Option.getD, List.set, List.drop, List.take, Int.reduceToNat, Nd.cs]
            refine Exists.elim (hy hk) fun X hy1 => Exists.elim hy1 fun Y hy2 => ⟨⟨by clear hy hy1 hy2; omega, hlt, hy2.1.2⟩, X.cs, ⟨hy2.1.1, rfl⟩, ?_⟩
            clear hy hy1
            have ha := hy2.2.2
            simp only [go_sem, ↓imp_tf, ↓imp_ft, ↓reduceIte, Nat.reduceBEq, Nat.reduceAdd, Nat.reduceMul, Nat.reduceSub, Nat.reduceEqDiff, Nat.reduceLT, Nat.reduceLeDiff, Option.map, Option.bind, List.map, List.length, reduceCtorEq, Option.toList, Option.getD, List.set, List.drop, List.take, Int.reduceToNat, Nd.cs]
            refine ⟨⟨by clear hy2 ha; omega, by clear hy2 ha; omega, hy2.2.1.2⟩, Y.cs, ⟨hy2.2.1.1, rfl⟩, ?_⟩
            clear hy2
            simp only [go_sem, ↓imp_tf, ↓imp_ft, ↓reduceIte, Nat.reduceBEq, Nat.reduceAdd, Nat.reduceMul, Nat.reduceSub, Nat.reduceEqDiff, Nat.reduceLT, Nat.reduceLeDiff, Option.map, Option.bind, List.map, List.length, reduceCtorEq, Option.toList, Option.getD, List.set, List.drop, List.take, Int.reduceToNat, Nd.cs]
            refine ⟨by kernel_rfl, FnV_of ((FnH_den ha (fun V => rfl)).mono ?_)⟩
            clear ha
            rintro r H' m2 hm2 ⟨hle2, rfl, rfl⟩
            simp only [go_sem, ↓imp_tf, ↓imp_ft, ↓reduceIte, Nat.reduceBEq, Nat.reduceAdd, Nat.reduceMul, Nat.reduceSub, Nat.reduceEqDiff, Nat.reduceLT, Nat.reduceLeDiff, Option.map, Option.bind, List.map, List.length, reduceCtorEq, Option.toList, Option.getD, List.set, List.drop, List.take, Int.reduceToNat, Nd.cs]
            refine ⟨fun hb => ⟨leM_tr h1 hle2, ?_⟩, fun hb => ⟨by unfold I64; simp only [big] at hn; omega, (k + 1, m2), ⟨by simp, .inl rfl⟩, ⟨leM_tr h1 hle2, by simp only; omega, ?_⟩, by simp only; omega⟩⟩
            · rw [hX2, allB_no hk hb]
            · simp only
              rw [allB_succ, h3, hb]
              rfl
          · have : k = args.length := by clear hy; omega
            refine ⟨h1, ?_⟩
            rw [hX2, ← this, h3]
/-- The parts of two statements. -/
structure SbIt (X Y : Sd) (e e2 : St) (mm : Mem) (bT bE bB bA : Bool) : Prop where
  tg : ∀ m', leM mm m' → Ans 30 [.v (.agg ⟨X.tg.cs⟩), .v (.agg ⟨Y.tg.cs⟩)] m' (.bool bT)
  ex : ∀ m', leM mm m' → Ans 30 [.v (.agg ⟨X.ex.cs⟩), .v (.agg ⟨Y.ex.cs⟩)] m' (.bool bE)
  body : ∀ m', leM mm m' → Ans 129 [.v (.slice X.a X.l X.cp), .v (.slice Y.a Y.l Y.cp)] m' (.bool bB)
  alt : ∀ m', leM mm m' → Ans 129 [.v (.slice X.b X.l2 X.cp2), .v (.slice Y.b Y.l2 Y.cp2)] m' (.bool bA)
  eq : eqS e e2 = (decide (X.k = Y.k) && decide (X.name = Y.name) && Ty.eq X.ty Y.ty && bT && bE && bB && bA)
set_option maxHeartbeats 8000000 in
set_option maxRecDepth 20000 in
theorem sameB_all : ∀ (h : Nat) (l l2 : List St) (a : Option Addr) (n c : Nat) (a2 : Option Addr) (n2 c2 : Nat) (xs ys : List Value) (m : Mem), depthSs l ≤ h → n = l.length → n2 = l2.length → n ≤ big → n2 ≤ big → Rds m a n 23 xs → Rds m a2 n2 23 ys → stsRep m l xs → stsRep m l2 ys →
    Ans 129 [.v (.slice a n c), .v (.slice a2 n2 c2)] m (.bool (eqSs l l2)) := by
  intro h
  induction h using Nat.strongRecOn with
  | ind h ih =>
    intro l l2 a n c a2 n2 c2 xs ys m hd hl hl2 hn hn2 hr hr2 hs hs2
    have hX : eqSs l l2 = (decide (l.length = l2.length) && allB l.length (atB eqS l l2)) := by rw [eqSs_all2, all2_allB]
    refine enter cfN puN Tryz.func129 rfl rfl (by kernel_rfl) rfl ?_ ?_
    · simp only [go_sem, ↓imp_tf, ↓imp_ft, ↓reduceIte, Nat.reduceBEq, Nat.reduceAdd, Nat.reduceMul, Nat.reduceSub, Nat.reduceEqDiff, Nat.reduceLT, Nat.reduceLeDiff, Option.map, Option.bind, List.map, List.length, reduceCtorEq, Option.toList, Option.getD, List.set, List.drop, List.take, Int.reduceToNat]
    · simp only [go_sem, ↓imp_tf, ↓imp_ft, ↓reduceIte, Nat.reduceBEq, Nat.reduceAdd, Nat.reduceMul, Nat.reduceSub, Nat.reduceEqDiff, Nat.reduceLT, Nat.reduceLeDiff, Option.map, Option.bind, List.map, List.length, reduceCtorEq, Option.toList, Option.getD, List.set, List.drop, List.take, Int.reduceToNat]
      refine ⟨fun hne => ?_, fun heq => ?_⟩
      · rw [hX, decide_eq_false (by clear ih; omega : ¬ l.length = l2.length)]; rfl
      · have hll : l.length = l2.length := by clear ih; omega
        rw [decide_eq_true hll, Bool.true_and] at hX
        refine WP_loop puN (fun y : Nat × Mem => ⟨[⟨0, [], .v (.slice a n c)⟩, ⟨1, [], .v (.slice a2 n2 c2)⟩, ⟨5, [], .v (.int .i64 y.1)⟩], [], [], [], 0, y.2⟩)
          (fun y => leM m y.2 ∧ y.1 ≤ n ∧ allB y.1 (atB eqS l l2) = true) (fun y => n - y.1) (0, m) (by kernel_rfl) (fun _ _ => Nat.le_refl _) (fun y hy => hy.1) (fun _ => ?_) ?_ ?_ ?_
        · simp only [go_sem, ↓imp_tf, ↓imp_ft, ↓reduceIte, Nat.reduceBEq, Nat.reduceAdd, Nat.reduceMul, Nat.reduceSub, Nat.reduceEqDiff, Nat.reduceLT, Nat.reduceLeDiff, Option.map, Option.bind, List.map, List.length, reduceCtorEq, Option.toList, Option.getD, List.set, List.drop, List.take, Int.reduceToNat]
        · simp only [go_sem, ↓imp_tf, ↓imp_ft, ↓reduceIte, Nat.reduceBEq, Nat.reduceAdd, Nat.reduceMul, Nat.reduceSub, Nat.reduceEqDiff, Nat.reduceLT, Nat.reduceLeDiff, Option.map, Option.bind, List.map, List.length, reduceCtorEq, Option.toList, Option.getD, List.set, List.drop, List.take, Int.reduceToNat]
          rfl
        · exact ⟨.inl rfl, Nat.zero_le _, rfl⟩
        · rintro ⟨k, mm⟩ ⟨h1, h2, h3⟩
          simp only at h1 h2 h3
          have hy : ∀ (hk : k < l.length), ∃ (X Y : Sd) (bT bE bB bA : Bool) (e e2 : St), (Rd mm (ptrAt a (k * 23)) X.cs ∧ a ≠ none) ∧ (Rd mm (ptrAt a2 (k * 23)) Y.cs ∧ a2 ≠ none) ∧ SbIt X Y e e2 mm bT bE bB bA ∧ atB eqS l l2 k = eqS e e2 := fun hk => by
            have hk2 : k < l2.length := by omega
            have hrep := stRep_upM h1 (sts_at hs hk)
            have hrep2 := stRep_upM h1 (sts_at hs2 hk2)
            have hrd := Rds_cells (Rds_upM h1 hr) (by omega : k < n)
            have hrd2 := Rds_cells (Rds_upM h1 hr2) (by omega : k < n2)
            have q1 := depthSs_mem (List.getElem_mem hk)
            have hat : atB eqS l l2 k = eqS l[k] l2[k] := atB_at hk hk2
            cases he : l[k] with
            | mk k1 nm1 ty1 tg1 ex1 body1 alt1 =>
              cases he2 : l2[k] with
              | mk k2 nm2 ty2 tg2 ex2 body2 alt2 =>
                rw [he] at hrep q1 hat
                rw [he2] at hrep2 hat
                simp only [depthS] at q1
                obtain ⟨X, hX, rfl, rfl, rfl, htg, hex, hl1, hcp, hl2', hcp2, hok, zs, ws, r1, r2, s1, s2⟩ := st_parts hrep
                obtain ⟨Y, hY, rfl, rfl, rfl, htg', hex', hl1', hcp', hl2'', hcp2', hok', zs', ws', r1', r2', s1', s2'⟩ := st_parts hrep2
                rw [hX] at hrd
                rw [hY] at hrd2
                refine ⟨X, Y, _, _, _, _, _, _, hrd, hrd2, ⟨fun m' hle => same_all _ tg1 tg2 _ _ m' (Nat.le_refl _) (exRep_upM hle htg) (exRep_upM hle htg'), fun m' hle => same_all _ ex1 ex2 _ _ m' (Nat.le_refl _) (exRep_upM hle hex) (exRep_upM hle hex'), fun m' hle => ?_, fun m' hle => ?_, rfl⟩, hat⟩
                · exact ih (depthSs body1) (by omega) body1 body2 X.a X.l X.cp Y.a Y.l Y.cp zs zs' m' (Nat.le_refl _) hl1 hl1' (by rw [hl1]; exact hok.l) (by rw [hl1']; exact hok'.l) (Rds_upM hle r1) (Rds_upM hle r1') (stsRep_upM hle s1) (stsRep_upM hle s1')
                · exact ih (depthSs alt1) (by omega) alt1 alt2 X.b X.l2 X.cp2 Y.b Y.l2 Y.cp2 ws ws' m' (Nat.le_refl _) hl2' hl2'' (by rw [hl2']; exact hok.l2) (by rw [hl2'']; exact hok'.l2) (Rds_upM hle r2) (Rds_upM hle r2') (stsRep_upM hle s2) (stsRep_upM hle s2')
          clear ih
          simp only [go_sem, ↓imp_tf, ↓imp_ft, ↓reduceIte, Nat.reduceBEq, Nat.reduceAdd, Nat.reduceMul, Nat.reduceSub, Nat.reduceEqDiff, Nat.reduceLT, Nat.reduceLeDiff, Option.map, Option.bind, List.map, List.length, reduceCtorEq, Option.toList, Option.getD, List.set, List.drop, List.take, Int.reduceToNat]
          refine ⟨fun hlt => ?_, fun hge => ?_⟩
          · have hk : k < l.length := by clear hy; omega
            refine WP_draw (.hoist 0 (.hoist 1 (.hoist 2 (.hoist 3 (.hoist 4 (.hoist 5 (.hoist 6 (.hoist 7 (.alt 8 [7, 6, 5, 4, 3, 2, 1, 0] (.alt 9 [7, 6, 5, 4, 3, 2, 1, 0] (.alt 10 [7, 6, 5, 4] (.alt 11 [] .done .stop) .stop) .stop) (.alt 9 [7, 6, 5, 4, 3, 2, 1, 0] (.alt 8 [7, 6, 5, 4, 3, 2, 1, 0] (.alt 10 [7, 6, 5, 4] (.alt 11 [] .done .stop) .stop) .stop) .stop)))))))))) puN (by kernel_rfl) (by kernel_rfl) ?_
            simp only [go_sem, ↓imp_tf, ↓imp_ft, ↓reduceIte, Nat.reduceBEq, Nat.reduceAdd, Nat.reduceMul, Nat.reduceSub, Nat.reduceEqDiff, Nat.reduceLT, Nat.reduceLeDiff, Option.map, Option.bind, List.map, List.length, reduceCtorEq, Option.toList, Option.getD, List.set, List.drop, List.take, Int.reduceToNat]
            refine Exists.elim (hy hk) fun X y1 => Exists.elim y1 fun Y y2 => Exists.elim y2 fun bT y3 => Exists.elim y3 fun bE y4 => Exists.elim y4 fun bB y5 => Exists.elim y5 fun bA y6 => Exists.elim y6 fun e y7 => Exists.elim y7 fun e2 y8 => ⟨⟨by clear hy y1 y2 y3 y4 y5 y6 y7 y8; omega, hlt, y8.1.2⟩, X.cs, ⟨y8.1.1, rfl⟩, ⟨by clear hy y1 y2 y3 y4 y5 y6 y7 y8; omega, by clear hy y1 y2 y3 y4 y5 y6 y7 y8; omega, y8.2.1.2⟩, Y.cs, ⟨y8.2.1.1, rfl⟩, ?_⟩
            clear hy y1 y2 y3 y4 y5 y6 y7
            have hS := y8.2.2.1
            have hat := y8.2.2.2
            clear y8
            simp only [go_sem, ↓imp_tf, ↓imp_ft, ↓reduceIte, Nat.reduceBEq, Nat.reduceAdd, Nat.reduceMul, Nat.reduceSub, Nat.reduceEqDiff, Nat.reduceLT, Nat.reduceLeDiff, Option.map, Option.bind, List.map, List.length, reduceCtorEq, Option.toList, Option.getD, List.set, List.drop, List.take, Int.reduceToNat, Sd.cs, Nd.cs, eqOkT]
            refine ⟨?_, ?_⟩
            · refine ⟨fun he => ⟨by kernel_rfl, FnV_of ((FnH_den (hS.tg mm (.inl rfl)) (fun V => rfl)).mono ?_)⟩, fun hne => ⟨h1, ?_⟩⟩
              · have e0 : eqS e e2 = (bT && bE && bB && bA) := by rw [hS.eq]; simp only [Ty.eq, he, decide_true, Bool.true_and]
                rintro r H' m2 hm2 ⟨l2', rfl, rfl⟩
                simp only [go_sem, ↓imp_tf, ↓imp_ft, ↓reduceIte, Nat.reduceBEq, Nat.reduceAdd, Nat.reduceMul, Nat.reduceSub, Nat.reduceEqDiff, Nat.reduceLT, Nat.reduceLeDiff, Option.map, Option.bind, List.map, List.length, reduceCtorEq, Option.toList, Option.getD, List.set, List.drop, List.take, Int.reduceToNat, Sd.cs, Nd.cs]
                refine ⟨fun b1 => ⟨by kernel_rfl, FnV_of ((FnH_den (hS.ex m2 l2') (fun V => rfl)).mono ?_)⟩, fun b1 => ⟨leM_tr h1 l2', ?_⟩⟩
                · rintro r H' m3 hm3 ⟨l3, rfl, rfl⟩
                  have k3 := leM_tr l2' l3
                  simp only [go_sem, ↓imp_tf, ↓imp_ft, ↓reduceIte, Nat.reduceBEq, Nat.reduceAdd, Nat.reduceMul, Nat.reduceSub, Nat.reduceEqDiff, Nat.reduceLT, Nat.reduceLeDiff, Option.map, Option.bind, List.map, List.length, reduceCtorEq, Option.toList, Option.getD, List.set, List.drop, List.take, Int.reduceToNat, Sd.cs, Nd.cs]
                  refine ⟨fun b2 => ⟨by kernel_rfl, FnV_of ((hS.body m3 k3).mono ?_)⟩, fun b2 => ⟨leM_tr h1 k3, ?_⟩⟩
                  · rintro r H' m4 hm4 ⟨l4, rfl, rfl⟩
                    have k4 := leM_tr k3 l4
                    simp only [go_sem, ↓imp_tf, ↓imp_ft, ↓reduceIte, Nat.reduceBEq, Nat.reduceAdd, Nat.reduceMul, Nat.reduceSub, Nat.reduceEqDiff, Nat.reduceLT, Nat.reduceLeDiff, Option.map, Option.bind, List.map, List.length, reduceCtorEq, Option.toList, Option.getD, List.set, List.drop, List.take, Int.reduceToNat, Sd.cs, Nd.cs]
                    refine ⟨fun b3 => ⟨by kernel_rfl, FnV_of ((hS.alt m4 k4).mono ?_)⟩, fun b3 => ⟨leM_tr h1 k4, ?_⟩⟩
                    · rintro r H' m5 hm5 ⟨l5, rfl, rfl⟩
                      have k5 := leM_tr k4 l5
                      simp only [go_sem, ↓imp_tf, ↓imp_ft, ↓reduceIte, Nat.reduceBEq, Nat.reduceAdd, Nat.reduceMul, Nat.reduceSub, Nat.reduceEqDiff, Nat.reduceLT, Nat.reduceLeDiff, Option.map, Option.bind, List.map, List.length, reduceCtorEq, Option.toList, Option.getD, List.set, List.drop, List.take, Int.reduceToNat, Sd.cs, Nd.cs]
                      refine ⟨fun b4 => ⟨leM_tr h1 k5, ?_⟩, fun b4 => ⟨by unfold I64; simp only [big] at hn; omega, (k + 1, m5), ⟨by simp, .inl rfl⟩, ⟨leM_tr h1 k5, by simp only; omega, ?_⟩, by simp only; omega⟩⟩
                      · rw [hX, allB_no hk (by rw [hat, e0, b4, Bool.and_false])]
                      · simp only
                        rw [allB_succ, h3, hat, e0, b1, b2, b3, b4]
                        rfl
                    · rw [hX, allB_no hk (by rw [hat, e0, b3, Bool.and_false]; rfl)]
                  · rw [hX, allB_no hk (by rw [hat, e0, b2, Bool.and_false]; rfl)]
                · rw [hX, allB_no hk (by rw [hat, e0, b1]; rfl)]
              · rw [hX, allB_no hk]
                rw [hat, hS.eq]
                simp only [Ty.eq]
                clear hS
                rcases hne with (h | h) | h | h | h <;> simp [h]
            · refine ⟨fun he => ⟨by kernel_rfl, FnV_of ((FnH_den (hS.tg mm (.inl rfl)) (fun V => rfl)).mono ?_)⟩, fun hne => ⟨h1, ?_⟩⟩
              · have e0 : eqS e e2 = (bT && bE && bB && bA) := by rw [hS.eq]; simp only [Ty.eq, he, decide_true, Bool.true_and]
                rintro r H' m2 hm2 ⟨l2', rfl, rfl⟩
                simp only [go_sem, ↓imp_tf, ↓imp_ft, ↓reduceIte, Nat.reduceBEq, Nat.reduceAdd, Nat.reduceMul, Nat.reduceSub, Nat.reduceEqDiff, Nat.reduceLT, Nat.reduceLeDiff, Option.map, Option.bind, List.map, List.length, reduceCtorEq, Option.toList, Option.getD, List.set, List.drop, List.take, Int.reduceToNat, Sd.cs, Nd.cs]
                refine ⟨fun b1 => ⟨by kernel_rfl, FnV_of ((FnH_den (hS.ex m2 l2') (fun V => rfl)).mono ?_)⟩, fun b1 => ⟨leM_tr h1 l2', ?_⟩⟩
                · rintro r H' m3 hm3 ⟨l3, rfl, rfl⟩
                  have k3 := leM_tr l2' l3
                  simp only [go_sem, ↓imp_tf, ↓imp_ft, ↓reduceIte, Nat.reduceBEq, Nat.reduceAdd, Nat.reduceMul, Nat.reduceSub, Nat.reduceEqDiff, Nat.reduceLT, Nat.reduceLeDiff, Option.map, Option.bind, List.map, List.length, reduceCtorEq, Option.toList, Option.getD, List.set, List.drop, List.take, Int.reduceToNat, Sd.cs, Nd.cs]
                  refine ⟨fun b2 => ⟨by kernel_rfl, FnV_of ((hS.body m3 k3).mono ?_)⟩, fun b2 => ⟨leM_tr h1 k3, ?_⟩⟩
                  · rintro r H' m4 hm4 ⟨l4, rfl, rfl⟩
                    have k4 := leM_tr k3 l4
                    simp only [go_sem, ↓imp_tf, ↓imp_ft, ↓reduceIte, Nat.reduceBEq, Nat.reduceAdd, Nat.reduceMul, Nat.reduceSub, Nat.reduceEqDiff, Nat.reduceLT, Nat.reduceLeDiff, Option.map, Option.bind, List.map, List.length, reduceCtorEq, Option.toList, Option.getD, List.set, List.drop, List.take, Int.reduceToNat, Sd.cs, Nd.cs]
                    refine ⟨fun b3 => ⟨by kernel_rfl, FnV_of ((hS.alt m4 k4).mono ?_)⟩, fun b3 => ⟨leM_tr h1 k4, ?_⟩⟩
                    · rintro r H' m5 hm5 ⟨l5, rfl, rfl⟩
                      have k5 := leM_tr k4 l5
                      simp only [go_sem, ↓imp_tf, ↓imp_ft, ↓reduceIte, Nat.reduceBEq, Nat.reduceAdd, Nat.reduceMul, Nat.reduceSub, Nat.reduceEqDiff, Nat.reduceLT, Nat.reduceLeDiff, Option.map, Option.bind, List.map, List.length, reduceCtorEq, Option.toList, Option.getD, List.set, List.drop, List.take, Int.reduceToNat, Sd.cs, Nd.cs]
                      refine ⟨fun b4 => ⟨leM_tr h1 k5, ?_⟩, fun b4 => ⟨by unfold I64; simp only [big] at hn; omega, (k + 1, m5), ⟨by simp, .inl rfl⟩, ⟨leM_tr h1 k5, by simp only; omega, ?_⟩, by simp only; omega⟩⟩
                      · rw [hX, allB_no hk (by rw [hat, e0, b4, Bool.and_false])]
                      · simp only
                        rw [allB_succ, h3, hat, e0, b1, b2, b3, b4]
                        rfl
                    · rw [hX, allB_no hk (by rw [hat, e0, b3, Bool.and_false]; rfl)]
                  · rw [hX, allB_no hk (by rw [hat, e0, b2, Bool.and_false]; rfl)]
                · rw [hX, allB_no hk (by rw [hat, e0, b1]; rfl)]
              · rw [hX, allB_no hk]
                rw [hat, hS.eq]
                simp only [Ty.eq]
                clear hS
                rcases hne with (h | h) | h | h | h <;> simp [h]
          · have : k = l.length := by clear hy; omega
            refine ⟨h1, ?_⟩
            rw [hX, ← this, h3]
end Go.Proofs.YtalalcpefggniaaGreatDoor.E

/- ast, part Sc: the number of nodes of statements and programs. -/
set_option linter.unusedSimpArgs false
set_option linter.unusedVariables false
namespace Go.Proofs.YtalalcpefggniaaGreatDoor.E
open Go

mutual
def sizeS : St → Nat
  | .mk _ _ _ tg ex body alt => 1 + sizeE ex + sizeE tg + sizeSs body + sizeSs alt
def sizeSs : List St → Nat
  | [] => 0
  | e :: r => sizeS e + sizeSs r
end
theorem sizeSs_take : ∀ {l : List St} {k : Nat} (hk : k < l.length), sizeSs (l.take (k + 1)) = sizeSs (l.take k) + sizeS l[k]
  | [], _, hk => absurd hk (Nat.not_lt_zero _)
  | e :: r, 0, _ => by simp [sizeSs]
  | e :: r, k + 1, hk => by
    have := sizeSs_take (l := r) (k := k) (by simpa using hk)
    simp only [List.take_succ_cons, sizeSs, this, List.getElem_cons_succ, Nat.add_assoc]
theorem sizeSs_le : ∀ (l : List St) (k : Nat), sizeSs (l.take k) ≤ sizeSs l
  | [], k => by simp
  | e :: r, 0 => by simp [sizeSs]
  | e :: r, k + 1 => by
    have := sizeSs_le r k
    simp only [List.take_succ_cons, sizeSs]
    omega
theorem sizeSs_mem : ∀ {l : List St} {e : St}, e ∈ l → sizeS e ≤ sizeSs l
  | [], e, he => by cases he
  | x :: r, e, he => by
    simp only [sizeSs]
    rcases List.mem_cons.1 he with rfl | he
    · omega
    · have := sizeSs_mem he; omega
mutual
theorem depthS_size : ∀ (e : St), depthS e ≤ sizeS e
  | .mk _ _ _ tg ex body alt => by
    have h1 := depthSs_size body
    have h2 := depthSs_size alt
    simp only [depthS, sizeS]; omega
theorem depthSs_size : ∀ (l : List St), depthSs l ≤ sizeSs l
  | [] => by simp [depthSs]
  | e :: r => by
    have h1 := depthS_size e
    have h2 := depthSs_size r
    simp only [depthSs, sizeSs]; omega
end
def St.exOf : St → Ex | .mk _ _ _ _ ex _ _ => ex
def St.tgOf : St → Ex | .mk _ _ _ tg _ _ _ => tg
def St.bodyOf : St → List St | .mk _ _ _ _ _ body _ => body
def St.altOf : St → List St | .mk _ _ _ _ _ _ alt => alt
theorem sizeS_eq (e : St) : sizeS e = 1 + sizeE e.exOf + sizeE e.tgOf + sizeSs e.bodyOf + sizeSs e.altOf := by cases e; rfl
/-- A call that answers a number between bounds. -/
def AnsN (f : FuncId) (args : List SV) (m : Mem) (lo hi : Int) : Prop := FnH Tryz.prog f args ⟨[], []⟩ m fun r H' m' => leM m m' ∧ H' = ⟨[], []⟩ ∧ ∃ x : Int, r = .v (.int .i64 x) ∧ lo ≤ x ∧ x ≤ hi
theorem Rd_upM {m m' : Mem} {x : Value} {cs : List Value} (hle : leM m m') (h : Rd m x cs) : Rd m' x cs := by
  rcases hle with rfl | hle
  · exact h
  · exact Rd_up hle h
/-- The parts of one statement, as 'stmts' reads them. -/
structure StmIt (X : Sd) (e : St) (mm : Mem) (most : Int) : Prop where
  ex : ∀ m', leM mm m' → ∀ k : Int, 0 ≤ k → k ≤ 1000000 → AnsN 15 [.v (.agg ⟨X.ex.cs⟩), .v (.int .i64 k)] m' 1 (sizeE e.exOf)
  tg : ∀ m', leM mm m' → ∀ k : Int, 0 ≤ k → k ≤ 1000000 → AnsN 15 [.v (.agg ⟨X.tg.cs⟩), .v (.int .i64 k)] m' 1 (sizeE e.tgOf)
  body : ∀ m', leM mm m' → ∀ k : Int, -3000000 ≤ k → k ≤ 1000000 → AnsN 16 [.v (.slice X.a X.l X.cp), .v (.int .i64 k)] m' 0 (sizeSs e.bodyOf)
  alt : ∀ m', leM mm m' → ∀ k : Int, -3000000 ≤ k → k ≤ 1000000 → AnsN 16 [.v (.slice X.b X.l2 X.cp2), .v (.int .i64 k)] m' 0 (sizeSs e.altOf)
set_option maxHeartbeats 4000000 in
set_option maxRecDepth 20000 in
theorem stmts_all : ∀ (h : Nat) (l : List St) (a : Option Addr) (n c : Nat) (xs : List Value) (most : Int) (m : Mem), depthSs l ≤ h → sizeSs l ≤ big → -3000000 ≤ most → most ≤ 1000000 → n = l.length → n ≤ big → Rds m a n 23 xs → stsRep m l xs →
    AnsN 16 [.v (.slice a n c), .v (.int .i64 most)] m 0 (sizeSs l) := by
  intro h
  induction h using Nat.strongRecOn with
  | ind h ih =>
    intro l a n c xs most m hd hb hm0 hm1 hl hn hr hs
    refine enter cfN puN Tryz.func16 rfl rfl (by kernel_rfl) rfl ?_ ?_
    · simp only [go_sem, ↓imp_tf, ↓imp_ft, ↓reduceIte, Nat.reduceBEq, Nat.reduceAdd, Nat.reduceMul, Nat.reduceSub, Nat.reduceEqDiff, Nat.reduceLT, Nat.reduceLeDiff, Option.map, Option.bind, List.map, List.length, reduceCtorEq, Option.toList, Option.getD, List.set, List.drop, List.take, Int.reduceToNat]
    · simp only [go_sem, ↓imp_tf, ↓imp_ft, ↓reduceIte, Nat.reduceBEq, Nat.reduceAdd, Nat.reduceMul, Nat.reduceSub, Nat.reduceEqDiff, Nat.reduceLT, Nat.reduceLeDiff, Option.map, Option.bind, List.map, List.length, reduceCtorEq, Option.toList, Option.getD, List.set, List.drop, List.take, Int.reduceToNat]
      refine WP_loop puN (fun x : Nat × Int × Mem => ⟨[⟨0, [], .v (.slice a n c)⟩, ⟨1, [], .v (.int .i64 most)⟩, ⟨5, [], .v (.int .i64 x.2.1)⟩, ⟨6, [], .v (.int .i64 x.1)⟩], [], [], [], 0, x.2.2⟩)
        (fun x => leM m x.2.2 ∧ x.1 ≤ n ∧ 0 ≤ x.2.1 ∧ x.2.1 ≤ sizeSs (l.take x.1)) (fun x => n - x.1) (0, 0, m) (by kernel_rfl) (fun _ _ => Nat.le_refl _) (fun x hx => hx.1) (fun _ => ?_) ?_ ?_ ?_
      · simp only [go_sem, ↓imp_tf, ↓imp_ft, ↓reduceIte, Nat.reduceBEq, Nat.reduceAdd, Nat.reduceMul, Nat.reduceSub, Nat.reduceEqDiff, Nat.reduceLT, Nat.reduceLeDiff, Option.map, Option.bind, List.map, List.length, reduceCtorEq, Option.toList, Option.getD, List.set, List.drop, List.take, Int.reduceToNat]
      · simp only [go_sem, ↓imp_tf, ↓imp_ft, ↓reduceIte, Nat.reduceBEq, Nat.reduceAdd, Nat.reduceMul, Nat.reduceSub, Nat.reduceEqDiff, Nat.reduceLT, Nat.reduceLeDiff, Option.map, Option.bind, List.map, List.length, reduceCtorEq, Option.toList, Option.getD, List.set, List.drop, List.take, Int.reduceToNat]
        rfl
      · exact ⟨.inl rfl, Nat.zero_le _, Int.le_refl _, by simp [sizeSs]⟩
      · rintro ⟨k, x, mm⟩ ⟨h1, h2, h3, h4⟩
        simp only at h1 h2 h3 h4
        have hy : ∀ (hk : k < l.length), ∃ X : Sd, (Rd mm (ptrAt a (k * 23)) X.cs ∧ a ≠ none) ∧ StmIt X l[k] mm most := fun hk => by
          have hrep := stRep_upM h1 (sts_at hs hk)
          have hrd := Rds_cells (Rds_upM h1 hr) (by omega : k < n)
          have q1 := depthSs_mem (List.getElem_mem hk)
          have q2 := sizeSs_mem (List.getElem_mem hk)
          rw [sizeS_eq] at q2
          cases he : l[k] with
          | mk k' nm ty tg ex body alt =>
            rw [he] at hrep q1 q2
            simp only [St.exOf, St.tgOf, St.bodyOf, St.altOf] at q2
            simp only [depthS] at q1
            obtain ⟨X, hX, _, _, _, htg, hex, hl1, hcp, hl2, hcp2, hok, ys, zs, r1, r2, s1, s2⟩ := st_parts hrep
            rw [hX] at hrd
            refine ⟨X, hrd, ⟨fun m' hle k h0 h1 => exprs_all _ ex k _ m' (Nat.le_refl _) (by omega) h0 h1 (exRep_upM hle hex), fun m' hle k h0 h1 => exprs_all _ tg k _ m' (Nat.le_refl _) (by omega) h0 h1 (exRep_upM hle htg), fun m' hle k h0 h1 => ?_, fun m' hle k h0 h1 => ?_⟩⟩
            · exact ih (depthSs body) (by omega) body X.a X.l X.cp ys k m' (Nat.le_refl _) (by omega) h0 h1 hl1 (by rw [hl1]; exact hok.l) (Rds_upM hle r1) (stsRep_upM hle s1)
            · exact ih (depthSs alt) (by omega) alt X.b X.l2 X.cp2 zs k m' (Nat.le_refl _) (by omega) h0 h1 hl2 (by rw [hl2]; exact hok.l2) (Rds_upM hle r2) (stsRep_upM hle s2)
        have hst := fun (hk : k < l.length) => And.intro (sizeSs_take hk) (sizeSs_le l (k + 1))
        have hsl := sizeSs_le l k
        clear ih
        simp only [go_sem, ↓imp_tf, ↓imp_ft, ↓reduceIte, Nat.reduceBEq, Nat.reduceAdd, Nat.reduceMul, Nat.reduceSub, Nat.reduceEqDiff, Nat.reduceLT, Nat.reduceLeDiff, Option.map, Option.bind, List.map, List.length, reduceCtorEq, Option.toList, Option.getD, List.set, List.drop, List.take, Int.reduceToNat]
        refine ⟨fun hlt => ?_, fun hge => ⟨h1, h3, by clear hy hst; omega⟩⟩
        have hk : k < l.length := by clear hy hst; omega
        have hs1 := hst hk
        have hq := sizeS_eq l[k]
        clear hst
        refine Exists.elim (hy hk) fun X hy1 => ?_
        clear hy
        have hp := hy1.1.2
        have hR := fun m' (hle : leM mm m') => Rd_upM hle hy1.1.1
        have hI := hy1.2
        clear hy1
        refine ⟨⟨by clear hR hI; omega, hlt.1, hp⟩, Rd_ptr (hR mm (.inl rfl)), X.ex.cs, ⟨Rd_sub (hR mm (.inl rfl)) 13 8 (Nat.le_of_ble_eq_true rfl), rfl⟩, by clear hR hI; unfold I64; simp only [big] at hb; omega, by kernel_rfl, FnV_of ((hI.ex mm (.inl rfl) (most - x) (by clear hR hI; omega) (by clear hR hI; omega)).mono ?_)⟩
        rintro r H' m1 hm1' ⟨l1, rfl, y1, rfl, hy1, hy1'⟩
        simp only [go_sem, ↓imp_tf, ↓imp_ft, ↓reduceIte, Nat.reduceBEq, Nat.reduceAdd, Nat.reduceMul, Nat.reduceSub, Nat.reduceEqDiff, Nat.reduceLT, Nat.reduceLeDiff, Option.map, Option.bind, List.map, List.length, reduceCtorEq, Option.toList, Option.getD, List.set, List.drop, List.take, Int.reduceToNat]
        refine ⟨by clear hR hI; unfold I64; simp only [big] at hb; omega, by clear hR hI; unfold I64; simp only [big] at hb; omega, ?_⟩
        refine ⟨⟨by clear hR hI; omega, hlt.1, hp⟩, Rd_ptr (hR mm (.inl rfl)), X.tg.cs, ⟨Rd_sub (hR m1 l1) 5 8 (Nat.le_of_ble_eq_true rfl), rfl⟩, by kernel_rfl, FnV_of ((hI.tg m1 l1 most (by clear hR hI; omega) hm1).mono ?_)⟩
        rintro r H' m2 hm2' ⟨l2, rfl, y2, rfl, hy2, hy2'⟩
        have k2 := leM_tr l1 l2
        simp only [go_sem, ↓imp_tf, ↓imp_ft, ↓reduceIte, Nat.reduceBEq, Nat.reduceAdd, Nat.reduceMul, Nat.reduceSub, Nat.reduceEqDiff, Nat.reduceLT, Nat.reduceLeDiff, Option.map, Option.bind, List.map, List.length, reduceCtorEq, Option.toList, Option.getD, List.set, List.drop, List.take, Int.reduceToNat]
        refine ⟨by clear hR hI; unfold I64; simp only [big] at hb; omega, ?_⟩
        refine ⟨⟨by clear hR hI; omega, hlt.1, hp⟩, Rd_ptr (hR mm (.inl rfl)), .slice X.a X.l X.cp, Rd_sub (hR m2 k2) 21 1 (Nat.le_of_ble_eq_true rfl), by clear hR hI; unfold I64; simp only [big] at hb; omega, by kernel_rfl, FnV_of ((hI.body m2 k2 _ (by clear hR hI; simp only [big] at hb; omega) (by clear hR hI; omega)).mono ?_)⟩
        rintro r H' m3 hm3' ⟨l3, rfl, y3, rfl, hy3, hy3'⟩
        have k3 := leM_tr k2 l3
        simp only [go_sem, ↓imp_tf, ↓imp_ft, ↓reduceIte, Nat.reduceBEq, Nat.reduceAdd, Nat.reduceMul, Nat.reduceSub, Nat.reduceEqDiff, Nat.reduceLT, Nat.reduceLeDiff, Option.map, Option.bind, List.map, List.length, reduceCtorEq, Option.toList, Option.getD, List.set, List.drop, List.take, Int.reduceToNat]
        refine ⟨by clear hR hI; unfold I64; simp only [big] at hb; omega, ?_⟩
        refine ⟨⟨by clear hR hI; omega, hlt.1, hp⟩, Rd_ptr (hR mm (.inl rfl)), .slice X.b X.l2 X.cp2, Rd_sub (hR m3 k3) 22 1 (Nat.le_of_ble_eq_true rfl), by clear hR hI; unfold I64; simp only [big] at hb; omega, by kernel_rfl, FnV_of ((hI.alt m3 k3 _ (by clear hR hI; simp only [big] at hb; omega) (by clear hR hI; omega)).mono ?_)⟩
        clear hR hI
        rintro r H' m4 hm4' ⟨l4, rfl, y4, rfl, hy4, hy4'⟩
        have k4 := leM_tr k3 l4
        simp only [go_sem, ↓imp_tf, ↓imp_ft, ↓reduceIte, Nat.reduceBEq, Nat.reduceAdd, Nat.reduceMul, Nat.reduceSub, Nat.reduceEqDiff, Nat.reduceLT, Nat.reduceLeDiff, Option.map, Option.bind, List.map, List.length, reduceCtorEq, Option.toList, Option.getD, List.set, List.drop, List.take, Int.reduceToNat]
        exact ⟨by unfold I64; simp only [big] at hb; omega, by unfold I64; simp only [big] at hn; omega, (k + 1, x + (1 + y1) + y2 + y3 + y4, m4), ⟨⟨rfl, by simp⟩, .inl rfl⟩, ⟨leM_tr h1 k4, by simp only; omega, by simp only; omega, by simp only; omega⟩, by simp only; omega⟩
end Go.Proofs.YtalalcpefggniaaGreatDoor.E

/- ast, part Sd: few. -/
set_option linter.unusedSimpArgs false
set_option linter.unusedVariables false
namespace Go.Proofs.YtalalcpefggniaaGreatDoor.E
open Go

/-- The parts of a method and of a class, as 'few' reads them. -/
structure FewM (Y : Mc) (mm : Mem) : Prop where
  pl : Y.pl ≤ big
  st : ∀ m', leM mm m' → AnsN 16 [.v (.slice Y.a Y.l Y.cp), .v (.int .i64 600)] m' 0 big
structure FewC (X : Cc) (mm : Mem) : Prop where
  il : X.il ≤ big
  fn : X.fn ≤ big
  ml : X.ml ≤ big
  st : ∀ m', leM mm m' → AnsN 16 [.v (.slice X.sa X.sl X.sc), .v (.int .i64 600)] m' 0 big
  me : ∀ m', leM mm m' → ∀ j, j < X.ml → ∃ Y : Mc, (Rd m' (ptrAt X.ma (j * 8)) Y.cs ∧ X.ma ≠ none) ∧ FewM Y m'
/-- Bounded. -/
def FewB (l : List Cd) : Prop := ∀ d ∈ l, sizeSs d.init ≤ big ∧ ∀ e ∈ d.methods, sizeSs e.body ≤ big
theorem few_c {d : Cd} {cs : List Value} {m : Mem} (h : cdRep m d cs) (hB : sizeSs d.init ≤ big ∧ ∀ e ∈ d.methods, sizeSs e.body ≤ big) : ∃ X : Cc, cs = X.cs ∧ FewC X m := by
  obtain ⟨x, ⟨rfl, _, _, _⟩, ⟨hil, hic, hfn, hfc, hml, hmc, hsl, hsc⟩, hok, r1, r2, xs, ys, r3, s3, r4, s4⟩ := h
  have up : ∀ {f : FuncId} {args : List SV} {m : Mem} {lo : Int} {hi : Nat}, hi ≤ big → AnsN f args m lo hi → AnsN f args m lo big := fun hh h => h.mono fun r H' m' _ ⟨a, b, x, c, d, e⟩ => ⟨a, b, x, c, d, by omega⟩
  refine ⟨x, rfl, ⟨by rw [hil]; exact hok.il, by rw [hfn]; exact hok.fn, by rw [hml]; exact hok.ml, fun m' hle => up hB.1 (stmts_all _ d.init x.sa x.sl x.sc ys 600 m' (Nat.le_refl _) hB.1 (by decide) (by decide) hsl (by rw [hsl]; exact hok.l) (Rds_upM hle r4) (stsRep_upM hle s4)), fun m' hle j hj => ?_⟩⟩
  have hjm : j < d.methods.length := by omega
  have hrep := mdRep_up hle (ls_at s3 hjm)
  have hrd := Rds_cells (Rds_upM hle r3) hj
  have hb := hB.2 _ (List.getElem_mem hjm)
  obtain ⟨Y, ⟨e1, _⟩, ⟨e2, e3, e4, e5⟩, hk2, _, zs, r5, s5⟩ := md_parts hrep
  rw [e1] at hrd
  exact ⟨Y, hrd, ⟨by rw [e2]; exact hk2.pl, fun m2 hle2 => up hb (stmts_all _ _ Y.a Y.l Y.cp zs 600 m2 (Nat.le_refl _) hb (by decide) (by decide) e4 (by rw [e4]; exact hk2.l) (Rds_upM hle2 r5) (stsRep_upM hle2 s5))⟩⟩
set_option maxHeartbeats 4000000 in
set_option maxRecDepth 20000 in
theorem few_spec (l : List Cd) (p : Option Addr) (n c : Nat) (m : Mem) (h : prRep m l p n c) (hB : FewB l) : FnH Tryz.prog 9 [.v (.slice p n c)] ⟨[], []⟩ m fun r H' m' => leM m m' ∧ H' = ⟨[], []⟩ ∧ ∃ b : Bool, r = .v (.bool b) := by
  obtain ⟨hl, hcp, hn, xs, hr, hs⟩ := h
  refine enter cfN puN Tryz.func9 rfl rfl (by kernel_rfl) rfl ?_ ?_
  · simp only [go_sem, ↓imp_tf, ↓imp_ft, ↓reduceIte, Nat.reduceBEq, Nat.reduceAdd, Nat.reduceMul, Nat.reduceSub, Nat.reduceEqDiff, Nat.reduceLT, Nat.reduceLeDiff, Option.map, Option.bind, List.map, List.length, reduceCtorEq, Option.toList, Option.getD, List.set, List.drop, List.take, Int.reduceToNat]
  · simp only [go_sem, ↓imp_tf, ↓imp_ft, ↓reduceIte, Nat.reduceBEq, Nat.reduceAdd, Nat.reduceMul, Nat.reduceSub, Nat.reduceEqDiff, Nat.reduceLT, Nat.reduceLeDiff, Option.map, Option.bind, List.map, List.length, reduceCtorEq, Option.toList, Option.getD, List.set, List.drop, List.take, Int.reduceToNat]
    refine WP_loop puN (fun x : Nat × Int × Mem => ⟨[⟨0, [], .v (.slice p n c)⟩, ⟨3, [], .v (.int .i64 x.2.1)⟩, ⟨4, [], .v (.int .i64 x.1)⟩], [], [], [], 0, x.2.2⟩)
      (fun x => leM m x.2.2 ∧ x.1 ≤ n ∧ 0 ≤ x.2.1 ∧ x.2.1 ≤ 10000000) (fun x => n - x.1) (0, 0, m) (by kernel_rfl) (fun _ _ => Nat.le_refl _) (fun x hx => hx.1) (fun _ => ?_) ?_ ?_ ?_
    · simp only [go_sem, ↓imp_tf, ↓imp_ft, ↓reduceIte, Nat.reduceBEq, Nat.reduceAdd, Nat.reduceMul, Nat.reduceSub, Nat.reduceEqDiff, Nat.reduceLT, Nat.reduceLeDiff, Option.map, Option.bind, List.map, List.length, reduceCtorEq, Option.toList, Option.getD, List.set, List.drop, List.take, Int.reduceToNat]
    · simp only [go_sem, ↓imp_tf, ↓imp_ft, ↓reduceIte, Nat.reduceBEq, Nat.reduceAdd, Nat.reduceMul, Nat.reduceSub, Nat.reduceEqDiff, Nat.reduceLT, Nat.reduceLeDiff, Option.map, Option.bind, List.map, List.length, reduceCtorEq, Option.toList, Option.getD, List.set, List.drop, List.take, Int.reduceToNat]
      rfl
    · exact ⟨.inl rfl, Nat.zero_le _, Int.le_refl _, by simp only; omega⟩
    · rintro ⟨k, x, mm⟩ ⟨h1, h2, h3, h4⟩
      simp only at h1 h2 h3 h4
      have hy : ∀ (hk : k < l.length), ∃ X : Cc, (Rd mm (ptrAt p (k * 7)) X.cs ∧ p ≠ none) ∧ FewC X mm := fun hk => by
        have hrep := cdRep_up h1 (ls_at hs hk)
        have hrd := Rds_cells (Rds_upM h1 hr) (by omega : k < n)
        obtain ⟨X, e1, e2⟩ := few_c hrep (hB _ (List.getElem_mem hk))
        rw [e1] at hrd
        exact ⟨X, hrd, e2⟩
      simp only [go_sem, ↓imp_tf, ↓imp_ft, ↓reduceIte, Nat.reduceBEq, Nat.reduceAdd, Nat.reduceMul, Nat.reduceSub, Nat.reduceEqDiff, Nat.reduceLT, Nat.reduceLeDiff, Option.map, Option.bind, List.map, List.length, reduceCtorEq, Option.toList, Option.getD, List.set, List.drop, List.take, Int.reduceToNat]
      refine ⟨fun hlt => ?_, fun hge => ⟨h1, _, rfl⟩⟩
      have hk : k < l.length := by clear hy; omega
      refine Exists.elim (hy hk) fun X hy1 => ?_
      clear hy
      have hp := hy1.1.2
      have hR := fun m' (hle : leM mm m') => Rd_upM hle hy1.1.1
      have hI := hy1.2
      clear hy1
      refine WP_draw (.hoist 0 (.hoist 1 (.hoist 2 (.hoist 3 (.hoist 4 (.hoist 5 (.hoist 6 (.hoist 7 (.hoist 8 (.hoist 9 (.hoist 10 (.hoist 11 (.hoist 12 (.hoist 13 (.hoist 14 (.hoist 15 (.hoist 16 (.hoist 17 (.hoist 18 (.hoist 19 (.alt 20 [14, 13, 12, 11, 10, 9, 8, 7, 6, 5, 4, 3, 2, 1, 0] (.hoist 21 (.hoist 22 (.hoist 23 .done))) .stop))))))))))))))))))))) puN (by kernel_rfl) (by kernel_rfl) ?_
      simp only [go_sem, ↓imp_tf, ↓imp_ft, ↓reduceIte, Nat.reduceBEq, Nat.reduceAdd, Nat.reduceMul, Nat.reduceSub, Nat.reduceEqDiff, Nat.reduceLT, Nat.reduceLeDiff, Option.map, Option.bind, List.map, List.length, reduceCtorEq, Option.toList, Option.getD, List.set, List.drop, List.take, Int.reduceToNat]
      refine ⟨⟨by clear hR hI; omega, hlt.1, hp⟩, Rd_ptr (hR mm (.inl rfl)), .slice X.fa X.fn X.fc, Rd_sub (hR mm (.inl rfl)) 4 1 (Nat.le_of_ble_eq_true rfl), ?_⟩
      simp only [go_sem, ↓imp_tf, ↓imp_ft, ↓reduceIte, Nat.reduceBEq, Nat.reduceAdd, Nat.reduceMul, Nat.reduceSub, Nat.reduceEqDiff, Nat.reduceLT, Nat.reduceLeDiff, Option.map, Option.bind, List.map, List.length, reduceCtorEq, Option.toList, Option.getD, List.set, List.drop, List.take, Int.reduceToNat]
      have bf := hI.fn
      have bi := hI.il
      have bm := hI.ml
      simp only [big] at bf bi bm
      refine ⟨by clear hR hI; unfold I64; omega, ⟨by clear hR hI; omega, hlt.1, hp⟩, Rd_ptr (hR mm (.inl rfl)), .slice X.ia X.il X.ic, Rd_sub (hR mm (.inl rfl)) 3 1 (Nat.le_of_ble_eq_true rfl), ?_⟩
      simp only [go_sem, ↓imp_tf, ↓imp_ft, ↓reduceIte, Nat.reduceBEq, Nat.reduceAdd, Nat.reduceMul, Nat.reduceSub, Nat.reduceEqDiff, Nat.reduceLT, Nat.reduceLeDiff, Option.map, Option.bind, List.map, List.length, reduceCtorEq, Option.toList, Option.getD, List.set, List.drop, List.take, Int.reduceToNat]
      refine ⟨by clear hR hI; unfold I64; omega, ⟨by clear hR hI; omega, hlt.1, hp⟩, Rd_ptr (hR mm (.inl rfl)), .slice X.sa X.sl X.sc, Rd_sub (hR mm (.inl rfl)) 6 1 (Nat.le_of_ble_eq_true rfl), by kernel_rfl, FnV_of ((hI.st mm (.inl rfl)).mono ?_)⟩
      rintro r H' m1 hm1 ⟨l1, rfl, y1, rfl, g1, g2⟩
      simp only [big] at g2
      simp only [go_sem, ↓imp_tf, ↓imp_ft, ↓reduceIte, Nat.reduceBEq, Nat.reduceAdd, Nat.reduceMul, Nat.reduceSub, Nat.reduceEqDiff, Nat.reduceLT, Nat.reduceLeDiff, Option.map, Option.bind, List.map, List.length, reduceCtorEq, Option.toList, Option.getD, List.set, List.drop, List.take, Int.reduceToNat]
      refine ⟨by simp only [l1, and_self], by clear hR hI; unfold I64; omega, by clear hR hI; unfold I64; omega, ?_⟩
      refine WP_loop puN (fun z : Nat × Int × Mem => ⟨[⟨0, [], .v (.slice p n c)⟩, ⟨3, [], .v (.int .i64 z.2.1)⟩, ⟨4, [], .v (.int .i64 k)⟩, ⟨5, [], .v (.int .i64 z.1)⟩], [], [], [], 0, z.2.2⟩)
        (fun z => leM m1 z.2.2 ∧ z.1 ≤ X.ml ∧ 0 ≤ z.2.1 ∧ z.2.1 ≤ 10000000) (fun z => X.ml - z.1) (0, x + (1 + X.fn + X.il + y1), m1) (by kernel_rfl) (fun _ _ => Nat.le_refl _) (fun z hz => hz.1) (fun _ => ?_) ?_ ?_ ?_
      · simp only [go_sem, ↓imp_tf, ↓imp_ft, ↓reduceIte, Nat.reduceBEq, Nat.reduceAdd, Nat.reduceMul, Nat.reduceSub, Nat.reduceEqDiff, Nat.reduceLT, Nat.reduceLeDiff, Option.map, Option.bind, List.map, List.length, reduceCtorEq, Option.toList, Option.getD, List.set, List.drop, List.take, Int.reduceToNat]
      · simp only [go_sem, ↓imp_tf, ↓imp_ft, ↓reduceIte, Nat.reduceBEq, Nat.reduceAdd, Nat.reduceMul, Nat.reduceSub, Nat.reduceEqDiff, Nat.reduceLT, Nat.reduceLeDiff, Option.map, Option.bind, List.map, List.length, reduceCtorEq, Option.toList, Option.getD, List.set, List.drop, List.take, Int.reduceToNat]
        rfl
      · exact ⟨.inl rfl, Nat.zero_le _, by clear hR hI; simp only; omega, by clear hR hI; simp only; omega⟩
      · rintro ⟨j, z, mj⟩ ⟨q1, q2, q3, q4⟩
        simp only at q1 q2 q3 q4
        have kj := leM_tr l1 q1
        have hme := hI.me mj kj j
        simp only [go_sem, ↓imp_tf, ↓imp_ft, ↓reduceIte, Nat.reduceBEq, Nat.reduceAdd, Nat.reduceMul, Nat.reduceSub, Nat.reduceEqDiff, Nat.reduceLT, Nat.reduceLeDiff, Option.map, Option.bind, List.map, List.length, reduceCtorEq, Option.toList, Option.getD, List.set, List.drop, List.take, Int.reduceToNat]
        refine ⟨⟨by clear hR hI hme; omega, hlt.1, hp⟩, Rd_ptr (hR mm (.inl rfl)), .slice X.ma X.ml X.mc, Rd_sub (hR mj kj) 5 1 (Nat.le_of_ble_eq_true rfl), ?_⟩
        simp only [go_sem, ↓imp_tf, ↓imp_ft, ↓reduceIte, Nat.reduceBEq, Nat.reduceAdd, Nat.reduceMul, Nat.reduceSub, Nat.reduceEqDiff, Nat.reduceLT, Nat.reduceLeDiff, Option.map, Option.bind, List.map, List.length, reduceCtorEq, Option.toList, Option.getD, List.set, List.drop, List.take, Int.reduceToNat]
        refine ⟨fun hjt => ?_, fun hjg => ?_⟩
        · have hj : j < X.ml := by clear hR hI hme; omega
          refine Exists.elim (hme hj) fun Y hy1 => ?_
          clear hme
          have hRY := fun m' (hle : leM mj m') => Rd_upM hle hy1.1.1
          have hpY := hy1.1.2
          have hIY := hy1.2
          clear hy1
          have bp := hIY.pl
          simp only [big] at bp
          refine WP_draw (.hoist 0 (.hoist 1 (.hoist 2 (.hoist 3 (.hoist 4 (.hoist 5 (.hoist 6 (.hoist 7 (.hoist 8 (.hoist 9 (.hoist 10 (.hoist 11 (.hoist 12 (.hoist 13 (.hoist 14 (.hoist 15 (.hoist 16 (.hoist 17 (.hoist 18 (.hoist 19 (.hoist 20 (.alt 21 [11, 10, 9, 8, 7, 6, 5, 4, 3, 2, 1, 0] (.hoist 22 (.hoist 23 (.hoist 24 .done))) .stop)))))))))))))))))))))) puN (by kernel_rfl) (by kernel_rfl) ?_
          simp only [go_sem, ↓imp_tf, ↓imp_ft, ↓reduceIte, Nat.reduceBEq, Nat.reduceAdd, Nat.reduceMul, Nat.reduceSub, Nat.reduceEqDiff, Nat.reduceLT, Nat.reduceLeDiff, Option.map, Option.bind, List.map, List.length, reduceCtorEq, Option.toList, Option.getD, List.set, List.drop, List.take, Int.reduceToNat]
          refine ⟨⟨by clear hR hI hRY hIY; omega, hlt.1, hp⟩, Rd_ptr (hR mm (.inl rfl)), .slice X.ma X.ml X.mc, Rd_sub (hR mj kj) 5 1 (Nat.le_of_ble_eq_true rfl), ?_⟩
          simp only [go_sem, ↓imp_tf, ↓imp_ft, ↓reduceIte, Nat.reduceBEq, Nat.reduceAdd, Nat.reduceMul, Nat.reduceSub, Nat.reduceEqDiff, Nat.reduceLT, Nat.reduceLeDiff, Option.map, Option.bind, List.map, List.length, reduceCtorEq, Option.toList, Option.getD, List.set, List.drop, List.take, Int.reduceToNat]
          refine ⟨⟨by clear hR hI hRY hIY; omega, hjt.1, hpY⟩, Rd_ptr (hRY mj (.inl rfl)), .slice Y.pa Y.pl Y.pc, Rd_sub (hRY mj (.inl rfl)) 5 1 (Nat.le_of_ble_eq_true rfl), ?_⟩
          simp only [go_sem, ↓imp_tf, ↓imp_ft, ↓reduceIte, Nat.reduceBEq, Nat.reduceAdd, Nat.reduceMul, Nat.reduceSub, Nat.reduceEqDiff, Nat.reduceLT, Nat.reduceLeDiff, Option.map, Option.bind, List.map, List.length, reduceCtorEq, Option.toList, Option.getD, List.set, List.drop, List.take, Int.reduceToNat]
          refine ⟨by clear hR hI hRY hIY; unfold I64; omega, ⟨by clear hR hI hRY hIY; omega, hlt.1, hp⟩, Rd_ptr (hR mm (.inl rfl)), .slice X.ma X.ml X.mc, Rd_sub (hR mj kj) 5 1 (Nat.le_of_ble_eq_true rfl), ?_⟩
          simp only [go_sem, ↓imp_tf, ↓imp_ft, ↓reduceIte, Nat.reduceBEq, Nat.reduceAdd, Nat.reduceMul, Nat.reduceSub, Nat.reduceEqDiff, Nat.reduceLT, Nat.reduceLeDiff, Option.map, Option.bind, List.map, List.length, reduceCtorEq, Option.toList, Option.getD, List.set, List.drop, List.take, Int.reduceToNat]
          refine ⟨⟨by clear hR hI hRY hIY; omega, hjt.1, hpY⟩, Rd_ptr (hRY mj (.inl rfl)), .slice Y.a Y.l Y.cp, Rd_sub (hRY mj (.inl rfl)) 7 1 (Nat.le_of_ble_eq_true rfl), by kernel_rfl, FnV_of ((hIY.st mj (.inl rfl)).mono ?_)⟩
          clear hR hI hRY hIY
          rintro r H' m2 hm2 ⟨l2, rfl, y2, rfl, g3, g4⟩
          simp only [big] at g4
          simp only [go_sem, ↓imp_tf, ↓imp_ft, ↓reduceIte, Nat.reduceBEq, Nat.reduceAdd, Nat.reduceMul, Nat.reduceSub, Nat.reduceEqDiff, Nat.reduceLT, Nat.reduceLeDiff, Option.map, Option.bind, List.map, List.length, reduceCtorEq, Option.toList, Option.getD, List.set, List.drop, List.take, Int.reduceToNat]
          refine ⟨by simp only [l2, and_self], by unfold I64; omega, by unfold I64; omega, by unfold I64; omega, (j + 1, z + (1 + Y.pl + y2), m2), ⟨⟨rfl, by simp⟩, .inl rfl⟩, ⟨leM_tr q1 l2, by simp only; omega, by simp only; omega, by simp only; omega⟩, by simp only; omega⟩
        · clear hR hI hme
          exact ⟨by unfold I64; simp only [big] at hn; omega, (k + 1, z, mj), ⟨⟨rfl, by simp⟩, .inl rfl⟩, ⟨leM_tr h1 kj, by simp only; omega, q3, q4⟩, by simp only; omega⟩
end Go.Proofs.YtalalcpefggniaaGreatDoor.E

/- ast, part Sb: the reference: equal methods, classes, programs. -/
set_option linter.unusedSimpArgs false
set_option linter.unusedVariables false
namespace Go.Proofs.YtalalcpefggniaaGreatDoor.E
open Go

set_option maxHeartbeats 4000000 in
set_option maxRecDepth 20000 in
theorem sameF_all (a b : Md) (ca cb : List Value) (m : Mem) (ha : mdRep m a ca) (hb : mdRep m b cb) : Ans 128 [.v (.agg ⟨ca⟩), .v (.agg ⟨cb⟩)] m (.bool (eqM a b)) := by
  obtain ⟨fl, res, name, params, hb0, body⟩ := a
  obtain ⟨fl', res', name', params', hb0', body'⟩ := b
  obtain ⟨x, ⟨rfl, rfl, rfl, rfl, rfl⟩, ⟨hpl, hpc, hl, hcp⟩, hok, r1, xs, r2, s2⟩ := ha
  obtain ⟨x', ⟨rfl, rfl, rfl, rfl, rfl⟩, ⟨hpl', hpc', hl', hcp'⟩, hok', r1', xs', r2', s2'⟩ := hb
  simp only at hpl hl hpl' hl' r1 r1' s2 s2'
  have bp : x.pl ≤ big := by rw [hpl]; exact hok.pl
  have hB := sameB_all _ body body' x.a x.l x.cp x'.a x'.l x'.cp xs xs' m (Nat.le_refl _) hl hl' (by rw [hl]; exact hok.l) (by rw [hl']; exact hok'.l) r2 r2' s2 s2'
  clear s2 s2'
  have hX : eqM ⟨x.fl, x.res, x.name, params, x.hb, body⟩ ⟨x'.fl, x'.res, x'.name, params', x'.hb, body'⟩ = (decide (x.fl = x'.fl) && Ty.eq x.res x'.res && decide (x.name = x'.name) && (x.hb == x'.hb) && (decide (params.length = params'.length) && allB params.length (atB Pc.eq params params')) && eqSs body body') := by rw [eqM, all2_allB]
  refine enter cfN puN Tryz.func128 rfl rfl (by kernel_rfl) rfl ?_ ?_
  · simp only [go_sem, ↓imp_tf, ↓imp_ft, ↓reduceIte, Nat.reduceBEq, Nat.reduceAdd, Nat.reduceMul, Nat.reduceSub, Nat.reduceEqDiff, Nat.reduceLT, Nat.reduceLeDiff, Option.map, Option.bind, List.map, List.length, reduceCtorEq, Option.toList, Option.getD, List.set, List.drop, List.take, Int.reduceToNat, Mc.cs]
  · simp only [go_sem, ↓imp_tf, ↓imp_ft, ↓reduceIte, Nat.reduceBEq, Nat.reduceAdd, Nat.reduceMul, Nat.reduceSub, Nat.reduceEqDiff, Nat.reduceLT, Nat.reduceLeDiff, Option.map, Option.bind, List.map, List.length, reduceCtorEq, Option.toList, Option.getD, List.set, List.drop, List.take, Int.reduceToNat, Mc.cs, eqOkT]
    refine ⟨by kernel_rfl, fun h => ?_, fun h => ?_⟩
    · clear hB
      rw [hX]
      simp only [Ty.eq]
      rcases h with (((h | h | h | h) | h) | h) | h
      · simp [h]
      · simp [h]
      · simp [h]
      · simp [h]
      · simp [h]
      · simp [h]
      · rw [decide_eq_false (by omega : ¬ params.length = params'.length)]; simp
    · have hll : params.length = params'.length := by clear hB; omega
      have hX2 : eqM ⟨x.fl, x.res, x.name, params, x.hb, body⟩ ⟨x'.fl, x'.res, x'.name, params', x'.hb, body'⟩ = (allB params.length (atB Pc.eq params params') && eqSs body body') := by
        rw [hX]
        simp only [Ty.eq, h, hll, decide_true, Bool.true_and]
      clear hX
      refine WP_loop puN (fun y : Nat => ⟨[⟨2, [], .box 0 0⟩, ⟨3, [], .box 1 0⟩, ⟨5, [], .v (.int .i64 y)⟩], [], [⟨0, 58, x.cs.map .v⟩, ⟨1, 58, x'.cs.map .v⟩], [], 2, m⟩)
        (fun y => y ≤ x.pl ∧ allB y (atB Pc.eq params params') = true) (fun y => x.pl - y) 0 (by kernel_rfl) (fun _ _ => Nat.le_refl _) (fun y hy => .inl rfl) (fun _ => ?_) ?_ ?_ ?_
      · simp only [go_sem, ↓imp_tf, ↓imp_ft, ↓reduceIte, Nat.reduceBEq, Nat.reduceAdd, Nat.reduceMul, Nat.reduceSub, Nat.reduceEqDiff, Nat.reduceLT, Nat.reduceLeDiff, Option.map, Option.bind, List.map, List.length, reduceCtorEq, Option.toList, Option.getD, List.set, List.drop, List.take, Int.reduceToNat, Mc.cs]
      · simp only [go_sem, ↓imp_tf, ↓imp_ft, ↓reduceIte, Nat.reduceBEq, Nat.reduceAdd, Nat.reduceMul, Nat.reduceSub, Nat.reduceEqDiff, Nat.reduceLT, Nat.reduceLeDiff, Option.map, Option.bind, List.map, List.length, reduceCtorEq, Option.toList, Option.getD, List.set, List.drop, List.take, Int.reduceToNat, Mc.cs]
        rfl
      · exact ⟨Nat.zero_le _, rfl⟩
      · rintro k ⟨h2, h3⟩
        have hy : ∀ (hk : k < params.length) (hk' : k < params'.length), (Rd m (ptrAt x.pa (k * 4)) (params[k]).cs ∧ x.pa ≠ none) ∧ (Rd m (ptrAt x'.pa (k * 4)) (params'[k]).cs ∧ x'.pa ≠ none) ∧ atB Pc.eq params params' k = Pc.eq params[k] params'[k] := fun hk hk' => by
          have q1 := Rds_cells r1 (by omega : k < x.pl)
          have q2 := Rds_cells r1' (by omega : k < x'.pl)
          rw [flat_at (f := Pc.cs) (sz := 4) (fun _ => rfl) hk] at q1
          rw [flat_at (f := Pc.cs) (sz := 4) (fun _ => rfl) hk'] at q2
          exact ⟨q1, q2, atB_at hk hk'⟩
        simp only [go_sem, ↓imp_tf, ↓imp_ft, ↓reduceIte, Nat.reduceBEq, Nat.reduceAdd, Nat.reduceMul, Nat.reduceSub, Nat.reduceEqDiff, Nat.reduceLT, Nat.reduceLeDiff, Option.map, Option.bind, List.map, List.length, reduceCtorEq, Option.toList, Option.getD, List.set, List.drop, List.take, Int.reduceToNat, Mc.cs]
        refine ⟨fun hlt => ?_, fun hge => ?_⟩
        · have hk : k < params.length := by clear hB; omega
          have hk' : k < params'.length := by clear hB; omega
          have hy' := hy hk hk'
          clear hy hB
          refine WP_drawQ puN (by kernel_rfl) (by kernel_rfl) (by kernel_rfl) ?_
          simp only [go_sem, ↓imp_tf, ↓imp_ft, ↓reduceIte, Nat.reduceBEq, Nat.reduceAdd, Nat.reduceMul, Nat.reduceSub, Nat.reduceEqDiff, Nat.reduceLT, Nat.reduceLeDiff, Option.map, Option.bind, List.map, List.length, reduceCtorEq, Option.toList, Option.getD, List.set, List.drop, List.take, Int.reduceToNat, Mc.cs]
          refine ⟨⟨by omega, hlt, hy'.1.2⟩, (params[k]).cs, ⟨hy'.1.1, rfl⟩, ⟨by omega, by omega, hy'.2.1.2⟩, (params'[k]).cs, ⟨hy'.2.1.1, rfl⟩, ?_⟩
          have hat := hy'.2.2
          clear hy'
          simp only [go_sem, ↓imp_tf, ↓imp_ft, ↓reduceIte, Nat.reduceBEq, Nat.reduceAdd, Nat.reduceMul, Nat.reduceSub, Nat.reduceEqDiff, Nat.reduceLT, Nat.reduceLeDiff, Option.map, Option.bind, List.map, List.length, reduceCtorEq, Option.toList, Option.getD, List.set, List.drop, List.take, Int.reduceToNat, Mc.cs, Pc.cs, eqOkP]
          refine ⟨fun hne => ?_, fun he => ⟨by unfold I64; simp only [big] at bp; omega, k + 1, by simp, ⟨by omega, ?_⟩, by omega⟩⟩
          · rw [hX2, allB_no hk]
            · rfl
            · rw [hat, Pc.eq]
              rcases hne with h | h | h | h <;> simp [h]
          · rw [allB_succ, h3, hat, Pc.eq]
            simp [he]
        · clear hy
          have hkk : k = params.length := by clear hB; omega
          have hX3 := hX2
          rw [← hkk, h3, Bool.true_and] at hX3
          refine ⟨by kernel_rfl, FnV_of (hB.mono ?_)⟩
          clear hB
          rintro r H' m2 hm2 ⟨l2, rfl, rfl⟩
          simp only [go_sem, ↓imp_tf, ↓imp_ft, ↓reduceIte, Nat.reduceBEq, Nat.reduceAdd, Nat.reduceMul, Nat.reduceSub, Nat.reduceEqDiff, Nat.reduceLT, Nat.reduceLeDiff, Option.map, Option.bind, List.map, List.length, reduceCtorEq, Option.toList, Option.getD, List.set, List.drop, List.take, Int.reduceToNat, Mc.cs]
          exact ⟨l2, hX3.symm⟩
theorem list_eq2 {α : Type} [DecidableEq α] : ∀ (l l2 : List α), decide (l = l2) = all2 (fun a b => decide (a = b)) l l2
  | [], [] => rfl
  | [], _ :: _ => rfl
  | _ :: _, [] => rfl
  | a :: r, b :: t => by
    rw [all2, ← list_eq2 r t]
    by_cases h : a = b
    · subst h
      by_cases h2 : r = t
      · subst h2; simp
      · simp [h2]
    · simp [h]
set_option maxHeartbeats 8000000 in
set_option maxRecDepth 20000 in
theorem sameD_all (a b : Cd) (ca cb : List Value) (m : Mem) (ha : cdRep m a ca) (hb : cdRep m b cb) : Ans 60 [.v (.agg ⟨ca⟩), .v (.agg ⟨cb⟩)] m (.bool (eqC a b)) := by
  obtain ⟨fl, name, super, ifs, fields, methods, init⟩ := a
  obtain ⟨fl', name', super', ifs', fields', methods', init'⟩ := b
  obtain ⟨x, ⟨rfl, rfl, rfl, rfl⟩, ⟨hil, hic, hfn, hfc, hml, hmc, hsl, hsc⟩, hok, r1, r2, xs, ys, r3, s3, r4, s4⟩ := ha
  obtain ⟨x', ⟨rfl, rfl, rfl, rfl⟩, ⟨hil', hic', hfn', hfc', hml', hmc', hsl', hsc'⟩, hok', r1', r2', xs', ys', r3', s3', r4', s4'⟩ := hb
  simp only at hil hfn hml hsl r1 r2 s3 s4 hil' hfn' hml' hsl' r1' r2' s3' s4'
  have bi : x.il ≤ big := by rw [hil]; exact hok.il
  have bf : x.fn ≤ big := by rw [hfn]; exact hok.fn
  have bm : x.ml ≤ big := by rw [hml]; exact hok.ml
  have hB := fun m' (hle : leM m m') => sameB_all _ init init' x.sa x.sl x.sc x'.sa x'.sl x'.sc ys ys' m' (Nat.le_refl _) hsl hsl' (by rw [hsl]; exact hok.l) (by rw [hsl']; exact hok'.l) (Rds_upM hle r4) (Rds_upM hle r4') (stsRep_upM hle s4) (stsRep_upM hle s4')
  have hM := fun m' (hle : leM m m') => eq_fact (R := mdRep) (csN := Mc.cs) (e := eqM) (f := 128) (fun _ _ _ _ h => mdRep_up h) (fun _ _ _ => mdRep_mc) (fun i hi => mdRep_up hle (ls_at s3 hi)) (fun i hi => mdRep_up hle (ls_at s3' hi)) (fun a ha b hb ca cb m2 hle2 => sameF_all a b ca cb m2)
  clear s3 s3' s4 s4'
  have hX : eqC ⟨x.fl, x.name, x.super, ifs, fields, methods, init⟩ ⟨x'.fl, x'.name, x'.super, ifs', fields', methods', init'⟩ = (decide (x.fl = x'.fl) && decide (x.name = x'.name) && decide (x.super = x'.super) && (decide (ifs.length = ifs'.length) && allB ifs.length (atB (fun a b => decide (a = b)) ifs ifs')) && (decide (fields.length = fields'.length) && allB fields.length (atB Fc.eq fields fields')) && (decide (methods.length = methods'.length) && allB methods.length (atB eqM methods methods')) && eqSs init init') := by
    simp only [eqC]
    rw [list_eq2 ifs ifs', all2_allB, all2_allB, all2_allB]
  refine enter cfN puN Tryz.func60 rfl rfl (by kernel_rfl) rfl ?_ ?_
  · simp only [go_sem, ↓imp_tf, ↓imp_ft, ↓reduceIte, Nat.reduceBEq, Nat.reduceAdd, Nat.reduceMul, Nat.reduceSub, Nat.reduceEqDiff, Nat.reduceLT, Nat.reduceLeDiff, Option.map, Option.bind, List.map, List.length, reduceCtorEq, Option.toList, Option.getD, List.set, List.drop, List.take, Int.reduceToNat, Cc.cs]
  · simp only [go_sem, ↓imp_tf, ↓imp_ft, ↓reduceIte, Nat.reduceBEq, Nat.reduceAdd, Nat.reduceMul, Nat.reduceSub, Nat.reduceEqDiff, Nat.reduceLT, Nat.reduceLeDiff, Option.map, Option.bind, List.map, List.length, reduceCtorEq, Option.toList, Option.getD, List.set, List.drop, List.take, Int.reduceToNat, Cc.cs]
    refine ⟨fun h => ?_, fun h => ?_⟩
    · clear hB hM
      rw [hX]
      rcases h with ((((h | h) | h) | h) | h) | h
      · simp [h]
      · simp [h]
      · simp [h]
      · rw [decide_eq_false (by omega : ¬ ifs.length = ifs'.length)]; simp
      · rw [decide_eq_false (by omega : ¬ fields.length = fields'.length)]; simp
      · rw [decide_eq_false (by omega : ¬ methods.length = methods'.length)]; simp
    · have e1 : ifs.length = ifs'.length := by clear hB hM; omega
      have e2 : fields.length = fields'.length := by clear hB hM; omega
      have e3 : methods.length = methods'.length := by clear hB hM; omega
      have hX2 : eqC ⟨x.fl, x.name, x.super, ifs, fields, methods, init⟩ ⟨x'.fl, x'.name, x'.super, ifs', fields', methods', init'⟩ = (allB ifs.length (atB (fun a b => decide (a = b)) ifs ifs') && allB fields.length (atB Fc.eq fields fields') && allB methods.length (atB eqM methods methods') && eqSs init init') := by
        rw [hX]
        simp only [h, e1, e2, e3, decide_true, Bool.true_and]
      clear hX
      refine WP_loop puN (fun y : Nat => ⟨[⟨2, [], .box 0 0⟩, ⟨3, [], .box 1 0⟩, ⟨5, [], .v (.int .i64 y)⟩], [], [⟨0, 55, x.cs.map .v⟩, ⟨1, 55, x'.cs.map .v⟩], [], 2, m⟩)
        (fun y => y ≤ x.il ∧ allB y (atB (fun a b => decide (a = b)) ifs ifs') = true) (fun y => x.il - y) 0 (by kernel_rfl) (fun _ _ => Nat.le_refl _) (fun y hy => .inl rfl) (fun _ => ?_) ?_ ?_ ?_
      · simp only [go_sem, ↓imp_tf, ↓imp_ft, ↓reduceIte, Nat.reduceBEq, Nat.reduceAdd, Nat.reduceMul, Nat.reduceSub, Nat.reduceEqDiff, Nat.reduceLT, Nat.reduceLeDiff, Option.map, Option.bind, List.map, List.length, reduceCtorEq, Option.toList, Option.getD, List.set, List.drop, List.take, Int.reduceToNat, Cc.cs]
      · simp only [go_sem, ↓imp_tf, ↓imp_ft, ↓reduceIte, Nat.reduceBEq, Nat.reduceAdd, Nat.reduceMul, Nat.reduceSub, Nat.reduceEqDiff, Nat.reduceLT, Nat.reduceLeDiff, Option.map, Option.bind, List.map, List.length, reduceCtorEq, Option.toList, Option.getD, List.set, List.drop, List.take, Int.reduceToNat, Cc.cs]
        rfl
      · exact ⟨Nat.zero_le _, rfl⟩
      · rintro k ⟨h2, h3⟩
        have hy : ∀ (hk : k < ifs.length) (hk' : k < ifs'.length), (Rd m (ptrAt x.ia k) [.string (bs ifs[k])] ∧ x.ia ≠ none) ∧ (Rd m (ptrAt x'.ia k) [.string (bs ifs'[k])] ∧ x'.ia ≠ none) ∧ atB (fun a b => decide (a = b)) ifs ifs' k = decide (ifs[k] = ifs'[k]) := fun hk hk' => ⟨strs_rd r1 hk, strs_rd r1' hk', atB_at hk hk'⟩
        simp only [go_sem, ↓imp_tf, ↓imp_ft, ↓reduceIte, Nat.reduceBEq, Nat.reduceAdd, Nat.reduceMul, Nat.reduceSub, Nat.reduceEqDiff, Nat.reduceLT, Nat.reduceLeDiff, Option.map, Option.bind, List.map, List.length, reduceCtorEq, Option.toList, Option.getD, List.set, List.drop, List.take, Int.reduceToNat, Cc.cs]
        refine ⟨fun hlt => ?_, fun hge => ?_⟩
        · have hk : k < ifs.length := by clear hB hM; omega
          have hk' : k < ifs'.length := by clear hB hM; omega
          have hy' := hy hk hk'
          clear hy hB hM
          refine WP_drawQ puN (by kernel_rfl) (by kernel_rfl) (by kernel_rfl) ?_
          simp only [go_sem, ↓imp_tf, ↓imp_ft, ↓reduceIte, Nat.reduceBEq, Nat.reduceAdd, Nat.reduceMul, Nat.reduceSub, Nat.reduceEqDiff, Nat.reduceLT, Nat.reduceLeDiff, Option.map, Option.bind, List.map, List.length, reduceCtorEq, Option.toList, Option.getD, List.set, List.drop, List.take, Int.reduceToNat, Cc.cs]
          refine ⟨⟨by omega, hlt, hy'.1.2⟩, .string (bs ifs[k]), hy'.1.1, ⟨by omega, by omega, hy'.2.1.2⟩, .string (bs ifs'[k]), hy'.2.1.1, ?_⟩
          have hat := hy'.2.2
          clear hy'
          simp only [go_sem, ↓imp_tf, ↓imp_ft, ↓reduceIte, Nat.reduceBEq, Nat.reduceAdd, Nat.reduceMul, Nat.reduceSub, Nat.reduceEqDiff, Nat.reduceLT, Nat.reduceLeDiff, Option.map, Option.bind, List.map, List.length, reduceCtorEq, Option.toList, Option.getD, List.set, List.drop, List.take, Int.reduceToNat, Cc.cs]
          refine ⟨fun hne => ?_, fun he => ⟨by unfold I64; simp only [big] at bi; omega, k + 1, by simp, ⟨by omega, ?_⟩, by omega⟩⟩
          · rw [hX2, allB_no hk]
            · rfl
            · rw [hat, decide_eq_false hne]
          · rw [allB_succ, h3, hat, decide_eq_true he]
            rfl
        · clear hy
          have hk1 : k = ifs.length := by clear hB hM; omega
          have hX3 := hX2
          rw [← hk1, h3, Bool.true_and] at hX3
          clear hX2
          refine WP_loop puN (fun y : Nat => ⟨[⟨2, [], .box 0 0⟩, ⟨3, [], .box 1 0⟩, ⟨6, [], .v (.int .i64 y)⟩], [], [⟨0, 55, x.cs.map .v⟩, ⟨1, 55, x'.cs.map .v⟩], [], 2, m⟩)
            (fun y => y ≤ x.fn ∧ allB y (atB Fc.eq fields fields') = true) (fun y => x.fn - y) 0 (by kernel_rfl) (fun _ _ => Nat.le_refl _) (fun y hy => .inl rfl) (fun _ => ?_) ?_ ?_ ?_
          · simp only [go_sem, ↓imp_tf, ↓imp_ft, ↓reduceIte, Nat.reduceBEq, Nat.reduceAdd, Nat.reduceMul, Nat.reduceSub, Nat.reduceEqDiff, Nat.reduceLT, Nat.reduceLeDiff, Option.map, Option.bind, List.map, List.length, reduceCtorEq, Option.toList, Option.getD, List.set, List.drop, List.take, Int.reduceToNat, Cc.cs]
          · simp only [go_sem, ↓imp_tf, ↓imp_ft, ↓reduceIte, Nat.reduceBEq, Nat.reduceAdd, Nat.reduceMul, Nat.reduceSub, Nat.reduceEqDiff, Nat.reduceLT, Nat.reduceLeDiff, Option.map, Option.bind, List.map, List.length, reduceCtorEq, Option.toList, Option.getD, List.set, List.drop, List.take, Int.reduceToNat, Cc.cs]
            rfl
          · exact ⟨Nat.zero_le _, rfl⟩
          · rintro j ⟨q2, q3⟩
            have hy : ∀ (hk : j < fields.length) (hk' : j < fields'.length), (Rd m (ptrAt x.fa (j * 5)) (fields[j]).cs ∧ x.fa ≠ none) ∧ (Rd m (ptrAt x'.fa (j * 5)) (fields'[j]).cs ∧ x'.fa ≠ none) ∧ atB Fc.eq fields fields' j = Fc.eq fields[j] fields'[j] := fun hk hk' => by
              have q1 := Rds_cells r2 (by omega : j < x.fn)
              have q2 := Rds_cells r2' (by omega : j < x'.fn)
              rw [flat_at (f := Fc.cs) (sz := 5) (fun _ => rfl) hk] at q1
              rw [flat_at (f := Fc.cs) (sz := 5) (fun _ => rfl) hk'] at q2
              exact ⟨q1, q2, atB_at hk hk'⟩
            simp only [go_sem, ↓imp_tf, ↓imp_ft, ↓reduceIte, Nat.reduceBEq, Nat.reduceAdd, Nat.reduceMul, Nat.reduceSub, Nat.reduceEqDiff, Nat.reduceLT, Nat.reduceLeDiff, Option.map, Option.bind, List.map, List.length, reduceCtorEq, Option.toList, Option.getD, List.set, List.drop, List.take, Int.reduceToNat, Cc.cs]
            refine ⟨fun hlt => ?_, fun hge2 => ?_⟩
            · have hk : j < fields.length := by clear hB hM; omega
              have hk' : j < fields'.length := by clear hB hM; omega
              have hy' := hy hk hk'
              clear hy hB hM
              refine WP_drawQ puN (by kernel_rfl) (by kernel_rfl) (by kernel_rfl) ?_
              simp only [go_sem, ↓imp_tf, ↓imp_ft, ↓reduceIte, Nat.reduceBEq, Nat.reduceAdd, Nat.reduceMul, Nat.reduceSub, Nat.reduceEqDiff, Nat.reduceLT, Nat.reduceLeDiff, Option.map, Option.bind, List.map, List.length, reduceCtorEq, Option.toList, Option.getD, List.set, List.drop, List.take, Int.reduceToNat, Cc.cs]
              refine ⟨⟨by omega, hlt, hy'.1.2⟩, (fields[j]).cs, ⟨hy'.1.1, rfl⟩, ⟨by omega, by omega, hy'.2.1.2⟩, (fields'[j]).cs, ⟨hy'.2.1.1, rfl⟩, ?_⟩
              have hat := hy'.2.2
              clear hy'
              simp only [go_sem, ↓imp_tf, ↓imp_ft, ↓reduceIte, Nat.reduceBEq, Nat.reduceAdd, Nat.reduceMul, Nat.reduceSub, Nat.reduceEqDiff, Nat.reduceLT, Nat.reduceLeDiff, Option.map, Option.bind, List.map, List.length, reduceCtorEq, Option.toList, Option.getD, List.set, List.drop, List.take, Int.reduceToNat, Cc.cs, Fc.cs, eqOkF]
              refine ⟨fun hne => ?_, fun he => ⟨by unfold I64; simp only [big] at bf; omega, j + 1, by simp, ⟨by omega, ?_⟩, by omega⟩⟩
              · rw [hX3, allB_no hk]
                · rfl
                · rw [hat, Fc.eq]
                  rcases hne with h | h | h | h | h <;> simp [h]
              · rw [allB_succ, q3, hat, Fc.eq]
                simp [he]
            · clear hy
              have hk2 : j = fields.length := by clear hB hM; omega
              have hX4 := hX3
              rw [← hk2, q3, Bool.true_and] at hX4
              clear hX3
              refine WP_loop puN (fun y : Nat × Mem => ⟨[⟨2, [], .box 0 0⟩, ⟨3, [], .box 1 0⟩, ⟨7, [], .v (.int .i64 y.1)⟩], [], [⟨0, 55, x.cs.map .v⟩, ⟨1, 55, x'.cs.map .v⟩], [], 2, y.2⟩)
                (fun y => leM m y.2 ∧ y.1 ≤ x.ml ∧ allB y.1 (atB eqM methods methods') = true) (fun y => x.ml - y.1) (0, m) (by kernel_rfl) (fun _ _ => Nat.le_refl _) (fun y hy => hy.1) (fun _ => ?_) ?_ ?_ ?_
              · simp only [go_sem, ↓imp_tf, ↓imp_ft, ↓reduceIte, Nat.reduceBEq, Nat.reduceAdd, Nat.reduceMul, Nat.reduceSub, Nat.reduceEqDiff, Nat.reduceLT, Nat.reduceLeDiff, Option.map, Option.bind, List.map, List.length, reduceCtorEq, Option.toList, Option.getD, List.set, List.drop, List.take, Int.reduceToNat, Cc.cs]
              · simp only [go_sem, ↓imp_tf, ↓imp_ft, ↓reduceIte, Nat.reduceBEq, Nat.reduceAdd, Nat.reduceMul, Nat.reduceSub, Nat.reduceEqDiff, Nat.reduceLT, Nat.reduceLeDiff, Option.map, Option.bind, List.map, List.length, reduceCtorEq, Option.toList, Option.getD, List.set, List.drop, List.take, Int.reduceToNat, Cc.cs]
                rfl
              · exact ⟨.inl rfl, Nat.zero_le _, rfl⟩
              · rintro ⟨i, mm⟩ ⟨g1, g2, g3⟩
                simp only at g1 g2 g3
                have hy : ∀ (hk : i < methods.length), ∃ X Y : Mc, (Rd mm (ptrAt x.ma (i * 8)) X.cs ∧ x.ma ≠ none) ∧ (Rd mm (ptrAt x'.ma (i * 8)) Y.cs ∧ x'.ma ≠ none) ∧ Ans 128 [.v (.agg ⟨X.cs⟩), .v (.agg ⟨Y.cs⟩)] mm (.bool (atB eqM methods methods' i)) := fun hk => by
                  obtain ⟨X, Y, e1, e2, e3⟩ := hM mm g1 i hk e3
                  have q1 := Rds_cells (Rds_upM g1 r3) (by omega : i < x.ml)
                  have q2 := Rds_cells (Rds_upM g1 r3') (by omega : i < x'.ml)
                  rw [e1] at q1
                  rw [e2] at q2
                  exact ⟨X, Y, q1, q2, e3 mm (.inl rfl)⟩
                clear hM
                have hB' := hB mm g1
                clear hB
                simp only [go_sem, ↓imp_tf, ↓imp_ft, ↓reduceIte, Nat.reduceBEq, Nat.reduceAdd, Nat.reduceMul, Nat.reduceSub, Nat.reduceEqDiff, Nat.reduceLT, Nat.reduceLeDiff, Option.map, Option.bind, List.map, List.length, reduceCtorEq, Option.toList, Option.getD, List.set, List.drop, List.take, Int.reduceToNat, Cc.cs]
                refine ⟨fun hlt => ?_, fun hge3 => ⟨by kernel_rfl, FnV_of (hB'.mono ?_)⟩⟩
                · clear hB'
                  have hk : i < methods.length := by clear hy; omega
                  refine WP_draw (.hoist 0 (.hoist 1 (.hoist 2 (.hoist 3 (.hoist 4 (.hoist 5 (.hoist 6 (.hoist 7 (.hoist 8 (.hoist 9 (.alt 10 [] (.hoist 11 .done) .stop))))))))))) puN (by kernel_rfl) (by kernel_rfl) ?_
                  simp only [go_sem, ↓imp_tf, ↓imp_ft, ↓reduceIte, Nat.reduceBEq, Nat.reduceAdd, Nat.reduceMul, Nat.reduceSub, Nat.reduceEqDiff, Nat.reduceLT, Nat.reduceLeDiff, Option.map, Option.bind, List.map, List.length, reduceCtorEq, Option.toList, Option.getD, List.set, List.drop, List.take, Int.reduceToNat, Cc.cs]
                  refine Exists.elim (hy hk) fun X hy1 => Exists.elim hy1 fun Y hy2 => ⟨⟨by clear hy hy1 hy2; omega, hlt, hy2.1.2⟩, X.cs, ⟨hy2.1.1, rfl⟩, ⟨by clear hy hy1 hy2; omega, by clear hy hy1 hy2; omega, hy2.2.1.2⟩, Y.cs, ⟨hy2.2.1.1, rfl⟩, ?_⟩
                  clear hy hy1
                  have ha := hy2.2.2
                  clear hy2
                  simp only [go_sem, ↓imp_tf, ↓imp_ft, ↓reduceIte, Nat.reduceBEq, Nat.reduceAdd, Nat.reduceMul, Nat.reduceSub, Nat.reduceEqDiff, Nat.reduceLT, Nat.reduceLeDiff, Option.map, Option.bind, List.map, List.length, reduceCtorEq, Option.toList, Option.getD, List.set, List.drop, List.take, Int.reduceToNat, Cc.cs, Mc.cs]
                  refine ⟨by kernel_rfl, FnV_of ((FnH_den ha (fun V => rfl)).mono ?_)⟩
                  clear ha
                  rintro r H' m2 hm2 ⟨hle2, rfl, rfl⟩
                  simp only [go_sem, ↓imp_tf, ↓imp_ft, ↓reduceIte, Nat.reduceBEq, Nat.reduceAdd, Nat.reduceMul, Nat.reduceSub, Nat.reduceEqDiff, Nat.reduceLT, Nat.reduceLeDiff, Option.map, Option.bind, List.map, List.length, reduceCtorEq, Option.toList, Option.getD, List.set, List.drop, List.take, Int.reduceToNat, Cc.cs]
                  refine ⟨fun hb => ⟨leM_tr g1 hle2, ?_⟩, fun hb => ⟨by unfold I64; simp only [big] at bm; omega, (i + 1, m2), ⟨by simp, .inl rfl⟩, ⟨leM_tr g1 hle2, by simp only; omega, ?_⟩, by simp only; omega⟩⟩
                  · rw [hX4, allB_no hk hb]; rfl
                  · simp only
                    rw [allB_succ, g3, hb]
                    rfl
                · clear hy hB'
                  have hk3 : i = methods.length := by omega
                  rw [← hk3, g3, Bool.true_and] at hX4
                  rintro r H' m2 hm2 ⟨l2, rfl, rfl⟩
                  simp only [go_sem, ↓imp_tf, ↓imp_ft, ↓reduceIte, Nat.reduceBEq, Nat.reduceAdd, Nat.reduceMul, Nat.reduceSub, Nat.reduceEqDiff, Nat.reduceLT, Nat.reduceLeDiff, Option.map, Option.bind, List.map, List.length, reduceCtorEq, Option.toList, Option.getD, List.set, List.drop, List.take, Int.reduceToNat, Cc.cs]
                  exact ⟨leM_tr g1 l2, hX4.symm⟩
set_option maxHeartbeats 4000000 in
set_option maxRecDepth 20000 in
theorem rEqual_spec (a b : List Cd) (p : Option Addr) (n c : Nat) (p' : Option Addr) (n' c' : Nat) (m : Mem) (ha : prRep m a p n c) (hb : prRep m b p' n' c') : Ans 26 [.v (.slice p n c), .v (.slice p' n' c')] m (.bool (all2 eqC a b)) := by
  obtain ⟨hl, hcp, hn, xs, r1, s1⟩ := ha
  obtain ⟨hl', hcp', hn', xs', r1', s1'⟩ := hb
  have hX : all2 eqC a b = (decide (a.length = b.length) && allB a.length (atB eqC a b)) := all2_allB _ _ _
  have hM := fun m' (hle : leM m m') => eq_fact (R := cdRep) (csN := Cc.cs) (e := eqC) (f := 60) (fun _ _ _ _ h => cdRep_up h) (fun _ _ _ => cdRep_cc) (fun i hi => cdRep_up hle (ls_at s1 hi)) (fun i hi => cdRep_up hle (ls_at s1' hi)) (fun a ha b hb ca cb m2 hle2 => sameD_all a b ca cb m2)
  clear s1 s1'
  refine enter cfN puN Tryz.func26 rfl rfl (by kernel_rfl) rfl ?_ ?_
  · simp only [go_sem, ↓imp_tf, ↓imp_ft, ↓reduceIte, Nat.reduceBEq, Nat.reduceAdd, Nat.reduceMul, Nat.reduceSub, Nat.reduceEqDiff, Nat.reduceLT, Nat.reduceLeDiff, Option.map, Option.bind, List.map, List.length, reduceCtorEq, Option.toList, Option.getD, List.set, List.drop, List.take, Int.reduceToNat]
  · simp only [go_sem, ↓imp_tf, ↓imp_ft, ↓reduceIte, Nat.reduceBEq, Nat.reduceAdd, Nat.reduceMul, Nat.reduceSub, Nat.reduceEqDiff, Nat.reduceLT, Nat.reduceLeDiff, Option.map, Option.bind, List.map, List.length, reduceCtorEq, Option.toList, Option.getD, List.set, List.drop, List.take, Int.reduceToNat]
    refine ⟨fun hne => ?_, fun heq => ?_⟩
    · rw [hX, decide_eq_false (by clear hM; omega : ¬ a.length = b.length)]; rfl
    · have hll : a.length = b.length := by clear hM; omega
      rw [decide_eq_true hll, Bool.true_and] at hX
      refine WP_loop puN (fun y : Nat × Mem => ⟨[⟨0, [], .v (.slice p n c)⟩, ⟨1, [], .v (.slice p' n' c')⟩, ⟨5, [], .v (.int .i64 y.1)⟩], [], [], [], 0, y.2⟩)
        (fun y => leM m y.2 ∧ y.1 ≤ n ∧ allB y.1 (atB eqC a b) = true) (fun y => n - y.1) (0, m) (by kernel_rfl) (fun _ _ => Nat.le_refl _) (fun y hy => hy.1) (fun _ => ?_) ?_ ?_ ?_
      · simp only [go_sem, ↓imp_tf, ↓imp_ft, ↓reduceIte, Nat.reduceBEq, Nat.reduceAdd, Nat.reduceMul, Nat.reduceSub, Nat.reduceEqDiff, Nat.reduceLT, Nat.reduceLeDiff, Option.map, Option.bind, List.map, List.length, reduceCtorEq, Option.toList, Option.getD, List.set, List.drop, List.take, Int.reduceToNat]
      · simp only [go_sem, ↓imp_tf, ↓imp_ft, ↓reduceIte, Nat.reduceBEq, Nat.reduceAdd, Nat.reduceMul, Nat.reduceSub, Nat.reduceEqDiff, Nat.reduceLT, Nat.reduceLeDiff, Option.map, Option.bind, List.map, List.length, reduceCtorEq, Option.toList, Option.getD, List.set, List.drop, List.take, Int.reduceToNat]
        rfl
      · exact ⟨.inl rfl, Nat.zero_le _, rfl⟩
      · rintro ⟨k, mm⟩ ⟨h1, h2, h3⟩
        simp only at h1 h2 h3
        have hy : ∀ (hk : k < a.length), ∃ X Y : Cc, (Rd mm (ptrAt p (k * 7)) X.cs ∧ p ≠ none) ∧ (Rd mm (ptrAt p' (k * 7)) Y.cs ∧ p' ≠ none) ∧ Ans 60 [.v (.agg ⟨X.cs⟩), .v (.agg ⟨Y.cs⟩)] mm (.bool (atB eqC a b k)) := fun hk => by
          obtain ⟨X, Y, e1, e2, e3⟩ := hM mm h1 k hk hll
          have q1 := Rds_cells (Rds_upM h1 r1) (by omega : k < n)
          have q2 := Rds_cells (Rds_upM h1 r1') (by omega : k < n')
          rw [e1] at q1
          rw [e2] at q2
          exact ⟨X, Y, q1, q2, e3 mm (.inl rfl)⟩
        clear hM
        simp only [go_sem, ↓imp_tf, ↓imp_ft, ↓reduceIte, Nat.reduceBEq, Nat.reduceAdd, Nat.reduceMul, Nat.reduceSub, Nat.reduceEqDiff, Nat.reduceLT, Nat.reduceLeDiff, Option.map, Option.bind, List.map, List.length, reduceCtorEq, Option.toList, Option.getD, List.set, List.drop, List.take, Int.reduceToNat]
        refine ⟨fun hlt => ?_, fun hge => ?_⟩
        · have hk : k < a.length := by clear hy; omega
          refine WP_draw (.hoist 0 (.hoist 1 (.hoist 2 (.hoist 3 (.hoist 4 (.hoist 5 (.hoist 6 (.hoist 7 (.alt 8 [] (.hoist 9 .done) .stop))))))))) puN (by kernel_rfl) (by kernel_rfl) ?_
          simp only [go_sem, ↓imp_tf, ↓imp_ft, ↓reduceIte, Nat.reduceBEq, Nat.reduceAdd, Nat.reduceMul, Nat.reduceSub, Nat.reduceEqDiff, Nat.reduceLT, Nat.reduceLeDiff, Option.map, Option.bind, List.map, List.length, reduceCtorEq, Option.toList, Option.getD, List.set, List.drop, List.take, Int.reduceToNat]
          refine Exists.elim (hy hk) fun X hy1 => Exists.elim hy1 fun Y hy2 => ⟨⟨by clear hy hy1 hy2; omega, hlt, hy2.1.2⟩, X.cs, ⟨hy2.1.1, rfl⟩, ⟨by clear hy hy1 hy2; omega, by clear hy hy1 hy2; omega, hy2.2.1.2⟩, Y.cs, ⟨hy2.2.1.1, rfl⟩, ?_⟩
          clear hy hy1
          have ha := hy2.2.2
          clear hy2
          simp only [go_sem, ↓imp_tf, ↓imp_ft, ↓reduceIte, Nat.reduceBEq, Nat.reduceAdd, Nat.reduceMul, Nat.reduceSub, Nat.reduceEqDiff, Nat.reduceLT, Nat.reduceLeDiff, Option.map, Option.bind, List.map, List.length, reduceCtorEq, Option.toList, Option.getD, List.set, List.drop, List.take, Int.reduceToNat, Cc.cs]
          refine ⟨by kernel_rfl, FnV_of ((FnH_den ha (fun V => rfl)).mono ?_)⟩
          clear ha
          rintro r H' m2 hm2 ⟨hle2, rfl, rfl⟩
          simp only [go_sem, ↓imp_tf, ↓imp_ft, ↓reduceIte, Nat.reduceBEq, Nat.reduceAdd, Nat.reduceMul, Nat.reduceSub, Nat.reduceEqDiff, Nat.reduceLT, Nat.reduceLeDiff, Option.map, Option.bind, List.map, List.length, reduceCtorEq, Option.toList, Option.getD, List.set, List.drop, List.take, Int.reduceToNat, Cc.cs]
          refine ⟨fun hb => ⟨leM_tr h1 hle2, ?_⟩, fun hb => ⟨by unfold I64; simp only [big] at hn; omega, (k + 1, m2), ⟨by simp, .inl rfl⟩, ⟨leM_tr h1 hle2, by simp only; omega, ?_⟩, by simp only; omega⟩⟩
          · rw [hX, allB_no hk hb]
          · simp only
            rw [allB_succ, h3, hb]
            rfl
        · have : k = a.length := by clear hy; omega
          refine ⟨h1, ?_⟩
          rw [hX, ← this, h3]
end Go.Proofs.YtalalcpefggniaaGreatDoor.E

/- ast, part Se: the law on equality. -/
set_option linter.unusedSimpArgs false
set_option linter.unusedVariables false
namespace Go.Proofs.YtalalcpefggniaaGreatDoor.E
open Go

theorem Ty.eq_self (x : Ty) : Ty.eq x x = true := by simp [Ty.eq]
theorem dec_comm {α : Type} [DecidableEq α] (a b : α) : decide (a = b) = decide (b = a) := by rw [decide_eq_decide]; exact eq_comm
theorem Ty.eq_comm (x y : Ty) : Ty.eq x y = Ty.eq y x := by rw [Ty.eq, Ty.eq, dec_comm x.dim, dec_comm x.base, dec_comm x.name]
mutual
theorem eqE_self : ∀ (e : Ex), eqE e e = true
  | .mk k n s c ty args => by rw [eqE, Ty.eq_self, eqEs_self args]; simp
theorem eqEs_self : ∀ (l : List Ex), eqEs l l = true
  | [] => by simp only [eqEs]
  | e :: r => by rw [eqEs, eqE_self e, eqEs_self r]; rfl
end
mutual
theorem eqE_comm : ∀ (e f : Ex), eqE e f = eqE f e
  | .mk k n s c ty args, .mk k' n' s' c' ty' args' => by rw [eqE, eqE, Ty.eq_comm, eqEs_comm args args', dec_comm k, dec_comm n, dec_comm s, dec_comm c]
theorem eqEs_comm : ∀ (l m : List Ex), eqEs l m = eqEs m l
  | [], [] => rfl
  | [], _ :: _ => by simp only [eqEs]
  | _ :: _, [] => by simp only [eqEs]
  | e :: r, f :: t => by rw [eqEs, eqEs, eqE_comm e f, eqEs_comm r t]
end
mutual
theorem eqS_self : ∀ (e : St), eqS e e = true
  | .mk k nm ty tg ex body alt => by rw [eqS, Ty.eq_self, eqE_self, eqE_self, eqSs_self body, eqSs_self alt]; simp
theorem eqSs_self : ∀ (l : List St), eqSs l l = true
  | [] => by simp only [eqSs]
  | e :: r => by rw [eqSs, eqS_self e, eqSs_self r]; rfl
end
mutual
theorem eqS_comm : ∀ (e f : St), eqS e f = eqS f e
  | .mk k nm ty tg ex body alt, .mk k' nm' ty' tg' ex' body' alt' => by rw [eqS, eqS, Ty.eq_comm, eqE_comm tg, eqE_comm ex, eqSs_comm body body', eqSs_comm alt alt', dec_comm k, dec_comm nm]
theorem eqSs_comm : ∀ (l m : List St), eqSs l m = eqSs m l
  | [], [] => rfl
  | [], _ :: _ => by simp only [eqSs]
  | _ :: _, [] => by simp only [eqSs]
  | e :: r, f :: t => by rw [eqSs, eqSs, eqS_comm e f, eqSs_comm r t]
end
theorem all2_self {α : Type} {e : α → α → Bool} (h : ∀ a, e a a = true) : ∀ (l : List α), all2 e l l = true
  | [] => rfl
  | a :: r => by rw [all2, h, all2_self h r]; rfl
theorem all2_comm {α : Type} {e : α → α → Bool} (h : ∀ a b, e a b = e b a) : ∀ (l m : List α), all2 e l m = all2 e m l
  | [], [] => rfl
  | [], _ :: _ => rfl
  | _ :: _, [] => rfl
  | a :: r, b :: t => by rw [all2, all2, h a b, all2_comm h r t]
theorem Pc.eq_self (p : Pc) : Pc.eq p p = true := by simp [Pc.eq]
theorem Fc.eq_self (p : Fc) : Fc.eq p p = true := by simp [Fc.eq]
theorem Pc.eq_comm (p q : Pc) : Pc.eq p q = Pc.eq q p := by rw [Pc.eq, Pc.eq, dec_comm p.ty.dim, dec_comm p.ty.base, dec_comm p.ty.name, dec_comm p.name]
theorem Fc.eq_comm (p q : Fc) : Fc.eq p q = Fc.eq q p := by rw [Fc.eq, Fc.eq, dec_comm p.fl, dec_comm p.ty.dim, dec_comm p.ty.base, dec_comm p.ty.name, dec_comm p.name]
theorem eqM_self (x : Md) : eqM x x = true := by rw [eqM, Ty.eq_self, all2_self Pc.eq_self, eqSs_self]; simp
theorem eqM_comm (x y : Md) : eqM x y = eqM y x := by
  rw [eqM, eqM, Ty.eq_comm, all2_comm Pc.eq_comm, eqSs_comm x.body, dec_comm x.fl, dec_comm x.name]
  have : (x.hb == y.hb) = (y.hb == x.hb) := by cases x.hb <;> cases y.hb <;> rfl
  rw [this]
theorem eqC_self (x : Cd) : eqC x x = true := by rw [eqC, all2_self Fc.eq_self, all2_self eqM_self, eqSs_self]; simp
theorem eqC_comm (x y : Cd) : eqC x y = eqC y x := by
  rw [eqC, eqC, all2_comm Fc.eq_comm, all2_comm eqM_comm, eqSs_comm x.init, dec_comm x.fl, dec_comm x.name, dec_comm x.super, dec_comm x.ifs]
set_option maxHeartbeats 4000000 in
set_option maxRecDepth 20000 in
theorem same_spec (a b : List Cd) (p : Option Addr) (n c : Nat) (p' : Option Addr) (n' c' : Nat) (m : Mem) (hg : Glob m) (ha : prRep m a p n c) (hb : prRep m b p' n' c') (hfa : FewB a) (hfb : FewB b) : Ans 5 [.v (.slice p n c), .v (.slice p' n' c')] m (.bool true) := by
  have hF1 := few_spec a p n c m ha hfa
  have hF2 := fun m' (hle : leM m m') => few_spec b p' n' c' m' (prRep_up hle hb) hfb
  have hA := fun m' (hle : leM m m') => awake_spec m' (hg.upM hle)
  have hE := fun m' (hle : leM m m') => equal_spec a b p n c p' n' c' m' (prRep_up hle ha) (prRep_up hle hb)
  have hR := fun m' (hle : leM m m') => rEqual_spec a b p n c p' n' c' m' (prRep_up hle ha) (prRep_up hle hb)
  have hS := fun m' (hle : leM m m') => equal_spec a a p n c p n c m' (prRep_up hle ha) (prRep_up hle ha)
  have hC := fun m' (hle : leM m m') => equal_spec b a p' n' c' p n c m' (prRep_up hle hb) (prRep_up hle ha)
  rw [all2_self eqC_self] at hS
  rw [all2_comm eqC_comm b a] at hC
  refine enter cfN puN Tryz.func5 rfl rfl (by kernel_rfl) rfl ?_ ?_
  · simp only [go_sem, ↓imp_tf, ↓imp_ft, ↓reduceIte, Nat.reduceBEq, Nat.reduceAdd, Nat.reduceMul, Nat.reduceSub, Nat.reduceEqDiff, Nat.reduceLT, Nat.reduceLeDiff, Option.map, Option.bind, List.map, List.length, reduceCtorEq, Option.toList, Option.getD, List.set, List.drop, List.take, Int.reduceToNat]
  · simp only [go_sem, ↓imp_tf, ↓imp_ft, ↓reduceIte, Nat.reduceBEq, Nat.reduceAdd, Nat.reduceMul, Nat.reduceSub, Nat.reduceEqDiff, Nat.reduceLT, Nat.reduceLeDiff, Option.map, Option.bind, List.map, List.length, reduceCtorEq, Option.toList, Option.getD, List.set, List.drop, List.take, Int.reduceToNat]
    refine ⟨by kernel_rfl, FnV_of (hF1.mono ?_)⟩
    clear hF1
    rintro r H' m1 hm1 ⟨l1, rfl, b1, rfl⟩
    simp only [go_sem, ↓imp_tf, ↓imp_ft, ↓reduceIte, Nat.reduceBEq, Nat.reduceAdd, Nat.reduceMul, Nat.reduceSub, Nat.reduceEqDiff, Nat.reduceLT, Nat.reduceLeDiff, Option.map, Option.bind, List.map, List.length, reduceCtorEq, Option.toList, Option.getD, List.set, List.drop, List.take, Int.reduceToNat]
    have aw : ∀ m', leM m m' → ∀ {K : SV → Hp → Mem → Prop}, (∀ r H' m2, m'.le m2 → leM m' m2 ∧ H' = ⟨[], []⟩ ∧ r = .v (.bool true) → K r H' m2) → FnV (.mk (k := (Tryz.prog, 10, K)) ([], ⟨[], []⟩, m')) := fun m' hle K h => FnV_of ((hA m' hle).mono h)
    refine ⟨fun c1 => ⟨by kernel_rfl, FnV_of ((hF2 m1 l1).mono ?_)⟩, fun c1 => ⟨by kernel_rfl, aw m1 l1 ?_⟩⟩
    · clear hF2
      rintro r H' m2 hm2 ⟨l2, rfl, b2, rfl⟩
      have k2 := leM_tr l1 l2
      simp only [go_sem, ↓imp_tf, ↓imp_ft, ↓reduceIte, Nat.reduceBEq, Nat.reduceAdd, Nat.reduceMul, Nat.reduceSub, Nat.reduceEqDiff, Nat.reduceLT, Nat.reduceLeDiff, Option.map, Option.bind, List.map, List.length, reduceCtorEq, Option.toList, Option.getD, List.set, List.drop, List.take, Int.reduceToNat]
      refine ⟨fun c2 => ⟨by kernel_rfl, aw m2 k2 ?_⟩, fun c2 => ⟨by kernel_rfl, aw m2 k2 ?_⟩⟩
      · rintro r H' m3 hm3 ⟨l3, rfl, rfl⟩
        simp only [go_sem, ↓imp_tf, ↓imp_ft, ↓reduceIte, Nat.reduceBEq, Nat.reduceAdd, Nat.reduceMul, Nat.reduceSub, Nat.reduceEqDiff, Nat.reduceLT, Nat.reduceLeDiff, Option.map, Option.bind, List.map, List.length, reduceCtorEq, Option.toList, Option.getD, List.set, List.drop, List.take, Int.reduceToNat]
        exact leM_tr k2 l3
      · clear aw hA
        rintro r H' m3 hm3 ⟨l3, rfl, rfl⟩
        have k3 := leM_tr k2 l3
        simp only [go_sem, ↓imp_tf, ↓imp_ft, ↓reduceIte, Nat.reduceBEq, Nat.reduceAdd, Nat.reduceMul, Nat.reduceSub, Nat.reduceEqDiff, Nat.reduceLT, Nat.reduceLeDiff, Option.map, Option.bind, List.map, List.length, reduceCtorEq, Option.toList, Option.getD, List.set, List.drop, List.take, Int.reduceToNat]
        refine ⟨by kernel_rfl, FnV_of ((hE m3 k3).mono ?_)⟩
        rintro r H' m4 hm4 ⟨l4, rfl, rfl⟩
        have k4 := leM_tr k3 l4
        simp only [go_sem, ↓imp_tf, ↓imp_ft, ↓reduceIte, Nat.reduceBEq, Nat.reduceAdd, Nat.reduceMul, Nat.reduceSub, Nat.reduceEqDiff, Nat.reduceLT, Nat.reduceLeDiff, Option.map, Option.bind, List.map, List.length, reduceCtorEq, Option.toList, Option.getD, List.set, List.drop, List.take, Int.reduceToNat]
        refine ⟨by kernel_rfl, FnV_of ((hR m4 k4).mono ?_)⟩
        clear hR
        rintro r H' m5 hm5 ⟨l5, rfl, rfl⟩
        have k5 := leM_tr k4 l5
        simp only [go_sem, ↓imp_tf, ↓imp_ft, ↓reduceIte, Nat.reduceBEq, Nat.reduceAdd, Nat.reduceMul, Nat.reduceSub, Nat.reduceEqDiff, Nat.reduceLT, Nat.reduceLeDiff, Option.map, Option.bind, List.map, List.length, reduceCtorEq, Option.toList, Option.getD, List.set, List.drop, List.take, Int.reduceToNat]
        refine ⟨by kernel_rfl, by kernel_rfl, FnV_of ((hS m5 k5).mono ?_)⟩
        clear hS
        rintro r H' m6 hm6 ⟨l6, rfl, rfl⟩
        have k6 := leM_tr k5 l6
        simp only [go_sem, ↓imp_tf, ↓imp_ft, ↓reduceIte, Nat.reduceBEq, Nat.reduceAdd, Nat.reduceMul, Nat.reduceSub, Nat.reduceEqDiff, Nat.reduceLT, Nat.reduceLeDiff, Option.map, Option.bind, List.map, List.length, reduceCtorEq, Option.toList, Option.getD, List.set, List.drop, List.take, Int.reduceToNat]
        refine ⟨by kernel_rfl, FnV_of ((hE m6 k6).mono ?_)⟩
        clear hE
        rintro r H' m7 hm7 ⟨l7, rfl, rfl⟩
        have k7 := leM_tr k6 l7
        simp only [go_sem, ↓imp_tf, ↓imp_ft, ↓reduceIte, Nat.reduceBEq, Nat.reduceAdd, Nat.reduceMul, Nat.reduceSub, Nat.reduceEqDiff, Nat.reduceLT, Nat.reduceLeDiff, Option.map, Option.bind, List.map, List.length, reduceCtorEq, Option.toList, Option.getD, List.set, List.drop, List.take, Int.reduceToNat]
        refine ⟨by kernel_rfl, FnV_of ((hC m7 k7).mono ?_)⟩
        clear hC
        rintro r H' m8 hm8 ⟨l8, rfl, rfl⟩
        have k8 := leM_tr k7 l8
        simp only [go_sem, ↓imp_tf, ↓imp_ft, ↓reduceIte, Nat.reduceBEq, Nat.reduceAdd, Nat.reduceMul, Nat.reduceSub, Nat.reduceEqDiff, Nat.reduceLT, Nat.reduceLeDiff, Option.map, Option.bind, List.map, List.length, reduceCtorEq, Option.toList, Option.getD, List.set, List.drop, List.take, Int.reduceToNat]
        exact ⟨by kernel_rfl, k8⟩
    · rintro r H' m2 hm2 ⟨l2, rfl, rfl⟩
      simp only [go_sem, ↓imp_tf, ↓imp_ft, ↓reduceIte, Nat.reduceBEq, Nat.reduceAdd, Nat.reduceMul, Nat.reduceSub, Nat.reduceEqDiff, Nat.reduceLT, Nat.reduceLeDiff, Option.map, Option.bind, List.map, List.length, reduceCtorEq, Option.toList, Option.getD, List.set, List.drop, List.take, Int.reduceToNat]
      exact leM_tr l1 l2
end Go.Proofs.YtalalcpefggniaaGreatDoor.E

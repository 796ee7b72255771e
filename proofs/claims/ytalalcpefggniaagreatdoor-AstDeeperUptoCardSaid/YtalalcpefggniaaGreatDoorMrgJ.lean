/- ast, part Z: the law on negations. -/
import Derived.Test.YtalalcpefggniaaGreatDoorMrgI
set_option linter.unusedSimpArgs false
set_option linter.unusedVariables false
namespace Go.Proofs.YtalalcpefggniaaGreatDoor.E
open Go

theorem joinL_len (ts : List Tk) : (joinL ts).1.length ≤ 20000 := by
  unfold joinL
  split
  · simp
  · split
    · simp
    · split
      · simp
      · simp only; omega
theorem fmt_len (e : Ex) : (fmtE e).1.length ≤ 20000 := by
  unfold fmtE
  split
  · split
    · simp
    · exact joinL_len _
  · simp
set_option maxHeartbeats 4000000 in
set_option maxRecDepth 20000 in
theorem deeper_spec (e : Ex) (cs : List Value) (m : Mem) (hg : Glob m) (hrep : exRep m e cs) (hsz : sizeE e + 1 ≤ big) (hdp : depthE e + 1 ≤ big) : Ans 8 [.v (.agg ⟨cs⟩)] m (.bool true) := by
  obtain ⟨x, rfl⟩ := exRep_nd hrep
  have hE := exprs_all _ e 300 x.cs m (Nat.le_refl _) (by omega) (by decide) (by decide) hrep
  have hA := fun m' (hle : leM m m') => awake_spec m' (hg.upM hle)
  have hF := fun m' (hle : leM m m') => fexpr_spec e x.cs m' (hg.upM hle) (exRep_upM hle hrep) (by omega) (by omega)
  have hF2 := fun m' (hle : leM m m') (a : Option Addr) (c : Nat) (hc : 1 ≤ c) (hr : Rds m' a 1 8 x.cs) => fexpr_spec (negE e) _ m' (hg.upM hle) (neg_rep hc (exRep_upM hle hrep) hr) (by rw [size_neg]; exact hsz) (by rw [depth_neg]; exact hdp)
  have hD := fun m' (hle : leM m m') => depth_all _ e x.cs m' (Nat.le_refl _) (by omega) (exRep_upM hle hrep)
  have hD2 := fun m' (hle : leM m m') (a : Option Addr) (c : Nat) (hc : 1 ≤ c) (hr : Rds m' a 1 8 x.cs) => depth_all _ (negE e) _ m' (Nat.le_refl _) (by rw [depth_neg]; exact hdp) (neg_rep hc (exRep_upM hle hrep) hr)
  have hV := fun m' (hle : leM m m') => valid_all _ e x.cs m' (Nat.le_refl _) (hg.upM hle) (exRep_upM hle hrep)
  have hV2 := fun m' (hle : leM m m') (a : Option Addr) (c : Nat) (hc : 1 ≤ c) (hr : Rds m' a 1 8 x.cs) => valid_all _ (negE e) _ m' (Nat.le_refl _) (hg.upM hle) (neg_rep hc (exRep_upM hle hrep) hr)
  rw [depth_neg] at hD2
  rw [valid_neg] at hV2
  obtain ⟨d1, d2⟩ := deeper e
  have hl := fmt_len e
  refine enter cfW puW Tryz.func8 rfl rfl (by kernel_rfl) rfl ?_ ?_
  · simp only [go_sem, ↓imp_tf, ↓imp_ft, ↓reduceIte, Nat.reduceBEq, Nat.reduceAdd, Nat.reduceMul, Nat.reduceSub, Nat.reduceEqDiff, Nat.reduceLT, Nat.reduceLeDiff, Option.map, Option.bind, List.map, List.length, reduceCtorEq, Option.toList, Option.getD, List.set, List.drop, List.take, Int.reduceToNat, Nd.cs]
  · simp only [go_sem, ↓imp_tf, ↓imp_ft, ↓reduceIte, Nat.reduceBEq, Nat.reduceAdd, Nat.reduceMul, Nat.reduceSub, Nat.reduceEqDiff, Nat.reduceLT, Nat.reduceLeDiff, Option.map, Option.bind, List.map, List.length, reduceCtorEq, Option.toList, Option.getD, List.set, List.drop, List.take, Int.reduceToNat, Nd.cs]
    refine ⟨by kernel_rfl, FnV_of ((FnH_den hE (fun V => rfl)).mono ?_)⟩
    clear hE
    rintro r H' m1 hm1 ⟨l1, rfl, y, rfl, hy1, hy2⟩
    simp only [go_sem, ↓imp_tf, ↓imp_ft, ↓reduceIte, Nat.reduceBEq, Nat.reduceAdd, Nat.reduceMul, Nat.reduceSub, Nat.reduceEqDiff, Nat.reduceLT, Nat.reduceLeDiff, Option.map, Option.bind, List.map, List.length, reduceCtorEq, Option.toList, Option.getD, List.set, List.drop, List.take, Int.reduceToNat, Nd.cs]
    refine ⟨fun hbig => ⟨by kernel_rfl, FnV_of ((hA m1 l1).mono ?_)⟩, fun hsmall => ⟨by kernel_rfl, FnV_of ((FnH_den (hF m1 l1) (fun V => rfl)).mono ?_)⟩⟩
    · clear hA hF hF2 hD hD2 hV hV2
      rintro r H' m2 hm2 ⟨l2, rfl, rfl⟩
      simp only [go_sem, ↓imp_tf, ↓imp_ft, ↓reduceIte, Nat.reduceBEq, Nat.reduceAdd, Nat.reduceMul, Nat.reduceSub, Nat.reduceEqDiff, Nat.reduceLT, Nat.reduceLeDiff, Option.map, Option.bind, List.map, List.length, reduceCtorEq, Option.toList, Option.getD, List.set, List.drop, List.take, Int.reduceToNat, Nd.cs]
      exact leM_tr l1 l2
    · clear hF
      rintro r H' m2 hm2 ⟨l2, rfl, rfl⟩
      have k2 := leM_tr l1 l2
      simp only [go_sem, ↓imp_tf, ↓imp_ft, ↓reduceIte, Nat.reduceBEq, Nat.reduceAdd, Nat.reduceMul, Nat.reduceSub, Nat.reduceEqDiff, Nat.reduceLT, Nat.reduceLeDiff, Option.map, Option.bind, List.map, List.length, reduceCtorEq, Option.toList, Option.getD, List.set, List.drop, List.take, Int.reduceToNat, Nd.cs]
      refine ⟨by kernel_rfl, fun a3 c3 w3 hw3 hc3 r3 => FnV_of ((FnH_den (hF2 w3 (leM_tr k2 (.inr hw3)) a3 c3 hc3 r3) (fun V => rfl)).mono ?_)⟩
      clear hF2
      rintro r H' m4 hm4 ⟨l4, rfl, rfl⟩
      have k4 := leM_tr (leM_tr k2 (.inr hw3)) l4
      simp only [go_sem, ↓imp_tf, ↓imp_ft, ↓reduceIte, Nat.reduceBEq, Nat.reduceAdd, Nat.reduceMul, Nat.reduceSub, Nat.reduceEqDiff, Nat.reduceLT, Nat.reduceLeDiff, Option.map, Option.bind, List.map, List.length, reduceCtorEq, Option.toList, Option.getD, List.set, List.drop, List.take, Int.reduceToNat, Nd.cs]
      refine WP_draw (.hoist 0 (.hoist 2 (.alt 1 [2] (.alt 3 [] (.hoist 4 (.hoist 5 (.hoist 6 (.hoist 7 (.hoist 9 (.alt 8 [9] (.alt 10 [] (.hoist 11 (.hoist 12 .done)) .stop) .stop)))))) .stop) .stop))) puW (by kernel_rfl) (by kernel_rfl) ?_
      simp only [go_sem, ↓imp_tf, ↓imp_ft, ↓reduceIte, Nat.reduceBEq, Nat.reduceAdd, Nat.reduceMul, Nat.reduceSub, Nat.reduceEqDiff, Nat.reduceLT, Nat.reduceLeDiff, Option.map, Option.bind, List.map, List.length, reduceCtorEq, Option.toList, Option.getD, List.set, List.drop, List.take, Int.reduceToNat, Nd.cs]
      refine ⟨by kernel_rfl, fun a5 c5 w5 hw5 hc5 r5 => FnV_of ((FnH_den (hD2 w5 (leM_tr k4 (.inr hw5)) a5 c5 hc5 r5) (fun V => rfl)).mono ?_)⟩
      clear hD2
      rintro r H' m6 hm6 ⟨l6, rfl, rfl⟩
      have k6 := leM_tr (leM_tr k4 (.inr hw5)) l6
      simp only [go_sem, ↓imp_tf, ↓imp_ft, ↓reduceIte, Nat.reduceBEq, Nat.reduceAdd, Nat.reduceMul, Nat.reduceSub, Nat.reduceEqDiff, Nat.reduceLT, Nat.reduceLeDiff, Option.map, Option.bind, List.map, List.length, reduceCtorEq, Option.toList, Option.getD, List.set, List.drop, List.take, Int.reduceToNat, Nd.cs]
      refine ⟨leM_tr (.inr hw5) l6, by kernel_rfl, FnV_of ((FnH_den (hD m6 k6) (fun V => rfl)).mono ?_)⟩
      clear hD
      rintro r H' m7 hm7 ⟨l7, rfl, rfl⟩
      have k7 := leM_tr k6 l7
      simp only [go_sem, ↓imp_tf, ↓imp_ft, ↓reduceIte, Nat.reduceBEq, Nat.reduceAdd, Nat.reduceMul, Nat.reduceSub, Nat.reduceEqDiff, Nat.reduceLT, Nat.reduceLeDiff, Option.map, Option.bind, List.map, List.length, reduceCtorEq, Option.toList, Option.getD, List.set, List.drop, List.take, Int.reduceToNat, Nd.cs]
      refine ⟨by clear hV hV2 hA; unfold I64; simp only [big] at hdp; omega, fun _ => ⟨by kernel_rfl, fun a8 c8 w8 hw8 hc8 r8 => FnV_of ((FnH_den (hV2 w8 (leM_tr k7 (.inr hw8)) a8 c8 hc8 r8) (fun V => rfl)).mono ?_)⟩, fun h => absurd (by simp) h⟩
      clear hV2
      rintro r H' m9 hm9 ⟨l9, rfl, rfl⟩
      have k9 := leM_tr (leM_tr k7 (.inr hw8)) l9
      simp only [go_sem, ↓imp_tf, ↓imp_ft, ↓reduceIte, Nat.reduceBEq, Nat.reduceAdd, Nat.reduceMul, Nat.reduceSub, Nat.reduceEqDiff, Nat.reduceLT, Nat.reduceLeDiff, Option.map, Option.bind, List.map, List.length, reduceCtorEq, Option.toList, Option.getD, List.set, List.drop, List.take, Int.reduceToNat, Nd.cs]
      refine ⟨leM_tr (.inr hw8) l9, by kernel_rfl, FnV_of ((FnH_den (hV m9 k9) (fun V => rfl)).mono ?_)⟩
      clear hV
      rintro r H' ma hma ⟨la, rfl, rfl⟩
      have ka := leM_tr k9 la
      simp only [go_sem, ↓imp_tf, ↓imp_ft, ↓reduceIte, Nat.reduceBEq, Nat.reduceAdd, Nat.reduceMul, Nat.reduceSub, Nat.reduceEqDiff, Nat.reduceLT, Nat.reduceLeDiff, Option.map, Option.bind, List.map, List.length, reduceCtorEq, Option.toList, Option.getD, List.set, List.drop, List.take, Int.reduceToNat, Nd.cs]
      refine ⟨by kernel_rfl, fun hne => ⟨by kernel_rfl, FnV_of ((hA ma ka).mono ?_)⟩, fun h0 => ⟨by kernel_rfl, FnV_of ((hA ma ka).mono ?_)⟩⟩
      · clear hA
        rintro r H' mb hmb ⟨lb, rfl, rfl⟩
        have hd := d2 (fun h => by rcases hne with h1 | h1; exact h1 h.1; exact h1 h.2)
        simp only [go_sem, ↓imp_tf, ↓imp_ft, ↓reduceIte, Nat.reduceBEq, Nat.reduceAdd, Nat.reduceMul, Nat.reduceSub, Nat.reduceEqDiff, Nat.reduceLT, Nat.reduceLeDiff, Option.map, Option.bind, List.map, List.length, reduceCtorEq, Option.toList, Option.getD, List.set, List.drop, List.take, Int.reduceToNat, Nd.cs]
        refine ⟨leM_tr ka lb, ?_⟩
        unfold errOk at hd
        rcases hd with h | h | h | h
        · refine .inl (.inl (.inl ⟨h.1, ?_⟩))
          rcases h.2 with g | g | g
          · exact .inl (.inl g)
          · exact .inl (.inr g)
          · exact .inr g
        · exact .inl (.inl (.inr h))
        · exact .inl (.inr h)
        · exact .inr h
      · clear hA
        rintro r H' mb hmb ⟨lb, rfl, rfl⟩
        have hd := d1 h0
        simp only [go_sem, ↓imp_tf, ↓imp_ft, ↓reduceIte, Nat.reduceBEq, Nat.reduceAdd, Nat.reduceMul, Nat.reduceSub, Nat.reduceEqDiff, Nat.reduceLT, Nat.reduceLeDiff, Option.map, Option.bind, List.map, List.length, reduceCtorEq, Option.toList, Option.getD, List.set, List.drop, List.take, Int.reduceToNat, Nd.cs]
        exact ⟨by omega, fun _ => by omega, fun _ => by omega, leM_tr ka lb, by simpa using hd⟩
end Go.Proofs.YtalalcpefggniaaGreatDoor.E

/- Several texts in one: AstQz, AstVq, AstVa, AstRw, AstVb, AstRz, AstXg, AstVc, AstPj, AstPk, AstPl, AstVk, AstVd, AstVe, AstVf, AstVg, AstVh, AstPh, AstVi, AstSb, AstSe, AstVj, AstVm. -/
import Derived.Test.YtimddhkipjedcaaGreatDoorMrg5
set_option linter.unusedSimpArgs false
set_option linter.unusedVariables false
set_option maxHeartbeats 4000000
set_option maxRecDepth 20000
namespace Go.Proofs.YtimddhkipjedcaaGreatDoor.E
open Go
theorem byFc : byT Tryz.prog 94 = 56 := by kernel_rfl
theorem byMc : byT Tryz.prog 98 = 112 := by kernel_rfl
attribute [go_sem] byFc byMc
structure DSt where
 d : Cd
 ia : Option Addr
 ic : Nat
 uf : Nat
 um : Nat
 ui : Nat
 ms : List Value
 is : List Value
abbrev mH (ts : List Tk) (en : Int) (s : PSt) (y : DSt) : Hp := ⟨[⟨0, 62, [.vec 2 0, .v (.int .i64 s.i), .v (.int .i64 en), .v (.bool s.fl), .v (.int .i64 s.off)]⟩,
  ⟨1, 59, [.v (.int .i64 y.d.fl), .v (.string (bs y.d.name)), .v (.string (bs y.d.super)), .v (.slice y.ia y.d.ifs.length y.ic), .vec 3 y.uf, .vec 4 y.um, .vec 5 y.ui]⟩],
 [⟨2, 0, 50, 4, ts.length, tkCells ts⟩, ⟨3, y.uf, 94, 5, y.d.fields.length, flat Fc.cs y.d.fields⟩, ⟨4, y.um, 98, 8, y.d.methods.length, y.ms⟩, ⟨5, y.ui, 73, 23, y.d.init.length, y.is⟩]⟩
structure DOk (m : Mem) (y : DSt) (n : Nat) : Prop where
 msl : y.ms.length = y.d.methods.length * 8
 msr : lsRep (mdRep m) 8 y.d.methods y.ms
 isl : y.is.length = y.d.init.length * 23
 isr : stsRep m y.d.init y.is
 fs : ∀ f ∈ y.d.fields, FcOk f
 fn : y.d.fields.length ≤ n
 mn : y.d.methods.length ≤ n
 inn : y.d.init.length ≤ n
structure Same (y y' : DSt) : Prop where
 ia : y'.ia = y.ia
 ic : y'.ic = y.ic
 fl : y'.d.fl = y.d.fl
 name : y'.d.name = y.d.name
 super : y'.d.super = y.d.super
 ifs : y'.d.ifs = y.d.ifs
 uf : y.uf ≤ y'.uf
 um : y.um ≤ y'.um
 ui : y.ui ≤ y'.ui
abbrev MRes (ts : List Tk) (en : Int) (s : PSt) (y : DSt) (K : PR Cd) (m : Mem) : SV → Hp → Mem → Prop := fun r H' m' => leM m m' ∧ ∃ (y' : DSt) (s' : PSt), r = .tup [] ∧ H' = mH ts en s' y' ∧ Same y y' ∧ DOk m' y' (s'.i + (if s'.fl = true then 1 else 0)) ∧ Res ts en s K y'.d s'
theorem sts_app {m : Mem} {l2 : List St} {ys : List Value} (h2 : stsRep m l2 ys) : ∀ {l : List St} {xs : List Value}, xs.length = l.length * 23 → stsRep m l xs → stsRep m (l ++ l2) (xs ++ ys)
 | [], xs, hl, _ => by
  have : xs = [] := List.eq_nil_of_length_eq_zero (by simpa using hl)
  subst this
  exact h2
 | y :: r, xs, hl, h => by
  simp only [stsRep, List.cons_append] at h ⊢
  simp only [Llc] at hl
  have h8 : 23 ≤ xs.length := by omega
  rw [List.take_append_of_le_length h8, List.drop_append_of_le_length h8]
  exact ⟨h.1, sts_app h2 (by rw [List.length_drop]; omega) h.2⟩
theorem ls_app {α : Type} {R : α → List Value → Prop} {sz : Nat} {l2 : List α} {ys : List Value} (h2 : lsRep R sz l2 ys) : ∀ {l : List α} {xs : List Value}, xs.length = l.length * sz → lsRep R sz l xs → lsRep R sz (l ++ l2) (xs ++ ys)
 | [], xs, hl, _ => by
  have : xs = [] := List.eq_nil_of_length_eq_zero (by simpa using hl)
  subst this
  exact h2
 | y :: r, xs, hl, h => by
  simp only [lsRep, List.cons_append] at h ⊢
  rw [Llc, Nat.succ_mul] at hl
  have h8 : sz ≤ xs.length := by omega
  rw [List.take_append_of_le_length h8, List.drop_append_of_le_length h8]
  exact ⟨h.1, ls_app h2 (by rw [List.length_drop]; omega) h.2⟩
theorem st_one {m : Mem} {e : St} {cs : List Value} (h : stRep m e cs) : ∀ u ∈ cs, u.oneCell' = true := by
 cases e with
 | mk k nm ty tg ex body alt =>
  simp only [stRep] at h
  obtain ⟨x, ⟨rfl, _⟩, _⟩ := h
  intro u hu
  simp only [Sd.cs, List.mem_cons, List.not_mem_nil, or_false] at hu
  rcases hu with rfl | rfl | rfl | rfl | rfl | rfl | rfl | rfl | rfl | rfl | rfl | rfl | rfl | rfl | rfl | rfl | rfl | rfl | rfl | rfl | rfl | rfl | rfl <;> rfl
theorem sts_oneC {m : Mem} : ∀ {es : List St} {xs : List Value}, xs.length = es.length * 23 → stsRep m es xs → ∀ u ∈ xs, u.oneCell' = true
 | [], xs, hl, _ => by
  have : xs = [] := List.eq_nil_of_length_eq_zero (by simpa using hl)
  subst this
  intro u hu; cases hu
 | y :: r, xs, hl, h => by
  simp only [stsRep] at h
  simp only [Llc] at hl
  intro u hu
  rw [← List.take_append_drop 23 xs] at hu
  rcases List.mem_append.1 hu with hu | hu
  ·exact st_one h.1 u hu
  ·exact sts_oneC (by rw [List.length_drop]; omega) h.2 u hu
theorem DOk.up {m m' : Mem} {y : DSt} {n n' : Nat} (h : DOk m y n) (hle : leM m m') (hn : n ≤ n') : DOk m' y n' :=
 ⟨h.msl, ls_up (fun _ _ => mdRep_up hle) h.msr, h.isl, sts_upM hle h.isr, h.fs, Nat.le_trans h.fn hn, Nat.le_trans h.mn hn, Nat.le_trans h.inn hn⟩
section
variable {ts : List Tk} {en : Int} {s : PSt}
theorem res_mod {α : Type} {K : PR α} {a : α} {q : List (Int × List UInt8)} {v0 v : Int} {s1 s' : PSt} (hm : ModR ts q v0 s v s1) (h : Res ts en s1 K a s') : Res ts en s K a s' :=
 ⟨h.inv, Nat.le_trans hm.mono h.mono, fun e => by have e1 := hm.same e; subst e1; exact h.fl e, fun e => h.ok (by rw [hm.fl]; exact e), fun e => h.er (by rw [hm.fl]; exact e)⟩
theorem member_lt (d : Cd) (l : List Tk) : ∀ x r, memberK d (modsP modsL 0 l).1 (modsP modsL 0 l).2 = .ok (x, r) → r.length < l.length := fun x r h => by
 have g := (member_tot d (modsP modsL 0 l).1 (modsP modsL 0 l).2).good
 rw [limK_eq (lmember d (modsP modsL 0 l).1 (modsP modsL 0 l).2)] at g
 exact Nat.lt_of_lt_of_le ((g.ok x r h).2 rfl) (modsP_suf modsL 0 l).length_le
theorem mat_m {y y' : DSt} {s' : PSt} {K : PR Cd} {m m3 : Mem} {H' : Hp} (e : H' = mH ts en s' y') (h : leM m m3 ∧ Same y y' ∧ DOk m3 y' (s'.i + (if s'.fl = true then 1 else 0)) ∧ Res ts en s K y'.d s') : MatR (MRes ts en s y K m) (.tup []) H' m3 := by
 subst e
 exact ⟨mH ts en s' y', ⟨⟨rfl, rfl, rfl, rfl, trivial⟩, ⟨rfl, rfl, rfl, rfl, rfl, rfl, rfl, rfl, trivial⟩⟩, h.1, y', s', rfl, rfl, h.2⟩
theorem vTy_ok : TyOk vTy := ⟨⟨by decide, by decide⟩, ⟨by decide, by decide⟩, by decide⟩
theorem md_mk {m : Mem} {v : Int} {ty : Ty} {w : List UInt8} {ps : List Pc} {hb : Bool} {body : List St} {pa a : Option Addr} {pc cp : Nat} {xs : List Value} (hv : 0 ≤ v ∧ v < 2048) (ht : TyOk ty) (hw : w.length ≤ 1000000)
  (hpl : ps.length ≤ 1000001) (hpc : ps.length ≤ pc) (hpr : Rds m pa ps.length 4 (flat Pc.cs ps)) (hps : ∀ p ∈ ps, PcOk p) (hl : body.length ≤ 1000001) (hcp : body.length ≤ cp) (hr : Rds m a body.length 23 xs) (hs : stsRep m body xs) :
  mdRep m ⟨v, ty, w, ps, hb, body⟩ (Mc.cs ⟨v, ty, w, pa, ps.length, pc, hb, a, body.length, cp⟩) :=
 ⟨⟨v, ty, w, pa, ps.length, pc, hb, a, body.length, cp⟩, ⟨rfl, rfl, rfl, rfl, rfl⟩, ⟨rfl, hpc, rfl, hcp⟩, ⟨by unfold I64; dsimp only; omega, ht, by unfold big; dsimp only; omega, by unfold big; dsimp only; omega, hps, by unfold big; dsimp only; omega⟩, hpr, xs, hr, hs⟩
theorem adv_le {s s' : PSt} (h : s'.fl = true ∨ s.i < s'.i) (h2 : s.i ≤ s'.i) : s.i + 1 ≤ s'.i + (if s'.fl = true then 1 else 0) := by
 rcases h with h | h
 ·rw [if_pos h]; omega
 ·omega
theorem DOk.addM {m : Mem} {d : Cd} {ia : Option Addr} {ic uf um ui n n' : Nat} {ms is : List Value} (h : DOk m ⟨d, ia, ic, uf, um, ui, ms, is⟩ n) {x : Md} {cs : List Value} (hx : mdRep m x cs) (hl : cs.length = 8) (hn : n + 1 ≤ n') : DOk m ⟨d.addM x, ia, ic, uf, um + 1, ui, ms ++ cs, is⟩ n' := by
 have h1 := h.msl
 have h2 := h.mn
 have h3 := h.fn
 have h4 := h.inn
 dsimp only at h1 h2 h3 h4
 refine ⟨by simp only [Cd.addM, Lla, List.length_singleton, h1, hl]; omega, ls_app (l2 := [x]) ⟨by rw [List.take_of_length_le (by omega)]; exact hx, trivial⟩ h1 h.msr, h.isl, h.isr, h.fs, by show d.fields.length ≤ n'; omega, by simp only [Cd.addM, Lla, List.length_singleton]; omega, by show d.init.length ≤ n'; omega⟩
theorem DOk.addF {m : Mem} {d : Cd} {ia : Option Addr} {ic uf um ui n n' : Nat} {ms is : List Value} (h : DOk m ⟨d, ia, ic, uf, um, ui, ms, is⟩ n) {x : Fc} (hx : FcOk x) (hn : n + 1 ≤ n') : DOk m ⟨d.addF x, ia, ic, uf + 1, um, ui, ms, is⟩ n' := by
 have h2 := h.mn
 have h3 := h.fn
 have h4 := h.inn
 dsimp only at h2 h3 h4
 exact ⟨h.msl, h.msr, h.isl, h.isr, mem_snoc h.fs hx, by simp only [Cd.addF, Lla, List.length_singleton]; omega, by show d.methods.length ≤ n'; omega, by show d.init.length ≤ n'; omega⟩
theorem DOk.addI {m : Mem} {d : Cd} {ia : Option Addr} {ic uf um ui n n' : Nat} {ms is : List Value} (h : DOk m ⟨d, ia, ic, uf, um, ui, ms, is⟩ n) {l : List St} {ys : List Value} (hx : stsRep m l ys) (hl : ys.length = l.length * 23) (hn : n + l.length ≤ n') : DOk m ⟨d.addI l, ia, ic, uf, um, ui + 1, ms, is ++ ys⟩ n' := by
 have h1 := h.isl
 have h2 := h.mn
 have h3 := h.fn
 have h4 := h.inn
 dsimp only at h1 h2 h3 h4
 exact ⟨h.msl, h.msr, by simp only [Cd.addI, Lla, h1, hl]; omega, sts_app hx h1 h.isr, h.fs, by show d.fields.length ≤ n'; omega, by show d.methods.length ≤ n'; omega, by simp only [Cd.addI, Lla]; omega⟩
theorem member_spec (hT : TsB ts) (hI : Inv ts s) (hs : s.fl = false) (y : DSt) (m : Mem) (hy : DOk m y s.i) : FnH Tryz.prog 53 [.box 0 0, .box 1 0] (mH ts en s y) m (MRes ts en s y (memberK y.d (modsP modsL 0 (ts.drop s.i)).1 (modsP modsL 0 (ts.drop s.i)).2) m) := by
 obtain ⟨d, ia, ic, uf, um, ui, ms, is⟩ := y
 have hl0 := hT.len
 have hi0 := hI.le
 have h1 := fun m' => modifiers_spec (en := en) hT hI m'
 refine FnH_mat (enter cfN puN Tryz.func53 rfl rfl (by kernel_rfl) rfl ?_ ?_)
 ·simp only [go_sem, ↓tfi, ↓fti, ↓reduceIte]
 ·simp only [go_sem, ↓tfi, ↓fti, ↓reduceIte]
  refine cvl ((h1 m).mono ?_)
  clear h1
  rintro r H' m1 hm1 ⟨l1, v, s1, rfl, hv, rfl, hM⟩
  simp only [go_sem, ↓tfi, ↓fti, ↓reduceIte]
  refine ⟨fun hv8 => ?_, fun hv8 => ?_⟩
  ·by_cases hbr : isC ts s1.i [123] = true
   ·have q0 := pis_t (en := en) hT hbr
    refine cvl ((q0 m1).mono ?_)
    clear q0
    rintro r H' m2 hm2 ⟨l2, rfl, rfl⟩
    simp only [go_sem, ↓tfi, ↓fti, ↓reduceIte]
    refine WP_draw (.hoist 0 (.hoist 1 (.hoist 2 (.hoist 3 (.hoist 4 (.hoist 5 (.alt 6 [4, 3, 2, 1, 0] (.alt 7 [0] (.hoist 8 (.hoist 9 (.alt 10 [] .done .stop))) .stop) .stop))))))) puN (by kernel_rfl) (by kernel_rfl) ?_
    simp only [go_sem, ↓tfi, ↓fti, ↓reduceIte]
    have hle0 := hM.mono
    have q21 := blw (en := en) hT hM.inv
    refine cvl ((q21 m2).mono ?_)
    clear q21
    rintro r H' m3 hm3 ⟨l3, bs21, a21, c21, xs21, s21, rfl, ha21, hb21, hc21, hd21, rfl, hR21⟩
    simp only [go_sem, ↓tfi, ↓fti, ↓reduceIte]
    have hle21 := hR21.mono
    refine ⟨⟨l3, l3, l3, l3, l3⟩, xs21, hc21, sts_oneC hc21.1 hd21, room_of (by have h0 := hy.inn; have h1 := hI.le; have h2 := hT.len; have h3 := hb21.2; dsimp only at h0; omega) (by decide), l3, ?_⟩
    have hRes : Res ts en s (memberK d (modsP modsL 0 (ts.drop s.i)).1 (modsP modsL 0 (ts.drop s.i)).2) (d.addI bs21) s21 := (by rw [hM.val]; exact res_mod hM (by unfold memberK; rw [if_pos ⟨hv8, by rw [← isC_P]; exact hbr⟩]; exact res_bnd hR21 (res_pure _ hR21.inv)))
    exact mat_m (y' := ⟨d.addI bs21, ia, ic, uf, um, ui + 1, ms, is ++ xs21⟩) (s' := s21) (by simp only [mH, Cd.addI, Lla] <;> rfl) ⟨(leM_tr l1 (leM_tr l2 l3)), ⟨rfl, rfl, rfl, rfl, rfl, rfl, by dsimp only; omega, by dsimp only; omega, by dsimp only; omega⟩, (hy.up (leM_tr l1 (leM_tr l2 l3)) (Nnr _)).addI hd21 hc21.1 (by have h1 := hb21.1; omega), hRes⟩
   ·have q0 := pis_f (en := en) hT hbr
    refine cvl ((q0 m1).mono ?_)
    clear q0
    rintro r H' m2 hm2 ⟨l2, rfl, rfl⟩
    simp only [go_sem, ↓tfi, ↓fti, ↓reduceIte]
    have hle0 := hM.mono
    by_cases hc21 : isC ts (s1).i newW = true
    ·have q22 := fun m' => acc_t (en := en) hT hc21 m'
     refine cvl ((q22 m2).mono ?_)
     clear q22
     rintro r H' m3 hm3 ⟨l3, rfl, rfl⟩
     simp only [go_sem, ↓tfi, ↓fti, ↓reduceIte]
     have hI22 := hM.inv.next (isC_lt hc21)
     have hle22 : (s1).next.i = (s1).i + 1 := rfl
     have q23 := fun m' => params_spec (en := en) hT hI22 m'
     refine cvl ((q23 m3).mono ?_)
     clear q23
     rintro r H' m4 hm4 ⟨l4, ps23, a23, c23, s23, rfl, ha23, hb23, hc23, hd23, rfl, hR23⟩
     simp only [go_sem, ↓tfi, ↓fti, ↓reduceIte]
     have hle23 := hR23.mono
     have q24 := blw (en := en) hT (hR23.inv)
     refine cvl ((q24 m4).mono ?_)
     clear q24
     rintro r H' m5 hm5 ⟨l5, bs24, a24, c24, xs24, s24, rfl, ha24, hb24, hc24, hd24, rfl, hR24⟩
     simp only [go_sem, ↓tfi, ↓fti, ↓reduceIte]
     have hle24 := hR24.mono
     refine WP_draw (.hoist 0 (.hoist 1 (.hoist 2 (.hoist 3 (.hoist 4 (.hoist 5 (.alt 6 [4, 3, 2, 1, 0] (.alt 7 [0] (.hoist 8 (.hoist 9 (.alt 10 [] .done .stop))) .stop) .stop))))))) puN (by kernel_rfl) (by kernel_rfl) ?_
     simp only [go_sem, ↓tfi, ↓fti, ↓reduceIte]
     refine ⟨room_of (by have h0 := hy.mn; dsimp only at h0; omega) (by decide), ?_⟩
     have hRes : Res ts en s (memberK d (modsP modsL 0 (ts.drop s.i)).1 (modsP modsL 0 (ts.drop s.i)).2) (d.addM ⟨v, vTy, initS, ps23, true, bs24⟩) s24 := (by rw [hM.val]; exact res_mod hM (by unfold memberK; rw [if_neg (fun q => hbr (by rw [isC_P]; exact q.2)), if_pos (by rw [← isC_P]; exact hc21), ← drop_next]; exact res_next hM.inv (isC_lt hc21) (res_bnd hR23 (res_bnd hR24 (res_pure _ hR24.inv)))))
     have hadv := res_adv hRes hs (member_lt _ _)
     have hmd : mdRep m5 ⟨v, vTy, initS, ps23, true, bs24⟩ (Mc.cs ⟨v, vTy, initS, a23, ps23.length, c23, true, a24, bs24.length, c24⟩) := md_mk hv vTy_ok (by decide) hb23 ha23 (Rds_upM l5 hc23) hd23 hb24.2 ha24 hc24 hd24
     exact mat_m (y' := ⟨d.addM ⟨v, vTy, initS, ps23, true, bs24⟩, ia, ic, uf, um + 1, ui, ms ++ Mc.cs ⟨v, vTy, initS, a23, ps23.length, c23, true, a24, bs24.length, c24⟩, is⟩) (s' := s24) (by simp only [mH, Cd.addM, Lla, Llc, Lln] <;> rfl) ⟨(leM_tr l1 (leM_tr l2 (leM_tr l3 (leM_tr l4 l5)))), ⟨rfl, rfl, rfl, rfl, rfl, rfl, by dsimp only; omega, by dsimp only; omega, by dsimp only; omega⟩, (hy.up (leM_tr l1 (leM_tr l2 (leM_tr l3 (leM_tr l4 l5)))) (Nnr _)).addM hmd rfl (adv_le hadv hRes.mono), hRes⟩
    ·have q22 := fun m' => acc_f (en := en) hT hc21 m'
     refine cvl ((q22 m2).mono ?_)
     clear q22
     rintro r H' m3 hm3 ⟨l3, rfl, rfl⟩
     simp only [go_sem, ↓tfi, ↓fti, ↓reduceIte]
     by_cases hc23 : isC ts (s1).i voidS = true
     ·have q24 := fun m' => acc_t (en := en) hT hc23 m'
      refine cvl ((q24 m3).mono ?_)
      clear q24
      rintro r H' m4 hm4 ⟨l4, rfl, rfl⟩
      simp only [go_sem, ↓tfi, ↓fti, ↓reduceIte]
      have hI24 := hM.inv.next (isC_lt hc23)
      have hle24 : (s1).next.i = (s1).i + 1 := rfl
      have q25 := fun m' => pid_spec ts en (s1).next m' hT hI24
      refine cvl ((q25 m4).mono ?_)
      clear q25
      rintro r H' m5 hm5 ⟨l5, w25, s25, rfl, hw25, rfl, hR25⟩
      simp only [go_sem, ↓tfi, ↓fti, ↓reduceIte]
      have hle25 := hR25.mono
      have q26 := fun m' => params_spec (en := en) hT hR25.inv m'
      refine cvl ((q26 m5).mono ?_)
      clear q26
      rintro r H' m6 hm6 ⟨l6, ps26, a26, c26, s26, rfl, ha26, hb26, hc26, hd26, rfl, hR26⟩
      simp only [go_sem, ↓tfi, ↓fti, ↓reduceIte]
      have hle26 := hR26.mono
      by_cases hc27 : isC ts (s26).i [59] = true
      ·have q28 := fun m' => acc_t (en := en) hT hc27 m'
       refine cvl ((q28 m6).mono ?_)
       clear q28
       rintro r H' m7 hm7 ⟨l7, rfl, rfl⟩
       simp only [go_sem, ↓tfi, ↓fti, ↓reduceIte]
       have hI28 := hR26.inv.next (isC_lt hc27)
       have hle28 : (s26).next.i = (s26).i + 1 := rfl
       refine WP_draw (.hoist 0 (.hoist 1 (.hoist 2 (.hoist 3 (.hoist 4 (.hoist 5 (.alt 6 [4, 3, 2, 1, 0] (.alt 7 [0] (.hoist 8 (.hoist 9 (.alt 10 [] .done .stop))) .stop) .stop))))))) puN (by kernel_rfl) (by kernel_rfl) ?_
       simp only [go_sem, ↓tfi, ↓fti, ↓reduceIte]
       refine ⟨room_of (by have h0 := hy.mn; dsimp only at h0; omega) (by decide), ?_⟩
       have hRes : Res ts en s (memberK d (modsP modsL 0 (ts.drop s.i)).1 (modsP modsL 0 (ts.drop s.i)).2) (d.addM ⟨v, vTy, w25, ps26, false, []⟩) (s26).next := (by rw [hM.val]; exact res_mod hM (by unfold memberK; rw [if_neg (fun q => hbr (by rw [isC_P]; exact q.2)), if_neg (by rw [← isC_P]; exact hc21), if_pos (by rw [← isC_P]; exact hc23), ← drop_next]; exact res_next hM.inv (isC_lt hc23) (res_bnd hR25 (by unfold restK; exact (res_bnd hR26 (by rw [if_pos (by rw [← isC_P]; exact hc27), ← drop_next]; exact res_next hR26.inv (isC_lt hc27) (res_pure _ hI28)))))))
       have hadv := res_adv hRes hs (member_lt _ _)
       have hmd : mdRep m7 ⟨v, vTy, w25, ps26, false, []⟩ (Mc.cs ⟨v, vTy, w25, a26, ps26.length, c26, false, none, 0, 0⟩) := md_mk hv vTy_ok hw25 hb26 ha26 (Rds_upM l7 hc26) hd26 (Nat.zero_le _) (Nnr _) (rds_none _ _) (stsRep_nil _ _)
       exact mat_m (y' := ⟨d.addM ⟨v, vTy, w25, ps26, false, []⟩, ia, ic, uf, um + 1, ui, ms ++ Mc.cs ⟨v, vTy, w25, a26, ps26.length, c26, false, none, 0, 0⟩, is⟩) (s' := (s26).next) (by simp only [mH, Cd.addM, Lla, Llc, Lln] <;> rfl) ⟨(leM_tr l1 (leM_tr l2 (leM_tr l3 (leM_tr l4 (leM_tr l5 (leM_tr l6 l7)))))), ⟨rfl, rfl, rfl, rfl, rfl, rfl, by dsimp only; omega, by dsimp only; omega, by dsimp only; omega⟩, (hy.up (leM_tr l1 (leM_tr l2 (leM_tr l3 (leM_tr l4 (leM_tr l5 (leM_tr l6 l7)))))) (Nnr _)).addM hmd rfl (adv_le hadv hRes.mono), hRes⟩
      ·have q28 := fun m' => acc_f (en := en) hT hc27 m'
       refine cvl ((q28 m6).mono ?_)
       clear q28
       rintro r H' m7 hm7 ⟨l7, rfl, rfl⟩
       simp only [go_sem, ↓tfi, ↓fti, ↓reduceIte]
       have q29 := blw (en := en) hT (hR26.inv)
       refine cvl ((q29 m7).mono ?_)
       clear q29
       rintro r H' m8 hm8 ⟨l8, bs29, a29, c29, xs29, s29, rfl, ha29, hb29, hc29, hd29, rfl, hR29⟩
       simp only [go_sem, ↓tfi, ↓fti, ↓reduceIte]
       have hle29 := hR29.mono
       refine WP_draw (.hoist 0 (.hoist 1 (.hoist 2 (.hoist 3 (.hoist 4 (.hoist 5 (.alt 6 [4, 3, 2, 1, 0] (.alt 7 [0] (.hoist 8 (.hoist 9 (.alt 10 [] .done .stop))) .stop) .stop))))))) puN (by kernel_rfl) (by kernel_rfl) ?_
       simp only [go_sem, ↓tfi, ↓fti, ↓reduceIte]
       refine ⟨room_of (by have h0 := hy.mn; dsimp only at h0; omega) (by decide), ?_⟩
       have hRes : Res ts en s (memberK d (modsP modsL 0 (ts.drop s.i)).1 (modsP modsL 0 (ts.drop s.i)).2) (d.addM ⟨v, vTy, w25, ps26, true, bs29⟩) s29 := (by rw [hM.val]; exact res_mod hM (by unfold memberK; rw [if_neg (fun q => hbr (by rw [isC_P]; exact q.2)), if_neg (by rw [← isC_P]; exact hc21), if_pos (by rw [← isC_P]; exact hc23), ← drop_next]; exact res_next hM.inv (isC_lt hc23) (res_bnd hR25 (by unfold restK; exact (res_bnd hR26 (by rw [if_neg (by rw [← isC_P]; exact hc27)]; exact (res_bnd hR29 (res_pure _ hR29.inv))))))))
       have hadv := res_adv hRes hs (member_lt _ _)
       have hmd : mdRep m8 ⟨v, vTy, w25, ps26, true, bs29⟩ (Mc.cs ⟨v, vTy, w25, a26, ps26.length, c26, true, a29, bs29.length, c29⟩) := md_mk hv vTy_ok hw25 hb26 ha26 (Rds_upM (leM_tr l7 l8) hc26) hd26 hb29.2 ha29 hc29 hd29
       exact mat_m (y' := ⟨d.addM ⟨v, vTy, w25, ps26, true, bs29⟩, ia, ic, uf, um + 1, ui, ms ++ Mc.cs ⟨v, vTy, w25, a26, ps26.length, c26, true, a29, bs29.length, c29⟩, is⟩) (s' := s29) (by simp only [mH, Cd.addM, Lla, Llc, Lln] <;> rfl) ⟨(leM_tr l1 (leM_tr l2 (leM_tr l3 (leM_tr l4 (leM_tr l5 (leM_tr l6 (leM_tr l7 l8))))))), ⟨rfl, rfl, rfl, rfl, rfl, rfl, by dsimp only; omega, by dsimp only; omega, by dsimp only; omega⟩, (hy.up (leM_tr l1 (leM_tr l2 (leM_tr l3 (leM_tr l4 (leM_tr l5 (leM_tr l6 (leM_tr l7 l8))))))) (Nnr _)).addM hmd rfl (adv_le hadv hRes.mono), hRes⟩
     ·have q24 := fun m' => acc_f (en := en) hT hc23 m'
      refine cvl ((q24 m3).mono ?_)
      clear q24
      rintro r H' m4 hm4 ⟨l4, rfl, rfl⟩
      simp only [go_sem, ↓tfi, ↓fti, ↓reduceIte]
      have q25 := fun m' => ptyp_spec ts en s1 m' hT hM.inv
      refine cvl ((q25 m4).mono ?_)
      clear q25
      rintro r H' m5 hm5 ⟨l5, t25, s25, rfl, ht25, hu25, rfl, hR25⟩
      simp only [go_sem, ↓tfi, ↓fti, ↓reduceIte]
      have hle25 := hR25.mono
      have q26 := fun m' => pid_spec ts en s25 m' hT hR25.inv
      refine cvl ((q26 m5).mono ?_)
      clear q26
      rintro r H' m6 hm6 ⟨l6, w26, s26, rfl, hw26, rfl, hR26⟩
      simp only [go_sem, ↓tfi, ↓fti, ↓reduceIte]
      have hle26 := hR26.mono
      by_cases hc27 : isC ts (s26).i [59] = true
      ·have q28 := fun m' => acc_t (en := en) hT hc27 m'
       refine cvl ((q28 m6).mono ?_)
       clear q28
       rintro r H' m7 hm7 ⟨l7, rfl, rfl⟩
       simp only [go_sem, ↓tfi, ↓fti, ↓reduceIte]
       have hI28 := hR26.inv.next (isC_lt hc27)
       have hle28 : (s26).next.i = (s26).i + 1 := rfl
       refine WP_draw (.hoist 0 (.hoist 1 (.hoist 2 (.hoist 3 (.hoist 4 (.hoist 5 (.hoist 6 (.hoist 7 (.hoist 8 (.hoist 9 (.hoist 10 (.alt 11 [4, 3, 2, 1, 0] (.alt 12 [0] (.hoist 13 (.hoist 14 (.alt 15 [] .done .stop))) .stop) .stop)))))))))))) puN (by kernel_rfl) (by kernel_rfl) ?_
       simp only [go_sem, ↓tfi, ↓fti, ↓reduceIte]
       refine ⟨room_of (by have h0 := hy.fn; dsimp only at h0; omega) (by decide), ?_⟩
       have hRes : Res ts en s (memberK d (modsP modsL 0 (ts.drop s.i)).1 (modsP modsL 0 (ts.drop s.i)).2) (d.addF ⟨v, t25, w26⟩) ((s26).next) := (by rw [hM.val]; exact res_mod hM (by unfold memberK; rw [if_neg (fun q => hbr (by rw [isC_P]; exact q.2)), if_neg (by rw [← isC_P]; exact hc21), if_neg (by rw [← isC_P]; exact hc23)]; exact (res_bnd hR25 (res_bnd hR26 (by rw [if_pos (by rw [← isC_P]; exact hc27), ← drop_next]; exact res_next hR26.inv (isC_lt hc27) (res_pure _ hI28))))))
       have hadv := res_adv hRes hs (member_lt _ _)
       exact mat_m (y' := ⟨d.addF ⟨v, t25, w26⟩, ia, ic, uf + 1, um, ui, ms, is⟩) (s' := ((s26).next)) (by simp only [mH, Cd.addF, Lla, Llc, Lln, flat_snoc] <;> rfl) ⟨(leM_tr l1 (leM_tr l2 (leM_tr l3 (leM_tr l4 (leM_tr l5 (leM_tr l6 l7)))))), ⟨rfl, rfl, rfl, rfl, rfl, rfl, by dsimp only; omega, by dsimp only; omega, by dsimp only; omega⟩, (hy.up (leM_tr l1 (leM_tr l2 (leM_tr l3 (leM_tr l4 (leM_tr l5 (leM_tr l6 l7)))))) (Nnr _)).addF ⟨by unfold I64; dsimp only; omega, ht25, by unfold big; dsimp only; omega⟩ (adv_le hadv hRes.mono), hRes⟩
      ·have q28 := fun m' => acc_f (en := en) hT hc27 m'
       refine cvl ((q28 m6).mono ?_)
       clear q28
       rintro r H' m7 hm7 ⟨l7, rfl, rfl⟩
       simp only [go_sem, ↓tfi, ↓fti, ↓reduceIte]
       have q29 := fun m' => params_spec (en := en) hT hR26.inv m'
       refine cvl ((q29 m7).mono ?_)
       clear q29
       rintro r H' m8 hm8 ⟨l8, ps29, a29, c29, s29, rfl, ha29, hb29, hc29, hd29, rfl, hR29⟩
       simp only [go_sem, ↓tfi, ↓fti, ↓reduceIte]
       have hle29 := hR29.mono
       by_cases hc30 : isC ts (s29).i [59] = true
       ·have q31 := fun m' => acc_t (en := en) hT hc30 m'
        refine cvl ((q31 m8).mono ?_)
        clear q31
        rintro r H' m9 hm9 ⟨l9, rfl, rfl⟩
        simp only [go_sem, ↓tfi, ↓fti, ↓reduceIte]
        have hI31 := hR29.inv.next (isC_lt hc30)
        have hle31 : (s29).next.i = (s29).i + 1 := rfl
        refine WP_draw (.hoist 0 (.hoist 1 (.hoist 2 (.hoist 3 (.hoist 4 (.hoist 5 (.alt 6 [4, 3, 2, 1, 0] (.alt 7 [0] (.hoist 8 (.hoist 9 (.alt 10 [] .done .stop))) .stop) .stop))))))) puN (by kernel_rfl) (by kernel_rfl) ?_
        simp only [go_sem, ↓tfi, ↓fti, ↓reduceIte]
        refine ⟨room_of (by have h0 := hy.mn; dsimp only at h0; omega) (by decide), ?_⟩
        have hRes : Res ts en s (memberK d (modsP modsL 0 (ts.drop s.i)).1 (modsP modsL 0 (ts.drop s.i)).2) (d.addM ⟨v, t25, w26, ps29, false, []⟩) (s29).next := (by rw [hM.val]; exact res_mod hM (by unfold memberK; rw [if_neg (fun q => hbr (by rw [isC_P]; exact q.2)), if_neg (by rw [← isC_P]; exact hc21), if_neg (by rw [← isC_P]; exact hc23)]; exact (res_bnd hR25 (res_bnd hR26 (by rw [if_neg (by rw [← isC_P]; exact hc27)]; exact (by unfold restK; exact (res_bnd hR29 (by rw [if_pos (by rw [← isC_P]; exact hc30), ← drop_next]; exact res_next hR29.inv (isC_lt hc30) (res_pure _ hI31)))))))))
        have hadv := res_adv hRes hs (member_lt _ _)
        have hmd : mdRep m9 ⟨v, t25, w26, ps29, false, []⟩ (Mc.cs ⟨v, t25, w26, a29, ps29.length, c29, false, none, 0, 0⟩) := md_mk hv ht25 hw26 hb29 ha29 (Rds_upM l9 hc29) hd29 (Nat.zero_le _) (Nnr _) (rds_none _ _) (stsRep_nil _ _)
        exact mat_m (y' := ⟨d.addM ⟨v, t25, w26, ps29, false, []⟩, ia, ic, uf, um + 1, ui, ms ++ Mc.cs ⟨v, t25, w26, a29, ps29.length, c29, false, none, 0, 0⟩, is⟩) (s' := (s29).next) (by simp only [mH, Cd.addM, Lla, Llc, Lln] <;> rfl) ⟨(leM_tr l1 (leM_tr l2 (leM_tr l3 (leM_tr l4 (leM_tr l5 (leM_tr l6 (leM_tr l7 (leM_tr l8 l9)))))))), ⟨rfl, rfl, rfl, rfl, rfl, rfl, by dsimp only; omega, by dsimp only; omega, by dsimp only; omega⟩, (hy.up (leM_tr l1 (leM_tr l2 (leM_tr l3 (leM_tr l4 (leM_tr l5 (leM_tr l6 (leM_tr l7 (leM_tr l8 l9)))))))) (Nnr _)).addM hmd rfl (adv_le hadv hRes.mono), hRes⟩
       ·have q31 := fun m' => acc_f (en := en) hT hc30 m'
        refine cvl ((q31 m8).mono ?_)
        clear q31
        rintro r H' m9 hm9 ⟨l9, rfl, rfl⟩
        simp only [go_sem, ↓tfi, ↓fti, ↓reduceIte]
        have q32 := blw (en := en) hT (hR29.inv)
        refine cvl ((q32 m9).mono ?_)
        clear q32
        rintro r H' m10 hm10 ⟨l10, bs32, a32, c32, xs32, s32, rfl, ha32, hb32, hc32, hd32, rfl, hR32⟩
        simp only [go_sem, ↓tfi, ↓fti, ↓reduceIte]
        have hle32 := hR32.mono
        refine WP_draw (.hoist 0 (.hoist 1 (.hoist 2 (.hoist 3 (.hoist 4 (.hoist 5 (.alt 6 [4, 3, 2, 1, 0] (.alt 7 [0] (.hoist 8 (.hoist 9 (.alt 10 [] .done .stop))) .stop) .stop))))))) puN (by kernel_rfl) (by kernel_rfl) ?_
        simp only [go_sem, ↓tfi, ↓fti, ↓reduceIte]
        refine ⟨room_of (by have h0 := hy.mn; dsimp only at h0; omega) (by decide), ?_⟩
        have hRes : Res ts en s (memberK d (modsP modsL 0 (ts.drop s.i)).1 (modsP modsL 0 (ts.drop s.i)).2) (d.addM ⟨v, t25, w26, ps29, true, bs32⟩) s32 := (by rw [hM.val]; exact res_mod hM (by unfold memberK; rw [if_neg (fun q => hbr (by rw [isC_P]; exact q.2)), if_neg (by rw [← isC_P]; exact hc21), if_neg (by rw [← isC_P]; exact hc23)]; exact (res_bnd hR25 (res_bnd hR26 (by rw [if_neg (by rw [← isC_P]; exact hc27)]; exact (by unfold restK; exact (res_bnd hR29 (by rw [if_neg (by rw [← isC_P]; exact hc30)]; exact (res_bnd hR32 (res_pure _ hR32.inv))))))))))
        have hadv := res_adv hRes hs (member_lt _ _)
        have hmd : mdRep m10 ⟨v, t25, w26, ps29, true, bs32⟩ (Mc.cs ⟨v, t25, w26, a29, ps29.length, c29, true, a32, bs32.length, c32⟩) := md_mk hv ht25 hw26 hb29 ha29 (Rds_upM (leM_tr l9 l10) hc29) hd29 hb32.2 ha32 hc32 hd32
        exact mat_m (y' := ⟨d.addM ⟨v, t25, w26, ps29, true, bs32⟩, ia, ic, uf, um + 1, ui, ms ++ Mc.cs ⟨v, t25, w26, a29, ps29.length, c29, true, a32, bs32.length, c32⟩, is⟩) (s' := s32) (by simp only [mH, Cd.addM, Lla, Llc, Lln] <;> rfl) ⟨(leM_tr l1 (leM_tr l2 (leM_tr l3 (leM_tr l4 (leM_tr l5 (leM_tr l6 (leM_tr l7 (leM_tr l8 (leM_tr l9 l10))))))))), ⟨rfl, rfl, rfl, rfl, rfl, rfl, by dsimp only; omega, by dsimp only; omega, by dsimp only; omega⟩, (hy.up (leM_tr l1 (leM_tr l2 (leM_tr l3 (leM_tr l4 (leM_tr l5 (leM_tr l6 (leM_tr l7 (leM_tr l8 (leM_tr l9 l10))))))))) (Nnr _)).addM hmd rfl (adv_le hadv hRes.mono), hRes⟩
  ·have hle0 := hM.mono
   by_cases hc21 : isC ts (s1).i newW = true
   ·have q22 := fun m' => acc_t (en := en) hT hc21 m'
    refine cvl ((q22 m1).mono ?_)
    clear q22
    rintro r H' m2 hm2 ⟨l2, rfl, rfl⟩
    simp only [go_sem, ↓tfi, ↓fti, ↓reduceIte]
    have hI22 := hM.inv.next (isC_lt hc21)
    have hle22 : (s1).next.i = (s1).i + 1 := rfl
    have q23 := fun m' => params_spec (en := en) hT hI22 m'
    refine cvl ((q23 m2).mono ?_)
    clear q23
    rintro r H' m3 hm3 ⟨l3, ps23, a23, c23, s23, rfl, ha23, hb23, hc23, hd23, rfl, hR23⟩
    simp only [go_sem, ↓tfi, ↓fti, ↓reduceIte]
    have hle23 := hR23.mono
    have q24 := blw (en := en) hT (hR23.inv)
    refine cvl ((q24 m3).mono ?_)
    clear q24
    rintro r H' m4 hm4 ⟨l4, bs24, a24, c24, xs24, s24, rfl, ha24, hb24, hc24, hd24, rfl, hR24⟩
    simp only [go_sem, ↓tfi, ↓fti, ↓reduceIte]
    have hle24 := hR24.mono
    refine WP_draw (.hoist 0 (.hoist 1 (.hoist 2 (.hoist 3 (.hoist 4 (.hoist 5 (.alt 6 [4, 3, 2, 1, 0] (.alt 7 [0] (.hoist 8 (.hoist 9 (.alt 10 [] .done .stop))) .stop) .stop))))))) puN (by kernel_rfl) (by kernel_rfl) ?_
    simp only [go_sem, ↓tfi, ↓fti, ↓reduceIte]
    refine ⟨room_of (by have h0 := hy.mn; dsimp only at h0; omega) (by decide), ?_⟩
    have hRes : Res ts en s (memberK d (modsP modsL 0 (ts.drop s.i)).1 (modsP modsL 0 (ts.drop s.i)).2) (d.addM ⟨v, vTy, initS, ps23, true, bs24⟩) s24 := (by rw [hM.val]; exact res_mod hM (by unfold memberK; rw [if_neg (fun q => hv8 q.1), if_pos (by rw [← isC_P]; exact hc21), ← drop_next]; exact res_next hM.inv (isC_lt hc21) (res_bnd hR23 (res_bnd hR24 (res_pure _ hR24.inv)))))
    have hadv := res_adv hRes hs (member_lt _ _)
    have hmd : mdRep m4 ⟨v, vTy, initS, ps23, true, bs24⟩ (Mc.cs ⟨v, vTy, initS, a23, ps23.length, c23, true, a24, bs24.length, c24⟩) := md_mk hv vTy_ok (by decide) hb23 ha23 (Rds_upM l4 hc23) hd23 hb24.2 ha24 hc24 hd24
    exact mat_m (y' := ⟨d.addM ⟨v, vTy, initS, ps23, true, bs24⟩, ia, ic, uf, um + 1, ui, ms ++ Mc.cs ⟨v, vTy, initS, a23, ps23.length, c23, true, a24, bs24.length, c24⟩, is⟩) (s' := s24) (by simp only [mH, Cd.addM, Lla, Llc, Lln] <;> rfl) ⟨(leM_tr l1 (leM_tr l2 (leM_tr l3 l4))), ⟨rfl, rfl, rfl, rfl, rfl, rfl, by dsimp only; omega, by dsimp only; omega, by dsimp only; omega⟩, (hy.up (leM_tr l1 (leM_tr l2 (leM_tr l3 l4))) (Nnr _)).addM hmd rfl (adv_le hadv hRes.mono), hRes⟩
   ·have q22 := fun m' => acc_f (en := en) hT hc21 m'
    refine cvl ((q22 m1).mono ?_)
    clear q22
    rintro r H' m2 hm2 ⟨l2, rfl, rfl⟩
    simp only [go_sem, ↓tfi, ↓fti, ↓reduceIte]
    by_cases hc23 : isC ts (s1).i voidS = true
    ·have q24 := fun m' => acc_t (en := en) hT hc23 m'
     refine cvl ((q24 m2).mono ?_)
     clear q24
     rintro r H' m3 hm3 ⟨l3, rfl, rfl⟩
     simp only [go_sem, ↓tfi, ↓fti, ↓reduceIte]
     have hI24 := hM.inv.next (isC_lt hc23)
     have hle24 : (s1).next.i = (s1).i + 1 := rfl
     have q25 := fun m' => pid_spec ts en (s1).next m' hT hI24
     refine cvl ((q25 m3).mono ?_)
     clear q25
     rintro r H' m4 hm4 ⟨l4, w25, s25, rfl, hw25, rfl, hR25⟩
     simp only [go_sem, ↓tfi, ↓fti, ↓reduceIte]
     have hle25 := hR25.mono
     have q26 := fun m' => params_spec (en := en) hT hR25.inv m'
     refine cvl ((q26 m4).mono ?_)
     clear q26
     rintro r H' m5 hm5 ⟨l5, ps26, a26, c26, s26, rfl, ha26, hb26, hc26, hd26, rfl, hR26⟩
     simp only [go_sem, ↓tfi, ↓fti, ↓reduceIte]
     have hle26 := hR26.mono
     by_cases hc27 : isC ts (s26).i [59] = true
     ·have q28 := fun m' => acc_t (en := en) hT hc27 m'
      refine cvl ((q28 m5).mono ?_)
      clear q28
      rintro r H' m6 hm6 ⟨l6, rfl, rfl⟩
      simp only [go_sem, ↓tfi, ↓fti, ↓reduceIte]
      have hI28 := hR26.inv.next (isC_lt hc27)
      have hle28 : (s26).next.i = (s26).i + 1 := rfl
      refine WP_draw (.hoist 0 (.hoist 1 (.hoist 2 (.hoist 3 (.hoist 4 (.hoist 5 (.alt 6 [4, 3, 2, 1, 0] (.alt 7 [0] (.hoist 8 (.hoist 9 (.alt 10 [] .done .stop))) .stop) .stop))))))) puN (by kernel_rfl) (by kernel_rfl) ?_
      simp only [go_sem, ↓tfi, ↓fti, ↓reduceIte]
      refine ⟨room_of (by have h0 := hy.mn; dsimp only at h0; omega) (by decide), ?_⟩
      have hRes : Res ts en s (memberK d (modsP modsL 0 (ts.drop s.i)).1 (modsP modsL 0 (ts.drop s.i)).2) (d.addM ⟨v, vTy, w25, ps26, false, []⟩) (s26).next := (by rw [hM.val]; exact res_mod hM (by unfold memberK; rw [if_neg (fun q => hv8 q.1), if_neg (by rw [← isC_P]; exact hc21), if_pos (by rw [← isC_P]; exact hc23), ← drop_next]; exact res_next hM.inv (isC_lt hc23) (res_bnd hR25 (by unfold restK; exact (res_bnd hR26 (by rw [if_pos (by rw [← isC_P]; exact hc27), ← drop_next]; exact res_next hR26.inv (isC_lt hc27) (res_pure _ hI28)))))))
      have hadv := res_adv hRes hs (member_lt _ _)
      have hmd : mdRep m6 ⟨v, vTy, w25, ps26, false, []⟩ (Mc.cs ⟨v, vTy, w25, a26, ps26.length, c26, false, none, 0, 0⟩) := md_mk hv vTy_ok hw25 hb26 ha26 (Rds_upM l6 hc26) hd26 (Nat.zero_le _) (Nnr _) (rds_none _ _) (stsRep_nil _ _)
      exact mat_m (y' := ⟨d.addM ⟨v, vTy, w25, ps26, false, []⟩, ia, ic, uf, um + 1, ui, ms ++ Mc.cs ⟨v, vTy, w25, a26, ps26.length, c26, false, none, 0, 0⟩, is⟩) (s' := (s26).next) (by simp only [mH, Cd.addM, Lla, Llc, Lln] <;> rfl) ⟨(leM_tr l1 (leM_tr l2 (leM_tr l3 (leM_tr l4 (leM_tr l5 l6))))), ⟨rfl, rfl, rfl, rfl, rfl, rfl, by dsimp only; omega, by dsimp only; omega, by dsimp only; omega⟩, (hy.up (leM_tr l1 (leM_tr l2 (leM_tr l3 (leM_tr l4 (leM_tr l5 l6))))) (Nnr _)).addM hmd rfl (adv_le hadv hRes.mono), hRes⟩
     ·have q28 := fun m' => acc_f (en := en) hT hc27 m'
      refine cvl ((q28 m5).mono ?_)
      clear q28
      rintro r H' m6 hm6 ⟨l6, rfl, rfl⟩
      simp only [go_sem, ↓tfi, ↓fti, ↓reduceIte]
      have q29 := blw (en := en) hT (hR26.inv)
      refine cvl ((q29 m6).mono ?_)
      clear q29
      rintro r H' m7 hm7 ⟨l7, bs29, a29, c29, xs29, s29, rfl, ha29, hb29, hc29, hd29, rfl, hR29⟩
      simp only [go_sem, ↓tfi, ↓fti, ↓reduceIte]
      have hle29 := hR29.mono
      refine WP_draw (.hoist 0 (.hoist 1 (.hoist 2 (.hoist 3 (.hoist 4 (.hoist 5 (.alt 6 [4, 3, 2, 1, 0] (.alt 7 [0] (.hoist 8 (.hoist 9 (.alt 10 [] .done .stop))) .stop) .stop))))))) puN (by kernel_rfl) (by kernel_rfl) ?_
      simp only [go_sem, ↓tfi, ↓fti, ↓reduceIte]
      refine ⟨room_of (by have h0 := hy.mn; dsimp only at h0; omega) (by decide), ?_⟩
      have hRes : Res ts en s (memberK d (modsP modsL 0 (ts.drop s.i)).1 (modsP modsL 0 (ts.drop s.i)).2) (d.addM ⟨v, vTy, w25, ps26, true, bs29⟩) s29 := (by rw [hM.val]; exact res_mod hM (by unfold memberK; rw [if_neg (fun q => hv8 q.1), if_neg (by rw [← isC_P]; exact hc21), if_pos (by rw [← isC_P]; exact hc23), ← drop_next]; exact res_next hM.inv (isC_lt hc23) (res_bnd hR25 (by unfold restK; exact (res_bnd hR26 (by rw [if_neg (by rw [← isC_P]; exact hc27)]; exact (res_bnd hR29 (res_pure _ hR29.inv))))))))
      have hadv := res_adv hRes hs (member_lt _ _)
      have hmd : mdRep m7 ⟨v, vTy, w25, ps26, true, bs29⟩ (Mc.cs ⟨v, vTy, w25, a26, ps26.length, c26, true, a29, bs29.length, c29⟩) := md_mk hv vTy_ok hw25 hb26 ha26 (Rds_upM (leM_tr l6 l7) hc26) hd26 hb29.2 ha29 hc29 hd29
      exact mat_m (y' := ⟨d.addM ⟨v, vTy, w25, ps26, true, bs29⟩, ia, ic, uf, um + 1, ui, ms ++ Mc.cs ⟨v, vTy, w25, a26, ps26.length, c26, true, a29, bs29.length, c29⟩, is⟩) (s' := s29) (by simp only [mH, Cd.addM, Lla, Llc, Lln] <;> rfl) ⟨(leM_tr l1 (leM_tr l2 (leM_tr l3 (leM_tr l4 (leM_tr l5 (leM_tr l6 l7)))))), ⟨rfl, rfl, rfl, rfl, rfl, rfl, by dsimp only; omega, by dsimp only; omega, by dsimp only; omega⟩, (hy.up (leM_tr l1 (leM_tr l2 (leM_tr l3 (leM_tr l4 (leM_tr l5 (leM_tr l6 l7)))))) (Nnr _)).addM hmd rfl (adv_le hadv hRes.mono), hRes⟩
    ·have q24 := fun m' => acc_f (en := en) hT hc23 m'
     refine cvl ((q24 m2).mono ?_)
     clear q24
     rintro r H' m3 hm3 ⟨l3, rfl, rfl⟩
     simp only [go_sem, ↓tfi, ↓fti, ↓reduceIte]
     have q25 := fun m' => ptyp_spec ts en s1 m' hT hM.inv
     refine cvl ((q25 m3).mono ?_)
     clear q25
     rintro r H' m4 hm4 ⟨l4, t25, s25, rfl, ht25, hu25, rfl, hR25⟩
     simp only [go_sem, ↓tfi, ↓fti, ↓reduceIte]
     have hle25 := hR25.mono
     have q26 := fun m' => pid_spec ts en s25 m' hT hR25.inv
     refine cvl ((q26 m4).mono ?_)
     clear q26
     rintro r H' m5 hm5 ⟨l5, w26, s26, rfl, hw26, rfl, hR26⟩
     simp only [go_sem, ↓tfi, ↓fti, ↓reduceIte]
     have hle26 := hR26.mono
     by_cases hc27 : isC ts (s26).i [59] = true
     ·have q28 := fun m' => acc_t (en := en) hT hc27 m'
      refine cvl ((q28 m5).mono ?_)
      clear q28
      rintro r H' m6 hm6 ⟨l6, rfl, rfl⟩
      simp only [go_sem, ↓tfi, ↓fti, ↓reduceIte]
      have hI28 := hR26.inv.next (isC_lt hc27)
      have hle28 : (s26).next.i = (s26).i + 1 := rfl
      refine WP_draw (.hoist 0 (.hoist 1 (.hoist 2 (.hoist 3 (.hoist 4 (.hoist 5 (.hoist 6 (.hoist 7 (.hoist 8 (.hoist 9 (.hoist 10 (.alt 11 [4, 3, 2, 1, 0] (.alt 12 [0] (.hoist 13 (.hoist 14 (.alt 15 [] .done .stop))) .stop) .stop)))))))))))) puN (by kernel_rfl) (by kernel_rfl) ?_
      simp only [go_sem, ↓tfi, ↓fti, ↓reduceIte]
      refine ⟨room_of (by have h0 := hy.fn; dsimp only at h0; omega) (by decide), ?_⟩
      have hRes : Res ts en s (memberK d (modsP modsL 0 (ts.drop s.i)).1 (modsP modsL 0 (ts.drop s.i)).2) (d.addF ⟨v, t25, w26⟩) ((s26).next) := (by rw [hM.val]; exact res_mod hM (by unfold memberK; rw [if_neg (fun q => hv8 q.1), if_neg (by rw [← isC_P]; exact hc21), if_neg (by rw [← isC_P]; exact hc23)]; exact (res_bnd hR25 (res_bnd hR26 (by rw [if_pos (by rw [← isC_P]; exact hc27), ← drop_next]; exact res_next hR26.inv (isC_lt hc27) (res_pure _ hI28))))))
      have hadv := res_adv hRes hs (member_lt _ _)
      exact mat_m (y' := ⟨d.addF ⟨v, t25, w26⟩, ia, ic, uf + 1, um, ui, ms, is⟩) (s' := ((s26).next)) (by simp only [mH, Cd.addF, Lla, Llc, Lln, flat_snoc] <;> rfl) ⟨(leM_tr l1 (leM_tr l2 (leM_tr l3 (leM_tr l4 (leM_tr l5 l6))))), ⟨rfl, rfl, rfl, rfl, rfl, rfl, by dsimp only; omega, by dsimp only; omega, by dsimp only; omega⟩, (hy.up (leM_tr l1 (leM_tr l2 (leM_tr l3 (leM_tr l4 (leM_tr l5 l6))))) (Nnr _)).addF ⟨by unfold I64; dsimp only; omega, ht25, by unfold big; dsimp only; omega⟩ (adv_le hadv hRes.mono), hRes⟩
     ·have q28 := fun m' => acc_f (en := en) hT hc27 m'
      refine cvl ((q28 m5).mono ?_)
      clear q28
      rintro r H' m6 hm6 ⟨l6, rfl, rfl⟩
      simp only [go_sem, ↓tfi, ↓fti, ↓reduceIte]
      have q29 := fun m' => params_spec (en := en) hT hR26.inv m'
      refine cvl ((q29 m6).mono ?_)
      clear q29
      rintro r H' m7 hm7 ⟨l7, ps29, a29, c29, s29, rfl, ha29, hb29, hc29, hd29, rfl, hR29⟩
      simp only [go_sem, ↓tfi, ↓fti, ↓reduceIte]
      have hle29 := hR29.mono
      by_cases hc30 : isC ts (s29).i [59] = true
      ·have q31 := fun m' => acc_t (en := en) hT hc30 m'
       refine cvl ((q31 m7).mono ?_)
       clear q31
       rintro r H' m8 hm8 ⟨l8, rfl, rfl⟩
       simp only [go_sem, ↓tfi, ↓fti, ↓reduceIte]
       have hI31 := hR29.inv.next (isC_lt hc30)
       have hle31 : (s29).next.i = (s29).i + 1 := rfl
       refine WP_draw (.hoist 0 (.hoist 1 (.hoist 2 (.hoist 3 (.hoist 4 (.hoist 5 (.alt 6 [4, 3, 2, 1, 0] (.alt 7 [0] (.hoist 8 (.hoist 9 (.alt 10 [] .done .stop))) .stop) .stop))))))) puN (by kernel_rfl) (by kernel_rfl) ?_
       simp only [go_sem, ↓tfi, ↓fti, ↓reduceIte]
       refine ⟨room_of (by have h0 := hy.mn; dsimp only at h0; omega) (by decide), ?_⟩
       have hRes : Res ts en s (memberK d (modsP modsL 0 (ts.drop s.i)).1 (modsP modsL 0 (ts.drop s.i)).2) (d.addM ⟨v, t25, w26, ps29, false, []⟩) (s29).next := (by rw [hM.val]; exact res_mod hM (by unfold memberK; rw [if_neg (fun q => hv8 q.1), if_neg (by rw [← isC_P]; exact hc21), if_neg (by rw [← isC_P]; exact hc23)]; exact (res_bnd hR25 (res_bnd hR26 (by rw [if_neg (by rw [← isC_P]; exact hc27)]; exact (by unfold restK; exact (res_bnd hR29 (by rw [if_pos (by rw [← isC_P]; exact hc30), ← drop_next]; exact res_next hR29.inv (isC_lt hc30) (res_pure _ hI31)))))))))
       have hadv := res_adv hRes hs (member_lt _ _)
       have hmd : mdRep m8 ⟨v, t25, w26, ps29, false, []⟩ (Mc.cs ⟨v, t25, w26, a29, ps29.length, c29, false, none, 0, 0⟩) := md_mk hv ht25 hw26 hb29 ha29 (Rds_upM l8 hc29) hd29 (Nat.zero_le _) (Nnr _) (rds_none _ _) (stsRep_nil _ _)
       exact mat_m (y' := ⟨d.addM ⟨v, t25, w26, ps29, false, []⟩, ia, ic, uf, um + 1, ui, ms ++ Mc.cs ⟨v, t25, w26, a29, ps29.length, c29, false, none, 0, 0⟩, is⟩) (s' := (s29).next) (by simp only [mH, Cd.addM, Lla, Llc, Lln] <;> rfl) ⟨(leM_tr l1 (leM_tr l2 (leM_tr l3 (leM_tr l4 (leM_tr l5 (leM_tr l6 (leM_tr l7 l8))))))), ⟨rfl, rfl, rfl, rfl, rfl, rfl, by dsimp only; omega, by dsimp only; omega, by dsimp only; omega⟩, (hy.up (leM_tr l1 (leM_tr l2 (leM_tr l3 (leM_tr l4 (leM_tr l5 (leM_tr l6 (leM_tr l7 l8))))))) (Nnr _)).addM hmd rfl (adv_le hadv hRes.mono), hRes⟩
      ·have q31 := fun m' => acc_f (en := en) hT hc30 m'
       refine cvl ((q31 m7).mono ?_)
       clear q31
       rintro r H' m8 hm8 ⟨l8, rfl, rfl⟩
       simp only [go_sem, ↓tfi, ↓fti, ↓reduceIte]
       have q32 := blw (en := en) hT (hR29.inv)
       refine cvl ((q32 m8).mono ?_)
       clear q32
       rintro r H' m9 hm9 ⟨l9, bs32, a32, c32, xs32, s32, rfl, ha32, hb32, hc32, hd32, rfl, hR32⟩
       simp only [go_sem, ↓tfi, ↓fti, ↓reduceIte]
       have hle32 := hR32.mono
       refine WP_draw (.hoist 0 (.hoist 1 (.hoist 2 (.hoist 3 (.hoist 4 (.hoist 5 (.alt 6 [4, 3, 2, 1, 0] (.alt 7 [0] (.hoist 8 (.hoist 9 (.alt 10 [] .done .stop))) .stop) .stop))))))) puN (by kernel_rfl) (by kernel_rfl) ?_
       simp only [go_sem, ↓tfi, ↓fti, ↓reduceIte]
       refine ⟨room_of (by have h0 := hy.mn; dsimp only at h0; omega) (by decide), ?_⟩
       have hRes : Res ts en s (memberK d (modsP modsL 0 (ts.drop s.i)).1 (modsP modsL 0 (ts.drop s.i)).2) (d.addM ⟨v, t25, w26, ps29, true, bs32⟩) s32 := (by rw [hM.val]; exact res_mod hM (by unfold memberK; rw [if_neg (fun q => hv8 q.1), if_neg (by rw [← isC_P]; exact hc21), if_neg (by rw [← isC_P]; exact hc23)]; exact (res_bnd hR25 (res_bnd hR26 (by rw [if_neg (by rw [← isC_P]; exact hc27)]; exact (by unfold restK; exact (res_bnd hR29 (by rw [if_neg (by rw [← isC_P]; exact hc30)]; exact (res_bnd hR32 (res_pure _ hR32.inv))))))))))
       have hadv := res_adv hRes hs (member_lt _ _)
       have hmd : mdRep m9 ⟨v, t25, w26, ps29, true, bs32⟩ (Mc.cs ⟨v, t25, w26, a29, ps29.length, c29, true, a32, bs32.length, c32⟩) := md_mk hv ht25 hw26 hb29 ha29 (Rds_upM (leM_tr l8 l9) hc29) hd29 hb32.2 ha32 hc32 hd32
       exact mat_m (y' := ⟨d.addM ⟨v, t25, w26, ps29, true, bs32⟩, ia, ic, uf, um + 1, ui, ms ++ Mc.cs ⟨v, t25, w26, a29, ps29.length, c29, true, a32, bs32.length, c32⟩, is⟩) (s' := s32) (by simp only [mH, Cd.addM, Lla, Llc, Lln] <;> rfl) ⟨(leM_tr l1 (leM_tr l2 (leM_tr l3 (leM_tr l4 (leM_tr l5 (leM_tr l6 (leM_tr l7 (leM_tr l8 l9)))))))), ⟨rfl, rfl, rfl, rfl, rfl, rfl, by dsimp only; omega, by dsimp only; omega, by dsimp only; omega⟩, (hy.up (leM_tr l1 (leM_tr l2 (leM_tr l3 (leM_tr l4 (leM_tr l5 (leM_tr l6 (leM_tr l7 (leM_tr l8 l9)))))))) (Nnr _)).addM hmd rfl (adv_le hadv hRes.mono), hRes⟩
end
section
variable {P : Program} {cfg : Cfg} {C : Ctx} {n : Nat} {st : LS} {V : Vl} {D : Nat → Nat} {w : World}
theorem SatW.reCells {bx : List Bx} {vc : List Vc} {nid : Nat} {m : Mem} (hW : SatW C bx vc nid m V D w) {k : Nat} {b : Bx} {cs' : List SV} (hb : lkB bx k = some b) (hd : cs'.map (denA V) = b.cs.map (denA V)) (ho : okL nid vc cs') : SatW C (updB bx k cs') vc nid m V D w := by
 have hbm := (lkB_mem hb).2
 refine ⟨⟨fun x hx => ?_, hW.heap.vc, ?_, hW.heap.uniq⟩, hW.wf, hW.frm, ?_, hW.baseB, hW.baseV, ⟨fun x hx => ?_, hW.ids.2⟩, hW.le0, hW.m0, hW.mle⟩
 ·rcases updB_mem hx with hx | ⟨b0, h1, h2, rfl⟩
  ·exact hW.heap.bx x hx
  ·have e : b0 = b := by rw [h2] at hb; exact Option.some.inj hb
   subst e
   obtain ⟨⟨o, q1, q2⟩, q3⟩ := hW.heap.bx b0 h1
   refine ⟨⟨o, q1, ?_⟩, q3⟩
   show bxObj b0.ty (cs'.map (denA V)) o
   rw [hd]
   exact q2
 ·rw [blks_ids (updB_ids bx)]
  exact hW.heap.apart
 ·rw [blks_ids (updB_ids bx)]
  exact hW.own
 ·rcases updB_mem hx with hx | ⟨b0, h1, h2, rfl⟩
  ·exact hW.ids.1 x hx
  ·exact ⟨(hW.ids.1 b0 h1).1, ho⟩
theorem okL_set {nid : Nat} {vc : List Vc} {x : SV} (hx : okA nid vc x) : ∀ {l : List SV} {i : Nat}, okL nid vc l → okL nid vc (l.set i x)
 | [], _, h => h
 | s :: r, 0, h => ⟨hx, h.2⟩
 | s :: r, i + 1, h => ⟨h.1, okL_set hx (i := i) h.2⟩
theorem set_nil_den {V : Vl} {k u : Nat} (hv : (V.γ k u).val = .slice none 0 0) : ∀ {cs : List SV} {i : Nat}, cs[i]? = some (.v (.slice none 0 0)) → (cs.set i (.vec k u)).map (denA V) = cs.map (denA V)
 | c :: r, 0, h => by
  have e : c = .v (.slice none 0 0) := by simpa using h
  subst e
  show (V.γ k u).val :: _ = _ :: _
  rw [hv]
  rfl
 | c :: r, i + 1, h => by
  simp only [List.set_cons_succ, List.map_cons]
  rw [set_nil_den hv (cs := r) (i := i) (by simpa using h)]
theorem WP_adoptB {x : Code} {Q : Exit → LS → Prop} (k i : Nat) (b : Bx) (e : TypeId) (sz : Nat) (h0 : 0 < sz) (hb : lkB st.bx k = some b) (hc : b.cs[i]? = some (.v (.slice none 0 0)))
  (h : WPv (.mk (k := (P, n, x, Q)) ⟨st.env, st.rho, updB st.bx k (b.cs.set i (.vec st.nid 0)), ⟨st.nid, 0, e, sz, 0, []⟩ :: st.vc, st.nid + 1, st.m⟩)) : WPv (.mk (k := (P, n, x, Q)) st) := by
 rintro C a w ⟨hrho, V, D, hS⟩
 obtain ⟨V', ha, hγ, hW⟩ := hS.w.addVc (w' := w) (hd := ⟨none, 0, 0⟩) (e := e) (sz := sz) (n := 0) (xs := []) rfl rfl rfl (Nnr _) (fun _ _ => rfl) (World.ownsRow_nil w 0 e sz) (fun g hg => by cases hg) h0 (fun u hu => by cases hu)
 have hv : (V'.γ st.nid 0).val = .slice none 0 0 := by rw [hγ]; rfl
 have hbm := (lkB_mem hb).2
 have hW' := hW.reCells hb (set_nil_den hv hc) (okL_set (x := .vec st.nid 0) (show st.nid < st.nid + 1 ∧ verLe (⟨st.nid, 0, e, sz, 0, []⟩ :: st.vc) st.nid 0 from ⟨Nat.lt_succ_self _, by simp [verLe]⟩) (hW.ids.1 b hbm).2)
 exact h C a w ⟨hrho, V', D, hS.to ha (Nat.le_succ _) (fun k u hk hv => verLe_cons rfl k u hk hv) hW'⟩
theorem WP_cutW {a rest : Code} {Q : Exit → LS → Prop} {X : Type} (S : X → LS) (J : X → Prop) (hn : ∀ x, J x → st.nid ≤ (S x).nid) (hm : ∀ x, J x → leM st.m (S x).m) (hok : ∀ x, okHd (S x))
  (h : WP P n a (thenQ (fun st' => ∃ x, Match st' (S x) ∧ J x) Q) st) (hr : ∀ x, J x → WP P n rest Q (S x)) : WP P n (.seq a rest) Q st := by
 rintro C a1 w ⟨hrho, V, D, hS⟩
 refine wp_seq (wp_mono (h C a1 w ⟨hrho, V, D, hS⟩) ?_)
 rintro e a2 w2 ⟨st2, hE2, hq⟩
 cases e with
 | normal =>
  obtain ⟨x, hM, hx⟩ := hq
  obtain ⟨_, V2, D2, hS2⟩ := hE2
  refine hr x hx C a2 w2 ⟨hM.2.1, V2, D2, hS2.weaken hM (hok x) (fun b hb => Nat.lt_of_lt_of_le (hS.w.baseB b hb).2 (hn x hx)) (fun b hb => Nat.lt_of_lt_of_le (hS.w.baseV b hb).2.1 (hn x hx)) ?_⟩
  rcases hm x hx with e | h
  ·rw [← e]; exact hS.w.m0
  ·exact Mem.le_trans hS.w.m0 h
 | exit id => exact ⟨st2, hE2, hq⟩
 | goto l => exact ⟨st2, hE2, hq⟩
 | ret => exact ⟨st2, hE2, hq⟩
 | panic ch => exact ⟨st2, hE2, hq⟩
 | outgrown => exact ⟨st2, hE2, hq⟩
end
@[reducible] def zCB (k : Nat) : Bx := ⟨k, 59, [.v (.int .i64 0), .v (.string (bs [])), .v (.string (bs [])), .v (.slice none 0 0), .v (.slice none 0 0), .v (.slice none 0 0), .v (.slice none 0 0)]⟩
@[reducible] def dCB (v : Int) : Bx := ⟨10, 59, [.v (.int .i64 v), .v (.string (bs [])), .v (.string (bs [])), .v (.slice none 0 0), .v (.slice none 0 0), .v (.slice none 0 0), .v (.slice none 0 0)]⟩
@[reducible] def hCB (v : Int) (n sp : List UInt8) (is : Value) : Bx := ⟨10, 59, [.v (.int .i64 v), .v (.string (bs n)), .v (.string (bs sp)), .v is, .v (.slice none 0 0), .v (.slice none 0 0), .v (.slice none 0 0)]⟩
@[reducible] def dB (y : DSt) : Bx := ⟨10, 59, [.v (.int .i64 y.d.fl), .v (.string (bs y.d.name)), .v (.string (bs y.d.super)), .v (.slice y.ia y.d.ifs.length y.ic), .vec 102 y.uf, .vec 103 y.um, .vec 104 y.ui]⟩
@[reducible] def fV (y : DSt) : Vc := ⟨102, y.uf, 94, 5, y.d.fields.length, flat Fc.cs y.d.fields⟩
@[reducible] def mV (y : DSt) : Vc := ⟨103, y.um, 98, 8, y.d.methods.length, y.ms⟩
@[reducible] def iV (y : DSt) : Vc := ⟨104, y.ui, 73, 23, y.d.init.length, y.is⟩
attribute [go_sem] zCB dCB hCB dB fV mV iV
theorem or_1536 : ∀ fl : Int, 0 ≤ fl → fl < 2 → bits .or .i64 fl 1536 = fl + 1536 := fun fl h0 h1 => by
 have h : (List.range 2).all (fun n => decide (bits .or .i64 (n : Int) 1536 = (n : Int) + 1536)) = true := by kernel_rfl
 obtain ⟨k, rfl⟩ := Int.eq_ofNat_of_zero_le h0
 exact of_decide_eq_true (List.all_eq_true.1 h k (List.mem_range.2 (by omega)))
abbrev Cc.svs (x : Cc) : List SV := [.v (.int .i64 x.fl), .v (.string (bs x.name)), .v (.string (bs x.super)), .v (.slice x.ia x.il x.ic), .v (.slice x.fa x.fn x.fc), .v (.slice x.ma x.ml x.mc), .v (.slice x.sa x.sl x.sc)]
attribute [go_sem] Cc.svs
abbrev DRes (ts : List Tk) (en : Int) (s : PSt) (K : PR Cd) (m : Mem) : SV → Hp → Mem → Prop := fun r H' m' => leM m m' ∧ ∃ (x : Cc) (d : Cd) (s' : PSt), r = .agg x.svs ∧ cdRep m' d x.cs ∧ H' = pH ts en s' ∧ Res ts en s K d s'
structure HdR (ts : List Tk) (en : Int) (s : PSt) (m : Mem) (s1 : PSt) (v : Int) (nm sp : List UInt8) (is : List (List UInt8)) (ia : Option Addr) (ic : Nat) : Prop where
 inv : Inv ts s1
 fl : 0 ≤ v ∧ v < 4096
 hn : nm.length ≤ 1000000
 hs : sp.length ≤ 1000000
 il : is.length ≤ 1000001
 ic : is.length ≤ ic
 ir : Rds m ia is.length 1 (strs is)
 iw : ∀ w ∈ is, w.length ≤ 1000000
 res : ∀ (a : Cd) (s' : PSt), Res ts en s1 (expP [123] (ts.drop s1.i) fun r => .ok (⟨v, nm, sp, is, [], [], []⟩, r)) a s' → Res ts en s (headK (ts.drop s.i)) a s'
section
variable {ts : List Tk} {en : Int} {s : PSt}
theorem decl_spec (hT : TsB ts) (hI : Inv ts s) (m : Mem) : FnH Tryz.prog 26 [.box 0 0] (pH ts en s) m (DRes ts en s (clK (ts.drop s.i)) m) := by
 have hl := hT.len
 refine FnH_own (FnH_own (FnH_own (enterW Tryz.func26 rfl rfl (nbl rfl) ?_ ?_)))
 ·simp only [go_sem, ↓tfi, ↓fti, ↓reduceIte]
 ·refine WP_cutW (fun _ : Unit => ⟨[⟨0, [], .box 0 0⟩, ⟨2, [], .box 2 0⟩], [], [zCB 2, prB en s], [tkV ts], 10, m⟩) (fun _ => True) (fun _ _ => nbl rfl) (fun _ _ => .inl rfl) (fun _ => ?_) (vcC_sound puN (by kernel_rfl) ?_) fun _ _ => ?_
  ·simp only [go_sem, ↓tfi, ↓fti, ↓reduceIte]
  ·simp only [go_sem, ↓tfi, ↓fti, ↓reduceIte]
   exact ⟨(), trivial⟩
  ·refine WP_cutW (fun _ : Unit => ⟨[⟨0, [], .box 0 0⟩, ⟨2, [], .box 2 0⟩, ⟨3, [], .box 10 0⟩], [], [zCB 10, zCB 2, prB en s], [tkV ts], 20, m⟩) (fun _ => True) (fun _ _ => nbl rfl) (fun _ _ => .inl rfl) (fun _ => ?_) (vcC_sound puN (by kernel_rfl) ?_) fun _ _ => ?_
   ·simp only [go_sem, ↓tfi, ↓fti, ↓reduceIte]
   ·simp only [go_sem, ↓tfi, ↓fti, ↓reduceIte]
    exact ⟨(), trivial⟩
   ·refine WP_cutW (fun y : PSt × Int × Mem => ⟨[⟨0, [], .box 0 0⟩, ⟨2, [], .box 2 0⟩, ⟨3, [], .box 10 0⟩], [], [dCB y.2.1, zCB 2, prB en y.1], [tkV ts], 40, y.2.2⟩) (fun y => leM m y.2.2 ∧ (0 ≤ y.2.1 ∧ y.2.1 < 2) ∧ ModR ts p1L 0 s y.2.1 y.1) (fun _ _ => nbl rfl) (fun y hy => hy.1) (fun _ => ?_) (vcC_sound puN (by kernel_rfl) ?_) ?_
    ·simp only [go_sem, ↓tfi, ↓fti, ↓reduceIte]
    ·by_cases hc : isC ts s.i pubW = true
     ·have ha := acc_t (en := en) hT hc
      have hi := isC_lt hc
      simp only [go_sem, ↓tfi, ↓fti, ↓reduceIte]
      refine cvl ((ha m).mono ?_)
      clear ha
      rintro r H' m1 hm1 ⟨l1, rfl, rfl⟩
      simp only [go_sem, ↓tfi, ↓fti, ↓reduceIte]
      exact ⟨(s.next, 1, m1), ⟨⟨rfl, ⟨rfl, rfl, rfl⟩⟩, .inl rfl⟩, l1, ⟨(by decide : (0 : Int) ≤ 1), (by decide : (1 : Int) < 2)⟩, ⟨hI.next hi, Nat.le_succ _, rfl, fun h => (by rw [hI.nfl hi] at h; cases h), by rw [p1L, modsP_cons, if_pos (by rw [← isC_P]; exact hc), ← drop_next]; rfl⟩⟩
     ·have ha := acc_f (en := en) hT hc
      simp only [go_sem, ↓tfi, ↓fti, ↓reduceIte]
      refine cvl ((ha m).mono ?_)
      clear ha
      rintro r H' m1 hm1 ⟨l1, rfl, rfl⟩
      simp only [go_sem, ↓tfi, ↓fti, ↓reduceIte]
      exact ⟨(s, 0, m1), ⟨⟨rfl, ⟨rfl, rfl, rfl⟩⟩, .inl rfl⟩, l1, ⟨(by decide : (0 : Int) ≤ 0), (by decide : (0 : Int) < 2)⟩, ⟨hI, Nnr _, rfl, fun _ => rfl, by rw [p1L, modsP_cons, if_neg (by rw [← isC_P]; exact hc)]; rfl⟩⟩
    ·rintro ⟨s1, v, m1⟩ ⟨q1, ⟨q2, q3⟩, hM⟩
     dsimp only at q1 q2 q3 hM
     refine WP_cutW (fun y : PSt × Int × List UInt8 × List UInt8 × List (List UInt8) × Option Addr × Nat × Mem => ⟨[⟨0, [], .box 0 0⟩, ⟨2, [], .box 2 0⟩, ⟨3, [], .box 10 0⟩], [], [hCB y.2.1 y.2.2.1 y.2.2.2.1 (.slice y.2.2.2.2.2.1 y.2.2.2.2.1.length y.2.2.2.2.2.2.1), zCB 2, prB en y.1], [tkV ts], 100, y.2.2.2.2.2.2.2⟩)
      (fun y => leM m1 y.2.2.2.2.2.2.2 ∧ HdR ts en s y.2.2.2.2.2.2.2 y.1 y.2.1 y.2.2.1 y.2.2.2.1 y.2.2.2.2.1 y.2.2.2.2.2.1 y.2.2.2.2.2.2.1) (fun _ _ => nbl rfl) (fun y hy => hy.1) (fun _ => ?_) (vcC_sound puN (by kernel_rfl) ?_) ?_
     ·simp only [go_sem, ↓tfi, ↓fti, ↓reduceIte]
     ·simp only [go_sem, ↓tfi, ↓fti, ↓reduceIte]
      have o16 := or_16 v q2 (by omega)
      have o1 := or_1024 v q2 (by omega)
      have o2 := or_1024 (v + 16) (by omega) (by omega)
      have o3 := or_1536 v q2 q3
      by_cases hc10 : isC ts (s1).i ifcW = true
      ·have q11 := fun m' => acc_t (en := en) hT hc10 m'
       refine cvl ((q11 m1).mono ?_)
       clear q11
       rintro r H' m2 hm2 ⟨l2, rfl, rfl⟩
       simp only [go_sem, ↓tfi, ↓fti, ↓reduceIte, o16, o1, o2, o3]
       have hI11 := hM.inv.next (isC_lt hc10)
       have hle11 : (s1).next.i = (s1).i + 1 := rfl
       try rw [or_1536 v q2 q3]
       have q12 := fun m' => pcls_spec ts en (s1).next m' hT hI11
       refine cvl ((q12 m2).mono ?_)
       clear q12
       rintro r H' m3 hm3 ⟨l3, w12, s12, rfl, hw12, rfl, hR12⟩
       simp only [go_sem, ↓tfi, ↓fti, ↓reduceIte, o16, o1, o2, o3]
       have hle12 := hR12.mono
       by_cases hc13 : isC ts (s12).i extW = true
       ·have q14 := fun m' => acc_t (en := en) hT hc13 m'
        refine cvl ((q14 m3).mono ?_)
        clear q14
        rintro r H' m4 hm4 ⟨l4, rfl, rfl⟩
        simp only [go_sem, ↓tfi, ↓fti, ↓reduceIte, o16, o1, o2, o3]
        have hI14 := hR12.inv.next (isC_lt hc13)
        have hle14 : (s12).next.i = (s12).i + 1 := rfl
        have q15 := fun m' => classes_spec (s := (s12).next) (en := en) hT hI14 m'
        refine cvl ((q15 m4).mono ?_)
        clear q15
        rintro r H' m5 hm5 ⟨l5, l1015, a15, c15, s15, rfl, ha15, hb15, hc15, hd15, rfl, hR15⟩
        simp only [go_sem, ↓tfi, ↓fti, ↓reduceIte, o16, o1, o2, o3]
        have hle15 := hR15.mono
        exact ⟨(s15, v + 1536, w12, objS, l1015, a15, c15, m5), ⟨⟨⟨rfl, rfl, rfl, rfl⟩, ⟨rfl, rfl, rfl⟩⟩, .inl rfl⟩, (leM_tr l2 (leM_tr l3 (leM_tr l4 l5))), ⟨hR15.inv, (by constructor <;> omega : (0 : Int) ≤ v + 1536 ∧ v + 1536 < 4096), hw12, (by decide : objS.length ≤ 1000000), hb15, ha15, hc15, hd15, fun a s' h => (by unfold headK; rw [hM.val]; exact res_mod hM (by dsimp only; rw [if_pos (by rw [← isC_P]; exact hc10), ← drop_next]; exact res_next hM.inv (isC_lt hc10) (res_bnd hR12 (res_bnd (show Res ts en (s12) (ifsK extW (ts.drop (s12).i)) l1015 s15 from by unfold ifsK; rw [if_pos (by rw [← isC_P]; exact hc13), ← drop_next]; exact res_next hR12.inv (isC_lt hc13) hR15) h))))⟩⟩
       ·have q14 := fun m' => acc_f (en := en) hT hc13 m'
        refine cvl ((q14 m3).mono ?_)
        clear q14
        rintro r H' m4 hm4 ⟨l4, rfl, rfl⟩
        simp only [go_sem, ↓tfi, ↓fti, ↓reduceIte, o16, o1, o2, o3]
        exact ⟨(s12, v + 1536, w12, objS, [], none, 0, m4), ⟨⟨⟨rfl, rfl, rfl, rfl⟩, ⟨rfl, rfl, rfl⟩⟩, .inl rfl⟩, (leM_tr l2 (leM_tr l3 l4)), ⟨hR12.inv, (by constructor <;> omega : (0 : Int) ≤ v + 1536 ∧ v + 1536 < 4096), hw12, (by decide : objS.length ≤ 1000000), Nat.zero_le _, Nnr _, rds_none _ _, fun w hw => (by cases hw), fun a s' h => (by unfold headK; rw [hM.val]; exact res_mod hM (by dsimp only; rw [if_pos (by rw [← isC_P]; exact hc10), ← drop_next]; exact res_next hM.inv (isC_lt hc10) (res_bnd hR12 (res_bnd (show Res ts en (s12) (ifsK extW (ts.drop (s12).i)) [] (s12) from by unfold ifsK; rw [if_neg (by rw [← isC_P]; exact hc13)]; exact res_pure _ hR12.inv) h))))⟩⟩
      ·have q11 := fun m' => acc_f (en := en) hT hc10 m'
       refine cvl ((q11 m1).mono ?_)
       clear q11
       rintro r H' m2 hm2 ⟨l2, rfl, rfl⟩
       simp only [go_sem, ↓tfi, ↓fti, ↓reduceIte, o16, o1, o2, o3]
       by_cases hc12 : isC ts (s1).i finW = true
       ·have q13 := fun m' => acc_t (en := en) hT hc12 m'
        refine cvl ((q13 m2).mono ?_)
        clear q13
        rintro r H' m3 hm3 ⟨l3, rfl, rfl⟩
        simp only [go_sem, ↓tfi, ↓fti, ↓reduceIte, o16, o1, o2, o3]
        have hI13 := hM.inv.next (isC_lt hc12)
        have hle13 : (s1).next.i = (s1).i + 1 := rfl
        by_cases hc14 : isC ts ((s1).next).i absW = true
        ·have q15 := fun m' => acc_t (en := en) hT hc14 m'
         refine cvl ((q15 m3).mono ?_)
         clear q15
         rintro r H' m4 hm4 ⟨l4, rfl, rfl⟩
         simp only [go_sem, ↓tfi, ↓fti, ↓reduceIte, o16, o1, o2, o3]
         have hI15 := hI13.next (isC_lt hc14)
         have hle15 : ((s1).next).next.i = ((s1).next).i + 1 := rfl
         have q16 := fun m' => exp_spec ts en ((s1).next).next clW m' hT.l8
         have hI16 : Inv ts (expSt ts en ((s1).next).next clW) := inv_expSt hI15
         have hle16 : (((s1).next).next).i ≤ (expSt ts en ((s1).next).next clW).i := expSt_le hI15
         refine cvl ((q16 m4).mono ?_)
         clear q16
         rintro r H' m5 hm5 ⟨l5, rfl, rfl⟩
         simp only [go_sem, ↓tfi, ↓fti, ↓reduceIte, o16, o1, o2, o3]
         have q17 := fun m' => pcls_spec ts en (expSt ts en ((s1).next).next clW) m' hT hI16
         refine cvl ((q17 m5).mono ?_)
         clear q17
         rintro r H' m6 hm6 ⟨l6, w17, s17, rfl, hw17, rfl, hR17⟩
         simp only [go_sem, ↓tfi, ↓fti, ↓reduceIte, o16, o1, o2, o3]
         have hle17 := hR17.mono
         have q18 := fun m' => exp_spec ts en s17 extW m' hT.l8
         have hI18 : Inv ts (expSt ts en s17 extW) := inv_expSt hR17.inv
         have hle18 : (s17).i ≤ (expSt ts en s17 extW).i := expSt_le hR17.inv
         refine cvl ((q18 m6).mono ?_)
         clear q18
         rintro r H' m7 hm7 ⟨l7, rfl, rfl⟩
         simp only [go_sem, ↓tfi, ↓fti, ↓reduceIte, o16, o1, o2, o3]
         have q19 := fun m' => pcls_spec ts en (expSt ts en s17 extW) m' hT hI18
         refine cvl ((q19 m7).mono ?_)
         clear q19
         rintro r H' m8 hm8 ⟨l8, w19, s19, rfl, hw19, rfl, hR19⟩
         simp only [go_sem, ↓tfi, ↓fti, ↓reduceIte, o16, o1, o2, o3]
         have hle19 := hR19.mono
         by_cases hc20 : isC ts (s19).i impW = true
         ·have q21 := fun m' => acc_t (en := en) hT hc20 m'
          refine cvl ((q21 m8).mono ?_)
          clear q21
          rintro r H' m9 hm9 ⟨l9, rfl, rfl⟩
          simp only [go_sem, ↓tfi, ↓fti, ↓reduceIte, o16, o1, o2, o3]
          have hI21 := hR19.inv.next (isC_lt hc20)
          have hle21 : (s19).next.i = (s19).i + 1 := rfl
          have q22 := fun m' => classes_spec (s := (s19).next) (en := en) hT hI21 m'
          refine cvl ((q22 m9).mono ?_)
          clear q22
          rintro r H' m10 hm10 ⟨l10, l1022, a22, c22, s22, rfl, ha22, hb22, hc22, hd22, rfl, hR22⟩
          simp only [go_sem, ↓tfi, ↓fti, ↓reduceIte, o16, o1, o2, o3]
          have hle22 := hR22.mono
          exact ⟨(s22, v + 16 + 1024, w17, w19, l1022, a22, c22, m10), ⟨⟨⟨rfl, rfl, rfl, rfl⟩, ⟨rfl, rfl, rfl⟩⟩, .inl rfl⟩, (leM_tr l2 (leM_tr l3 (leM_tr l4 (leM_tr l5 (leM_tr l6 (leM_tr l7 (leM_tr l8 (leM_tr l9 l10)))))))), ⟨hR22.inv, (by constructor <;> omega : (0 : Int) ≤ v + 16 + 1024 ∧ v + 16 + 1024 < 4096), hw17, hw19, hb22, ha22, hc22, hd22, fun a s' h => (by unfold headK; rw [hM.val]; exact res_mod hM (by dsimp only; rw [if_neg (by rw [← isC_P]; exact hc10), show modsP p2L v (ts.drop s1.i) = (v + 16 + 1024, ts.drop (((s1).next).next).i) from by rw [p2L, modsP_cons, if_pos (by rw [← isC_P]; exact hc12), ← drop_next, modsP_cons, if_pos (by rw [← isC_P]; exact hc14), ← drop_next]; rfl]; exact (res_next hM.inv (isC_lt hc12) (res_next hI13 (isC_lt hc14) (res_exp hI15 (res_bnd hR17 (res_exp hR17.inv (res_bnd hR19 (res_bnd (show Res ts en (s19) (ifsK impW (ts.drop (s19).i)) l1022 s22 from by unfold ifsK; rw [if_pos (by rw [← isC_P]; exact hc20), ← drop_next]; exact res_next hR19.inv (isC_lt hc20) hR22) h)))))))))⟩⟩
         ·have q21 := fun m' => acc_f (en := en) hT hc20 m'
          refine cvl ((q21 m8).mono ?_)
          clear q21
          rintro r H' m9 hm9 ⟨l9, rfl, rfl⟩
          simp only [go_sem, ↓tfi, ↓fti, ↓reduceIte, o16, o1, o2, o3]
          exact ⟨(s19, v + 16 + 1024, w17, w19, [], none, 0, m9), ⟨⟨⟨rfl, rfl, rfl, rfl⟩, ⟨rfl, rfl, rfl⟩⟩, .inl rfl⟩, (leM_tr l2 (leM_tr l3 (leM_tr l4 (leM_tr l5 (leM_tr l6 (leM_tr l7 (leM_tr l8 l9))))))), ⟨hR19.inv, (by constructor <;> omega : (0 : Int) ≤ v + 16 + 1024 ∧ v + 16 + 1024 < 4096), hw17, hw19, Nat.zero_le _, Nnr _, rds_none _ _, fun w hw => (by cases hw), fun a s' h => (by unfold headK; rw [hM.val]; exact res_mod hM (by dsimp only; rw [if_neg (by rw [← isC_P]; exact hc10), show modsP p2L v (ts.drop s1.i) = (v + 16 + 1024, ts.drop (((s1).next).next).i) from by rw [p2L, modsP_cons, if_pos (by rw [← isC_P]; exact hc12), ← drop_next, modsP_cons, if_pos (by rw [← isC_P]; exact hc14), ← drop_next]; rfl]; exact (res_next hM.inv (isC_lt hc12) (res_next hI13 (isC_lt hc14) (res_exp hI15 (res_bnd hR17 (res_exp hR17.inv (res_bnd hR19 (res_bnd (show Res ts en (s19) (ifsK impW (ts.drop (s19).i)) [] (s19) from by unfold ifsK; rw [if_neg (by rw [← isC_P]; exact hc20)]; exact res_pure _ hR19.inv) h)))))))))⟩⟩
        ·have q15 := fun m' => acc_f (en := en) hT hc14 m'
         refine cvl ((q15 m3).mono ?_)
         clear q15
         rintro r H' m4 hm4 ⟨l4, rfl, rfl⟩
         simp only [go_sem, ↓tfi, ↓fti, ↓reduceIte, o16, o1, o2, o3]
         have q16 := fun m' => exp_spec ts en (s1).next clW m' hT.l8
         have hI16 : Inv ts (expSt ts en (s1).next clW) := inv_expSt hI13
         have hle16 : ((s1).next).i ≤ (expSt ts en (s1).next clW).i := expSt_le hI13
         refine cvl ((q16 m4).mono ?_)
         clear q16
         rintro r H' m5 hm5 ⟨l5, rfl, rfl⟩
         simp only [go_sem, ↓tfi, ↓fti, ↓reduceIte, o16, o1, o2, o3]
         have q17 := fun m' => pcls_spec ts en (expSt ts en (s1).next clW) m' hT hI16
         refine cvl ((q17 m5).mono ?_)
         clear q17
         rintro r H' m6 hm6 ⟨l6, w17, s17, rfl, hw17, rfl, hR17⟩
         simp only [go_sem, ↓tfi, ↓fti, ↓reduceIte, o16, o1, o2, o3]
         have hle17 := hR17.mono
         have q18 := fun m' => exp_spec ts en s17 extW m' hT.l8
         have hI18 : Inv ts (expSt ts en s17 extW) := inv_expSt hR17.inv
         have hle18 : (s17).i ≤ (expSt ts en s17 extW).i := expSt_le hR17.inv
         refine cvl ((q18 m6).mono ?_)
         clear q18
         rintro r H' m7 hm7 ⟨l7, rfl, rfl⟩
         simp only [go_sem, ↓tfi, ↓fti, ↓reduceIte, o16, o1, o2, o3]
         have q19 := fun m' => pcls_spec ts en (expSt ts en s17 extW) m' hT hI18
         refine cvl ((q19 m7).mono ?_)
         clear q19
         rintro r H' m8 hm8 ⟨l8, w19, s19, rfl, hw19, rfl, hR19⟩
         simp only [go_sem, ↓tfi, ↓fti, ↓reduceIte, o16, o1, o2, o3]
         have hle19 := hR19.mono
         by_cases hc20 : isC ts (s19).i impW = true
         ·have q21 := fun m' => acc_t (en := en) hT hc20 m'
          refine cvl ((q21 m8).mono ?_)
          clear q21
          rintro r H' m9 hm9 ⟨l9, rfl, rfl⟩
          simp only [go_sem, ↓tfi, ↓fti, ↓reduceIte, o16, o1, o2, o3]
          have hI21 := hR19.inv.next (isC_lt hc20)
          have hle21 : (s19).next.i = (s19).i + 1 := rfl
          have q22 := fun m' => classes_spec (s := (s19).next) (en := en) hT hI21 m'
          refine cvl ((q22 m9).mono ?_)
          clear q22
          rintro r H' m10 hm10 ⟨l10, l1022, a22, c22, s22, rfl, ha22, hb22, hc22, hd22, rfl, hR22⟩
          simp only [go_sem, ↓tfi, ↓fti, ↓reduceIte, o16, o1, o2, o3]
          have hle22 := hR22.mono
          exact ⟨(s22, v + 16, w17, w19, l1022, a22, c22, m10), ⟨⟨⟨rfl, rfl, rfl, rfl⟩, ⟨rfl, rfl, rfl⟩⟩, .inl rfl⟩, (leM_tr l2 (leM_tr l3 (leM_tr l4 (leM_tr l5 (leM_tr l6 (leM_tr l7 (leM_tr l8 (leM_tr l9 l10)))))))), ⟨hR22.inv, (by constructor <;> omega : (0 : Int) ≤ v + 16 ∧ v + 16 < 4096), hw17, hw19, hb22, ha22, hc22, hd22, fun a s' h => (by unfold headK; rw [hM.val]; exact res_mod hM (by dsimp only; rw [if_neg (by rw [← isC_P]; exact hc10), show modsP p2L v (ts.drop s1.i) = (v + 16, ts.drop ((s1).next).i) from by rw [p2L, modsP_cons, if_pos (by rw [← isC_P]; exact hc12), ← drop_next, modsP_cons, if_neg (by rw [← isC_P]; exact hc14)]; rfl]; exact (res_next hM.inv (isC_lt hc12) (res_exp hI13 (res_bnd hR17 (res_exp hR17.inv (res_bnd hR19 (res_bnd (show Res ts en (s19) (ifsK impW (ts.drop (s19).i)) l1022 s22 from by unfold ifsK; rw [if_pos (by rw [← isC_P]; exact hc20), ← drop_next]; exact res_next hR19.inv (isC_lt hc20) hR22) h))))))))⟩⟩
         ·have q21 := fun m' => acc_f (en := en) hT hc20 m'
          refine cvl ((q21 m8).mono ?_)
          clear q21
          rintro r H' m9 hm9 ⟨l9, rfl, rfl⟩
          simp only [go_sem, ↓tfi, ↓fti, ↓reduceIte, o16, o1, o2, o3]
          exact ⟨(s19, v + 16, w17, w19, [], none, 0, m9), ⟨⟨⟨rfl, rfl, rfl, rfl⟩, ⟨rfl, rfl, rfl⟩⟩, .inl rfl⟩, (leM_tr l2 (leM_tr l3 (leM_tr l4 (leM_tr l5 (leM_tr l6 (leM_tr l7 (leM_tr l8 l9))))))), ⟨hR19.inv, (by constructor <;> omega : (0 : Int) ≤ v + 16 ∧ v + 16 < 4096), hw17, hw19, Nat.zero_le _, Nnr _, rds_none _ _, fun w hw => (by cases hw), fun a s' h => (by unfold headK; rw [hM.val]; exact res_mod hM (by dsimp only; rw [if_neg (by rw [← isC_P]; exact hc10), show modsP p2L v (ts.drop s1.i) = (v + 16, ts.drop ((s1).next).i) from by rw [p2L, modsP_cons, if_pos (by rw [← isC_P]; exact hc12), ← drop_next, modsP_cons, if_neg (by rw [← isC_P]; exact hc14)]; rfl]; exact (res_next hM.inv (isC_lt hc12) (res_exp hI13 (res_bnd hR17 (res_exp hR17.inv (res_bnd hR19 (res_bnd (show Res ts en (s19) (ifsK impW (ts.drop (s19).i)) [] (s19) from by unfold ifsK; rw [if_neg (by rw [← isC_P]; exact hc20)]; exact res_pure _ hR19.inv) h))))))))⟩⟩
       ·have q13 := fun m' => acc_f (en := en) hT hc12 m'
        refine cvl ((q13 m2).mono ?_)
        clear q13
        rintro r H' m3 hm3 ⟨l3, rfl, rfl⟩
        simp only [go_sem, ↓tfi, ↓fti, ↓reduceIte, o16, o1, o2, o3]
        by_cases hc14 : isC ts (s1).i absW = true
        ·have q15 := fun m' => acc_t (en := en) hT hc14 m'
         refine cvl ((q15 m3).mono ?_)
         clear q15
         rintro r H' m4 hm4 ⟨l4, rfl, rfl⟩
         simp only [go_sem, ↓tfi, ↓fti, ↓reduceIte, o16, o1, o2, o3]
         have hI15 := hM.inv.next (isC_lt hc14)
         have hle15 : (s1).next.i = (s1).i + 1 := rfl
         have q16 := fun m' => exp_spec ts en (s1).next clW m' hT.l8
         have hI16 : Inv ts (expSt ts en (s1).next clW) := inv_expSt hI15
         have hle16 : ((s1).next).i ≤ (expSt ts en (s1).next clW).i := expSt_le hI15
         refine cvl ((q16 m4).mono ?_)
         clear q16
         rintro r H' m5 hm5 ⟨l5, rfl, rfl⟩
         simp only [go_sem, ↓tfi, ↓fti, ↓reduceIte, o16, o1, o2, o3]
         have q17 := fun m' => pcls_spec ts en (expSt ts en (s1).next clW) m' hT hI16
         refine cvl ((q17 m5).mono ?_)
         clear q17
         rintro r H' m6 hm6 ⟨l6, w17, s17, rfl, hw17, rfl, hR17⟩
         simp only [go_sem, ↓tfi, ↓fti, ↓reduceIte, o16, o1, o2, o3]
         have hle17 := hR17.mono
         have q18 := fun m' => exp_spec ts en s17 extW m' hT.l8
         have hI18 : Inv ts (expSt ts en s17 extW) := inv_expSt hR17.inv
         have hle18 : (s17).i ≤ (expSt ts en s17 extW).i := expSt_le hR17.inv
         refine cvl ((q18 m6).mono ?_)
         clear q18
         rintro r H' m7 hm7 ⟨l7, rfl, rfl⟩
         simp only [go_sem, ↓tfi, ↓fti, ↓reduceIte, o16, o1, o2, o3]
         have q19 := fun m' => pcls_spec ts en (expSt ts en s17 extW) m' hT hI18
         refine cvl ((q19 m7).mono ?_)
         clear q19
         rintro r H' m8 hm8 ⟨l8, w19, s19, rfl, hw19, rfl, hR19⟩
         simp only [go_sem, ↓tfi, ↓fti, ↓reduceIte, o16, o1, o2, o3]
         have hle19 := hR19.mono
         by_cases hc20 : isC ts (s19).i impW = true
         ·have q21 := fun m' => acc_t (en := en) hT hc20 m'
          refine cvl ((q21 m8).mono ?_)
          clear q21
          rintro r H' m9 hm9 ⟨l9, rfl, rfl⟩
          simp only [go_sem, ↓tfi, ↓fti, ↓reduceIte, o16, o1, o2, o3]
          have hI21 := hR19.inv.next (isC_lt hc20)
          have hle21 : (s19).next.i = (s19).i + 1 := rfl
          have q22 := fun m' => classes_spec (s := (s19).next) (en := en) hT hI21 m'
          refine cvl ((q22 m9).mono ?_)
          clear q22
          rintro r H' m10 hm10 ⟨l10, l1022, a22, c22, s22, rfl, ha22, hb22, hc22, hd22, rfl, hR22⟩
          simp only [go_sem, ↓tfi, ↓fti, ↓reduceIte, o16, o1, o2, o3]
          have hle22 := hR22.mono
          exact ⟨(s22, v + 1024, w17, w19, l1022, a22, c22, m10), ⟨⟨⟨rfl, rfl, rfl, rfl⟩, ⟨rfl, rfl, rfl⟩⟩, .inl rfl⟩, (leM_tr l2 (leM_tr l3 (leM_tr l4 (leM_tr l5 (leM_tr l6 (leM_tr l7 (leM_tr l8 (leM_tr l9 l10)))))))), ⟨hR22.inv, (by constructor <;> omega : (0 : Int) ≤ v + 1024 ∧ v + 1024 < 4096), hw17, hw19, hb22, ha22, hc22, hd22, fun a s' h => (by unfold headK; rw [hM.val]; exact res_mod hM (by dsimp only; rw [if_neg (by rw [← isC_P]; exact hc10), show modsP p2L v (ts.drop s1.i) = (v + 1024, ts.drop ((s1).next).i) from by rw [p2L, modsP_cons, if_neg (by rw [← isC_P]; exact hc12), modsP_cons, if_pos (by rw [← isC_P]; exact hc14), ← drop_next]; rfl]; exact (res_next hM.inv (isC_lt hc14) (res_exp hI15 (res_bnd hR17 (res_exp hR17.inv (res_bnd hR19 (res_bnd (show Res ts en (s19) (ifsK impW (ts.drop (s19).i)) l1022 s22 from by unfold ifsK; rw [if_pos (by rw [← isC_P]; exact hc20), ← drop_next]; exact res_next hR19.inv (isC_lt hc20) hR22) h))))))))⟩⟩
         ·have q21 := fun m' => acc_f (en := en) hT hc20 m'
          refine cvl ((q21 m8).mono ?_)
          clear q21
          rintro r H' m9 hm9 ⟨l9, rfl, rfl⟩
          simp only [go_sem, ↓tfi, ↓fti, ↓reduceIte, o16, o1, o2, o3]
          exact ⟨(s19, v + 1024, w17, w19, [], none, 0, m9), ⟨⟨⟨rfl, rfl, rfl, rfl⟩, ⟨rfl, rfl, rfl⟩⟩, .inl rfl⟩, (leM_tr l2 (leM_tr l3 (leM_tr l4 (leM_tr l5 (leM_tr l6 (leM_tr l7 (leM_tr l8 l9))))))), ⟨hR19.inv, (by constructor <;> omega : (0 : Int) ≤ v + 1024 ∧ v + 1024 < 4096), hw17, hw19, Nat.zero_le _, Nnr _, rds_none _ _, fun w hw => (by cases hw), fun a s' h => (by unfold headK; rw [hM.val]; exact res_mod hM (by dsimp only; rw [if_neg (by rw [← isC_P]; exact hc10), show modsP p2L v (ts.drop s1.i) = (v + 1024, ts.drop ((s1).next).i) from by rw [p2L, modsP_cons, if_neg (by rw [← isC_P]; exact hc12), modsP_cons, if_pos (by rw [← isC_P]; exact hc14), ← drop_next]; rfl]; exact (res_next hM.inv (isC_lt hc14) (res_exp hI15 (res_bnd hR17 (res_exp hR17.inv (res_bnd hR19 (res_bnd (show Res ts en (s19) (ifsK impW (ts.drop (s19).i)) [] (s19) from by unfold ifsK; rw [if_neg (by rw [← isC_P]; exact hc20)]; exact res_pure _ hR19.inv) h))))))))⟩⟩
        ·have q15 := fun m' => acc_f (en := en) hT hc14 m'
         refine cvl ((q15 m3).mono ?_)
         clear q15
         rintro r H' m4 hm4 ⟨l4, rfl, rfl⟩
         simp only [go_sem, ↓tfi, ↓fti, ↓reduceIte, o16, o1, o2, o3]
         have q16 := fun m' => exp_spec ts en s1 clW m' hT.l8
         have hI16 : Inv ts (expSt ts en s1 clW) := inv_expSt hM.inv
         have hle16 : (s1).i ≤ (expSt ts en s1 clW).i := expSt_le hM.inv
         refine cvl ((q16 m4).mono ?_)
         clear q16
         rintro r H' m5 hm5 ⟨l5, rfl, rfl⟩
         simp only [go_sem, ↓tfi, ↓fti, ↓reduceIte, o16, o1, o2, o3]
         have q17 := fun m' => pcls_spec ts en (expSt ts en s1 clW) m' hT hI16
         refine cvl ((q17 m5).mono ?_)
         clear q17
         rintro r H' m6 hm6 ⟨l6, w17, s17, rfl, hw17, rfl, hR17⟩
         simp only [go_sem, ↓tfi, ↓fti, ↓reduceIte, o16, o1, o2, o3]
         have hle17 := hR17.mono
         have q18 := fun m' => exp_spec ts en s17 extW m' hT.l8
         have hI18 : Inv ts (expSt ts en s17 extW) := inv_expSt hR17.inv
         have hle18 : (s17).i ≤ (expSt ts en s17 extW).i := expSt_le hR17.inv
         refine cvl ((q18 m6).mono ?_)
         clear q18
         rintro r H' m7 hm7 ⟨l7, rfl, rfl⟩
         simp only [go_sem, ↓tfi, ↓fti, ↓reduceIte, o16, o1, o2, o3]
         have q19 := fun m' => pcls_spec ts en (expSt ts en s17 extW) m' hT hI18
         refine cvl ((q19 m7).mono ?_)
         clear q19
         rintro r H' m8 hm8 ⟨l8, w19, s19, rfl, hw19, rfl, hR19⟩
         simp only [go_sem, ↓tfi, ↓fti, ↓reduceIte, o16, o1, o2, o3]
         have hle19 := hR19.mono
         by_cases hc20 : isC ts (s19).i impW = true
         ·have q21 := fun m' => acc_t (en := en) hT hc20 m'
          refine cvl ((q21 m8).mono ?_)
          clear q21
          rintro r H' m9 hm9 ⟨l9, rfl, rfl⟩
          simp only [go_sem, ↓tfi, ↓fti, ↓reduceIte, o16, o1, o2, o3]
          have hI21 := hR19.inv.next (isC_lt hc20)
          have hle21 : (s19).next.i = (s19).i + 1 := rfl
          have q22 := fun m' => classes_spec (s := (s19).next) (en := en) hT hI21 m'
          refine cvl ((q22 m9).mono ?_)
          clear q22
          rintro r H' m10 hm10 ⟨l10, l1022, a22, c22, s22, rfl, ha22, hb22, hc22, hd22, rfl, hR22⟩
          simp only [go_sem, ↓tfi, ↓fti, ↓reduceIte, o16, o1, o2, o3]
          have hle22 := hR22.mono
          exact ⟨(s22, v, w17, w19, l1022, a22, c22, m10), ⟨⟨⟨rfl, rfl, rfl, rfl⟩, ⟨rfl, rfl, rfl⟩⟩, .inl rfl⟩, (leM_tr l2 (leM_tr l3 (leM_tr l4 (leM_tr l5 (leM_tr l6 (leM_tr l7 (leM_tr l8 (leM_tr l9 l10)))))))), ⟨hR22.inv, (by constructor <;> omega : (0 : Int) ≤ v ∧ v < 4096), hw17, hw19, hb22, ha22, hc22, hd22, fun a s' h => (by unfold headK; rw [hM.val]; exact res_mod hM (by dsimp only; rw [if_neg (by rw [← isC_P]; exact hc10), show modsP p2L v (ts.drop s1.i) = (v, ts.drop (s1).i) from by rw [p2L, modsP_cons, if_neg (by rw [← isC_P]; exact hc12), modsP_cons, if_neg (by rw [← isC_P]; exact hc14)]; rfl]; exact (res_exp hM.inv (res_bnd hR17 (res_exp hR17.inv (res_bnd hR19 (res_bnd (show Res ts en (s19) (ifsK impW (ts.drop (s19).i)) l1022 s22 from by unfold ifsK; rw [if_pos (by rw [← isC_P]; exact hc20), ← drop_next]; exact res_next hR19.inv (isC_lt hc20) hR22) h)))))))⟩⟩
         ·have q21 := fun m' => acc_f (en := en) hT hc20 m'
          refine cvl ((q21 m8).mono ?_)
          clear q21
          rintro r H' m9 hm9 ⟨l9, rfl, rfl⟩
          simp only [go_sem, ↓tfi, ↓fti, ↓reduceIte, o16, o1, o2, o3]
          exact ⟨(s19, v, w17, w19, [], none, 0, m9), ⟨⟨⟨rfl, rfl, rfl, rfl⟩, ⟨rfl, rfl, rfl⟩⟩, .inl rfl⟩, (leM_tr l2 (leM_tr l3 (leM_tr l4 (leM_tr l5 (leM_tr l6 (leM_tr l7 (leM_tr l8 l9))))))), ⟨hR19.inv, (by constructor <;> omega : (0 : Int) ≤ v ∧ v < 4096), hw17, hw19, Nat.zero_le _, Nnr _, rds_none _ _, fun w hw => (by cases hw), fun a s' h => (by unfold headK; rw [hM.val]; exact res_mod hM (by dsimp only; rw [if_neg (by rw [← isC_P]; exact hc10), show modsP p2L v (ts.drop s1.i) = (v, ts.drop (s1).i) from by rw [p2L, modsP_cons, if_neg (by rw [← isC_P]; exact hc12), modsP_cons, if_neg (by rw [← isC_P]; exact hc14)]; rfl]; exact (res_exp hM.inv (res_bnd hR17 (res_exp hR17.inv (res_bnd hR19 (res_bnd (show Res ts en (s19) (ifsK impW (ts.drop (s19).i)) [] (s19) from by unfold ifsK; rw [if_neg (by rw [← isC_P]; exact hc20)]; exact res_pure _ hR19.inv) h)))))))⟩⟩
     ·rintro ⟨s2, v2, nm, sp, is, ia, ic, m2⟩ ⟨g1, hH⟩
      dsimp only at g1 hH
      have hE := fun m' => exp_spec ts en s2 [123] m' hT.l8
      have hIE : Inv ts (expSt ts en s2 [123]) := inv_expSt hH.inv
      have hRH : Res ts en s (headK (ts.drop s.i)) ⟨v2, nm, sp, is, [], [], []⟩ (expSt ts en s2 [123]) := hH.res _ _ (res_exp hH.inv (res_pure _ hIE))
      refine vcC_sound puN (by kernel_rfl) ?_
      simp only [go_sem, ↓tfi, ↓fti, ↓reduceIte]
      refine cvl ((hE m2).mono ?_)
      clear hE
      rintro r H' m3 hm3 ⟨l3, rfl, rfl⟩
      simp only [go_sem, ↓tfi, ↓fti, ↓reduceIte]
      refine WP_adoptB 10 4 _ 94 5 (by decide) rfl rfl ?_
      refine WP_adoptB 10 5 _ 98 8 (by decide) rfl rfl ?_
      refine WP_adoptB 10 6 _ 73 23 (by decide) rfl rfl ?_
      refine WP_loop puN (fun y : PSt × DSt × Mem => ⟨[⟨0, [], .box 0 0⟩, ⟨2, [], .box 2 0⟩, ⟨3, [], .box 10 0⟩], [], [dB y.2.1, prB en y.1, zCB 2], [fV y.2.1, mV y.2.1, iV y.2.1, tkV ts], 200, y.2.2⟩)
       (fun y => leM m3 y.2.2 ∧ Inv ts y.1 ∧ Same ⟨⟨v2, nm, sp, is, [], [], []⟩, ia, ic, 0, 0, 0, [], []⟩ y.2.1 ∧ DOk y.2.2 y.2.1 (y.1.i + (if y.1.fl = true then 1 else 0)) ∧ ∀ a s', Res ts en y.1 (memsK y.2.1.d (ts.drop y.1.i)) a s' → Res ts en s (clK (ts.drop s.i)) a s')
       (fun y => if y.1.fl = true then 0 else ts.length - y.1.i + 1) (expSt ts en s2 [123], ⟨⟨v2, nm, sp, is, [], [], []⟩, ia, ic, 0, 0, 0, [], []⟩, m3) (by kernel_rfl) (fun _ _ => nbl rfl) (fun y hy => hy.1) (fun _ => ?_) ?_ ?_ ?_
      ·simp only [go_sem, ↓tfi, ↓fti, ↓reduceIte]
      ·simp only [go_sem, ↓tfi, ↓fti, ↓reduceIte]
       exact rfl
      ·exact ⟨.inl rfl, hIE, ⟨rfl, rfl, rfl, rfl, rfl, rfl, Nnr _, Nnr _, Nnr _⟩, ⟨rfl, trivial, rfl, stsRep_nil _ _, fun f hf => (by cases hf), Nat.zero_le _, Nat.zero_le _, Nat.zero_le _⟩, fun a s' h => res_bnd hRH h⟩
      ·rintro ⟨s4, y, m4⟩ ⟨p1, p2, p3, p4, p5⟩
       dsimp only at p1 p2 p3 p4 p5
       have hil := p2.le
       have hfn := p4.fn
       have hmn := p4.mn
       have hin := p4.inn
       have hbd : (if s4.fl = true then 1 else 0) ≤ 1 := by split <;> decide
       by_cases hf : s4.fl = true
       ·simp only [go_sem, ↓tfi, ↓fti, ↓reduceIte]
        refine ⟨fun h => (by rw [hf] at h; cases h), fun _ => ?_⟩
        refine own_agg 4 rfl (b := fV y) (by simp [lkV]) ⟨(pH ts en s4).bx, [mV y, iV y, tkV ts]⟩ (List.Sublist.refl _) (.cons _ (List.Sublist.refl _)) fun a1 c1 w1 x1 x2 x3 => ?_
        refine own_agg 5 rfl (b := mV y) (by simp [lkV]) ⟨(pH ts en s4).bx, [iV y, tkV ts]⟩ (List.Sublist.refl _) (.cons _ (List.Sublist.refl _)) fun a2 c2 w2 x4 x5 x6 => ?_
        refine own_agg 6 rfl (b := iV y) (by simp [lkV]) (pH ts en s4) (List.Sublist.refl _) (.cons _ (List.Sublist.refl _)) fun a3 c3 w3 x7 x8 x9 => ?_
        have hw : leM m4 w3 := leM_tr (.inl rfl : leM m4 m4) (leM_tr (.inr x1) (leM_tr (.inr x4) (.inr x7)))
        have hy := p4.up hw (Nnr _)
        have hall : leM m2 w3 := leM_tr l3 (leM_tr p1 hw)
        have hck : CdOk y.d := ⟨by rw [p3.fl]; have := hH.fl; unfold I64; dsimp only; omega, by rw [p3.name]; have := hH.hn; unfold big; dsimp only; omega, by rw [p3.super]; have := hH.hs; unfold big; dsimp only; omega, by rw [p3.ifs]; have := hH.il; unfold big; dsimp only; omega, by rw [p3.ifs]; intro w hw; have := hH.iw w hw; unfold big; omega, by unfold big; omega, hy.fs, by unfold big; omega, by unfold big; omega⟩
        exact ⟨leM_tr q1 (leM_tr g1 hall), ⟨y.d.fl, y.d.name, y.d.super, y.ia, y.d.ifs.length, y.ic, a1, y.d.fields.length, c1, a2, y.d.methods.length, c2, a3, y.d.init.length, c3⟩, y.d, s4, rfl, ⟨_, ⟨rfl, rfl, rfl, rfl⟩, ⟨rfl, by rw [p3.ifs, p3.ic]; exact hH.ic, rfl, x2, rfl, x5, rfl, x8⟩, hck, by rw [p3.ia, p3.ifs]; exact Rds_upM hall hH.ir, Rds_upM (leM_tr (.inr x4) (.inr x7)) x3, _, _, Rds_upM (.inr x7) x6, hy.msr, x9, hy.isr⟩, rfl, p5 _ _ (res_fl y.d p2 hf)⟩
       ·have hf' : s4.fl = false := by simpa using hf
        by_cases h1 : isC ts s4.i [125] = true
        ·have ha := acc_t (en := en) hT h1
         have hi := isC_lt h1
         have hI5 := p2.next hi
         simp only [go_sem, ↓tfi, ↓fti, ↓reduceIte]
         refine ⟨fun _ => cvl ((ha m4).mono ?_), fun h => by rw [hf'] at h; cases h⟩
         clear ha
         rintro r H' m5 hm5 ⟨l5, rfl, rfl⟩
         simp only [go_sem, ↓tfi, ↓fti, ↓reduceIte]
         refine own_agg 4 rfl (b := fV y) (by simp [lkV]) ⟨(pH ts en s4.next).bx, [tkV ts, mV y, iV y]⟩ (List.Sublist.refl _) (.cons_cons _ (.cons _ (List.Sublist.refl _))) fun a1 c1 w1 x1 x2 x3 => ?_
         refine own_agg 5 rfl (b := mV y) (by simp [lkV]) ⟨(pH ts en s4.next).bx, [tkV ts, iV y]⟩ (List.Sublist.refl _) (.cons_cons _ (.cons _ (List.Sublist.refl _))) fun a2 c2 w2 x4 x5 x6 => ?_
         refine own_agg 6 rfl (b := iV y) (by simp [lkV]) (pH ts en s4.next) (List.Sublist.refl _) (.cons_cons _ (.cons _ (List.Sublist.refl _))) fun a3 c3 w3 x7 x8 x9 => ?_
         have hw : leM m4 w3 := leM_tr l5 (leM_tr (.inr x1) (leM_tr (.inr x4) (.inr x7)))
         have hy := p4.up hw (Nnr _)
         have hall : leM m2 w3 := leM_tr l3 (leM_tr p1 hw)
         have hck : CdOk y.d := ⟨by rw [p3.fl]; have := hH.fl; unfold I64; dsimp only; omega, by rw [p3.name]; have := hH.hn; unfold big; dsimp only; omega, by rw [p3.super]; have := hH.hs; unfold big; dsimp only; omega, by rw [p3.ifs]; have := hH.il; unfold big; dsimp only; omega, by rw [p3.ifs]; intro w hw; have := hH.iw w hw; unfold big; omega, by unfold big; omega, hy.fs, by unfold big; omega, by unfold big; omega⟩
         exact ⟨leM_tr q1 (leM_tr g1 hall), ⟨y.d.fl, y.d.name, y.d.super, y.ia, y.d.ifs.length, y.ic, a1, y.d.fields.length, c1, a2, y.d.methods.length, c2, a3, y.d.init.length, c3⟩, y.d, s4.next, rfl, ⟨_, ⟨rfl, rfl, rfl, rfl⟩, ⟨rfl, by rw [p3.ifs, p3.ic]; exact hH.ic, rfl, x2, rfl, x5, rfl, x8⟩, hck, by rw [p3.ia, p3.ifs]; exact Rds_upM hall hH.ir, Rds_upM (leM_tr (.inr x4) (.inr x7)) x3, _, _, Rds_upM (.inr x7) x6, hy.msr, x9, hy.isr⟩, rfl, p5 _ _ (by rw [memsK_eq, if_pos (by rw [← isC_P]; exact h1), ← drop_next]; exact res_next p2 hi (res_pure _ hI5))⟩
        ·have ha := acc_f (en := en) hT h1
         rw [if_neg hf] at p4
         have hb := fun m' h => member_spec (en := en) hT p2 hf' y m' h
         simp only [go_sem, ↓tfi, ↓fti, ↓reduceIte]
         refine ⟨fun _ => cvl ((ha m4).mono ?_), fun h => by rw [hf'] at h; cases h⟩
         clear ha
         rintro r H' m5 hm5 ⟨l5, rfl, rfl⟩
         simp only [go_sem, ↓tfi, ↓fti, ↓reduceIte]
         refine cvl ((hb m5 (p4.up l5 (Nnr _))).mono ?_)
         clear hb
         rintro r H' m6 hm6 ⟨l6, y6, s6, rfl, rfl, hsm, hok, hR6⟩
         have hadv := res_adv hR6 hf' (member_lt _ _)
         have hI6 := hR6.inv.le
         simp only [go_sem, ↓tfi, ↓fti, ↓reduceIte]
         refine ⟨⟨hsm.uf, hsm.um, hsm.ui⟩, (s6, y6, m6), ⟨⟨⟨rfl, rfl, rfl, rfl, rfl, rfl, rfl⟩, ⟨rfl, rfl, rfl⟩⟩, ⟨⟨rfl, rfl, rfl⟩, ⟨rfl, rfl, rfl⟩, rfl, rfl, rfl⟩, .inl rfl⟩, ⟨leM_tr p1 (leM_tr l5 l6), hR6.inv, ⟨hsm.ia.trans p3.ia, hsm.ic.trans p3.ic, hsm.fl.trans p3.fl, hsm.name.trans p3.name, hsm.super.trans p3.super, hsm.ifs.trans p3.ifs, Nat.zero_le _, Nat.zero_le _, Nat.zero_le _⟩, hok, fun a s' h => p5 a s' ?_⟩, ?_⟩
         ·rw [memsK_eq, if_neg (by rw [← isC_P]; exact h1)]
          exact res_bnd hR6 h
         ·dsimp only
          rw [if_neg hf]
          rcases hadv with h | h
          ·rw [if_pos h]; omega
          ·split <;> omega
end
end Go.Proofs.YtimddhkipjedcaaGreatDoor.E
namespace Go.Proofs.YtimddhkipjedcaaGreatDoor.E
open Go Go.RowKit
theorem lexF_few (s : List UInt8) : ∀ (f p : Nat) (acc : List Tk), acc.length ≤ 5000 → (lexF s f p acc).1.length ≤ 5000
 | 0, p, acc, h => h
 | f + 1, p, acc, h => by
  simp only [lexF]
  split
  ·exact h
  ·split
   ·exact Nat.zero_le _
   ·split
    ·exact Nat.zero_le _
    ·exact lexF_few s f _ _ (by rw [Lla, List.length_singleton]; omega)
theorem tok_few (s : List UInt8) : (tokenizeL s).1.length ≤ 5000 := by
 unfold tokenizeL
 split
 ·exact Nat.zero_le _
 ·exact lexF_few s _ _ _ (Nat.zero_le _)
theorem lexG_all (s : List UInt8) : ∀ (f cnt pos : Nat), ∀ t ∈ (lexG f cnt pos (s.drop pos)).1, ∃ q : Nat, t.at_ = q ∧ pos ≤ q ∧ q < s.length ∧ ∃ len, tokL (s.drop q) = some (t.k, t.s, t.n, len)
 | 0, _, _, t, h => by cases h
 | f + 1, cnt, pos, t, h => by
  simp only [lexG] at h
  split at h
  ·cases h
  ·rename_i hne
   split at h
   ·cases h
   ·split at h
    ·cases h
    ·rename_i k tt n len ht
     have hl := tokL_len ht
     rw [List.drop_drop] at ht
     rw [List.length_drop, List.length_drop] at hl
     unfold consR at h
     split at h
     ·rcases List.mem_cons.1 h with rfl | h
      ·exact ⟨pos + skipW false (s.drop pos), rfl, by omega, by omega, len, ht⟩
      ·rw [List.drop_drop, ← Nat.add_assoc] at h
       obtain ⟨q, e1, e2, e3, e4⟩ := lexG_all s f _ _ t h
       exact ⟨q, e1, by omega, e3, e4⟩
     ·cases h
def grow : Int → List Tk → Prop
 | _, [] => True
 | b, t :: r => b ≤ t.at_ ∧ grow (t.at_ + 1) r
theorem grow_le : ∀ {b b' : Int} {l : List Tk}, b' ≤ b → grow b l → grow b' l
 | _, _, [], _, _ => trivial
 | _, _, _ :: _, h, hg => ⟨Int.le_trans h hg.1, hg.2⟩
theorem lexG_grow : ∀ (f cnt pos : Nat) (l : List UInt8), grow pos (lexG f cnt pos l).1
 | 0, _, _, _ => trivial
 | f + 1, cnt, pos, l => by
  simp only [lexG]
  split
  ·trivial
  ·split
   ·trivial
   ·split
    ·trivial
    ·rename_i k tt n len ht
     have hl := tokL_len ht
     unfold consR
     split
     ·refine ⟨by show (pos : Int) ≤ ((pos + skipW false l : Nat) : Int); omega, grow_le ?_ (lexG_grow f _ _ _)⟩
      show ((pos + skipW false l : Nat) : Int) + 1 ≤ ((pos + skipW false l + len : Nat) : Int)
      omega
     ·trivial
theorem num_ok {l : List UInt8} (hne : l.take (digL l) ≠ []) (h : (numL l).2.2.2 = true) : ∃ v : Nat, (numL l).2.1 = v ∧ v ≤ 9223372036854775807 ∧ ((numL l).1 = false → v ≤ 2147483647) := by
 have hp := parseN_ref hne (dig_all l)
 simp only [numL, Bbt, decide_eq_true_eq, decide_eq_false_iff_not] at h ⊢
 cases hr : refDig 0 (l.take (digL l)) with
 | none => rw [hr] at hp; rw [hp] at h; exact absurd h.1.1 Bool.false_ne_true
 | some v =>
  rw [hr] at hp
  obtain ⟨hp, hv⟩ := hp
  rw [hp] at h ⊢
  refine ⟨v, rfl, hv, fun hb => ?_⟩
  have := h.1.2
  rw [if_neg hb] at this
  have this : (v : Int) ≤ 2147483647 := this
  omega
theorem tok_valid {l : List UInt8} {k : Int} {s : List UInt8} {n : Int} {len : Nat} (h : tokL l = some (k, s, n, len)) (q : Int) : fmtL ⟨k, s, n, q⟩ ≠ none ∧ s.length ≤ 1024 ∧ I64 n := by
 cases l with
 | nil => cases h
 | cons c r =>
  simp only [tokL] at h
  split at h
  ·split at h
   ·rename_i hn
    simp only [Option.some.injEq, Prod.mk.injEq] at h
    obtain ⟨rfl, rfl, rfl, _⟩ := h
    have hl : (idS (c :: r)).length ≤ 64 := by unfold isName at hn; exact of_decide_eq_true (Bool.and_eq_true_iff.1 hn).1
    refine ⟨?_, by omega, by unfold I64; omega⟩
    cases hk : keywordsL.contains (idS (c :: r)) with
    | true => have hm := List.contains_iff_mem.1 hk; simp [fmtL, hm]
    | false =>
     have hm : ¬ idS (c :: r) ∈ keywordsL := fun h => by rw [List.contains_iff_mem.2 h] at hk; cases hk
     simp [fmtL, hm, hn]
   ·cases h
  ·split at h
   ·rename_i hd
    split at h
    ·rename_i hn
     simp only [Option.some.injEq, Prod.mk.injEq] at h
     obtain ⟨rfl, rfl, rfl, _⟩ := h
     have hne : (c :: r).take (digL (c :: r)) ≠ [] := by
      simp only [digL]; rw [if_pos hd, Nat.add_comm, List.take_succ_cons]; exact List.cons_ne_nil _ _
     obtain ⟨v, e1, e2, e3⟩ := num_ok hne hn
     rw [e1]
     refine ⟨?_, Nat.zero_le _, by unfold I64; omega⟩
     cases hB : (numL (c :: r)).1 with
     | true => simp [fmtL]
     | false => have := e3 hB; simp [fmtL]; omega
    ·cases h
   ·split at h
    ·split at h
     ·split at h
      ·rename_i hb
       simp only [Option.some.injEq, Prod.mk.injEq] at h
       obtain ⟨rfl, rfl, rfl, _⟩ := h
       exact ⟨by simp [fmtL, hb], hb, by unfold I64; omega⟩
      ·cases h
     ·cases h
    ·obtain ⟨o, ho, e⟩ := Option.map_eq_some_iff.1 h
     simp only [Prod.mk.injEq] at e
     obtain ⟨rfl, rfl, rfl, _⟩ := e
     have hm := List.mem_of_find?_eq_some ho
     have h1 : ∀ o ∈ signsL, o.length ≤ 3 := by decide
     have := h1 _ hm
     exact ⟨by simp [fmtL, hm], by omega, by unfold I64; omega⟩
theorem kw_no47 : ∀ s ∈ keywordsL, ∀ c ∈ s, c ≠ 47 := by decide
theorem tok_text {l : List UInt8} {k : Int} {s : List UInt8} {n : Int} {len : Nat} (h : tokL l = some (k, s, n, len)) (hk : k = 6 ∨ k = 2) : ∃ r, l = s ++ r := by
 cases l with
 | nil => cases h
 | cons c r =>
  simp only [tokL] at h
  split at h
  ·split at h
   ·simp only [Option.some.injEq, Prod.mk.injEq] at h
    obtain ⟨rfl, rfl, rfl, _⟩ := h
    cases hkw : keywordsL.contains (idS (c :: r)) with
    | false => rw [hkw] at hk; simp at hk
    | true =>
     have hm := kw_no47 _ (List.contains_iff_mem.1 hkw)
     have he := idS_eq (c :: r)
     have ht : idTF ((c :: r).length + 1) ((c :: r).drop (partL true (c :: r))) = [] := by
      simp only [idTF]
      split
      ·rename_i hc
       exfalso
       refine hm 47 ?_ rfl
       rw [he]
       simp only [idTF]
       rw [if_pos hc]
       exact List.mem_append_right _ (List.mem_cons_self ..)
      ·rfl
     rw [ht, List.append_nil] at he
     exact ⟨(c :: r).drop (partL true (c :: r)), by rw [he, List.take_append_drop]⟩
   ·cases h
  ·split at h
   ·split at h
    ·simp only [Option.some.injEq, Prod.mk.injEq] at h
     obtain ⟨rfl, _⟩ := h
     split at hk <;> omega
    ·cases h
   ·split at h
    ·split at h
     ·split at h
      ·simp only [Option.some.injEq, Prod.mk.injEq] at h
       omega
      ·cases h
     ·cases h
    ·obtain ⟨o, ho, e⟩ := Option.map_eq_some_iff.1 h
     simp only [Prod.mk.injEq] at e
     obtain ⟨rfl, rfl, rfl, _⟩ := e
     exact hasPre_iff.1 (List.find?_some ho)
structure TkIn (s : List UInt8) (t : Tk) : Prop where
 lo : 0 ≤ t.at_
 hi : t.at_ < s.length
 fmt : fmtL t ≠ none
 ok : TkOk t
 text : t.k = 6 ∨ t.k = 2 → ∃ r, s.drop t.at_.toNat = t.s ++ r
theorem tok_in {s : List UInt8} : ∀ t ∈ (tokenizeL s).1, TkIn s t := by
 intro t ht
 by_cases hs : s.length ≤ 20000
 ·rw [tokenize_eq hs] at ht
  obtain ⟨q, e, h1, h2, len, h3⟩ := lexG_all s (s.length + 1) 0 0 t ht
  obtain ⟨v1, v2, v3⟩ := tok_valid h3 t.at_
  refine ⟨by omega, by omega, v1, ⟨by omega, v3⟩, fun hk => ?_⟩
  rw [e, Int.toNat_natCast]
  exact tok_text h3 hk
 ·have e : tokenizeL s = ([], 0, 8) := if_pos (by omega)
  rw [e] at ht; cases ht
theorem tok_grow (s : List UInt8) : grow 0 (tokenizeL s).1 := by
 by_cases hs : s.length ≤ 20000
 ·rw [tokenize_eq hs]; exact lexG_grow _ _ _ _
 ·have e : tokenizeL s = ([], 0, 8) := if_pos (by omega)
  rw [e]; trivial
theorem grow_at : ∀ {l : List Tk} {b : Int} {i : Nat} (_ : grow b l) (h : i + 1 < l.length), (l[i]'(by omega)).at_ < l[i + 1].at_
 | [], _, _, _, h => absurd h (Nat.not_lt_zero _)
 | [_], _, _, _, h => by simp at h
 | a :: b :: l, _, 0, hg, _ => by have := hg.2.1; show a.at_ < b.at_; omega
 | a :: b :: l, _, i + 1, hg, h => grow_at (l := b :: l) (i := i) hg.2 (by simpa using h)
theorem lexG_bad (s : List UInt8) : ∀ (f cnt pos : Nat), 0 ≤ (lexG f cnt pos (s.drop pos)).2.1 ∧ ((lexG f cnt pos (s.drop pos)).2.2 = 70 → (lexG f cnt pos (s.drop pos)).2.1 < s.length)
 | 0, _, _ => ⟨by simp [lexG], by simp [lexG]⟩
 | f + 1, cnt, pos => by
  simp only [lexG]
  split
  ·exact ⟨by simp, by simp⟩
  ·rename_i hne
   have hlt : pos + skipW false (s.drop pos) < s.length := by
    rcases Nat.lt_or_ge (pos + skipW false (s.drop pos)) s.length with h | h
    ·exact h
    ·exact absurd (by rw [List.drop_drop]; exact List.drop_eq_nil_of_le h) hne
   split
   ·exact ⟨by simp, by simp⟩
   ·split
    ·exact ⟨by show (0 : Int) ≤ ((pos + skipW false (s.drop pos) : Nat) : Int); omega, fun _ => by show ((pos + skipW false (s.drop pos) : Nat) : Int) < s.length; omega⟩
    ·rename_i k t n len ht
     have ih := lexG_bad s f (cnt + 1) (pos + skipW false (s.drop pos) + len)
     rw [List.drop_drop, ← Nat.add_assoc]
     unfold consR
     split
     ·exact ⟨ih.1, fun e => by simp at e⟩
     ·exact ih
theorem tok_bad (s : List UInt8) : 0 ≤ (tokenizeL s).2.1 ∧ ((tokenizeL s).2.2 = 70 → (tokenizeL s).2.1 < s.length) ∧ ((tokenizeL s).2.2 ≠ 0 → (tokenizeL s).1 = []) := by
 by_cases hs : s.length ≤ 20000
 ·rw [tokenize_eq hs]
  have := lexG_bad s (s.length + 1) 0 0
  exact ⟨this.1, this.2, (lexG_norm _ _ _ _).2⟩
 ·have e : tokenizeL s = ([], 0, 8) := if_pos (by omega)
  rw [e]; exact ⟨by simp, by simp, fun _ => rfl⟩
theorem tok_bd (s : List UInt8) : ∀ t ∈ (tokenizeL s).1, t.s.length ≤ 1024 ∧ I64 t.n := by
 intro t ht
 by_cases hs : s.length ≤ 20000
 ·rw [tokenize_eq hs] at ht
  obtain ⟨q, e, h1, h2, len, h3⟩ := lexG_all s (s.length + 1) 0 0 t ht
  exact (tok_valid h3 t.at_).2
 ·have e : tokenizeL s = ([], 0, 8) := if_pos (by omega)
  rw [e] at ht; cases ht
theorem FnH_vec0 {P : Program} {f : FuncId} {args : List SV} {m : Mem} {R R' : SV → Hp → Mem → Prop} (h : FnH P f args ⟨[], []⟩ m R)
  (hR : ∀ r H' m', m.le m' → R r H' m' → R' r H' m' ∨ ∃ (g : SV → SV) (k u : Nat) (el : TypeId) (sz n : Nat) (xs : List Value), H' = ⟨[], [⟨k, u, el, sz, n, xs⟩]⟩ ∧ r = g (.vec k u) ∧
   (∀ V V2 : Vl, V.γ k u = V2.γ 0 0 → den V (g (.vec k u)) = den V2 (g (.vec 0 0))) ∧ R' (g (.vec 0 0)) ⟨[], [⟨0, 0, el, sz, n, xs⟩]⟩ m') : FnH P f args ⟨[], []⟩ m R' := by
 intro V w D hwf hle hH
 refine (h V w D hwf hle hH).mono ?_
 rintro e w' ⟨r, V', D', H', m', e1, e2, e3, e4, e5, e6, e7, e8, e9, e10, e11⟩
 rcases hR r H' m' e9 e11 with hr | ⟨g, k, u, el, sz, n, xs, rfl, rfl, hg, hr⟩
 ·exact ⟨r, V', D', H', m', e1, e2, e3, e4, e5, e6, e7, e8, e9, e10, hr⟩
 ·let V2 : Vl := ⟨V'.β, fun a b => if a = 0 then V'.γ k u else V'.γ a b⟩
  have hV : V'.γ k u = V2.γ 0 0 := rfl
  have hb : blks V2 ⟨[], [⟨0, 0, el, sz, n, xs⟩]⟩ = blks V' ⟨[], [⟨k, u, el, sz, n, xs⟩]⟩ := rfl
  refine ⟨g (.vec 0 0), V2, D', ⟨[], [⟨0, 0, el, sz, n, xs⟩]⟩, m', by rw [e1, hg V' V2 hV], e2, ⟨fun b hb => (by cases hb), fun b hb => ?_, by rw [hb]; exact e3.apart, by simp⟩, fun b hb => (by cases hb), fun b hb => (by cases hb), e6, by rw [hb]; exact e7, e8, e9, e10, hr⟩
  rw [List.mem_singleton.1 hb]
  exact e3.vc _ (List.mem_singleton.2 rfl)
theorem tok0 {f : FuncId} {s : List UInt8} {m : Mem} {x : List Tk × Int × Int} (h : FnH Tryz.prog f [.v (.string (bs s))] ⟨[], []⟩ m fun r H' m' => leM m m' ∧ ROut x r H') :
  FnH Tryz.prog f [.v (.string (bs s))] ⟨[], []⟩ m fun r H' m' => leM m m' ∧ ((x.2.2 = 0 ∧ r = .tup [.vec 0 0, .v (.int .i64 x.2.1), .v (.int .i64 x.2.2)] ∧ H' = ⟨[], [⟨0, 0, 50, 4, x.1.length, tkCells x.1⟩]⟩) ∨
   (x.2.2 ≠ 0 ∧ x.1 = [] ∧ r = .tup [.v (.slice none 0 0), .v (.int .i64 x.2.1), .v (.int .i64 x.2.2)] ∧ H' = ⟨[], []⟩)) := by
 refine FnH_vec0 h ?_
 rintro r H' m' hm ⟨l1, ⟨h0, k, u, rfl, rfl⟩ | ⟨h0, h1, rfl, rfl⟩⟩
 ·refine .inr ⟨fun z => .tup [z, .v (.int .i64 x.2.1), .v (.int .i64 x.2.2)], k, u, _, _, _, _, rfl, rfl, fun V V2 e => ?_, l1, .inl ⟨h0, rfl, rfl⟩⟩
  show Value.tuple ⟨[(V.γ k u).val, _, _]⟩ = Value.tuple ⟨[(V2.γ 0 0).val, _, _]⟩
  rw [e]
  rfl
 ·exact .inl ⟨l1, .inr ⟨h0, h1, rfl, rfl⟩⟩
theorem tok_tsb (t : List UInt8) : TsB (tokenizeL t).1 := ⟨Nat.le_trans (tok_few t) (by decide), fun x hx => Nat.le_trans (tok_bd t x hx).1 (by decide), fun x hx => (tok_bd t x hx).2⟩
section
variable {ts : List Tk} {en : Int} {s : PSt}
theorem more_spec (hT : TsB ts) (m : Mem) : FnH Tryz.prog 25 [.box 0 0] (pH ts en s) m fun r H' m' => m' = m ∧ r = .v (.bool (decide (s.i < ts.length))) ∧ H' = pH ts en s := by
 refine enter cfN puN Tryz.func25 rfl rfl (by kernel_rfl) rfl ?_ ?_
 ·simp only [go_sem, ↓tfi, ↓fti, ↓reduceIte]
 ·simp only [go_sem, ↓tfi, ↓fti, ↓reduceIte]
  refine WP_draw (.hoist 0 (.hoist 1 (.hoist 2 (.hoist 3 (.hoist 4 (.hoist 5 (.hoist 6 (.hoist 7 (.hoist 8 (.hoist 9 (.hoist 10 .done))))))))))) puN (by kernel_rfl) (by kernel_rfl) ?_
  simp only [go_sem, ↓tfi, ↓fti, ↓reduceIte]
  rw [decide_eq_decide]
  omega
end
theorem open_spec (t : List UInt8) (m : Mem) (ht : t.length ≤ 4611686018427387904) (hk : FnH Tryz.prog 48 [.v (.string (bs t))] ⟨[], []⟩ m fun r H' m' => leM m m' ∧ ROut (tokenizeL t) r H') :
  FnH Tryz.prog 24 [.v (.string (bs t))] ⟨[], []⟩ m fun r H' m' => leM m m' ∧ (((tokenizeL t).2.2 ≠ 0 ∧ r = .tup [.v (.pointer none), .v (.int .i64 (tokenizeL t).2.1), .v (.int .i64 (tokenizeL t).2.2)] ∧ H' = ⟨[], []⟩) ∨
   ((tokenizeL t).2.2 = 0 ∧ r = .tup [.box 1 0, .v (.int .i64 0), .v (.int .i64 0)] ∧ H' = ⟨[⟨1, 62, [.vec 0 0, .v (.int .i64 0), .v (.int .i64 t.length), .v (.bool false), .v (.int .i64 0)]⟩], [⟨0, 0, 50, 4, (tokenizeL t).1.length, tkCells (tokenizeL t).1⟩]⟩)) := by
 have h1 := tok0 hk
 by_cases h0 : (tokenizeL t).2.2 = 0
 ·have h2 := h1.mono (R' := fun r H' m' => leM m m' ∧ r = .tup [.vec 0 0, .v (.int .i64 (tokenizeL t).2.1), .v (.int .i64 0)] ∧ H' = ⟨[], [⟨0, 0, 50, 4, (tokenizeL t).1.length, tkCells (tokenizeL t).1⟩]⟩) fun r H' m' _ h => by
   rcases h with ⟨l1, ⟨_, h3, h4⟩ | ⟨h3, _⟩⟩
   ·rw [h0] at h3; exact ⟨l1, h3, h4⟩
   ·exact absurd h0 h3
  clear h1
  refine enter cfN puN Tryz.func24 rfl rfl (by kernel_rfl) rfl ?_ ?_
  ·simp only [go_sem, ↓tfi, ↓fti, ↓reduceIte]
  ·simp only [go_sem, ↓tfi, ↓fti, ↓reduceIte]
   refine cvl (h2.mono ?_)
   clear h2
   rintro r H' m1 hm1 ⟨l1, rfl, rfl⟩
   simp only [go_sem, ↓tfi, ↓fti, ↓reduceIte]
   exact ⟨fun h => absurd trivial h, l1, .inr h0⟩
 ·have h2 := h1.mono (R' := fun r H' m' => leM m m' ∧ r = .tup [.v (.slice none 0 0), .v (.int .i64 (tokenizeL t).2.1), .v (.int .i64 (tokenizeL t).2.2)] ∧ H' = ⟨[], []⟩) fun r H' m' _ h => by
   rcases h with ⟨l1, ⟨h3, _⟩ | ⟨_, _, h3, h4⟩⟩
   ·exact absurd h3 h0
   ·exact ⟨l1, h3, h4⟩
  clear h1
  refine enter cfN puN Tryz.func24 rfl rfl (by kernel_rfl) rfl ?_ ?_
  ·simp only [go_sem, ↓tfi, ↓fti, ↓reduceIte]
  ·simp only [go_sem, ↓tfi, ↓fti, ↓reduceIte]
   refine cvl (h2.mono ?_)
   clear h2
   rintro r H' m1 hm1 ⟨l1, rfl, rfl⟩
   simp only [go_sem, ↓tfi, ↓fti, ↓reduceIte]
   exact ⟨fun _ => ⟨l1, .inl h0⟩, fun h => absurd h h0⟩
theorem open_ok {t : List UInt8} {m : Mem} (ht : t.length ≤ 4611686018427387904) (hk : FnH Tryz.prog 48 [.v (.string (bs t))] ⟨[], []⟩ m fun r H' m' => leM m m' ∧ ROut (tokenizeL t) r H') (h0 : (tokenizeL t).2.2 = 0) :
  FnH Tryz.prog 24 [.v (.string (bs t))] ⟨[], []⟩ m fun r H' m' => leM m m' ∧ r = .tup [.box 1 0, .v (.int .i64 0), .v (.int .i64 0)] ∧ H' = ⟨[⟨1, 62, [.vec 0 0, .v (.int .i64 0), .v (.int .i64 t.length), .v (.bool false), .v (.int .i64 0)]⟩], [⟨0, 0, 50, 4, (tokenizeL t).1.length, tkCells (tokenizeL t).1⟩]⟩ :=
 (open_spec t m ht hk).mono fun r H' m' _ h => by
  rcases h with ⟨l1, ⟨h1, _⟩ | ⟨_, h2, h3⟩⟩
  ·exact absurd h0 h1
  ·exact ⟨l1, h2, h3⟩
theorem open_er {t : List UInt8} {m : Mem} (ht : t.length ≤ 4611686018427387904) (hk : FnH Tryz.prog 48 [.v (.string (bs t))] ⟨[], []⟩ m fun r H' m' => leM m m' ∧ ROut (tokenizeL t) r H') (h0 : ¬ (tokenizeL t).2.2 = 0) :
  FnH Tryz.prog 24 [.v (.string (bs t))] ⟨[], []⟩ m fun r H' m' => leM m m' ∧ r = .tup [.v (.pointer none), .v (.int .i64 (tokenizeL t).2.1), .v (.int .i64 (tokenizeL t).2.2)] ∧ H' = ⟨[], []⟩ :=
 (open_spec t m ht hk).mono fun r H' m' _ h => by
  rcases h with ⟨l1, ⟨_, h2, h3⟩ | ⟨h1, _⟩⟩
  ·exact ⟨l1, h2, h3⟩
  ·exact absurd h1 h0
def SZ {α : Type} (c b : Nat) (g : α → Nat) (K : PR α) : Prop := ∀ x r, K = .ok (x, r) → g x + c * r.length ≤ b
section
variable {α β : Type} {c b b1 : Nat} {g : α → Nat} {g2 : β → Nat} {l : List Tk}
theorem sz_ok {x : α} {r : List Tk} (h : g x + c * r.length ≤ b) : SZ c b g (.ok (x, r)) := fun y q e => by cases e; exact h
theorem sz_er {r : List Tk} : SZ c b g (.error r) := fun y q e => by cases e
theorem sz_bnd {c1 : Nat} {K : PR α} {k : α → List Tk → PR β} (h : SZ c1 b1 g K) (hk : ∀ x r, g x + c1 * r.length ≤ b1 → SZ c b g2 (k x r)) : SZ c b g2 (bndP K k) := by
 cases K with
 | error r => exact sz_er
 | ok p => exact hk p.1 p.2 (h p.1 p.2 rfl)
theorem sz_exp {s : List UInt8} {k : List Tk → PR α} (h : l.tail.length + 1 = l.length → SZ c b g (k l.tail)) : SZ c b g (expP s l k) := by
 unfold expP
 split
 ·rename_i h1
  have := isP_ne h1
  exact h (by cases l with | nil => exact absurd rfl this | cons a r => rfl)
 ·exact sz_er
theorem sz_if {p : Prop} [Decidable p] {a a' : PR α} (h1 : p → SZ c b g a) (h2 : ¬ p → SZ c b g a') : SZ c b g (if p then a else a') := by
 split
 ·rename_i h; exact h1 h
 ·rename_i h; exact h2 h
theorem sz_le {K : PR α} (h : SZ c b1 g K) (hb : b1 ≤ b) : SZ c b g K := fun x r e => Nat.le_trans (h x r e) hb
end
theorem len_tail {l : List Tk} (h : l ≠ []) : l.tail.length + 1 = l.length := by
 cases l with
 | nil => exact absurd rfl h
 | cons a r => rfl
theorem cls_sz (l : List Tk) : SZ 1 l.length (fun _ => 1) (clsP l) := by
 unfold clsP
 refine sz_if (fun h => sz_ok ?_) fun _ => sz_er
 have := len_tail (l := l) (fun e => by rw [e] at h; cases h)
 omega
theorem id_sz (l : List Tk) : SZ 1 l.length (fun _ => 1) (idP l) := by
 unfold idP
 refine sz_if (fun h => sz_ok ?_) fun _ => sz_er
 have := len_tail (l := l) (fun e => by rw [e] at h; cases h)
 omega
theorem base_sz (l : List Tk) : SZ 1 l.length (fun _ => 1) (baseP l) := by
 unfold baseP
 refine sz_if (fun h => sz_ok ?_) fun _ => sz_if (fun h => sz_ok ?_) fun _ => sz_bnd (cls_sz l) fun x r h => sz_ok h
 ·have := len_tail (isP_ne h); omega
 ·have := len_tail (isP_ne h); omega
theorem dims_sz : ∀ (f : Nat) (t : Ty) (l : List Tk), SZ 1 l.length (fun _ => 0) (dimsP f t l)
 | 0, t, l => sz_ok (by omega)
 | f + 1, t, l => by
  rw [dimsP]
  refine sz_if (fun h => sz_exp fun h1 => sz_le (dims_sz f _ _) ?_) fun _ => sz_ok (by omega)
  have := len_tail (isP_ne h)
  have := tail_suf l.tail
  have := this.length_le
  omega
theorem new_sz : ∀ (f : Nat) (t : Ty) (l : List Tk), SZ 1 l.length (fun _ => 0) (newP f t l)
 | 0, t, l => sz_ok (by omega)
 | f + 1, t, l => by
  rw [newP]
  refine sz_if (fun h => sz_exp fun h1 => sz_le (new_sz f _ _) ?_) fun _ => sz_ok (by omega)
  have := len_tail (isP_ne h)
  have := tail_suf l.tail
  have := this.length_le
  omega
theorem typ_sz (l : List Tk) : SZ 1 l.length (fun _ => 1) (typP l) := by
 unfold typP
 refine sz_bnd (base_sz l) fun t r h => ?_
 intro x q e
 have := dims_sz _ _ _ x q e
 dsimp only at this h ⊢
 omega
theorem sizeL_app : ∀ (a b : List Ex), sizeL (a ++ b) = sizeL a + sizeL b
 | [], b => by simp [sizeL]
 | e :: r, b => by simp only [List.cons_append, sizeL, sizeL_app r b]; omega
structure EZ (f : Nat) : Prop where
 expr : ∀ n l, SZ 1 l.length sizeE (exprP f n l)
 loop : ∀ n e l, SZ 1 (sizeE e + l.length) sizeE (loopP f n e l)
 unary : ∀ l, SZ 1 l.length sizeE (unaryP f l)
 post : ∀ e l, SZ 1 (sizeE e + l.length) sizeE (postP f e l)
 args : ∀ l, SZ 1 l.length (fun es => sizeL es + 1) (argsP f l)
 more : ∀ acc l, SZ 1 (sizeL acc + l.length) sizeL (moreP f acc l)
 paren : ∀ l, SZ 1 l.length (fun e => sizeE e + 1) (parenP f l)
 operand : ∀ l, SZ 1 l.length sizeE (operandP f l)
 key : ∀ l, SZ 1 l.length sizeE (keyP f l)
theorem ez_all : ∀ f, EZ f
 | 0 => ⟨fun n l => by rw [exprP]; exact sz_er, fun n e l => by rw [loopP]; exact sz_er, fun l => by rw [unaryP]; exact sz_er, fun e l => by rw [postP]; exact sz_er, fun l => by rw [argsP]; exact sz_er, fun a l => by rw [moreP]; exact sz_er, fun l => by rw [parenP]; exact sz_er, fun l => by rw [operandP]; exact sz_er, fun l => by rw [keyP]; exact sz_er⟩
 | f + 1 => by
  have ih := ez_all f
  refine ⟨fun n l => ?_, fun n e l => ?_, fun l => ?_, fun e l => ?_, fun l => ?_, fun acc l => ?_, fun l => ?_, fun l => ?_, fun l => ?_⟩
  ·rw [exprP]
   exact sz_if (fun _ => ih.unary l) fun _ => sz_bnd (ih.expr (n + 1) l) fun e r h => sz_le (ih.loop n e r) (by omega)
  ·rw [loopP]
   refine sz_if (fun h => ?_) fun _ => sz_if (fun h => ?_) fun _ => sz_if (fun h => ?_) fun _ => sz_ok (by omega)
   ·have h1 := len_tail (l := l) (fun e => by rw [e, isOpP] at h; cases h)
    refine sz_bnd (ih.expr (n + 1) l.tail) fun x r h2 => sz_le (ih.loop n _ r) ?_
    simp only [sizeE, sizeL]
    omega
   ·have h1 := len_tail (isP_ne h.2)
    refine sz_bnd (typ_sz l.tail) fun t r h2 => sz_le (ih.loop n _ r) ?_
    simp only [sizeE, sizeL]
    omega
   ·have h1 := len_tail (isP_ne h.2)
    refine sz_bnd (typ_sz l.tail) fun t r h2 => sz_le (ih.loop n _ r) ?_
    simp only [sizeE, sizeL]
    omega
  ·rw [unaryP]
   refine sz_if (fun h => ?_) fun _ => sz_if (fun h => ?_) fun _ => sz_bnd (ih.operand l) fun e r h => sz_le (ih.post e r) (by omega)
   ·have h1 := len_tail (isP_ne h)
    exact sz_bnd (ih.unary l.tail) fun x r h2 => sz_ok (by simp only [sizeE, sizeL]; omega)
   ·have h1 := len_tail (isP_ne h)
    exact sz_bnd (ih.unary l.tail) fun x r h2 => sz_ok (by simp only [sizeE, sizeL]; omega)
  ·rw [postP]
   refine sz_if (fun h => ?_) fun _ => sz_if (fun h => ?_) fun _ => sz_ok (by omega)
   ·have h1 := len_tail (isP_ne h)
    refine sz_bnd (id_sz l.tail) fun s r h2 => sz_if (fun _ => ?_) fun _ => ?_
    ·refine sz_bnd (ih.args r) fun es r2 h3 => sz_le (ih.post _ r2) ?_
     simp only [sizeE, sizeL]
     omega
    ·refine sz_le (ih.post _ r) ?_
     simp only [sizeE, sizeL]
     omega
   ·have h1 := len_tail (isP_ne h)
    refine sz_bnd (ih.expr 0 l.tail) fun i r h2 => sz_exp fun h3 => sz_le (ih.post _ _) ?_
    simp only [sizeE, sizeL]
    omega
  ·rw [argsP]
   refine sz_exp fun h1 => sz_if (fun h => sz_ok ?_) fun _ => sz_bnd (ih.expr 0 l.tail) fun e r h2 => ?_
   ·have h2 := len_tail (isP_ne h)
    simp only [sizeL]
    omega
   ·intro x q e2
    have := ih.more [e] r x q e2
    simp only [sizeL] at this ⊢
    omega
  ·rw [moreP]
   refine sz_if (fun h => ?_) fun _ => sz_exp fun h1 => sz_ok (by omega)
   have h1 := len_tail (isP_ne h)
   refine sz_bnd (ih.expr 0 l.tail) fun e r h2 => sz_le (ih.more _ r) ?_
   simp only [sizeL_app, sizeL]
   omega
  ·rw [parenP]
   exact sz_exp fun h1 => sz_bnd (ih.expr 0 l.tail) fun e r h2 => sz_exp fun h3 => sz_ok (by omega)
  ·rw [operandP]
   refine sz_if (fun h => ?_) fun _ => sz_if (fun h => ?_) fun _ => sz_if (fun h => ?_) fun _ => sz_if (fun h => ?_) fun _ => sz_if (fun h => ?_) fun _ => sz_if (fun h => ?_) fun _ => ih.key l
   ·have h1 := len_tail (hdK_ne h (by decide))
    exact sz_ok (by simp only [sizeE, sizeL]; omega)
   ·have h1 := len_tail (hdK_ne h (by decide))
    exact sz_ok (by simp only [sizeE, sizeL]; omega)
   ·have h1 := len_tail (hdK_ne h (by decide))
    exact sz_ok (by simp only [sizeE, sizeL]; omega)
   ·exact sz_bnd (id_sz l) fun s r h2 => sz_ok (by simp only [sizeE, sizeL]; omega)
   ·refine sz_bnd (cls_sz l) fun c r h2 => sz_exp fun h3 => sz_bnd (id_sz r.tail) fun s r3 h4 => sz_if (fun _ => ?_) fun _ => sz_ok (by simp only [sizeE, sizeL]; omega)
    exact sz_bnd (ih.args r3) fun es r4 h5 => sz_ok (by simp only [sizeE]; omega)
   ·intro x q e2
    have := ih.paren l x q e2
    dsimp only at this
    omega
  ·rw [keyP]
   refine sz_if (fun h => ?_) fun _ => sz_if (fun h => ?_) fun _ => sz_if (fun h => ?_) fun _ => sz_if (fun h => ?_) fun _ => sz_if (fun h => ?_) fun _ => sz_if (fun h => ?_) fun _ => sz_if (fun h => ?_) fun _ => sz_er
   ·have h1 := len_tail (isP_ne h)
    exact sz_ok (by simp only [sizeE, sizeL]; omega)
   ·have h1 := len_tail (isP_ne h)
    exact sz_ok (by simp only [sizeE, sizeL]; omega)
   ·have h1 := len_tail (isP_ne h)
    exact sz_exp fun h2 => sz_bnd (id_sz _) fun s r2 h3 => sz_bnd (ih.args r2) fun es r3 h4 => sz_ok (by simp only [sizeE]; omega)
   ·have h1 := len_tail (isP_ne h)
    refine sz_bnd (base_sz _) fun t r h2 => sz_if (fun _ => sz_bnd (ih.args r) fun es r2 h3 => sz_ok (by simp only [sizeE]; omega)) fun _ => ?_
    refine sz_exp fun h3 => sz_bnd (new_sz _ t _) fun t2 r3 h4 => sz_bnd (ih.expr 0 r3) fun e r4 h5 => sz_exp fun h6 => sz_ok (by simp only [sizeE, sizeL]; omega)
   ·have h1 := len_tail (isP_ne h)
    exact sz_bnd (ih.paren _) fun e r h2 => sz_ok (by simp only [sizeE, sizeL]; omega)
   ·have h1 := len_tail (isP_ne h)
    exact sz_bnd (ih.paren _) fun e r h2 => sz_ok (by simp only [sizeE, sizeL]; omega)
   ·have h1 := len_tail (isP_ne h)
    exact sz_bnd (ih.paren _) fun e r h2 => sz_ok (by simp only [sizeE, sizeL]; omega)
theorem sz_lim {α : Type} {c b : Nat} {g : α → Nat} {h : Nat → PR α} {K : PR α} (hl : Lim h K) (hs : ∀ f, SZ c b g (h f)) : SZ c b g K := by
 obtain ⟨F, hF⟩ := hl
 rw [← hF F (Nnr _)]
 exact hs F
theorem exprK_sz (l : List Tk) : SZ 1 l.length sizeE (exprK 0 l) := sz_lim (lexpr (by decide) l) fun f => (ez_all f).expr 0 l
theorem sizeSs_app : ∀ (a b : List St), sizeSs (a ++ b) = sizeSs a + sizeSs b
 | [], b => by simp [sizeSs]
 | e :: r, b => by simp only [List.cons_append, sizeSs, sizeSs_app r b]; omega
theorem sizeE_z : sizeE zE = 1 := rfl
structure TZ (f : Nat) : Prop where
 block : ∀ l, SZ 3 (3 * l.length) (fun b => sizeSs b + 6) (blockP f l)
 stmts : ∀ acc l, SZ 3 (sizeSs acc + 3 * l.length) (fun b => sizeSs b + 3) (stmtsP f acc l)
 stmt : ∀ l, SZ 3 (3 * l.length) sizeS (stmtP f l)
theorem tz_all : ∀ f, TZ f
 | 0 => ⟨fun l => by rw [blockP]; exact sz_er, fun a l => by rw [stmtsP]; exact sz_er, fun l => by rw [stmtP]; exact sz_er⟩
 | f + 1 => by
  have ih := tz_all f
  have ez := ez_all f
  refine ⟨fun l => ?_, fun acc l => ?_, fun l => ?_⟩
  ·rw [blockP]
   refine sz_exp fun h1 => ?_
   intro x q e
   have := ih.stmts [] l.tail x q e
   simp only [sizeSs] at this ⊢
   omega
  ·rw [stmtsP]
   refine sz_if (fun h => sz_ok ?_) fun _ => sz_bnd (ih.stmt l) fun x r h => sz_le (ih.stmts _ r) ?_
   ·have := len_tail (isP_ne h); omega
   ·simp only [sizeSs_app, sizeSs]; omega
  ·have pb : ∀ (l2 : List Tk) (b : Nat) (k : Ex → List St → List Tk → PR St), (∀ e bd r, sizeE e + sizeSs bd + 7 + 3 * r.length ≤ 3 * l2.length → SZ 3 b sizeS (k e bd r)) → SZ 3 b sizeS (bndP (parenP f l2) fun e r => bndP (blockP f r) fun bd r2 => k e bd r2) := fun l2 b k hk =>
    sz_bnd (ez.paren l2) fun e r h => sz_bnd (ih.block r) fun bd r2 h2 => hk e bd r2 (by first | omega | (dsimp only at h2; omega))
   rw [stmtP]
   refine sz_if (fun h => ?_) fun _ => sz_if (fun h => ?_) fun _ => sz_if (fun h => ?_) fun _ => sz_if (fun h => ?_) fun _ => sz_if (fun h => ?_) fun _ => sz_if (fun h => ?_) fun _ =>
    sz_if (fun h => ?_) fun _ => sz_if (fun h => ?_) fun _ => sz_if (fun h => ?_) fun _ => ?_
   ·have h1 := len_tail (isP_ne h)
    refine pb _ _ _ fun e bd r h2 => sz_if (fun h3 => sz_bnd (ih.block r.tail) fun a r3 h4 => sz_ok ?_) fun _ => sz_ok ?_
    ·have h5 := len_tail (isP_ne h3)
     simp only [sizeS, sizeE_z] at h4 ⊢
     omega
    ·simp only [sizeS, sizeE_z, sizeSs]; omega
   ·have h1 := len_tail (isP_ne h)
    exact pb _ _ _ fun e bd r h2 => sz_ok (by simp only [sizeS, sizeE_z, sizeSs]; omega)
   ·have h1 := len_tail (isP_ne h)
    refine sz_if (fun h2 => sz_ok ?_) fun _ => sz_bnd (ez.expr 0 l.tail) fun e r h2 => sz_exp fun h3 => sz_ok ?_
    ·have h3 := len_tail (isP_ne h2)
     simp only [sizeS, sizeE_z, sizeSs]; omega
    ·simp only [sizeS, sizeE_z, sizeSs]; omega
   ·have h1 := len_tail (isP_ne h)
    exact sz_bnd (ez.expr 0 l.tail) fun e r h2 => sz_exp fun h3 => sz_ok (by simp only [sizeS, sizeE_z, sizeSs]; omega)
   ·have h1 := len_tail (isP_ne h)
    refine sz_bnd (ih.block l.tail) fun b r h2 => sz_exp fun h3 => sz_exp fun h4 => sz_bnd (typ_sz _) fun t r4 h5 => sz_bnd (id_sz r4) fun s r5 h6 => sz_exp fun h7 => sz_bnd (ih.block _) fun a r7 h8 => sz_ok ?_
    simp only [sizeS, sizeE_z] at h2 h8 ⊢
    omega
   ·have h1 := len_tail (isP_ne h)
    exact pb _ _ _ fun e bd r h2 => sz_ok (by simp only [sizeS, sizeE_z, sizeSs]; omega)
   ·exact sz_bnd (ih.block l) fun b r h2 => sz_ok (by simp only [sizeS, sizeE_z, sizeSs] at h2 ⊢; omega)
   ·have h1 := len_tail (isP_ne h.1)
    exact sz_bnd (ez.args l.tail) fun es r h2 => sz_exp fun h3 => sz_ok (by simp only [sizeS, sizeE_z, sizeSs, sizeE] at h2 ⊢; omega)
   ·exact sz_bnd (typ_sz l) fun t r h2 => sz_bnd (id_sz r) fun s r2 h3 => sz_exp fun h4 => sz_bnd (ez.expr 0 _) fun e r4 h5 => sz_exp fun h6 => sz_ok (by simp only [sizeS, sizeE_z, sizeSs]; omega)
   ·refine sz_bnd (ez.expr 0 l) fun e r h2 => sz_if (fun h3 => ?_) fun _ => sz_exp fun h4 => sz_ok (by simp only [sizeS, sizeE_z, sizeSs]; omega)
    have h4 := len_tail (isP_ne h3)
    exact sz_bnd (ez.expr 0 r.tail) fun x r2 h5 => sz_exp fun h6 => sz_ok (by simp only [sizeS, sizeE_z, sizeSs]; omega)
theorem pmore_sz : ∀ (f : Nat) (acc : List Pc) (l : List Tk), SZ 1 (acc.length + l.length) List.length (pmoreP f acc l)
 | 0, acc, l => by rw [pmoreP]; exact sz_er
 | f + 1, acc, l => by
  rw [pmoreP]
  refine sz_if (fun h => ?_) fun _ => sz_exp fun h1 => sz_ok (by omega)
  have h1 := len_tail (isP_ne h)
  refine sz_bnd (typ_sz l.tail) fun t r h2 => sz_bnd (id_sz r) fun s r2 h3 => sz_le (pmore_sz f _ r2) ?_
  rw [Lla, List.length_singleton]
  omega
theorem params_sz (f : Nat) (l : List Tk) : SZ 1 l.length (fun ps => List.length ps) (paramsP f l) := by
 unfold paramsP
 refine sz_exp fun h1 => sz_if (fun h => sz_ok ?_) fun _ => sz_bnd (typ_sz _) fun t r h2 => sz_bnd (id_sz r) fun s r3 h3 => sz_le (pmore_sz f _ r3) ?_
 ·have := len_tail (isP_ne h)
  simp only [Lln]
  omega
 ·simp only [Llc, Lln]
  omega
theorem sizeC_M (d : Cd) (x : Md) : sizeC (d.addM x) = sizeC d + sizeM x := by simp only [sizeC, Cd.addM, List.map_append, List.sum_append, List.map_cons, List.map_nil, List.sum_cons, List.sum_nil]; omega
theorem sizeC_F (d : Cd) (x : Fc) : sizeC (d.addF x) = sizeC d + 1 := by simp only [sizeC, Cd.addF, Lla, List.length_singleton]; omega
theorem sizeC_I (d : Cd) (x : List St) : sizeC (d.addI x) = sizeC d + sizeSs x := by simp only [sizeC, Cd.addI, sizeSs_app]; omega
theorem rest_sz (f : Nat) (d : Cd) (fl : Int) (t : Ty) (s : List UInt8) (l : List Tk) : SZ 3 (sizeC d + 3 * l.length) sizeC (restP f d fl t s l) := by
 unfold restP
 refine sz_bnd (params_sz f l) fun ps r h1 => sz_if (fun h => sz_ok ?_) fun _ => sz_bnd ((tz_all f).block r) fun b r2 h2 => sz_ok ?_
 ·have := len_tail (isP_ne h)
  simp only [sizeC_M, sizeM, sizeSs]
  omega
 ·simp only [sizeC_M, sizeM]
  omega
theorem member_sz (f : Nat) (d : Cd) (fl : Int) (l : List Tk) : SZ 3 (sizeC d + 3 * l.length) sizeC (memberP f d fl l) := by
 unfold memberP
 refine sz_if (fun h => ?_) fun _ => sz_if (fun h => ?_) fun _ => sz_if (fun h => ?_) fun _ => ?_
 ·exact sz_bnd ((tz_all f).block l) fun b r h1 => sz_ok (by simp only [sizeC_I]; omega)
 ·have h1 := len_tail (isP_ne h)
  exact sz_bnd (params_sz f l.tail) fun ps r h2 => sz_bnd ((tz_all f).block r) fun b r2 h3 => sz_ok (by simp only [sizeC_M, sizeM]; omega)
 ·have h1 := len_tail (isP_ne h)
  exact sz_bnd (id_sz l.tail) fun s r h2 => sz_le (rest_sz f d fl vTy s r) (by omega)
 ·refine sz_bnd (typ_sz l) fun t r h1 => sz_bnd (id_sz r) fun s r2 h2 => sz_if (fun h => sz_ok ?_) fun _ => sz_le (rest_sz f d fl t s r2) (by omega)
  have := len_tail (isP_ne h)
  simp only [sizeC_F]
  omega
theorem mems_sz : ∀ (f : Nat) (d : Cd) (l : List Tk), SZ 3 (sizeC d + 3 * l.length) sizeC (memsP f d l)
 | 0, d, l => by rw [memsP]; exact sz_er
 | f + 1, d, l => by
  rw [memsP]
  refine sz_if (fun h => sz_ok ?_) fun _ => sz_bnd (member_sz f d _ _) fun e r h => sz_le (mems_sz f e r) ?_
  ·have := len_tail (isP_ne h)
   omega
  ·have := (modsP_suf modsL 0 l).length_le
   omega
theorem clses_sz : ∀ (f : Nat) (acc : List (List UInt8)) (l : List Tk), SZ 1 (acc.length + l.length) List.length (clsesP f acc l)
 | 0, acc, l => by rw [clsesP]; exact sz_er
 | f + 1, acc, l => by
  rw [clsesP]
  refine sz_if (fun h => ?_) fun _ => sz_ok (by omega)
  have h1 := len_tail (isP_ne h)
  refine sz_bnd (cls_sz l.tail) fun s r h2 => sz_le (clses_sz f _ r) ?_
  rw [Lla, List.length_singleton]
  omega
theorem ifs_sz (f : Nat) (w : List UInt8) (l : List Tk) : SZ 1 l.length List.length (ifsP f w l) := by
 unfold ifsP
 refine sz_if (fun h => ?_) fun _ => sz_ok (by simp)
 have h1 := len_tail (isP_ne h)
 refine sz_bnd (cls_sz l.tail) fun s r h2 => sz_le (clses_sz f _ r) ?_
 simp only [Llc, Lln]
 omega
theorem head_sz (f : Nat) (l : List Tk) : SZ 3 (3 * l.length) sizeC (headP f l) := by
 have hs1 := (modsP_suf p1L 0 l).length_le
 have hs2 := (modsP_suf p2L (modsP p1L 0 l).1 (modsP p1L 0 l).2).length_le
 unfold headP
 refine sz_if (fun h => ?_) fun _ => ?_
 ·have h1 := len_tail (isP_ne h)
  refine sz_bnd (cls_sz _) fun n r h2 => sz_bnd (ifs_sz f extW r) fun is r2 h3 => sz_exp fun h4 => sz_ok ?_
  simp only [sizeC, sizeSs, Lln, List.map_nil, List.sum_nil]
  omega
 ·refine sz_exp fun h1 => sz_bnd (cls_sz _) fun n r2 h2 => sz_exp fun h3 => sz_bnd (cls_sz _) fun sp r4 h4 => sz_bnd (ifs_sz f impW r4) fun is r5 h5 => sz_exp fun h6 => sz_ok ?_
  simp only [sizeC, sizeSs, Lln, List.map_nil, List.sum_nil]
  omega
theorem cl_sz (f : Nat) (l : List Tk) : SZ 3 (3 * l.length) sizeC (clP f l) := sz_bnd (head_sz f l) fun d r h => sz_le (mems_sz f d r) (by omega)
theorem prog_sz : ∀ (f : Nat) (acc : List Cd) (l : List Tk), SZ 3 ((acc.map sizeC).sum + 3 * l.length) (fun p => (List.map sizeC p).sum) (progP f acc l)
 | 0, acc, l => by rw [progP]; exact sz_er
 | f + 1, acc, l => by
  rw [progP]
  refine sz_if (fun h => sz_ok ?_) fun _ => sz_bnd (cl_sz f l) fun d r h => sz_le (prog_sz f _ r) ?_
  ·rw [Lln]; omega
  ·rw [List.map_append, List.sum_append, List.map_cons, List.map_nil, List.sum_cons, List.sum_nil]
   omega
theorem progK_sz (l : List Tk) : SZ 3 (3 * l.length) (fun p => (List.map sizeC p).sum) (progK [] l) := sz_le (sz_lim (lprog [] l) fun f => prog_sz f [] l) (by simp)
/-! A sequence of statements, to the end of the text. -/
def sblP : Nat → List St → List Tk → PR (List St)
 | 0, _, l => .error l
 | f + 1, acc, l => if l = [] then .ok (acc, []) else bndP (stmtP f l) fun s r => sblP f (acc ++ [s]) r
theorem sbl_tot : ∀ (N : Nat) (acc : List St) (l : List Tk), l.length ≤ N → Tot false (fun f => sblP f acc l) l := fun N => by
 induction N with
 | zero =>
  intro acc l hl
  have : l = [] := List.eq_nil_of_length_eq_zero (by omega)
  subst this
  refine tot_succ (h := fun _ => .ok (acc, [])) (fun f => by rw [sblP, if_pos rfl]) tot_fin
 | succ N ih =>
  intro acc l hl
  by_cases h : l = []
  ·subst h
   exact tot_succ (h := fun _ => .ok (acc, [])) (fun f => by rw [sblP, if_pos rfl]) tot_fin
  ·refine tot_succ (h := fun f => bndP (stmtP f l) fun s r => sblP f (acc ++ [s]) r) (fun f => by rw [sblP, if_neg h]) ?_
   exact tot_weak false (tot_bnd (b := false) (sx_tot l).stmt fun s r h1 h2 => ih _ r (by have := h2 rfl; omega)) fun h => by cases h
noncomputable def sblK (acc : List St) (l : List Tk) : PR (List St) := limK fun f => sblP f acc l
theorem lsbl (acc : List St) (l : List Tk) : Lim (fun f => sblP f acc l) (sblK acc l) := (sbl_tot _ acc l (Nnr _)).lim
theorem sblK_eq (acc : List St) (l : List Tk) : sblK acc l = (if l = [] then .ok (acc, []) else bndP (stmtK l) fun s r => sblK (acc ++ [s]) r) :=
 limK_eq (lim_succ (fun f => by rw [sblP]) (lim_ifK (lim_const _) (lim_bndK (lstmt l) fun s r => lsbl _ r)))
theorem sbl_sz : ∀ (f : Nat) (acc : List St) (l : List Tk), SZ 3 (sizeSs acc + 3 * l.length) sizeSs (sblP f acc l)
 | 0, acc, l => by rw [sblP]; exact sz_er
 | f + 1, acc, l => by
  rw [sblP]
  refine sz_if (fun h => sz_ok ?_) fun _ => sz_bnd ((tz_all f).stmt l) fun d r h => sz_le (sbl_sz f _ r) ?_
  ·rw [Lln]; omega
  ·simp only [sizeSs_app, sizeSs]
   omega
theorem sblK_sz (l : List Tk) : SZ 3 (3 * l.length) sizeSs (sblK [] l) := sz_le (sz_lim (lsbl [] l) fun f => sbl_sz f [] l) (by simp [sizeSs])
noncomputable def oneK (l : List Tk) : PR Ex := bndP (exprK 0 l) fun e r => if r = [] then .ok (e, []) else .error r
/-! Depths against sizes. -/
mutual
theorem depD_size : ∀ (s : St), depthS s ≤ sizeS s ∧ exprD s ≤ sizeS s
 | .mk k nm ty tg ex body alt => by
  have h1 := depDs_size body
  have h2 := depDs_size alt
  have h3 := depth_size tg
  have h4 := depth_size ex
  have h5 : argsD ex ≤ depthE ex := by cases ex; simp [argsD, depthE]
  simp only [depthS, exprD, sizeS]
  constructor
  ·omega
  ·split <;> omega
theorem depDs_size : ∀ (l : List St), depthSs l ≤ sizeSs l ∧ exprDs l ≤ sizeSs l
 | [] => by simp [depthSs, exprDs]
 | e :: r => by
  have h1 := depD_size e
  have h2 := depDs_size r
  simp only [depthSs, exprDs, sizeSs]
  omega
end
theorem mds_size : ∀ (l : List Md), mdsS l ≤ (l.map sizeM).sum ∧ mdsE l ≤ (l.map sizeM).sum
 | [] => by simp [mdsS, mdsE]
 | e :: r => by
  have h1 := depDs_size e.body
  have h2 := mds_size r
  simp only [mdsS, mdsE, List.map_cons, List.sum_cons, sizeM]
  omega
theorem cdB_size {d : Cd} (h : sizeC d ≤ 1048576) : CdB d := by
 have h1 := depDs_size d.init
 have h2 := mds_size d.methods
 simp only [sizeC] at h
 exact ⟨by simp only [big]; omega, by simp only [big]; omega, by simp only [big]; omega, by simp only [big]; omega⟩
theorem sum_mem {α : Type} {f : α → Nat} : ∀ {l : List α}, ∀ x ∈ l, f x ≤ (l.map f).sum
 | [], x, hx => by cases hx
 | y :: r, x, hx => by
  simp only [List.map_cons, List.sum_cons]
  rcases List.mem_cons.1 hx with rfl | hx
  ·omega
  ·have := sum_mem (f := f) x hx; omega
theorem prog_cdB {l : List Cd} (h : (l.map sizeC).sum ≤ 1048576) : ∀ d ∈ l, CdB d := fun d hd => cdB_size (Nat.le_trans (sum_mem (f := sizeC) d hd) h)
theorem byCc : byT Tryz.prog 59 = 136 := by kernel_rfl
@[reducible] def p1B (en : Int) (s : PSt) : Bx := ⟨1, 62, [.vec 0 0, .v (.int .i64 s.i), .v (.int .i64 en), .v (.bool s.fl), .v (.int .i64 s.off)]⟩
@[reducible] def tkV0 (ts : List Tk) : Vc := ⟨0, 0, 50, 4, ts.length, tkCells ts⟩
attribute [go_sem] byCc p1B tkV0
noncomputable def progRes (t : List UInt8) : List Cd × Int × Int :=
 if (tokenizeL t).2.2 = 0 then (match progK [] (tokenizeL t).1 with
  | .error r => ([], offR t.length r, 71)
  | .ok x => if (checkL [] x.1).2 = 0 then (x.1, 0, 0) else ([], 0, (checkL [] x.1).2))
 else ([], (tokenizeL t).2.1, (tokenizeL t).2.2)
abbrev POut (x : List Cd × Int × Int) (m : Mem) : SV → Hp → Mem → Prop := fun r H' m' => leM m m' ∧ ∃ (a : Option Addr) (n c : Nat), r = .tup [.v (.slice a n c), .v (.int .i64 x.2.1), .v (.int .i64 x.2.2)] ∧ prRep m' x.1 a n c ∧ H' = ⟨[], []⟩
theorem GlobX.upM {m m' : Mem} (h : GlobX m) (hm : leM m m') : GlobX m' := by
 rcases hm with rfl | hm
 ·exact h
 ·exact h.up hm
theorem own_tup {R' : SV → Hp → Mem → Prop} {bx : List Bx} {vc : List Vc} {m' : Mem} {k u : Nat} {x y : Value} {b : Vc} (hb : lkV vc k u = some b)
  (h : ∀ (a : Option Addr) (c : Nat) (m1 : Mem), m'.le m1 → b.n ≤ c → Rds m1 a b.n b.sz b.xs → R' (.tup [.v (.slice a b.n c), .v x, .v y]) ⟨[], []⟩ m1) : OwnR R' (.tup [.vec k u, .v x, .v y]) ⟨bx, vc⟩ m' :=
 .inr ⟨fun z => .tup [z, .v x, .v y], k, u, b, ⟨[], []⟩, hb, rfl, fun V v e => by subst e; rfl, List.nil_sublist _, List.nil_sublist _, h⟩
theorem prRep_nil (m : Mem) : prRep m [] none 0 0 := ⟨rfl, Nnr _, Nat.zero_le _, [], rds_none m 7, trivial⟩
theorem cl_lt (l : List Tk) : ∀ x r, clK l = .ok (x, r) → r.length < l.length := fun x r h => by
 have g := (cl_tot l).good
 rw [limK_eq (lcl l)] at g
 exact (g.ok x r h).2 rfl
theorem cdRep_cs {m : Mem} {x : Cc} {d : Cd} (h : cdRep m d x.cs) : lsRep (cdRep m) 7 [d] x.cs := ⟨h, trivial⟩
theorem prog_spec (t : List UInt8) (m : Mem) (hg : GlobX m) (ht : t.length ≤ 4611686018427387904) : FnH Tryz.prog 10 [.v (.string (bs t))] ⟨[], []⟩ m (POut (progRes t) m) := by
 have hk := fun m' (h : leM m m') => tokenize_spec t m' (by rcases h with rfl | h; exact hg; exact hg.up h) ht
 have hT := tok_tsb t
 by_cases h0 : (tokenizeL t).2.2 = 0
 ·have h1 := open_ok ht (hk m (.inl rfl)) h0
  have e0 : progRes t = (match progK [] (tokenizeL t).1 with
   | .error r => ([], offR t.length r, 71)
   | .ok x => if (checkL [] x.1).2 = 0 then (x.1, 0, 0) else ([], 0, (checkL [] x.1).2)) := if_pos h0
  refine FnH_own (enter cfN puN Tryz.func10 rfl rfl (by kernel_rfl) rfl ?_ ?_)
  ·simp only [go_sem, ↓tfi, ↓fti, ↓reduceIte]
  ·simp only [go_sem, ↓tfi, ↓fti, ↓reduceIte]
   refine cvl (h1.mono ?_)
   clear h1
   rintro r H' m1 hm1 ⟨l1, rfl, rfl⟩
   simp only [go_sem, ↓tfi, ↓fti, ↓reduceIte]
   refine ⟨fun h => absurd trivial h, ?_⟩
   refine WP_adopt 8 59 7 (by decide) rfl ?_
   refine WP_loop puN (fun y : PSt × List Cd × List Value × Nat × Mem => ⟨[⟨5, [], .box 1 0⟩, ⟨8, [], .vec 2 y.2.2.2.1⟩], [], [p1B t.length y.1], [⟨2, y.2.2.2.1, 59, 7, y.2.1.length, y.2.2.1⟩, tkV0 (tokenizeL t).1], 40, y.2.2.2.2⟩)
    (fun y => leM m1 y.2.2.2.2 ∧ Inv (tokenizeL t).1 y.1 ∧ y.2.1.length ≤ y.1.i + (if y.1.fl = true then 1 else 0) ∧ y.2.2.1.length = y.2.1.length * 7 ∧ lsRep (cdRep y.2.2.2.2) 7 y.2.1 y.2.2.1 ∧ ∀ a s', Res (tokenizeL t).1 t.length y.1 (progK y.2.1 ((tokenizeL t).1.drop y.1.i)) a s' → Res (tokenizeL t).1 t.length ⟨0, false, 0⟩ (progK [] (tokenizeL t).1) a s')
    (fun y => if y.1.fl = true then 0 else (tokenizeL t).1.length - y.1.i + 1) (⟨0, false, 0⟩, [], [], 0, m1) (by kernel_rfl) (fun _ _ => nbl rfl) (fun y hy => hy.1) (fun _ => ?_) ?_ ?_ ?_
   ·simp only [go_sem, ↓tfi, ↓fti, ↓reduceIte]
   ·simp only [go_sem, ↓tfi, ↓fti, ↓reduceIte]
    exact rfl
   ·exact ⟨.inl rfl, ⟨Nat.zero_le _, fun h => (by cases h)⟩, Nat.zero_le _, rfl, trivial, fun a s' h => h⟩
   ·rintro ⟨s4, ds, xs, u, m4⟩ ⟨q1, q2, q3, q4, q5, q6⟩
    dsimp only at q1 q2 q3 q4 q5 q6
    have hl := hT.len
    have hil := q2.le
    have hm := more_spec (en := t.length) (s := s4) hT m4
    by_cases hi : s4.i < (tokenizeL t).1.length
    ·have hf := q2.nfl hi
     rw [decide_eq_true hi] at hm
     have hb := fun m' => decl_spec (en := t.length) hT q2 m'
     rw [if_neg (by rw [hf]; decide)] at q3
     simp only [go_sem, ↓tfi, ↓fti, ↓reduceIte]
     refine cvl (hm.mono ?_)
     clear hm
     rintro r H' m5 hm5 ⟨rfl, rfl, rfl⟩
     simp only [go_sem, ↓tfi, ↓fti, ↓reduceIte]
     refine cvl ((hb m5).mono ?_)
     clear hb
     rintro r H' m6 hm6 ⟨l6, x6, d6, s6, rfl, hd6, rfl, hR6⟩
     have hle6 := hR6.mono
     have hadv := res_adv hR6 hf (cl_lt _)
     have hI6 := hR6.inv.le
     simp only [go_sem, ↓tfi, ↓fti, ↓reduceIte]
     refine ⟨room_of (by omega) (by decide), (s6, ds ++ [d6], xs ++ x6.cs, u + 1, m6), ⟨rfl, ⟨rfl, rfl, rfl⟩, ⟨rfl, by simp, rfl⟩, .inl rfl⟩, ⟨leM_tr q1 l6, hR6.inv, ?_, by simp only [Lla, List.length_singleton, q4, Cc.cs, Llc, Lln]; omega, ls_app (l2 := [d6]) (cdRep_cs hd6) q4 (ls_up (fun _ _ => cdRep_up l6) q5), fun a s' h => q6 a s' ?_⟩, ?_⟩
     ·dsimp only
      rw [Lla, List.length_singleton]
      rcases hadv with h | h
      ·rw [if_pos h]; omega
      ·omega
     ·rw [progK_eq, if_neg (fun h => by have := congrArg List.length h; rw [List.length_drop] at this; simp at this; omega)]
      exact res_bnd hR6 h
     ·dsimp only
      rw [if_neg (by rw [hf]; decide : ¬ s4.fl = true)]
      rcases hadv with h | h
      ·rw [if_pos h]; omega
      ·split <;> omega
    ·rw [decide_eq_false hi] at hm
     have hnil : (tokenizeL t).1.drop s4.i = [] := List.drop_eq_nil_of_le (by omega)
     have hRes : Res (tokenizeL t).1 t.length ⟨0, false, 0⟩ (progK [] (tokenizeL t).1) ds s4 := by
      refine q6 _ _ ?_
      by_cases hf : s4.fl = true
      ·exact res_fl ds q2 hf
      ·rw [progK_eq, if_pos hnil, ← hnil]
       exact res_pure _ q2
     simp only [go_sem, ↓tfi, ↓fti, ↓reduceIte]
     refine cvl (hm.mono ?_)
     clear hm
     rintro r H' m5 hm5 ⟨rfl, rfl, rfl⟩
     simp only [go_sem, ↓tfi, ↓fti, ↓reduceIte]
     refine ⟨fun hf => ?_, fun hf => ?_⟩
     ·refine WP_draw (.hoist 0 (.hoist 1 (.hoist 2 (.hoist 3 (.hoist 4 (.hoist 5 (.hoist 6 .done))))))) puN (by kernel_rfl) (by kernel_rfl) ?_
      simp only [go_sem, ↓tfi, ↓fti, ↓reduceIte]
      have e : progRes t = ([], s4.off, 71) := by
       cases hK : progK [] (tokenizeL t).1 with
       | ok p =>
        obtain ⟨x, r⟩ := p
        have := (hRes.ok rfl x r hK).2.1
        rw [hf] at this
        cases this
       | error r =>
        rw [e0, hK, (hRes.er rfl r hK).2]
      rw [e]
      exact .inl ⟨leM_tr l1 q1, none, 0, 0, rfl, prRep_nil _, rfl⟩
     ·refine ⟨by kernel_rfl, fun a c m6 w1 w2 w3 => FnV_of ?_⟩
      have hK : progK [] (tokenizeL t).1 = .ok (ds, []) := by
       cases hK : progK [] (tokenizeL t).1 with
       | error r =>
        have := (hRes.er rfl r hK).1
        rw [hf] at this
        cases this
       | ok p =>
        obtain ⟨x, r⟩ := p
        obtain ⟨k1, k2, k3⟩ := hRes.ok rfl x r hK
        rw [k1, k3, hnil]
      have hsz : (ds.map sizeC).sum ≤ 1048576 := by
       have := progK_sz (tokenizeL t).1 ds [] hK
       have := tok_few t
       dsimp only at *
       omega
      rw [hK] at e0
      have hrep : prRep m6 ds a ds.length c := ⟨rfl, w2, by unfold big; have := tok_few t; have hb : (if s4.fl = true then 1 else 0) ≤ 1 := (by split <;> decide); omega, xs, w3, ls_up (fun _ _ => cdRep_up (.inr w1)) q5⟩
      have hc := check_spec ds a ds.length c m6 (hg.upM (leM_tr l1 (leM_tr q1 (.inr w1)))).1 (prog_cdB hsz) hrep
      refine hc.mono ?_
      clear hc
      rintro r H' m7 hm7 ⟨l7, rfl, rfl⟩
      simp only [go_sem, ↓tfi, ↓fti, ↓reduceIte]
      have hbig : ds.length ≤ big := hrep.2.2.1
      refine ⟨fun hk1 => ?_, fun hk1 => ?_⟩
      ·have e : progRes t = ([], 0, (checkL [] ds).2) := by rw [e0]; exact if_neg hk1
       rw [e]
       exact .inl ⟨leM_tr l1 (leM_tr q1 (leM_tr (.inr w1) l7)), none, 0, 0, rfl, prRep_nil _, rfl⟩
      ·have e : progRes t = (ds, 0, 0) := by rw [e0]; exact if_pos hk1
       rw [e]
       exact own_tup (b := ⟨2, u, 59, 7, ds.length, xs⟩) (by simp [lkV]) fun a8 c8 m8 x1 x2 x3 => ⟨leM_tr l1 (leM_tr q1 (leM_tr (.inr w1) (leM_tr l7 (.inr x1)))), a8, ds.length, c8, rfl, ⟨rfl, x2, hbig, xs, x3, ls_up (fun _ _ => cdRep_up (leM_tr (.inr w1) (leM_tr l7 (.inr x1)))) q5⟩, rfl⟩
 ·have h1 := open_er ht (hk m (.inl rfl)) h0
  have e0 : progRes t = ([], (tokenizeL t).2.1, (tokenizeL t).2.2) := if_neg h0
  rw [e0]
  refine enter cfN puN Tryz.func10 rfl rfl (by kernel_rfl) rfl ?_ ?_
  ·simp only [go_sem, ↓tfi, ↓fti, ↓reduceIte]
  ·simp only [go_sem, ↓tfi, ↓fti, ↓reduceIte]
   refine cvl (h1.mono ?_)
   clear h1
   rintro r H' m1 hm1 ⟨l1, rfl, rfl⟩
   simp only [go_sem, ↓tfi, ↓fti, ↓reduceIte]
   refine ⟨fun _ => ⟨l1, none, 0, 0, rfl, prRep_nil m1, rfl⟩, fun h => absurd h h0⟩
def Ad {α : Type} (g : List Tk → PR α) (l : List Tk) : Prop := ∀ r, g l = .error r → r.length < l.length
theorem ad_bnd {α β : Type} {g : List Tk → PR α} {k : α → List Tk → PR β} {l : List Tk} (hg : Ad g l) (h1 : Good true l (g l)) (hk : ∀ x, Sf (k x)) : Ad (fun l => bndP (g l) k) l := fun r h => by
 cases e : g l with
 | error s => simp only [bndP, e] at h; cases h; exact hg _ e
 | ok z =>
  obtain ⟨y, s⟩ := z
  simp only [bndP, e] at h
  have q1 := suf_len ((hk y s).er _ h)
  have q2 := (h1.ok _ _ e).2 rfl
  omega
theorem ad_tail {α : Type} {H : List Tk → PR α} {l : List Tk} (hS : Sf H) (hl : l ≠ []) : Ad (fun l => H l.tail) l := fun r h => by
 have q1 := suf_len ((hS _).er _ h)
 have q2 := tail_lt hl
 omega
theorem ad_congr {α : Type} {g g' : List Tk → PR α} {l : List Tk} (e : ∀ l, g l = g' l) (h : Ad g' l) : Ad g l := fun r he => h r (by rw [← e]; exact he)
def takeB (l : List Tk) : Bool := isP superW l || isP intS l || isP longS l || isClsP l
theorem take_ne {l : List Tk} (h : takeB l = true) : l ≠ [] := fun e => by rw [e] at h; revert h; decide
theorem isP_two {s s' : List UInt8} {l : List Tk} (h : isP s l = true) (hn : s ≠ s') : isP s' l = false := by
 cases l with
 | nil => rfl
 | cons t r =>
  simp only [isP, Bbt, decide_eq_true_eq] at h
  simp only [isP]
  rw [h.2, decide_eq_false hn, Bool.and_false]
theorem isP_kind {s : List UInt8} {l : List Tk} (h : isP s l = true) : hdK l = 2 ∨ hdK l = 6 := by
 cases l with
 | nil => cases h
 | cons t r =>
  simp only [isP, Bbt, Bool.or_eq_true, decide_eq_true_eq] at h
  exact h.1
theorem isP_no {s : List UInt8} {l : List Tk} (h : isP s l = true) : hdK l ≠ 3 ∧ hdK l ≠ 4 ∧ hdK l ≠ 5 ∧ isIdP l = false ∧ isClsP l = false := by
 have hk := isP_kind h
 refine ⟨by omega, by omega, by omega, ?_, ?_⟩
 ·rw [isIdP, decide_eq_false (by omega)]; rfl
 ·rw [isClsP, decide_eq_false (by omega)]; rfl
theorem cls_no {l : List Tk} (h : isClsP l = true) : hdK l = 1 ∧ isIdP l = false ∧ ∀ s, isP s l = false := by
 simp only [isClsP, Bbt, decide_eq_true_eq] at h
 refine ⟨h.1, by rw [isIdP, h.2]; simp, fun s => ?_⟩
 cases e : isP s l with
 | false => rfl
 | true => have := isP_kind e; omega
theorem ad_key {l : List Tk} (h : isP superW l = true ∨ isP intS l = true ∨ isP longS l = true) : Ad keyK l := by
 have s2 : ∀ s, Sf (fun r2 => bndP (argsK r2) fun es r3 => Except.ok (Ex.mk 12 0 s [] zTy es, r3)) := fun s => sf_bnd sf_args fun es => sf_ok
 rcases h with h | h | h
 ·have h : isP [115, 117, 112, 101, 114] l = true := h
  have hS : Sf (fun l => expP [46] l fun r => bndP (idP r) fun s r2 => bndP (argsK r2) fun es r3 => Except.ok (Ex.mk 12 0 s [] zTy es, r3)) := sf_exp (sf_bnd sf_id s2)
  intro r e
  rw [keyK_eq, isP_two h (by decide : ([115, 117, 112, 101, 114] : List UInt8) ≠ [110, 117, 108, 108]), isP_two h (by decide : ([115, 117, 112, 101, 114] : List UInt8) ≠ [116, 104, 105, 115]), if_neg (by decide), if_neg (by decide), if_pos h] at e
  exact ad_tail hS (isP_ne h) r e
 ·have hS : Sf (fun l => bndP (parenK l) fun e r => Except.ok (Ex.mk 20 0 [] [] zTy [e], r)) := sf_bnd sf_paren fun e => sf_ok
  intro r e
  rw [keyK_eq, isP_two h (by decide : intS ≠ [110, 117, 108, 108]), isP_two h (by decide : intS ≠ [116, 104, 105, 115]), isP_two h (by decide : intS ≠ [115, 117, 112, 101, 114]), isP_two h (by decide : intS ≠ [110, 101, 119]), isP_two h (by decide : intS ≠ [108, 101, 110]),
   if_neg (by decide), if_neg (by decide), if_neg (by decide), if_neg (by decide), if_neg (by decide), if_pos h] at e
  exact ad_tail hS (isP_ne h) r e
 ·have hS : Sf (fun l => bndP (parenK l) fun e r => Except.ok (Ex.mk 21 0 [] [] zTy [e], r)) := sf_bnd sf_paren fun e => sf_ok
  intro r e
  rw [keyK_eq, isP_two h (by decide : longS ≠ [110, 117, 108, 108]), isP_two h (by decide : longS ≠ [116, 104, 105, 115]), isP_two h (by decide : longS ≠ [115, 117, 112, 101, 114]), isP_two h (by decide : longS ≠ [110, 101, 119]), isP_two h (by decide : longS ≠ [108, 101, 110]), isP_two h (by decide : longS ≠ intS),
   if_neg (by decide), if_neg (by decide), if_neg (by decide), if_neg (by decide), if_neg (by decide), if_neg (by decide), if_pos h] at e
  exact ad_tail hS (isP_ne h) r e
theorem ad_operand {l : List Tk} (h : takeB l = true) : Ad operandK l := by
 simp only [takeB, Bool.or_eq_true] at h
 by_cases hc : isClsP l = true
 ·obtain ⟨c1, c2, c3⟩ := cls_no hc
  have s4 : ∀ (c s : List UInt8), Sf (fun r3 => if isP [40] r3 = true then bndP (argsK r3) fun es r4 => Except.ok (Ex.mk 11 0 s c zTy es, r4) else Except.ok (Ex.mk 8 0 s c zTy [], r3)) := fun c s => sf_if (c := fun l => isP [40] l = true) (sf_bnd sf_args fun es => sf_ok) sf_ok
  intro r e
  rw [operandK_eq, if_neg (by omega), if_neg (by omega), if_neg (by omega), c2, if_neg (by decide), if_pos hc] at e
  refine ad_bnd (g := clsP) (fun r he => ?_) ?_ (fun c => sf_exp (sf_bnd sf_id (s4 c))) r e
  ·rw [clsP, if_pos hc] at he; cases he
  ·have := (tot_cls l).good; rwa [limK_eq (lim_const _)] at this
 ·have h' : isP superW l = true ∨ isP intS l = true ∨ isP longS l = true := by
   rcases h with ((h | h) | h) | h
   ·exact .inl h
   ·exact .inr (.inl h)
   ·exact .inr (.inr h)
   ·exact absurd h hc
  have hp : ∃ s, isP s l = true ∧ isP [40] l = false := by
   rcases h' with h | h | h
   ·exact ⟨_, h, isP_two h (by decide)⟩
   ·exact ⟨_, h, isP_two h (by decide)⟩
   ·exact ⟨_, h, isP_two h (by decide)⟩
  obtain ⟨s, hp, h40⟩ := hp
  obtain ⟨n1, n2, n3, n4, n5⟩ := isP_no hp
  intro r e
  rw [operandK_eq, if_neg n1, if_neg n2, if_neg n3, n4, n5, h40, if_neg (by decide), if_neg (by decide), if_neg (by decide)] at e
  exact ad_key h' r e
theorem ad_unary {l : List Tk} (h : takeB l = true) : Ad unaryK l := by
 have hn : isP [45] l = false ∧ isP [33] l = false := by
  simp only [takeB, Bool.or_eq_true] at h
  rcases h with ((h | h) | h) | h
  ·exact ⟨isP_two h (by decide), isP_two h (by decide)⟩
  ·exact ⟨isP_two h (by decide), isP_two h (by decide)⟩
  ·exact ⟨isP_two h (by decide), isP_two h (by decide)⟩
  ·exact ⟨(cls_no h).2.2 _, (cls_no h).2.2 _⟩
 intro r e
 rw [unaryK_eq, hn.1, hn.2, if_neg (by decide), if_neg (by decide)] at e
 exact ad_bnd (ad_operand h) (ex_tot l).operand.good (fun e => sf_post e) r e
theorem ad_expr {l : List Tk} (h : takeB l = true) : ∀ k n, n + k = 10 → Ad (exprK n) l := fun k => by
 induction k with
 | zero =>
  intro n hn
  have : n = 10 := by omega
  subst this
  exact ad_congr exprK_top (ad_unary h)
 | succ k ihk =>
  intro n hn
  exact ad_congr (exprK_eq (n := n) (by omega)) (ad_bnd (ihk (n + 1) (by omega)) ((ex_tot l).expr (n + 1) (by omega)).good fun e => sf_loop (by omega) e)
theorem ad_e0 {l : List Tk} (h : takeB l = true) : Ad (exprK 0) l := ad_expr h 10 0 rfl
theorem ad_typ {l : List Tk} (h : isP intS l = true ∨ isP longS l = true ∨ isClsP l = true) : Ad typP l := by
 have hb : Ad baseP l := fun r e => by
  rw [baseP] at e
  by_cases h1 : isP intS l = true
  ·rw [if_pos h1] at e; cases e
  rw [if_neg h1] at e
  by_cases h2 : isP longS l = true
  ·rw [if_pos h2] at e; cases e
  rw [if_neg h2] at e
  have h3 : isClsP l = true := by
   rcases h with h | h | h
   ·exact absurd h h1
   ·exact absurd h h2
   ·exact h
  rw [clsP, if_pos h3] at e
  cases e
 exact ad_bnd (g := baseP) (k := fun y r => dimsK y r) hb (by have := (tot_base l).good; rwa [limK_eq (lim_const _)] at this) fun y => sf_dims y
theorem sf_block : Sf blockK := fun l => sf_weak (sx_tot l).block.good
theorem sf_stmts (acc : List St) : Sf (stmtsK acc) := fun l => sf_weak ((sx_tot l).stmts acc).good
section
variable {t : Tk} {a b : List Tk}
theorem lc_take {α : Type} {g : List Tk → PR α} {p : List Tk} (h1 : Good true (p ++ t :: a) (g (p ++ t :: a))) (h2 : Ad g (p ++ t :: a)) (hp : p = []) : Lc t a b g p := fun q => by
 subst hp
 refine ⟨fun x e => ?_, fun e => ?_⟩
 ·have := (h1.ok _ _ e).2 rfl
  simp only [Lla, Llc, List.nil_append] at this
  omega
 ·have := h2 _ e
  simp only [Lla, Llc, List.nil_append] at this
  omega
structure LSt (t : Tk) (a b : List Tk) (p : List Tk) : Prop where
 block : Lc t a b blockK p
 stmt : Lc t a b stmtK p
 stmts : ∀ acc, Lc t a b (stmtsK acc) p
theorem ad_stmt {l : List Tk} (h : takeB l = true) : Ad stmtK l := by
 have hne := take_ne h
 have hno : ∀ w, w = ifW ∨ w = whileW ∨ w = retW ∨ w = throwW ∨ w = tryW ∨ w = syncW ∨ w = [123] → isP w l = false := fun w hw => by
  have hh := h
  simp only [takeB, Bool.or_eq_true] at hh
  rcases hh with ((h | h) | h) | h
  ·refine isP_two h fun e => ?_; subst e; revert hw; decide
  ·refine isP_two h fun e => ?_; subst e; revert hw; decide
  ·refine isP_two h fun e => ?_; subst e; revert hw; decide
  ·exact (cls_no h).2.2 _
 have sA : Sf (fun l => bndP (argsK l) fun es r => expP [59] r fun r2 => Except.ok (St.mk 11 [] zTy zE (.mk 0 0 [] [] zTy es) [] [], r2)) := sf_bnd sf_args fun es => sf_exp sf_ok
 have sD : ∀ y : Ty, Sf (fun r => bndP (idP r) fun s r2 => expP [61] r2 fun r3 => bndP (exprK 0 r3) fun e r4 => expP [59] r4 fun r5 => Except.ok (St.mk 1 s y zE e [] [], r5)) := fun y => sf_bnd sf_id fun s => sf_exp (sf_bnd sf_e0 fun e => sf_exp sf_ok)
 have sX : ∀ e : Ex, Sf (fun r => if isP [61] r = true then bndP (exprK 0 r.tail) fun x r2 => expP [59] r2 fun r3 => Except.ok (St.mk 2 [] zTy e x [] [], r3) else expP [59] r fun r2 => Except.ok (St.mk 3 [] zTy zE e [] [], r2)) := fun e =>
  sf_if (c := fun l => isP [61] l = true) (sf_tail (g := fun l => bndP (exprK 0 l) fun x r2 => expP [59] r2 fun r3 => Except.ok (St.mk 2 [] zTy e x [] [], r3)) (sf_bnd sf_e0 fun x => sf_exp sf_ok)) (sf_exp sf_ok)
 intro r e
 rw [stmtK_eq, hno ifW (by decide), hno whileW (by decide), hno retW (by decide), hno throwW (by decide), hno tryW (by decide), hno syncW (by decide), hno [123] (by decide)] at e
 simp only [Bool.false_eq_true, if_false] at e
 by_cases h1 : isP superW l = true ∧ isP [40] l.tail = true
 ·rw [if_pos h1] at e
  exact ad_tail sA hne r e
 rw [if_neg h1] at e
 by_cases h2 : declP l = true
 ·rw [if_pos h2] at e
  refine ad_bnd (ad_typ ?_) (by have := (tot_typ l).good; rwa [limK_eq (lim_const _)] at this) sD r e
  rw [declP] at h2
  by_cases h3 : (isP intS l || isP longS l) = true
  ·rcases Bool.or_eq_true .. ▸ h3 with h | h
   ·exact .inl h
   ·exact .inr (.inl h)
  ·rw [if_neg h3, Bbt] at h2
   exact .inr (.inr h2.1)
 rw [if_neg h2] at e
 exact ad_bnd (ad_e0 h) ((ex_tot l).expr 0 (by decide)).good sX r e
theorem take_no {p : List Tk} (h : takeB (p ++ t :: a) = false) : takeB (p ++ t :: b) = false ∧ isP superW (p ++ t :: b) = false ∧ declP (p ++ t :: b) = false ∧ isP superW (p ++ t :: a) = false ∧ declP (p ++ t :: a) = false := by
 have h' : takeB (p ++ t :: b) = false := by rw [takeB, ← isP_ab (a := a) superW p, ← isP_ab (a := a) intS p, ← isP_ab (a := a) longS p, ← isCls_ab (a := a) p]; exact h
 have f : ∀ {l : List Tk}, takeB l = false → isP superW l = false ∧ declP l = false := fun {l} h => by
  simp only [takeB, Bool.or_eq_false_iff] at h
  refine ⟨h.1.1.1, ?_⟩
  rw [declP, h.1.1.2, h.1.2, h.2]
  rfl
 exact ⟨h', (f h').1, (f h').2, (f h).1, (f h).2⟩
theorem ls_of {p : List Tk} (ih : ∀ p' : List Tk, p'.length < p.length → LSt t a b p') : LSt t a b p := by
 have tl : ∀ {u : Tk} {p' : List Tk}, p = u :: p' → p'.length < p.length := fun e => by rw [e]; simp
 have lx : ∀ p', LX t a b p' := lx_tot
 have hblock : Lc t a b blockK p := lc_congr blockK_eq (lc_exp (sf_stmts _) fun u p' e => (ih p' (tl e)).stmts _)
 have sS : ∀ {F : List Tk → St}, Sf (fun r => expP [59] r fun r2 => Except.ok (F r2, r2)) := fun {F} => sf_exp sf_ok
 have hstmt : Lc t a b stmtK p := by
  by_cases htk : p = [] ∧ takeB (p ++ t :: a) = true
  ·exact lc_take (sx_tot _).stmt.good (ad_stmt htk.2) htk.1
  have hcT : ∀ w, (isP w (p ++ t :: a) = true) = (isP w (p ++ t :: b) = true) := fun w => by rw [isP_ab (b := b) w p]
  have hc2 : (isP superW (p ++ t :: a) = true ∧ isP [40] (p ++ t :: a).tail = true) = (isP superW (p ++ t :: b) = true ∧ isP [40] (p ++ t :: b).tail = true) ∧ (declP (p ++ t :: a) = true) = (declP (p ++ t :: b) = true) := by
   cases p with
   | nil =>
    have h : takeB ([] ++ t :: a) = false := by
     cases h : takeB ([] ++ t :: a) with
     | false => rfl
     | true => exact absurd ⟨rfl, h⟩ htk
    obtain ⟨_, h1, h2, h3, h4⟩ := take_no (b := b) h
    rw [h1, h2, h3, h4]
    simp
   | cons u p' =>
    constructor
    ·rw [isP_ab (b := b) superW, show (u :: p' ++ t :: a).tail = p' ++ t :: a from rfl, show (u :: p' ++ t :: b).tail = p' ++ t :: b from rfl, isP_ab (b := b) [40] p']
    ·rw [declP, declP, isP_ab (b := b) intS, isP_ab (b := b) longS, isCls_ab (b := b), show (u :: p' ++ t :: a).tail = p' ++ t :: a from rfl, show (u :: p' ++ t :: b).tail = p' ++ t :: b from rfl, isP_ab (b := b) [40] p', isP_ab (b := b) [46] p']
  have sB : ∀ (F : Ex → List St → St), Sf (fun l => bndP (parenK l) fun e r => bndP (blockK r) fun b r2 => Except.ok (F e b, r2)) := fun F => sf_bnd sf_paren fun e => sf_bnd sf_block fun b => sf_ok
  have pb : ∀ (F : Ex → List St → St), Lc t a b (fun l => bndP (parenK l.tail) fun e r => bndP (blockK r) fun b r2 => Except.ok (F e b, r2)) p := fun F =>
   lc_tail (H := fun l => bndP (parenK l) fun e r => bndP (blockK r) fun b r2 => Except.ok (F e b, r2)) (sB F) fun u p' e' => lc_bnd (lx p').paren (fun e q h => lc_bnd (ih q (by have := q_le sf_paren h; have := tl e'; omega)).block (fun b' q2 _ => lc_ok rfl) fun b => sf_ok) fun e => sf_bnd sf_block fun b => sf_ok
  have xs : ∀ (F : Ex → St) (p' : List Tk), Lc t a b (fun l => bndP (exprK 0 l) fun e r => expP [59] r fun r2 => Except.ok (F e, r2)) p' := fun F p' => lc_bnd ((lx p').expr 0 (by decide)) (fun e q _ => lc_exp sf_ok fun _ _ _ => lc_ok rfl) fun e => sf_exp sf_ok
  have sxs : ∀ (F : Ex → St), Sf (fun l => bndP (exprK 0 l) fun e r => expP [59] r fun r2 => Except.ok (F e, r2)) := fun F => sf_bnd sf_e0 fun e => sf_exp sf_ok
  refine lc_congr stmtK_eq (lc_if (c := fun l => isP ifW l = true) (hcT _) (fun _ => ?_) fun _ => lc_if (c := fun l => isP whileW l = true) (hcT _) (fun _ => pb fun e b' => .mk 5 [] zTy zE e b' []) fun _ => lc_if (c := fun l => isP retW l = true) (hcT _) (fun _ => ?_) fun _ =>
   lc_if (c := fun l => isP throwW l = true) (hcT _) (fun _ => lc_tail (sxs fun e => .mk 7 [] zTy zE e [] []) fun u p' _ => xs _ p') fun _ => lc_if (c := fun l => isP tryW l = true) (hcT _) (fun _ => ?_) fun _ => lc_if (c := fun l => isP syncW l = true) (hcT _) (fun _ => pb fun e b' => .mk 9 [] zTy zE e b' []) fun _ =>
   lc_if (c := fun l => isP [123] l = true) (hcT _) (fun _ => lc_bnd hblock (fun b' q _ => lc_ok rfl) fun b => sf_ok) fun _ => lc_if (c := fun l => isP superW l = true ∧ isP [40] l.tail = true) hc2.1 (fun _ => ?_) fun _ => lc_if (c := fun l => declP l = true) hc2.2 (fun _ => ?_) fun _ => ?_)
  ·have s1 : ∀ (e : Ex) (b' : List St), Sf (fun r2 => if isP elseW r2 = true then bndP (blockK r2.tail) fun a' r3 => Except.ok (St.mk 4 [] zTy zE e b' a', r3) else Except.ok (St.mk 4 [] zTy zE e b' [], r2)) := fun e b' => sf_if (c := fun l => isP elseW l = true) (sf_tail (g := fun l => bndP (blockK l) fun a' r3 => Except.ok (St.mk 4 [] zTy zE e b' a', r3)) (sf_bnd sf_block fun a' => sf_ok)) sf_ok
   refine lc_tail (H := fun l => bndP (parenK l) fun e r => bndP (blockK r) fun b' r2 => if isP elseW r2 = true then bndP (blockK r2.tail) fun a' r3 => Except.ok (St.mk 4 [] zTy zE e b' a', r3) else Except.ok (St.mk 4 [] zTy zE e b' [], r2)) (sf_bnd sf_paren fun e => sf_bnd sf_block (s1 e)) fun u p' e' => ?_
   have hl := tl e'
   refine lc_bnd (lx p').paren (fun e q h => ?_) fun e => sf_bnd sf_block (s1 e)
   have hq := q_le sf_paren h
   refine lc_bnd (ih q (by omega)).block (fun b' q2 h2 => ?_) (s1 e)
   have hq2 := q_le sf_block h2
   refine lc_if (c := fun l => isP elseW l = true) (by simp only [isP_ab (b := b) elseW q2]) (fun _ => ?_) fun _ => lc_ok rfl
   exact lc_tail (H := fun l => bndP (blockK l) fun a' r3 => Except.ok (St.mk 4 [] zTy zE e b' a', r3)) (sf_bnd sf_block fun a' => sf_ok) fun u3 p3 e3 => lc_bnd (ih p3 (by rw [e3] at hq2; simp only [Llc] at hq2; omega)).block (fun a' q4 _ => lc_ok rfl) fun a' => sf_ok
  ·exact lc_tail (H := fun l => if isP [59] l = true then Except.ok (St.mk 6 [] zTy zE zE [] [], l.tail) else bndP (exprK 0 l) fun e r => expP [59] r fun r2 => Except.ok (St.mk 6 [] zTy zE e [] [], r2)) (sf_if (c := fun l => isP [59] l = true) sf_okT (sxs fun e => .mk 6 [] zTy zE e [] [])) fun u p' _ =>
    lc_if (c := fun l => isP [59] l = true) (by simp only [isP_ab (b := b) [59] p']) (fun _ => lc_okT rfl) fun _ => xs (fun e => .mk 6 [] zTy zE e [] []) p'
  ·have s4 : ∀ (b' : List St) (y : Ty) (s : List UInt8), Sf (fun r6 => bndP (blockK r6) fun a' r7 => Except.ok (St.mk 8 s y zE zE b' a', r7)) := fun b' y s => sf_bnd sf_block fun a' => sf_ok
   have s3 : ∀ (b' : List St) (y : Ty), Sf (fun r4 => bndP (idP r4) fun s r5 => expP [41] r5 fun r6 => bndP (blockK r6) fun a' r7 => Except.ok (St.mk 8 s y zE zE b' a', r7)) := fun b' y => sf_bnd sf_id fun s => sf_exp (s4 b' y s)
   have s2 : ∀ (b' : List St), Sf (fun r3 => bndP (typP r3) fun y r4 => bndP (idP r4) fun s r5 => expP [41] r5 fun r6 => bndP (blockK r6) fun a' r7 => Except.ok (St.mk 8 s y zE zE b' a', r7)) := fun b' => sf_bnd sf_typ (s3 b')
   have s1 : ∀ (b' : List St), Sf (fun r => expP catchW r fun r2 => expP [40] r2 fun r3 => bndP (typP r3) fun y r4 => bndP (idP r4) fun s r5 => expP [41] r5 fun r6 => bndP (blockK r6) fun a' r7 => Except.ok (St.mk 8 s y zE zE b' a', r7)) := fun b' => sf_exp (sf_exp (s2 b'))
   refine lc_tail (H := fun l => bndP (blockK l) fun b' r => expP catchW r fun r2 => expP [40] r2 fun r3 => bndP (typP r3) fun y r4 => bndP (idP r4) fun s r5 => expP [41] r5 fun r6 => bndP (blockK r6) fun a' r7 => Except.ok (St.mk 8 s y zE zE b' a', r7)) (sf_bnd sf_block s1) fun u p' e' => ?_
   have hl := tl e'
   refine lc_bnd (ih p' hl).block (fun b' q h => ?_) s1
   have hq := q_le sf_block h
   refine lc_exp (sf_exp (s2 b')) fun u2 p2 e2 => lc_exp (s2 b') fun u3 p3 e3 => lc_bnd (lc_typ p3) (fun y q4 h4 => ?_) (s3 b')
   have hq4 := q_le sf_typ h4
   refine lc_bnd (lc_id q4) (fun s q5 h5 => ?_) fun s => sf_exp (s4 b' y s)
   have hq5 := q_le sf_id h5
   refine lc_exp (s4 b' y s) fun u6 p6 e6 => ?_
   have : p6.length < p.length := by
    have z1 := congrArg List.length e2
    have z2 := congrArg List.length e3
    have z3 := congrArg List.length e6
    simp only [Llc] at z1 z2 z3
    omega
   exact lc_bnd (ih p6 this).block (fun a' q7 _ => lc_ok rfl) fun a' => sf_ok
  ·exact lc_tail (H := fun l => bndP (argsK l) fun es r => expP [59] r fun r2 => Except.ok (St.mk 11 [] zTy zE (.mk 0 0 [] [] zTy es) [] [], r2)) (sf_bnd sf_args fun es => sf_exp sf_ok) fun u p' _ => lc_bnd (lx p').args (fun es q _ => lc_exp sf_ok fun _ _ _ => lc_ok rfl) fun es => sf_exp sf_ok
  ·have s2 : ∀ (y : Ty) (s : List UInt8), Sf (fun r3 => bndP (exprK 0 r3) fun e r4 => expP [59] r4 fun r5 => Except.ok (St.mk 1 s y zE e [] [], r5)) := fun y s => sf_bnd sf_e0 fun e => sf_exp sf_ok
   have s1 : ∀ (y : Ty), Sf (fun r => bndP (idP r) fun s r2 => expP [61] r2 fun r3 => bndP (exprK 0 r3) fun e r4 => expP [59] r4 fun r5 => Except.ok (St.mk 1 s y zE e [] [], r5)) := fun y => sf_bnd sf_id fun s => sf_exp (s2 y s)
   refine lc_bnd (lc_typ p) (fun y q _ => lc_bnd (lc_id q) (fun s q2 _ => lc_exp (s2 y s) fun u3 p3 _ => lc_bnd ((lx p3).expr 0 (by decide)) (fun e q4 _ => lc_exp sf_ok fun _ _ _ => lc_ok rfl) fun e => sf_exp sf_ok) fun s => sf_exp (s2 y s)) s1
  ·have s1 : ∀ e : Ex, Sf (fun r => if isP [61] r = true then bndP (exprK 0 r.tail) fun x r2 => expP [59] r2 fun r3 => Except.ok (St.mk 2 [] zTy e x [] [], r3) else expP [59] r fun r2 => Except.ok (St.mk 3 [] zTy zE e [] [], r2)) := fun e =>
    sf_if (c := fun l => isP [61] l = true) (sf_tail (sxs fun x => .mk 2 [] zTy e x [] [])) (sf_exp sf_ok)
   refine lc_bnd ((lx p).expr 0 (by decide)) (fun e q _ => ?_) s1
   exact lc_if (c := fun l => isP [61] l = true) (by simp only [isP_ab (b := b) [61] q]) (fun _ => lc_tail (sxs fun x => .mk 2 [] zTy e x [] []) fun u p' _ => xs _ p') fun _ => lc_exp sf_ok fun _ _ _ => lc_ok rfl
 have hstmts : ∀ acc, Lc t a b (stmtsK acc) p := fun acc => by
  refine lc_congr (stmtsK_eq acc) (lc_if (c := fun l => isP [125] l = true) (by simp only [isP_ab (b := b) [125] p]) (fun _ => lc_okT rfl) fun _ => ?_)
  exact lc_bnd hstmt (fun s q h => (ih q (q_lt (sx_tot _).stmt.good h)).stmts _) fun s => sf_stmts _
 exact ⟨hblock, hstmt, hstmts⟩
theorem ls_all : ∀ (N : Nat) (p : List Tk), p.length ≤ N → LSt t a b p
 | 0, p, h => ls_of fun p' hp => by omega
 | N + 1, p, h => ls_of fun p' hp => ls_all N p' (by omega)
theorem ls_tot (p : List Tk) : LSt t a b p := ls_all _ p (Nnr _)
end
theorem sf_pmore (acc : List Pc) : Sf (pmoreK acc) := fun l => sf_weak (pmore_tot _ acc l (Nnr _)).good
theorem good_params (l : List Tk) : Good true l (paramsK l) := by
 have h := (params_tot l).good
 rwa [limK_eq (lparams l)] at h
theorem sf_params : Sf paramsK := fun l => sf_weak (good_params l)
theorem good_rest (d : Cd) (fl : Int) (y : Ty) (s : List UInt8) (l : List Tk) : Good true l (restK d fl y s l) := by
 have h := (rest_tot d fl y s l).good
 rwa [limK_eq (lrest d fl y s l)] at h
theorem good_member (d : Cd) (fl : Int) (l : List Tk) : Good true l (memberK d fl l) := by
 have h := (member_tot d fl l).good
 rwa [limK_eq (lmember d fl l)] at h
theorem sf_mems (d : Cd) : Sf (memsK d) := fun l => sf_weak (mems_tot _ d l (Nnr _)).good
theorem sf_clses (acc : List (List UInt8)) : Sf (clsesK acc) := fun l => (clses_tot _ acc l (Nnr _)).good
theorem sf_ifs (w : List UInt8) : Sf (ifsK w) := fun l => by
 have h := (ifs_tot w l).good
 rwa [limK_eq (lifs w l)] at h
theorem good_cl (l : List Tk) : Good true l (clK l) := by
 have h := (cl_tot l).good
 rwa [limK_eq (lcl l)] at h
theorem sf_prog (acc : List Cd) : Sf (progK acc) := fun l => (prog_tot _ acc l (Nnr _)).good
def modG (q : List (Int × List UInt8)) (fl : Int) (l : List Tk) : PR Int := .ok (modsP q fl l)
theorem sf_modG (q : List (Int × List UInt8)) (fl : Int) : Sf (modG q fl) := fun l => ⟨fun x r h => by
 have e : r = (modsP q fl l).2 := (congrArg Prod.snd (Except.ok.inj h)).symm
 rw [e]
 exact ⟨modsP_suf q fl l, fun h => by cases h⟩, fun r h => by cases h⟩
section
variable {t : Tk} {a b : List Tk}
theorem lc_modG : ∀ (q : List (Int × List UInt8)) (fl : Int) (p : List Tk), Lc t a b (modG q fl) p
 | [], fl, p => lc_ok (F := fun _ => fl) rfl
 | x :: q, fl, p => by
  have e : ∀ l, modG (x :: q) fl l = (if isP x.2 l = true then modG q (fl + x.1) l.tail else modG q fl l) := fun l => by
   simp only [modG, modsP]
   split <;> rfl
  refine lc_congr e (lc_if (c := fun l => isP x.2 l = true) (by simp only [isP_ab (b := b) x.2 p]) (fun _ => ?_) fun _ => lc_modG q fl p)
  exact lc_tail (sf_modG q _) fun u p' _ => lc_modG q _ p'
theorem lc_pmore : ∀ (N : Nat) (acc : List Pc) (p : List Tk), p.length ≤ N → Lc t a b (pmoreK acc) p := fun N => by
 have step : ∀ (acc : List Pc) (p : List Tk), (∀ z (p' : List Tk), p'.length < p.length → Lc t a b (pmoreK z) p') → Lc t a b (pmoreK acc) p := fun acc p ih => by
  have s1 : ∀ y : Ty, Sf (fun r => bndP (idP r) fun s r2 => pmoreK (acc ++ [⟨y, s⟩]) r2) := fun y => sf_bnd sf_id fun s => sf_pmore _
  refine lc_congr (pmoreK_eq acc) (lc_if (c := fun l => isP [44] l = true) (by simp only [isP_ab (b := b) [44] p]) (fun _ => ?_) fun _ => lc_exp sf_ok fun _ _ _ => lc_ok rfl)
  refine lc_tail (t := t) (a := a) (b := b) (H := fun l => bndP (typP l) fun y r => bndP (idP r) fun s r2 => pmoreK (acc ++ [⟨y, s⟩]) r2) (sf_bnd sf_typ s1) fun u p' e => ?_
  refine lc_bnd (lc_typ p') (fun y q h => ?_) s1
  have hq := q_le sf_typ h
  refine lc_bnd (lc_id q) (fun s q2 h2 => ih _ q2 ?_) fun s => sf_pmore _
  have hq2 := q_le sf_id h2
  have := congrArg List.length e
  simp only [Llc] at this
  omega
 induction N with
 | zero => intro acc p h; exact step acc p fun z p' h' => by omega
 | succ N ih => intro acc p h; exact step acc p fun z p' h' => ih z p' (by omega)
theorem lc_params (p : List Tk) : Lc t a b paramsK p := by
 have s1 : ∀ y : Ty, Sf (fun r2 => bndP (idP r2) fun s r3 => pmoreK [⟨y, s⟩] r3) := fun y => sf_bnd sf_id fun s => sf_pmore _
 refine lc_exp (k := fun r => if isP [41] r = true then .ok ([], r.tail) else bndP (typP r) fun y r2 => bndP (idP r2) fun s r3 => pmoreK [⟨y, s⟩] r3) (sf_if (c := fun l => isP [41] l = true) sf_okT (sf_bnd sf_typ s1)) fun u p' _ => ?_
 refine lc_if (c := fun l => isP [41] l = true) (by simp only [isP_ab (b := b) [41] p']) (fun _ => lc_okT rfl) fun _ => ?_
 exact lc_bnd (lc_typ p') (fun y q _ => lc_bnd (lc_id q) (fun s q2 _ => lc_pmore _ _ q2 (Nnr _)) fun s => sf_pmore _) s1
theorem lc_rest (d : Cd) (fl : Int) (y : Ty) (s : List UInt8) (p : List Tk) : Lc t a b (restK d fl y s) p := by
 have s1 : ∀ ps : List Pc, Sf (fun r => if isP [59] r = true then .ok (d.addM ⟨fl, y, s, ps, false, []⟩, r.tail) else bndP (blockK r) fun b' r2 => .ok (d.addM ⟨fl, y, s, ps, true, b'⟩, r2)) := fun ps => sf_if (c := fun l => isP [59] l = true) sf_okT (sf_bnd sf_block fun b' => sf_ok)
 refine lc_bnd (lc_params p) (fun ps q _ => ?_) s1
 exact lc_if (c := fun l => isP [59] l = true) (by simp only [isP_ab (b := b) [59] q]) (fun _ => lc_okT rfl) fun _ => lc_bnd (ls_tot q).block (fun b' q2 _ => lc_ok rfl) fun b' => sf_ok
theorem lc_member (d : Cd) (fl : Int) (p : List Tk) : Lc t a b (memberK d fl) p := by
 have s1 : ∀ ps : List Pc, Sf (fun r => bndP (blockK r) fun b' r2 => Except.ok (d.addM ⟨fl, vTy, initS, ps, true, b'⟩, r2)) := fun ps => sf_bnd sf_block fun b' => sf_ok
 have sr : ∀ (y : Ty) (s : List UInt8), Sf (restK d fl y s) := fun y s l => sf_weak (good_rest d fl y s l)
 have s2 : ∀ (y : Ty) (s : List UInt8), Sf (fun r2 => if isP [59] r2 = true then .ok (d.addF ⟨fl, y, s⟩, r2.tail) else restK d fl y s r2) := fun y s => sf_if (c := fun l => isP [59] l = true) sf_okT (sr y s)
 have s3 : ∀ (y : Ty), Sf (fun r => bndP (idP r) fun s r2 => if isP [59] r2 = true then .ok (d.addF ⟨fl, y, s⟩, r2.tail) else restK d fl y s r2) := fun y => sf_bnd sf_id (s2 y)
 refine lc_if (c := fun l => fl = 8 ∧ isP [123] l = true) (by rw [isP_ab (b := b) [123] p]) (fun _ => lc_bnd (ls_tot p).block (fun b' q _ => lc_ok rfl) fun b' => sf_ok) fun _ =>
  lc_if (c := fun l => isP newW l = true) (by rw [isP_ab (b := b) newW p]) (fun _ => ?_) fun _ => lc_if (c := fun l => isP voidS l = true) (by rw [isP_ab (b := b) voidS p]) (fun _ => ?_) fun _ => ?_
 ·exact lc_tail (H := fun l => bndP (paramsK l) fun ps r => bndP (blockK r) fun b' r2 => Except.ok (d.addM ⟨fl, vTy, initS, ps, true, b'⟩, r2)) (sf_bnd sf_params s1) fun u p' _ => lc_bnd (lc_params p') (fun ps q _ => lc_bnd (ls_tot q).block (fun b' q2 _ => lc_ok rfl) fun b' => sf_ok) s1
 ·exact lc_tail (H := fun l => bndP (idP l) fun s r => restK d fl vTy s r) (sf_bnd sf_id fun s => sr vTy s) fun u p' _ => lc_bnd (lc_id p') (fun s q _ => lc_rest _ _ _ _ q) fun s => sr vTy s
 ·refine lc_bnd (lc_typ p) (fun y q _ => lc_bnd (lc_id q) (fun s q2 _ => ?_) (s2 y)) s3
  exact lc_if (c := fun l => isP [59] l = true) (by simp only [isP_ab (b := b) [59] q2]) (fun _ => lc_okT rfl) fun _ => lc_rest _ _ _ _ q2
theorem lc_mems : ∀ (N : Nat) (d : Cd) (p : List Tk), p.length ≤ N → Lc t a b (memsK d) p := fun N => by
 have step : ∀ (d : Cd) (p : List Tk), (∀ z (p' : List Tk), p'.length < p.length → Lc t a b (memsK z) p') → Lc t a b (memsK d) p := fun d p ih => by
  have e : ∀ l, memsK d l = (if isP [125] l = true then .ok (d, l.tail) else bndP (modG modsL 0 l) fun fl r => bndP (memberK d fl r) fun e r2 => memsK e r2) := fun l => by rw [memsK_eq]; rfl
  have s1 : ∀ fl : Int, Sf (fun r => bndP (memberK d fl r) fun e r2 => memsK e r2) := fun fl => sf_bnd (fun l => sf_weak (good_member d fl l)) fun e => sf_mems e
  refine lc_congr e (lc_if (c := fun l => isP [125] l = true) (by simp only [isP_ab (b := b) [125] p]) (fun _ => lc_okT rfl) fun _ => ?_)
  refine lc_bnd (lc_modG modsL 0 p) (fun fl q h => ?_) s1
  have hq := q_le (sf_modG modsL 0) h
  exact lc_bnd (lc_member d fl q) (fun e q2 h2 => ih e q2 (by have := q_lt (good_member d fl _) h2; omega)) fun e => sf_mems e
 induction N with
 | zero => intro d p h; exact step d p fun z p' h' => by omega
 | succ N ih => intro d p h; exact step d p fun z p' h' => ih z p' (by omega)
theorem lc_clses : ∀ (N : Nat) (acc : List (List UInt8)) (p : List Tk), p.length ≤ N → Lc t a b (clsesK acc) p := fun N => by
 have step : ∀ (acc : List (List UInt8)) (p : List Tk), (∀ z (p' : List Tk), p'.length < p.length → Lc t a b (clsesK z) p') → Lc t a b (clsesK acc) p := fun acc p ih => by
  refine lc_congr (clsesK_eq acc) (lc_if (c := fun l => isP [44] l = true) (by simp only [isP_ab (b := b) [44] p]) (fun _ => ?_) fun _ => lc_ok rfl)
  refine lc_tail (H := fun l => bndP (clsP l) fun s r => clsesK (acc ++ [s]) r) (sf_bnd sf_cls fun s => sf_clses _) fun u p' e => lc_bnd (lc_cls p') (fun s q h => ih _ q ?_) fun s => sf_clses _
  have hq := q_le sf_cls h
  have := congrArg List.length e
  simp only [Llc] at this
  omega
 induction N with
 | zero => intro acc p h; exact step acc p fun z p' h' => by omega
 | succ N ih => intro acc p h; exact step acc p fun z p' h' => ih z p' (by omega)
theorem lc_ifs (w : List UInt8) (p : List Tk) : Lc t a b (ifsK w) p := by
 refine lc_if (c := fun l => isP w l = true) (by simp only [isP_ab (b := b) w p]) (fun _ => ?_) fun _ => lc_ok rfl
 exact lc_tail (H := fun l => bndP (clsP l) fun s r => clsesK [s] r) (sf_bnd sf_cls fun s => sf_clses _) fun u p' _ => lc_bnd (lc_cls p') (fun s q _ => lc_clses _ _ q (Nnr _)) fun s => sf_clses _
theorem lc_head (p : List Tk) : Lc t a b headK p := by
 have e : ∀ l, headK l = bndP (modG p1L 0 l) fun fl r0 => if isP ifcW r0 = true then bndP (clsP r0.tail) fun n r => bndP (ifsK extW r) fun is r2 => expP [123] r2 fun r3 => .ok (⟨fl + 1536, n, objS, is, [], [], []⟩, r3)
   else bndP (modG p2L fl r0) fun fl2 r1 => expP clW r1 fun r => bndP (clsP r) fun n r2 => expP extW r2 fun r3 => bndP (clsP r3) fun sp r4 => bndP (ifsK impW r4) fun is r5 => expP [123] r5 fun r6 => .ok (⟨fl2, n, sp, is, [], [], []⟩, r6) := fun l => rfl
 have i1 : ∀ (fl : Int) (n : List UInt8), Sf (fun r => bndP (ifsK extW r) fun is r2 => expP [123] r2 fun r3 => Except.ok ((⟨fl + 1536, n, objS, is, [], [], []⟩ : Cd), r3)) := fun fl n => sf_bnd (sf_ifs _) fun is => sf_exp sf_ok
 have c4 : ∀ (fl : Int) (n sp : List UInt8), Sf (fun r4 => bndP (ifsK impW r4) fun is r5 => expP [123] r5 fun r6 => Except.ok ((⟨fl, n, sp, is, [], [], []⟩ : Cd), r6)) := fun fl n sp => sf_bnd (sf_ifs _) fun is => sf_exp sf_ok
 have c3 : ∀ (fl : Int) (n : List UInt8), Sf (fun r3 => bndP (clsP r3) fun sp r4 => bndP (ifsK impW r4) fun is r5 => expP [123] r5 fun r6 => Except.ok ((⟨fl, n, sp, is, [], [], []⟩ : Cd), r6)) := fun fl n => sf_bnd sf_cls (c4 fl n)
 have c2 : ∀ (fl : Int) (n : List UInt8), Sf (fun r2 => expP extW r2 fun r3 => bndP (clsP r3) fun sp r4 => bndP (ifsK impW r4) fun is r5 => expP [123] r5 fun r6 => Except.ok ((⟨fl, n, sp, is, [], [], []⟩ : Cd), r6)) := fun fl n => sf_exp (c3 fl n)
 have c1 : ∀ (fl : Int), Sf (fun r => bndP (clsP r) fun n r2 => expP extW r2 fun r3 => bndP (clsP r3) fun sp r4 => bndP (ifsK impW r4) fun is r5 => expP [123] r5 fun r6 => Except.ok ((⟨fl, n, sp, is, [], [], []⟩ : Cd), r6)) := fun fl => sf_bnd sf_cls (c2 fl)
 have c0 : ∀ (fl : Int), Sf (fun r1 => expP clW r1 fun r => bndP (clsP r) fun n r2 => expP extW r2 fun r3 => bndP (clsP r3) fun sp r4 => bndP (ifsK impW r4) fun is r5 => expP [123] r5 fun r6 => Except.ok ((⟨fl, n, sp, is, [], [], []⟩ : Cd), r6)) := fun fl => sf_exp (c1 fl)
 refine lc_congr e (lc_bnd (lc_modG p1L 0 p) (fun fl q _ => ?_) fun fl => ?_)
 ·refine lc_if (c := fun l => isP ifcW l = true) (by simp only [isP_ab (b := b) ifcW q]) (fun _ => ?_) fun _ => ?_
  ·exact lc_tail (H := fun l => bndP (clsP l) fun n r => bndP (ifsK extW r) fun is r2 => expP [123] r2 fun r3 => Except.ok ((⟨fl + 1536, n, objS, is, [], [], []⟩ : Cd), r3)) (sf_bnd sf_cls (i1 fl)) fun u p' _ =>
    lc_bnd (lc_cls p') (fun n q2 _ => lc_bnd (lc_ifs _ q2) (fun is q3 _ => lc_exp sf_ok fun _ _ _ => lc_ok rfl) fun is => sf_exp sf_ok) (i1 fl)
  ·refine lc_bnd (lc_modG p2L fl q) (fun fl2 q1 _ => ?_) c0
   exact lc_exp (c1 fl2) fun u p' _ => lc_bnd (lc_cls p') (fun n q2 _ => lc_exp (c3 fl2 n) fun u3 p3 _ => lc_bnd (lc_cls p3) (fun sp q4 _ => lc_bnd (lc_ifs _ q4) (fun is q5 _ => lc_exp sf_ok fun _ _ _ => lc_ok rfl) fun is => sf_exp sf_ok) (c4 fl2 n)) (c2 fl2)
 ·exact sf_if (c := fun l => isP ifcW l = true) (sf_tail (g := fun l => bndP (clsP l) fun n r => bndP (ifsK extW r) fun is r2 => expP [123] r2 fun r3 => Except.ok ((⟨fl + 1536, n, objS, is, [], [], []⟩ : Cd), r3)) (sf_bnd sf_cls (i1 fl))) (sf_bnd (sf_modG _ _) c0)
theorem lc_cl (p : List Tk) : Lc t a b clK p := lc_bnd (lc_head p) (fun d q _ => lc_mems _ d q (Nnr _)) fun d => sf_mems d
theorem lc_prog : ∀ (N : Nat) (acc : List Cd) (p : List Tk), p.length ≤ N → Lc t a b (progK acc) p := fun N => by
 have step : ∀ (acc : List Cd) (p : List Tk), (∀ z (p' : List Tk), p'.length < p.length → Lc t a b (progK z) p') → Lc t a b (progK acc) p := fun acc p ih => by
  have hn : ∀ c : List Tk, (p ++ t :: c = []) = False := fun c => by simp
  refine lc_congr (progK_eq acc) (lc_if (c := fun l => l = []) (by rw [hn, hn]) (fun h => absurd h (by simp)) fun _ => ?_)
  exact lc_bnd (lc_cl p) (fun d q h => ih _ q (q_lt (good_cl _) h)) fun d => sf_prog _
 induction N with
 | zero => intro acc p h; exact step acc p fun z p' h' => by omega
 | succ N ih => intro acc p h; exact step acc p fun z p' h' => ih z p' (by omega)
theorem prog_err {p : List Tk} (h : progK [] (p ++ t :: a) = .error (t :: a)) : progK [] (p ++ t :: b) = .error (t :: b) := (lc_prog _ [] p (Nnr _) []).2 h
end
theorem part_cut : ∀ (b : Bool) (l : List UInt8) (j : Nat), partL b l ≤ j → partL b (l.take j) = partL b l
 | b, [], j, _ => by rw [List.take_nil]
 | b, c :: r, 0, h => by
  simp only [List.take_zero, partL] at h ⊢
  omega
 | b, c :: r, j + 1, h => by
  simp only [List.take_succ_cons, partL] at h ⊢
  split
  ·rename_i hc
   rw [if_pos hc] at h
   rw [part_cut false r j (by omega)]
  ·rfl
theorem dig_cut : ∀ (l : List UInt8) (j : Nat), digL l ≤ j → digL (l.take j) = digL l
 | [], j, _ => by rw [List.take_nil]
 | c :: r, 0, h => by
  simp only [List.take_zero, digL] at h ⊢
  omega
 | c :: r, j + 1, h => by
  simp only [List.take_succ_cons, digL] at h ⊢
  split
  ·rename_i hc
   rw [if_pos hc] at h
   rw [dig_cut r j (by omega)]
  ·rfl
theorem hasPre_less {l o : List UInt8} {j : Nat} (h : hasPre (l.take j) o = true) : hasPre l o = true := by
 obtain ⟨r, hr⟩ := hasPre_iff.1 h
 exact hasPre_iff.2 ⟨r ++ l.drop j, by rw [← List.append_assoc, ← hr, List.take_append_drop]⟩
theorem hasPre_cut {l o : List UInt8} {j : Nat} (h : hasPre l o = true) (hj : o.length ≤ j) : hasPre (l.take j) o = true := by
 obtain ⟨r, rfl⟩ := hasPre_iff.1 h
 exact hasPre_iff.2 ⟨r.take (j - o.length), by rw [List.take_append, List.take_of_length_le hj]⟩
theorem find_less {α : Type} {p q : α → Bool} : ∀ {l : List α} {o : α}, l.find? p = some o → (∀ x, q x = true → p x = true) → q o = true → l.find? q = some o
 | [], _, h, _, _ => by cases h
 | x :: l, o, h, hq, ho => by
  simp only [List.find?] at h ⊢
  cases hp : p x with
  | true => rw [hp] at h; cases h; rw [ho]
  | false =>
   rw [hp] at h
   have hx : q x = false := by
    cases hx : q x with
    | false => rfl
    | true => rw [hq x hx] at hp; cases hp
   rw [hx]
   exact find_less h hq ho
theorem sign_cut {l o : List UInt8} {j : Nat} (h : signAt l = some o) (hj : o.length ≤ j) : signAt (l.take j) = some o :=
 find_less h (fun _ hx => hasPre_less hx) (hasPre_cut (List.find?_some h) hj)
theorem idRF_cut : ∀ (f : Nat) (l : List UInt8) (j : Nat), idRF f l ≤ j → idRF f (l.take j) = idRF f l
 | 0, _, _, _ => rfl
 | f + 1, l, j, h => by
  simp only [idRF] at h ⊢
  have e : (l.take j).drop 2 = (l.drop 2).take (j - 2) := List.drop_take ..
  by_cases h1 : hasPre l [58, 58] = true ∧ partL true (l.drop 2) ≠ 0
  ·rw [if_pos h1] at h ⊢
   have e2 : partL true ((l.take j).drop 2) = partL true (l.drop 2) := by rw [e, part_cut _ _ _ (by omega)]
   rw [e2, if_pos ⟨hasPre_cut h1.1 (by simp only [Llc, Lln]; omega), h1.2⟩, List.drop_take, idRF_cut f _ _ (by omega)]
  ·rw [if_neg h1]
   refine if_neg fun h2 => ?_
   have h3 := hasPre_less h2.1
   have h4 : partL true (l.drop 2) = 0 := Classical.byContradiction fun h4 => h1 ⟨h3, h4⟩
   rw [e, part_cut _ _ _ (by omega)] at h2
   exact h2.2 h4
theorem idN_cut {l : List UInt8} {j : Nat} (h : idN l ≤ j) : idN (l.take j) = idN l := by
 unfold idN at h ⊢
 have e := part_cut true l j (by omega)
 rw [e, List.drop_take, idRF_fuel ((l.take j).length + 1) (l.length + 1) _ (by rw [List.length_take, List.length_drop, List.length_take]; omega) (by rw [List.length_take, List.length_drop]; omega), idRF_cut _ _ _ (by omega)]
theorem idS_cut {l : List UInt8} {j : Nat} (h : idN l ≤ j) : idS (l.take j) = idS l := by
 unfold idS
 rw [idN_cut h, List.take_take, Nat.min_eq_left h]
theorem num_cut {l : List UInt8} {j : Nat} (hj : 1 ≤ j) (h : (numL l).2.2.1 ≤ j) : numL (l.take j) = numL l := by
 simp only [numL] at h ⊢
 have hd : digL l ≤ j := by split at h <;> omega
 have e1 : (l.take j).head? = l.head? := by
  cases l with
  | nil => rw [List.take_nil]
  | cons a l =>
   obtain ⟨j, rfl⟩ : ∃ k, j = k + 1 := ⟨j - 1, by omega⟩
   rfl
 have e2 : (((l.drop (digL l)).take (j - digL l)).head?.map UInt8.toNat = some 76) = ((l.drop (digL l)).head?.map UInt8.toNat = some 76) := by
  by_cases hc : j = digL l
  ·rw [hc, Nat.sub_self, List.take_zero]
   refine eq_iff_iff.2 ⟨fun h => (by cases h), fun h76 => ?_⟩
   rw [if_pos (decide_eq_true h76)] at h
   omega
  ·obtain ⟨k, hk⟩ : ∃ k, j - digL l = k + 1 := ⟨j - digL l - 1, by omega⟩
   rw [hk]
   cases l.drop (digL l) with
   | nil => rfl
   | cons => rfl
 have e3 : (l.take j).take (digL l) = l.take (digL l) := by rw [List.take_take, Nat.min_eq_left hd]
 rw [dig_cut l j hd, List.drop_take, e3, e1]
 simp only [e2]
theorem esc_cut {r : List UInt8} {j : Nat} (h : (escL r).2.2 = true) (hj : (escL r).1 ≤ j) : escL (r.take j) = escL r := by
 match r, h with
 | [], h => cases h
 | c :: r, h =>
  simp only [escL] at h hj ⊢
  by_cases h1 : c.toNat = 34 ∨ c.toNat = 92
  ·rw [if_pos h1] at hj ⊢
   obtain ⟨j, rfl⟩ : ∃ k, j = k + 1 := ⟨j - 1, by dsimp only at hj; omega⟩
   rw [List.take_succ_cons]
   simp only [escL]
   rw [if_pos h1]
  ·rw [if_neg h1] at h hj ⊢
   by_cases h2 : c.toNat = 110
   ·rw [if_pos h2] at hj ⊢
    obtain ⟨j, rfl⟩ : ∃ k, j = k + 1 := ⟨j - 1, by dsimp only at hj; omega⟩
    rw [List.take_succ_cons]
    simp only [escL]
    rw [if_neg h1, if_pos h2]
   ·rw [if_neg h2] at h hj ⊢
    by_cases h3 : c.toNat = 120
    ·rw [if_pos h3] at h hj ⊢
     match r, h with
     | [], h => cases h
     | [_], h => cases h
     | x :: y :: z, _ =>
      obtain ⟨j, rfl⟩ : ∃ k, j = k + 3 := ⟨j - 3, by dsimp only at hj; omega⟩
      rw [show j + 3 = ((j + 1) + 1) + 1 by omega, List.take_succ_cons, List.take_succ_cons, List.take_succ_cons]
      simp only [escL]
      rw [if_neg h1, if_neg h2, if_pos h3]
    ·rw [if_neg h3] at h; cases h
theorem qScanF_cut : ∀ (f : Nat) (l : List UInt8) (y : List UInt8 × Nat) (j : Nat), qScanF f l = some y → y.2 ≤ j → qScanF f (l.take j) = some y
 | 0, _, _, _, h, _ => by cases h
 | f + 1, [], _, _, h, _ => by cases h
 | f + 1, c :: r, y, j, h, hj => by
  simp only [qScanF] at h
  have hy : 1 ≤ y.2 := by
   split at h
   ·cases h; exact Nnr _
   ·split at h
    ·cases h
    ·split at h
     ·split at h
      ·obtain ⟨y', _, rfl⟩ := Option.map_eq_some_iff.1 h
       dsimp only; omega
      ·cases h
     ·obtain ⟨y', _, rfl⟩ := Option.map_eq_some_iff.1 h
      dsimp only; omega
  obtain ⟨j, rfl⟩ : ∃ k, j = k + 1 := ⟨j - 1, by omega⟩
  rw [List.take_succ_cons]
  simp only [qScanF]
  by_cases h1 : c.toNat = 34
  ·rw [if_pos h1] at h ⊢; exact h
  ·rw [if_neg h1] at h ⊢
   by_cases h2 : c.toNat < 32 ∨ 126 < c.toNat
   ·rw [if_pos h2] at h; cases h
   ·rw [if_neg h2] at h ⊢
    by_cases h3 : c.toNat = 92
    ·rw [if_pos h3] at h ⊢
     by_cases h4 : (escL r).2.2 = true
     ·rw [if_pos h4] at h
      obtain ⟨y', h', rfl⟩ := Option.map_eq_some_iff.1 h
      dsimp only at hj
      rw [esc_cut h4 (by omega), if_pos h4, List.drop_take, qScanF_cut f _ y' _ h' (by omega)]
      rfl
     ·rw [if_neg h4] at h; cases h
    ·rw [if_neg h3] at h ⊢
     obtain ⟨y', h', rfl⟩ := Option.map_eq_some_iff.1 h
     dsimp only at hj
     rw [qScanF_cut f _ y' _ h' (by omega)]
     rfl
theorem qScan_cut {l : List UInt8} {y : List UInt8 × Nat} {j : Nat} (h : qScan l = some y) (hj : y.2 ≤ j) : qScan (l.take j) = some y := by
 unfold qScan at h ⊢
 rw [qScanF_fuel _ (l.length + 1) _ (by omega) (by rw [List.length_take]; omega)]
 exact qScanF_cut _ _ _ _ h hj
theorem tok_cut {l : List UInt8} {k : Int} {s : List UInt8} {n : Int} {len j : Nat} (h : tokL l = some (k, s, n, len)) (hj : len ≤ j) : tokL (l.take j) = some (k, s, n, len) := by
 have hl := tokL_len h
 cases l with
 | nil => cases h
 | cons c r =>
  obtain ⟨i, rfl⟩ : ∃ i, j = i + 1 := ⟨j - 1, by omega⟩
  have e0 : (c :: r).take (i + 1) = c :: r.take i := List.take_succ_cons ..
  rw [e0]
  simp only [tokL] at h ⊢
  rw [← e0]
  by_cases h1 : isStartB c.toNat = true
  ·rw [if_pos h1] at h ⊢
   have hn : idN (c :: r) ≤ i + 1 := by
    split at h
    ·cases h; exact hj
    ·cases h
   rw [idS_cut hn, idN_cut hn]
   exact h
  ·rw [if_neg h1] at h ⊢
   by_cases h2 : isDigitB c.toNat = true
   ·rw [if_pos h2] at h ⊢
    have hn : (numL (c :: r)).2.2.1 ≤ i + 1 := by
     split at h
     ·cases h; exact hj
     ·cases h
    rw [num_cut (by omega) hn]
    exact h
   ·rw [if_neg h2] at h ⊢
    by_cases h3 : c.toNat = 34
    ·rw [if_pos h3] at h ⊢
     cases hq : qScan r with
     | none => rw [hq] at h; cases h
     | some y =>
      rw [hq] at h
      obtain ⟨b, m⟩ := y
      dsimp only at h
      have hm : m ≤ i := by
       split at h
       ·cases h; omega
       ·cases h
      rw [qScan_cut hq hm]
      exact h
    ·rw [if_neg h3] at h ⊢
     obtain ⟨o, ho, e⟩ := Option.map_eq_some_iff.1 h
     have e' := e
     simp only [Prod.mk.injEq] at e'
     rw [sign_cut ho (by omega), ← e]
     rfl
theorem skip_cut (z : List UInt8) : ∀ (b : Bool) (l : List UInt8) (j : Nat), l.drop (skipW b l) ≠ [] → skipW b l < j → skipW b (l.take j ++ 10 :: z) = skipW b l
 | b, [], _, h, _ => absurd (by simp) h
 | b, c :: l, 0, _, h => absurd h (Nat.not_lt_zero _)
 | b, c :: l, j + 1, h, hj => by
  have one : ∀ k : Nat, (c :: l).drop (1 + k) = l.drop k := fun k => by rw [Nat.add_comm, List.drop_succ_cons]
  rw [List.take_succ_cons, List.cons_append]
  cases b with
  | true =>
   simp only [skipW] at h hj ⊢
   by_cases h1 : c.toNat = 10
   ·rw [if_pos h1] at h hj ⊢
    rw [if_pos h1, skip_cut z false l j (by rwa [one] at h) (by omega)]
   ·rw [if_neg h1] at h hj ⊢
    rw [if_neg h1, skip_cut z true l j (by rwa [one] at h) (by omega)]
  | false =>
   simp only [skipW] at h hj ⊢
   by_cases h1 : c.toNat = 9 ∨ c.toNat = 10 ∨ c.toNat = 13 ∨ c.toNat = 32
   ·rw [if_pos h1] at h hj ⊢
    rw [if_pos h1, skip_cut z false l j (by rwa [one] at h) (by omega)]
   ·rw [if_neg h1] at h hj
    rw [if_neg h1, if_neg h1]
    by_cases h2 : c.toNat = 47 ∧ l.head?.map UInt8.toNat = some 47
    ·rw [if_pos h2] at h hj ⊢
     have h3 : (l.take j ++ 10 :: z).head? = l.head? := by
      cases l with
      | nil => exact absurd h2.2 (by simp)
      | cons d l =>
       obtain ⟨i, rfl⟩ : ∃ i, j = i + 1 := ⟨j - 1, by omega⟩
       rfl
     rw [if_pos (by rw [h3]; exact h2), skip_cut z true l j (by rwa [one] at h) (by omega)]
    ·rw [if_neg h2]
     refine if_neg fun h3 => h2 ⟨h3.1, ?_⟩
     have h4 := h3.2
     cases l with
     | nil => rw [List.take_nil] at h4; simp at h4
     | cons d l =>
      cases j with
      | zero => simp at h4
      | succ j => exact h4
theorem grow_app {a : List Tk} : ∀ {p : List Tk} {b : Int}, grow b (p ++ a) → grow b a
 | [], _, h => h
 | x :: p, b, h => grow_le (by have := h.1; omega) (grow_app (p := p) h.2)
theorem lexG_cut {s z : List UInt8} {E : Nat} {t : Tk} {a : List Tk} (hEs : E ≤ s.length) (hE : ∀ b : Nat, b ≤ s.length → grow b a → b ≤ E) : ∀ (p : List Tk) (f g cnt pos : Nat), (lexG f cnt pos (s.drop pos)).1 = p ++ t :: a → pos ≤ E →
  ((s.take E ++ 10 :: z).drop pos).length < g → (lexG g cnt pos ((s.take E ++ 10 :: z).drop pos)).2.2 = 0 → ∃ b, (lexG g cnt pos ((s.take E ++ 10 :: z).drop pos)).1 = p ++ t :: b
 | p, 0, _, _, _, h, _, _, _ => by simp [lexG] at h
 | p, f + 1, 0, _, _, _, _, h, _ => absurd h (Nat.not_lt_zero _)
 | p, f + 1, g + 1, cnt, pos, h, hp, hg, h0 => by
  simp only [lexG] at h
  by_cases hd : (s.drop pos).drop (skipW false (s.drop pos)) = []
  ·rw [if_pos hd] at h; simp at h
  ·rw [if_neg hd] at h
   by_cases hc : 5000 ≤ cnt
   ·rw [if_pos hc] at h; simp at h
   ·rw [if_neg hc] at h
    cases ht : tokL ((s.drop pos).drop (skipW false (s.drop pos))) with
    | none => rw [ht] at h; simp at h
    | some y =>
     obtain ⟨k, u, n, len⟩ := y
     rw [ht] at h
     simp only at h
     have hl := tokL_len ht
     rw [List.length_drop, List.length_drop] at hl
     unfold consR at h
     split at h
     ·have hgr := lexG_grow f (cnt + 1) (pos + skipW false (s.drop pos) + len) ((s.drop pos).drop (skipW false (s.drop pos) + len))
      have hq : pos + skipW false (s.drop pos) + len ≤ E := by
       refine hE _ (by omega) ?_
       cases p with
       | nil => rw [List.nil_append, List.cons.injEq] at h; rw [h.2] at hgr; exact hgr
       | cons v p =>
        rw [List.cons_append, List.cons.injEq] at h
        rw [h.2, show p ++ t :: a = (p ++ [t]) ++ a by simp] at hgr
        exact grow_app hgr
      have e1 : (s.take E ++ 10 :: z).drop pos = (s.drop pos).take (E - pos) ++ 10 :: z := by
       rw [List.drop_append_of_le_length (by rw [List.length_take]; omega), List.drop_take]
      have e2 : skipW false ((s.take E ++ 10 :: z).drop pos) = skipW false (s.drop pos) := by rw [e1]; exact skip_cut z false _ _ hd (by omega)
      have e3 : ((s.take E ++ 10 :: z).drop pos).drop (skipW false (s.drop pos)) = ((s.drop pos).drop (skipW false (s.drop pos))).take (E - pos - skipW false (s.drop pos)) ++ 10 :: z := by
       rw [e1, List.drop_append_of_le_length (by rw [List.length_take, List.length_drop]; omega), List.drop_take]
      have e4 := tok_cut ht (show len ≤ E - pos - skipW false (s.drop pos) by omega)
      have e5 : ((s.drop pos).drop (skipW false (s.drop pos))).take (E - pos - skipW false (s.drop pos)) ≠ [] := fun e => by rw [e] at e4; cases e4
      have e6 : tokL (((s.take E ++ 10 :: z).drop pos).drop (skipW false (s.drop pos))) = some (k, u, n, len) := by
       rw [e3, tok_stop e5 (.inr ⟨10, z, rfl, .inl rfl⟩) (.inr ⟨z, rfl⟩), e4]
      simp only [lexG] at h0 ⊢
      rw [e2, if_neg (by rw [e3]; simp), if_neg hc, e6] at h0 ⊢
      simp only [List.drop_drop, ← Nat.add_assoc] at h0 h ⊢
      have h1 : (lexG g (cnt + 1) (pos + skipW false (s.drop pos) + len) ((s.take E ++ 10 :: z).drop (pos + skipW false (s.drop pos) + len))).2.2 = 0 := by
       unfold consR at h0
       split at h0
       ·assumption
       ·exact h0
      unfold consR
      rw [if_pos h1]
      simp only
      cases p with
      | nil =>
       rw [List.nil_append, List.cons.injEq] at h
       exact ⟨_, by rw [List.nil_append, h.1]⟩
      | cons v p =>
       rw [List.cons_append, List.cons.injEq] at h
       obtain ⟨b, hb⟩ := lexG_cut hEs hE p f g (cnt + 1) _ h.2 hq (by rw [List.length_drop] at hg ⊢; rw [Lla, List.length_take, Llc] at hg ⊢; omega) h1
       exact ⟨b, by rw [hb, h.1, List.cons_append]⟩
     ·simp at h
theorem check_no71 : ∀ (l : List Cd) (seen : List (List UInt8)), (checkL seen l).2 ≠ 71
 | [], _ => by simp [checkL]
 | d :: r, seen => by
  rw [checkL]
  split
  ·split
   ·simp
   ·split
    ·simp
    ·exact check_no71 r _
  ·simp
theorem lexG_no71 : ∀ (f cnt pos : Nat) (l : List UInt8), (lexG f cnt pos l).2.2 ≠ 71
 | 0, _, _, _ => by simp [lexG]
 | f + 1, cnt, pos, l => by
  simp only [lexG]
  split
  ·simp
  ·split
   ·simp
   ·split
    ·simp
    ·unfold consR
     split
     ·simp
     ·exact lexG_no71 f _ _ _
theorem tok_no71 (s : List UInt8) : (tokenizeL s).2.2 ≠ 71 := by
 by_cases hs : s.length ≤ 20000
 ·rw [tokenize_eq hs]; exact lexG_no71 _ _ _ _
 ·have e : tokenizeL s = ([], 0, 8) := if_pos (by omega)
  rw [e]; simp
theorem first_err {s : List UInt8} (hs : s.length ≤ 4000) (h1 : (progRes s).2.2 = 71) (h2 : (progRes s).2.1 < s.length) :
  (tokenizeL s).2.2 = 0 ∧ ∃ (p : List Tk) (t : Tk) (a : List Tk), (tokenizeL s).1 = p ++ t :: a ∧ (progRes s).2.1 = t.at_ ∧
   ∀ (E : Nat) (z : List UInt8), E ≤ s.length → (a = [] → E = s.length) → (∀ x r, a = x :: r → (E : Int) = x.at_) → z.length ≤ 500 → (tokenizeL (s.take E ++ 10 :: z)).2.2 = 0 →
    progRes (s.take E ++ 10 :: z) = ([], t.at_, 71) := by
 have hb := tok_bad s
 unfold progRes at h1 h2 ⊢
 by_cases h0 : (tokenizeL s).2.2 = 0
 ·refine ⟨h0, ?_⟩
  simp only [if_pos h0] at h1 h2 ⊢
  cases hK : progK [] (tokenizeL s).1 with
  | ok x =>
   rw [hK] at h1
   simp only at h1
   split at h1
   ·cases h1
   ·exact absurd h1 (check_no71 _ _)
  | error r =>
   rw [hK] at h2
   simp only at h2 ⊢
   obtain ⟨p, hp⟩ := (sf_prog [] (tokenizeL s).1).er r hK
   cases r with
   | nil => exact absurd h2 (by simp [offR])
   | cons t a =>
    refine ⟨p, t, a, hp.symm, rfl, fun E z hE ha hx hz h3 => ?_⟩
    have hlen : (s.take E ++ 10 :: z).length = E + 1 + z.length := by rw [Lla, List.length_take, Llc]; omega
    rw [tokenize_eq (s := s) (by omega)] at hp
    rw [tokenize_eq (by omega)] at h3 ⊢
    have hE' : ∀ b : Nat, b ≤ s.length → grow b a → b ≤ E := fun b h4 h5 => by
     cases a with
     | nil => rw [ha rfl]; exact h4
     | cons x r => have := hx x r rfl; have := h5.1; omega
    obtain ⟨b, hb⟩ := lexG_cut (z := z) hE hE' p (s.length + 1) ((s.take E ++ 10 :: z).length + 1) 0 0 hp.symm (Nat.zero_le _) (by simp) h3
    rw [if_pos h3]
    rw [tokenize_eq (by omega), ← hp] at hK
    rw [List.drop_zero] at hb
    rw [hb, prog_err hK]
    rfl
 ·simp only [if_neg h0] at h1
  exact absurd h1 (tok_no71 s)
def blkC (b : List St) : Cd := ⟨0, [65], objS, [], [], [], b⟩
noncomputable def blkRes (t : List UInt8) : List St × Int × Int :=
 if (tokenizeL t).2.2 = 0 then (match sblK [] (tokenizeL t).1 with
  | .error r => ([], offR t.length r, 71)
  | .ok x => if (checkL [] [blkC x.1]).2 = 0 then (x.1, 0, 0) else ([], 0, (checkL [] [blkC x.1]).2))
 else ([], (tokenizeL t).2.1, (tokenizeL t).2.2)
def bRep (m : Mem) (l : List St) (a : Option Addr) (n c : Nat) : Prop := n = l.length ∧ n ≤ c ∧ n ≤ big ∧ ∃ xs, Rds m a n 23 xs ∧ stsRep m l xs
theorem bRep_nil (m : Mem) : bRep m [] none 0 0 := ⟨rfl, Nnr _, Nat.zero_le _, [], rds_none m 23, stsRep_nil _ _⟩
abbrev BOut (x : List St × Int × Int) (m : Mem) : SV → Hp → Mem → Prop := fun r H' m' => leM m m' ∧ ∃ (a : Option Addr) (n c : Nat), r = .tup [.v (.slice a n c), .v (.int .i64 x.2.1), .v (.int .i64 x.2.2)] ∧ bRep m' x.1 a n c ∧ H' = ⟨[], []⟩
theorem blk_spec (t : List UInt8) (m : Mem) (hg : GlobX m) (ht : t.length ≤ 4611686018427387904) : FnH Tryz.prog 15 [.v (.string (bs t))] ⟨[], []⟩ m (BOut (blkRes t) m) := by
 have hk := fun m' (h : leM m m') => tokenize_spec t m' (by rcases h with rfl | h; exact hg; exact hg.up h) ht
 have hT := tok_tsb t
 by_cases h0 : (tokenizeL t).2.2 = 0
 ·have h1 := open_ok ht (hk m (.inl rfl)) h0
  have e0 : blkRes t = (match sblK [] (tokenizeL t).1 with
   | .error r => ([], offR t.length r, 71)
   | .ok x => if (checkL [] [blkC x.1]).2 = 0 then (x.1, 0, 0) else ([], 0, (checkL [] [blkC x.1]).2)) := if_pos h0
  refine FnH_own (enter cfN puN Tryz.func15 rfl rfl (by kernel_rfl) rfl ?_ ?_)
  ·simp only [go_sem, ↓tfi, ↓fti, ↓reduceIte]
  ·simp only [go_sem, ↓tfi, ↓fti, ↓reduceIte]
   refine cvl (h1.mono ?_)
   clear h1
   rintro r H' m1 hm1 ⟨l1, rfl, rfl⟩
   simp only [go_sem, ↓tfi, ↓fti, ↓reduceIte]
   refine ⟨fun h => absurd trivial h, ?_⟩
   refine WP_adopt 8 73 23 (by decide) rfl ?_
   refine WP_loop puN (fun y : PSt × List St × List Value × Nat × Mem => ⟨[⟨5, [], .box 1 0⟩, ⟨8, [], .vec 2 y.2.2.2.1⟩], [], [p1B t.length y.1], [⟨2, y.2.2.2.1, 73, 23, y.2.1.length, y.2.2.1⟩, tkV0 (tokenizeL t).1], 40, y.2.2.2.2⟩)
    (fun y => leM m1 y.2.2.2.2 ∧ Inv (tokenizeL t).1 y.1 ∧ y.2.1.length ≤ y.1.i + (if y.1.fl = true then 1 else 0) ∧ y.2.2.1.length = y.2.1.length * 23 ∧ stsRep y.2.2.2.2 y.2.1 y.2.2.1 ∧ ∀ a s', Res (tokenizeL t).1 t.length y.1 (sblK y.2.1 ((tokenizeL t).1.drop y.1.i)) a s' → Res (tokenizeL t).1 t.length ⟨0, false, 0⟩ (sblK [] (tokenizeL t).1) a s')
    (fun y => if y.1.fl = true then 0 else (tokenizeL t).1.length - y.1.i + 1) (⟨0, false, 0⟩, [], [], 0, m1) (by kernel_rfl) (fun _ _ => nbl rfl) (fun y hy => hy.1) (fun _ => ?_) ?_ ?_ ?_
   ·simp only [go_sem, ↓tfi, ↓fti, ↓reduceIte]
   ·simp only [go_sem, ↓tfi, ↓fti, ↓reduceIte]
    exact rfl
   ·exact ⟨.inl rfl, ⟨Nat.zero_le _, fun h => (by cases h)⟩, Nat.zero_le _, rfl, stsRep_nil _ _, fun a s' h => h⟩
   ·rintro ⟨s4, ds, xs, u, m4⟩ ⟨q1, q2, q3, q4, q5, q6⟩
    dsimp only at q1 q2 q3 q4 q5 q6
    have hl := hT.len
    have hil := q2.le
    have hm := more_spec (en := t.length) (s := s4) hT m4
    by_cases hi : s4.i < (tokenizeL t).1.length
    ·have hf := q2.nfl hi
     rw [decide_eq_true hi] at hm
     have hb := fun m' => stw (en := t.length) hT q2 m'
     rw [if_neg (by rw [hf]; decide)] at q3
     simp only [go_sem, ↓tfi, ↓fti, ↓reduceIte]
     refine cvl (hm.mono ?_)
     clear hm
     rintro r H' m5 hm5 ⟨rfl, rfl, rfl⟩
     simp only [go_sem, ↓tfi, ↓fti, ↓reduceIte]
     refine cvl ((hb m5).mono ?_)
     clear hb
     rintro r H' m6 hm6 ⟨l6, x6, d6, s6, rfl, hd6, rfl, hR6⟩
     have hle6 := hR6.mono
     have hadv := res_adv hR6 hf (stmt_lt _)
     have hI6 := hR6.inv.le
     simp only [go_sem, ↓tfi, ↓fti, ↓reduceIte]
     refine ⟨room_of (by omega) (by decide), (s6, ds ++ [d6], xs ++ x6.cs, u + 1, m6), ⟨rfl, ⟨rfl, rfl, rfl⟩, ⟨rfl, by simp, rfl⟩, .inl rfl⟩, ⟨leM_tr q1 l6, hR6.inv, ?_, by simp only [Lla, List.length_singleton, q4, Sd.cs, Llc, Lln]; omega, sts_snoc hd6 q4 (sts_upM l6 q5), fun a s' h => q6 a s' ?_⟩, ?_⟩
     ·dsimp only
      rw [Lla, List.length_singleton]
      rcases hadv with h | h
      ·rw [if_pos h]; omega
      ·omega
     ·rw [sblK_eq, if_neg (fun h => by have := congrArg List.length h; rw [List.length_drop] at this; simp at this; omega)]
      exact res_bnd hR6 h
     ·dsimp only
      rw [if_neg (by rw [hf]; decide : ¬ s4.fl = true)]
      rcases hadv with h | h
      ·rw [if_pos h]; omega
      ·split <;> omega
    ·rw [decide_eq_false hi] at hm
     have hnil : (tokenizeL t).1.drop s4.i = [] := List.drop_eq_nil_of_le (by omega)
     have hRes : Res (tokenizeL t).1 t.length ⟨0, false, 0⟩ (sblK [] (tokenizeL t).1) ds s4 := by
      refine q6 _ _ ?_
      by_cases hf : s4.fl = true
      ·exact res_fl ds q2 hf
      ·rw [sblK_eq, if_pos hnil, ← hnil]
       exact res_pure _ q2
     simp only [go_sem, ↓tfi, ↓fti, ↓reduceIte]
     refine cvl (hm.mono ?_)
     clear hm
     rintro r H' m5 hm5 ⟨rfl, rfl, rfl⟩
     simp only [go_sem, ↓tfi, ↓fti, ↓reduceIte]
     refine ⟨fun hf => ?_, fun hf => ?_⟩
     ·refine WP_draw (.hoist 0 (.hoist 1 (.hoist 2 (.hoist 3 (.hoist 4 (.hoist 5 (.hoist 6 .done))))))) puN (by kernel_rfl) (by kernel_rfl) ?_
      simp only [go_sem, ↓tfi, ↓fti, ↓reduceIte]
      have e : blkRes t = ([], s4.off, 71) := by
       cases hK : sblK [] (tokenizeL t).1 with
       | ok p =>
        obtain ⟨x, r⟩ := p
        have := (hRes.ok rfl x r hK).2.1
        rw [hf] at this
        cases this
       | error r =>
        rw [e0, hK, (hRes.er rfl r hK).2]
      rw [e]
      exact .inl ⟨leM_tr l1 q1, none, 0, 0, rfl, (bRep_nil _), rfl⟩
     ·intro a c m6 w1 w2 w3
      refine ⟨by kernel_rfl, fun a9 c9 m7 v1 v2 v3 => FnV_of ?_⟩
      have hK : sblK [] (tokenizeL t).1 = .ok (ds, []) := by
       cases hK : sblK [] (tokenizeL t).1 with
       | error r =>
        have := (hRes.er rfl r hK).1
        rw [hf] at this
        cases this
       | ok p =>
        obtain ⟨x, r⟩ := p
        obtain ⟨k1, k2, k3⟩ := hRes.ok rfl x r hK
        rw [k1, k3, hnil]
      have hsz : ([blkC ds].map sizeC).sum ≤ 1048576 := by
       have := sblK_sz (tokenizeL t).1 ds [] hK
       have := tok_few t
       simp only [List.map_cons, List.map_nil, List.sum_cons, List.sum_nil, sizeC, blkC, Lln] at *
       omega
      rw [hK] at e0
      have hbig : ds.length ≤ big := by unfold big; have := tok_few t; have hb : (if s4.fl = true then 1 else 0) ≤ 1 := (by split <;> decide); omega
      have hck : CdOk (blkC ds) := ⟨(⟨by decide, by decide⟩ : I64 0), (by decide : ([65] : List UInt8).length ≤ big), (by decide : objS.length ≤ big), Nat.zero_le _, fun s hs => (by cases hs), Nat.zero_le _, fun s hs => (by cases hs), Nat.zero_le _, hbig⟩
      have hcd : cdRep m7 (blkC ds) (Cc.cs ⟨0, [65], objS, none, 0, 0, none, 0, 0, none, 0, 0, a, ds.length, c⟩) :=
       ⟨_, ⟨rfl, rfl, rfl, rfl⟩, ⟨rfl, Nnr _, rfl, Nnr _, rfl, Nnr _, rfl, w2⟩, hck, rds_none _ _, rds_none _ _, [], xs, rds_none _ _, trivial, Rds_upM (.inr v1) w3, sts_upM (leM_tr (.inr w1) (.inr v1)) q5⟩
      have hrep : prRep m7 [blkC ds] a9 1 c9 := ⟨rfl, v2, by decide, _, v3, ⟨hcd, trivial⟩⟩
      have hc := check_spec [blkC ds] a9 1 c9 m7 (hg.upM (leM_tr l1 (leM_tr q1 (leM_tr (.inr w1) (.inr v1))))).1 (prog_cdB hsz) hrep
      refine hc.mono ?_
      clear hc
      rintro r H' m8 hm8 ⟨l8, rfl, rfl⟩
      simp only [go_sem, ↓tfi, ↓fti, ↓reduceIte]
      refine ⟨fun hk1 => ?_, fun hk1 => ?_⟩
      ·have e : blkRes t = ([], 0, (checkL [] [blkC ds]).2) := by rw [e0]; exact if_neg hk1
       rw [e]
       exact .inl ⟨leM_tr l1 (leM_tr q1 (leM_tr (.inr w1) (leM_tr (.inr v1) l8))), none, 0, 0, rfl, bRep_nil _, rfl⟩
      ·have e : blkRes t = (ds, 0, 0) := by rw [e0]; exact if_pos hk1
       rw [e]
       exact own_tup (b := ⟨2, u, 73, 23, ds.length, xs⟩) (by simp [lkV]) fun a8 c8 mz x1 x2 x3 => ⟨leM_tr l1 (leM_tr q1 (leM_tr (.inr w1) (leM_tr (.inr v1) (leM_tr l8 (.inr x1))))), a8, ds.length, c8, rfl, ⟨rfl, x2, hbig, xs, x3, sts_upM (leM_tr (.inr w1) (leM_tr (.inr v1) (leM_tr l8 (.inr x1)))) q5⟩, rfl⟩
 ·have h1 := open_er ht (hk m (.inl rfl)) h0
  have e0 : blkRes t = ([], (tokenizeL t).2.1, (tokenizeL t).2.2) := if_neg h0
  rw [e0]
  refine enter cfN puN Tryz.func15 rfl rfl (by kernel_rfl) rfl ?_ ?_
  ·simp only [go_sem, ↓tfi, ↓fti, ↓reduceIte]
  ·simp only [go_sem, ↓tfi, ↓fti, ↓reduceIte]
   refine cvl (h1.mono ?_)
   clear h1
   rintro r H' m1 hm1 ⟨l1, rfl, rfl⟩
   simp only [go_sem, ↓tfi, ↓fti, ↓reduceIte]
   refine ⟨fun _ => ⟨l1, none, 0, 0, rfl, (bRep_nil _), rfl⟩, fun h => absurd h h0⟩
noncomputable def expRes (t : List UInt8) : Ex × Int × Int :=
 if (tokenizeL t).2.2 = 0 then (match oneK (tokenizeL t).1 with
  | .error r => (zE, offR t.length r, 71)
  | .ok x => if validE x.1 = true then (if 24 < depthE x.1 then (zE, 0, 9) else (x.1, 0, 0)) else (zE, 0, 4))
 else (zE, (tokenizeL t).2.1, (tokenizeL t).2.2)
abbrev EOut (x : Ex × Int × Int) (m : Mem) : SV → Hp → Mem → Prop := fun r H' m' => leM m m' ∧ ∃ (y : Nd), r = .tup [.agg y.svs, .v (.int .i64 x.2.1), .v (.int .i64 x.2.2)] ∧ exRep m' x.1 y.cs ∧ H' = ⟨[], []⟩
theorem exp1_spec (t : List UInt8) (m : Mem) (hg : GlobX m) (ht : t.length ≤ 4611686018427387904) : FnH Tryz.prog 13 [.v (.string (bs t))] ⟨[], []⟩ m (EOut (expRes t) m) := by
 have hk := fun m' (h : leM m m') => tokenize_spec t m' (hg.upM h) ht
 have hT := tok_tsb t
 have hl := tok_few t
 have hz : ∀ m', exRep m' zE (Nd.cs ⟨0, 0, [], [], zTy, none, 0, 0⟩) := fun m' => mk_rep0 ⟨by decide, by decide⟩ ⟨by decide, by decide⟩ (Nat.zero_le _) (Nat.zero_le _) tyOk_z
 by_cases h0 : (tokenizeL t).2.2 = 0
 ·have h1 := open_ok ht (hk m (.inl rfl)) h0
  have e0 : expRes t = (match oneK (tokenizeL t).1 with
   | .error r => (zE, offR t.length r, 71)
   | .ok x => if validE x.1 = true then (if 24 < depthE x.1 then (zE, 0, 9) else (x.1, 0, 0)) else (zE, 0, 4)) := if_pos h0
  have hI0 : Inv (tokenizeL t).1 ⟨0, false, 0⟩ := ⟨Nat.zero_le _, fun h => (by cases h)⟩
  have hE : ∀ m' : Mem, FnH Tryz.prog 31 [.box 0 0, .v (.int .i64 0)] (pH (tokenizeL t).1 t.length ⟨0, false, 0⟩) m' (ERes (tokenizeL t).1 t.length ⟨0, false, 0⟩ (exprK 0 (tokenizeL t).1) m') := (exw hT hI0).expr 0 (by decide)
  refine enter cfN puN Tryz.func13 rfl rfl (by kernel_rfl) rfl ?_ ?_
  ·simp only [go_sem, ↓tfi, ↓fti, ↓reduceIte]
  ·simp only [go_sem, ↓tfi, ↓fti, ↓reduceIte]
   refine cvl (h1.mono ?_)
   clear h1
   rintro r H' m1 hm1 ⟨l1, rfl, rfl⟩
   simp only [go_sem, ↓tfi, ↓fti, ↓reduceIte]
   refine ⟨fun h => absurd trivial h, by kernel_rfl, FnV_of ((hE m1).mono ?_)⟩
   clear hE
   rintro r H' m2 hm2 ⟨l2, x, e, s2, rfl, hx, rfl, hR⟩
   have hmo := more_spec (en := t.length) (s := s2) hT m2
   have hfa := fun m' => fail_spec (tokenizeL t).1 t.length s2 m' hT.l8
   simp only [go_sem, ↓tfi, ↓fti, ↓reduceIte]
   by_cases hi : s2.i < (tokenizeL t).1.length
   ·rw [decide_eq_true hi] at hmo
    have hRes : Res (tokenizeL t).1 t.length ⟨0, false, 0⟩ (oneK (tokenizeL t).1) e (failS (tokenizeL t).1 t.length s2) := by
     refine res_bnd hR ?_
     rw [if_neg (fun h => by have := congrArg List.length h; rw [List.length_drop] at this; simp at this; omega)]
     exact res_fail _ hR.inv
    refine cvl (hmo.mono ?_)
    clear hmo
    rintro r H' m3 hm3 ⟨rfl, rfl, rfl⟩
    simp only [go_sem, ↓tfi, ↓fti, ↓reduceIte]
    refine cvl ((hfa m3).mono ?_)
    clear hfa
    rintro r H' m4 hm4 ⟨rfl, rfl, rfl⟩
    simp only [go_sem, ↓tfi, ↓fti, ↓reduceIte]
    refine ⟨fun hf => ?_, fun hf => ?_⟩
    ·refine WP_draw (.hoist 0 (.hoist 1 (.hoist 2 (.hoist 3 (.hoist 4 (.alt 5 [4, 3, 2, 1] (.hoist 6 (.hoist 7 .done)) .stop)))))) puN (by kernel_rfl) (by kernel_rfl) ?_
     simp only [go_sem, ↓tfi, ↓fti, ↓reduceIte]
     have e1 : expRes t = (zE, (failS (tokenizeL t).1 t.length s2).off, 71) := by
      cases hK : oneK (tokenizeL t).1 with
      | ok p =>
       obtain ⟨y, r⟩ := p
       have := (hRes.ok rfl y r hK).2.1
       rw [hf] at this
       cases this
      | error r => rw [e0, hK, (hRes.er rfl r hK).2]
     rw [e1]
     exact ⟨(leM_tr l1 l2), ⟨0, 0, [], [], zTy, none, 0, 0⟩, rfl, hz _, rfl⟩
    ·rw [failS_fl] at hf
     cases hf
   ·rw [decide_eq_false hi] at hmo
    have hnil : (tokenizeL t).1.drop s2.i = [] := List.drop_eq_nil_of_le (by omega)
    have hRes : Res (tokenizeL t).1 t.length ⟨0, false, 0⟩ (oneK (tokenizeL t).1) e s2 := by
     refine res_bnd hR ?_
     by_cases hf : s2.fl = true
     ·exact res_fl e hR.inv hf
     ·rw [if_pos hnil, ← hnil]
      exact res_pure _ hR.inv
    refine cvl (hmo.mono ?_)
    clear hmo hfa
    rintro r H' m3 hm3 ⟨e3, rfl, rfl⟩
    have l3 : leM m2 m3 := .inl e3.symm
    simp only [go_sem, ↓tfi, ↓fti, ↓reduceIte]
    refine ⟨fun hf => ?_, fun hf => ?_⟩
    ·refine WP_draw (.hoist 0 (.hoist 1 (.hoist 2 (.hoist 3 (.hoist 4 (.alt 5 [4, 3, 2, 1] (.hoist 6 (.hoist 7 .done)) .stop)))))) puN (by kernel_rfl) (by kernel_rfl) ?_
     simp only [go_sem, ↓tfi, ↓fti, ↓reduceIte]
     have e1 : expRes t = (zE, (s2).off, 71) := by
      cases hK : oneK (tokenizeL t).1 with
      | ok p =>
       obtain ⟨y, r⟩ := p
       have := (hRes.ok rfl y r hK).2.1
       rw [hf] at this
       cases this
      | error r => rw [e0, hK, (hRes.er rfl r hK).2]
     rw [e1]
     exact ⟨(leM_tr l1 (leM_tr l2 l3)), ⟨0, 0, [], [], zTy, none, 0, 0⟩, rfl, hz _, rfl⟩
    ·have hK : oneK (tokenizeL t).1 = .ok (e, []) := by
      cases hK : oneK (tokenizeL t).1 with
      | error r =>
       have := (hRes.er rfl r hK).1
       rw [hf] at this
       cases this
      | ok p =>
       obtain ⟨y, r⟩ := p
       obtain ⟨k1, k2, k3⟩ := hRes.ok rfl y r hK
       rw [k1, k3, hnil]
     have hdep : depthE e ≤ big := by
      have h1 := exprK_sz (tokenizeL t).1
      cases hE : exprK 0 (tokenizeL t).1 with
      | error r => rw [oneK, hE] at hK; cases hK
      | ok p =>
       obtain ⟨y, r⟩ := p
       obtain ⟨k1, _, _⟩ := hR.ok rfl y r hE
       have := h1 y r hE
       have := depth_size e
       rw [← k1] at *
       unfold big
       omega
     rw [hK] at e0
     have hv := FnH_den (args' := [.agg x.svs]) (valid_all _ e x.cs m3 (Nnr _) (hg.upM (leM_tr l1 (leM_tr l2 l3))).1 (exRep_upM l3 hx)) (fun V => rfl)
     refine cvl (hv.mono ?_)
     clear hv
     rintro r H' m4 hm4 ⟨l4, rfl, rfl⟩
     simp only [go_sem, ↓tfi, ↓fti, ↓reduceIte]
     refine ⟨fun hv => ?_, fun hv => ?_⟩
     ·have e1 : expRes t = (zE, 0, 4) := by rw [e0]; exact if_neg (by rw [hv]; decide)
      rw [e1]
      exact ⟨leM_tr (leM_tr l1 (leM_tr l2 l3)) l4, ⟨0, 0, [], [], zTy, none, 0, 0⟩, rfl, hz _, rfl⟩
     ·have hd := FnH_den (args' := [.agg x.svs]) (depth_all _ e x.cs m4 (Nnr _) hdep (exRep_upM (leM_tr l3 l4) hx)) (fun V => rfl)
      refine cvl (hd.mono ?_)
      clear hd
      rintro r H' m5 hm5 ⟨l5, rfl, rfl⟩
      simp only [go_sem, ↓tfi, ↓fti, ↓reduceIte]
      have e1 : expRes t = if 24 < depthE e then (zE, 0, 9) else (e, 0, 0) := by rw [e0]; exact if_pos hv
      refine ⟨fun hd => ?_, fun hd => ?_⟩
      ·rw [e1, if_pos (by omega)]
       exact ⟨leM_tr (leM_tr l1 (leM_tr l2 l3)) (leM_tr l4 l5), ⟨0, 0, [], [], zTy, none, 0, 0⟩, rfl, hz _, rfl⟩
      ·rw [e1, if_neg (by omega)]
       exact ⟨leM_tr (leM_tr l1 (leM_tr l2 l3)) (leM_tr l4 l5), x, rfl, exRep_upM (leM_tr l3 (leM_tr l4 l5)) hx, rfl⟩
 ·have h1 := open_er ht (hk m (.inl rfl)) h0
  have e0 : expRes t = (zE, (tokenizeL t).2.1, (tokenizeL t).2.2) := if_neg h0
  rw [e0]
  refine enter cfN puN Tryz.func13 rfl rfl (by kernel_rfl) rfl ?_ ?_
  ·simp only [go_sem, ↓tfi, ↓fti, ↓reduceIte]
  ·simp only [go_sem, ↓tfi, ↓fti, ↓reduceIte]
   refine cvl (h1.mono ?_)
   clear h1
   rintro r H' m1 hm1 ⟨l1, rfl, rfl⟩
   simp only [go_sem, ↓tfi, ↓fti, ↓reduceIte]
   refine ⟨fun _ => ⟨l1, ⟨0, 0, [], [], zTy, none, 0, 0⟩, rfl, hz _, rfl⟩, fun h => absurd h h0⟩
theorem limK_of {α : Type} {g : Nat → PR α} {K : PR α} (F : Nat) (h : ∀ f, g (f + F) = K) : limK g = K := limK_eq ⟨F, fun f hf => by
 have := h (f - F)
 rwa [Nat.sub_add_cancel hf] at this⟩
def w1 : List UInt8 := [97, 32, 43, 32, 98, 32, 42, 32, 45, 32, 99]
def w2 : List UInt8 := [120, 32, 105, 115, 32, 65, 32, 61, 61, 32, 49]
def w3 : List UInt8 := [97, 32, 43]
def w4 : List UInt8 := [97, 32, 43, 32, 41, 32, 98]
def w5 : List UInt8 := [99, 108, 97, 115, 115, 32, 65, 32, 101, 120, 116, 101, 110, 100, 115, 32, 66]
def w6 : List UInt8 := [49, 32, 61, 32, 50, 32, 59]
def loc (s : List UInt8) : Ex := .mk 6 0 s [] zTy []
def v1 : Ex := .mk 16 0 [43] [] zTy [loc [97], .mk 16 0 [42] [] zTy [loc [98], .mk 15 0 [45] [] zTy [loc [99]]]]
def v2 : Ex := .mk 16 0 [61, 61] [] zTy [.mk 18 0 [] [] ⟨0, 76, [65]⟩ [loc [120]], .mk 1 1 [] [] zTy []]
def t1 : List Tk := [⟨1, [97], 0, 0⟩, ⟨6, [43], 0, 2⟩, ⟨1, [98], 0, 4⟩, ⟨6, [42], 0, 6⟩, ⟨6, [45], 0, 8⟩, ⟨1, [99], 0, 10⟩]
def t2 : List Tk := [⟨1, [120], 0, 0⟩, ⟨2, [105, 115], 0, 2⟩, ⟨1, [65], 0, 5⟩, ⟨6, [61, 61], 0, 7⟩, ⟨3, [], 1, 10⟩]
def t3 : List Tk := [⟨1, [97], 0, 0⟩, ⟨6, [43], 0, 2⟩]
def t4 : List Tk := [⟨1, [97], 0, 0⟩, ⟨6, [43], 0, 2⟩, ⟨6, [41], 0, 4⟩, ⟨1, [98], 0, 6⟩]
def t5 : List Tk := [⟨2, [99, 108, 97, 115, 115], 0, 0⟩, ⟨1, [65], 0, 6⟩, ⟨2, [101, 120, 116, 101, 110, 100, 115], 0, 8⟩, ⟨1, [66], 0, 16⟩]
def t6 : List Tk := [⟨3, [], 1, 0⟩, ⟨6, [61], 0, 2⟩, ⟨3, [], 2, 4⟩, ⟨6, [59], 0, 6⟩]
def s6 : List St := [.mk 2 [] zTy (.mk 1 1 [] [] zTy []) (.mk 1 2 [] [] zTy []) [] []]
theorem tk1 : tokenizeL w1 = (t1, 0, 0) := by kernel_rfl
theorem tk2 : tokenizeL w2 = (t2, 0, 0) := by kernel_rfl
theorem tk3 : tokenizeL w3 = (t3, 0, 0) := by kernel_rfl
theorem tk4 : tokenizeL w4 = (t4, 0, 0) := by kernel_rfl
theorem tk5 : tokenizeL w5 = (t5, 0, 0) := by kernel_rfl
theorem tk6 : tokenizeL w6 = (t6, 0, 0) := by kernel_rfl
theorem kx1 : exprK 0 t1 = .ok (v1, []) := limK_of 60 fun f => by kernel_rfl
theorem kx2 : exprK 0 t2 = .ok (v2, []) := limK_of 60 fun f => by kernel_rfl
theorem kx3 : exprK 0 t3 = .error [] := limK_of 60 fun f => by kernel_rfl
theorem kx4 : exprK 0 t4 = .error [⟨6, [41], 0, 4⟩, ⟨1, [98], 0, 6⟩] := limK_of 60 fun f => by kernel_rfl
theorem kx5 : progK [] t5 = .error [] := limK_of 60 fun f => by kernel_rfl
theorem kx6 : sblK [] t6 = .ok (s6, []) := limK_of 60 fun f => by kernel_rfl
theorem res1 : expRes w1 = (v1, 0, 0) := by
 have hv : validE v1 = true := by kernel_rfl
 have hd : ¬ 24 < depthE v1 := by rw [show depthE v1 = 4 by kernel_rfl]; decide
 unfold expRes oneK
 rw [tk1, if_pos rfl]
 dsimp only
 rw [kx1]
 simp only [bndP, if_pos, hv, if_neg hd]
theorem res2 : expRes w2 = (v2, 0, 0) := by
 have hv : validE v2 = true := by kernel_rfl
 have hd : ¬ 24 < depthE v2 := by rw [show depthE v2 = 3 by kernel_rfl]; decide
 unfold expRes oneK
 rw [tk2, if_pos rfl]
 dsimp only
 rw [kx2]
 simp only [bndP, if_pos, hv, if_neg hd]
theorem res3 : expRes w3 = (zE, 3, 71) := by
 unfold expRes oneK
 rw [tk3, if_pos rfl]
 dsimp only
 rw [kx3]
 rfl
theorem res4 : expRes w4 = (zE, 4, 71) := by
 unfold expRes oneK
 rw [tk4, if_pos rfl]
 dsimp only
 rw [kx4]
 rfl
theorem res5 : progRes w5 = ([], 17, 71) := by
 unfold progRes
 rw [tk5, if_pos rfl]
 dsimp only
 rw [kx5]
 rfl
theorem res6 : blkRes w6 = ([], 0, 4) := by
 have hc : (checkL [] [blkC s6]).2 = 4 := by kernel_rfl
 unfold blkRes
 rw [tk6, if_pos rfl]
 dsimp only
 rw [kx6]
 dsimp only
 rw [hc]
 rfl
theorem exRep_inv {m : Mem} {k n : Int} {s c : List UInt8} {ty : Ty} {es : List Ex} {y : Nd} (h : exRep m (.mk k n s c ty es) y.cs) : ∃ (a : Option Addr) (cp : Nat) (xs : List Value), y.svs = Nd.svs ⟨k, n, s, c, ty, a, es.length, cp⟩ ∧ y.cs = Nd.cs ⟨k, n, s, c, ty, a, es.length, cp⟩ ∧ es.length ≤ cp ∧ Rds m a es.length 8 xs ∧ exsRep m es xs := by
 simp only [exRep] at h
 obtain ⟨a, cp, xs, h1, h2, h3, h4, h5⟩ := h
 refine ⟨a, cp, xs, ?_, h1, h2, h3, h5⟩
 clear h3 h4 h5
 simp only [Nd.cs, exC, List.cons.injEq, Value.int.injEq, Value.string.injEq, Value.slice.injEq, true_and, and_true] at h1
 obtain ⟨e1, e2, e3, e4, e5, e6, e7, e8, e9, e10⟩ := h1
 simp only [Nd.svs, e1, e2, e3, e4, e5, e6, e7, e8, e9, e10]
theorem exs_two {m : Mem} {e1 e2 : Ex} {xs : List Value} (hl : xs.length = 2 * 8) (h : exsRep m [e1, e2] xs) : ∃ y1 y2 : Nd, xs = y1.cs ++ y2.cs ∧ exRep m e1 y1.cs ∧ exRep m e2 y2.cs := by
 simp only [exsRep, and_true] at h
 obtain ⟨y1, h1⟩ := exRep_nd h.1
 obtain ⟨y2, h2⟩ := exRep_nd h.2
 have e : (xs.drop 8).take 8 = xs.drop 8 := List.take_of_length_le (by rw [List.length_drop]; omega)
 refine ⟨y1, y2, ?_, by rw [← h1]; exact h.1, by rw [← h2]; exact h.2⟩
 rw [← h1, ← h2, e, List.take_append_drop]
theorem w1_spec (m : Mem) (hg : GlobX m) : FnH Tryz.prog 13 [.v (.string (bs w1))] ⟨[], []⟩ m fun r H' m' => leM m m' ∧ ∃ (a b d : Option Addr) (cp cq cr : Nat) (z1 u1 : Nd), r = .tup [.agg (Nd.svs ⟨16, 0, [43], [], zTy, a, 2, cp⟩), .v (.int .i64 0), .v (.int .i64 0)] ∧
  Rds m' a 2 8 (z1.cs ++ Nd.cs ⟨16, 0, [42], [], zTy, b, 2, cq⟩) ∧ Rds m' b 2 8 (u1.cs ++ Nd.cs ⟨15, 0, [45], [], zTy, d, 1, cr⟩) ∧ H' = ⟨[], []⟩ := by
 have h := exp1_spec w1 m hg (by decide)
 rw [res1] at h
 refine h.mono ?_
 rintro r H' m' hm ⟨l1, y, rfl, hy, rfl⟩
 obtain ⟨a, cp, xs, ey, _, hcp, hr, hs⟩ := exRep_inv hy
 obtain ⟨z1, z2, rfl, hz1, hz2⟩ := exs_two hr.1 hs
 obtain ⟨b, cq, xs2, _, ez, hcq, hr2, hs2⟩ := exRep_inv hz2
 obtain ⟨u1, u2, rfl, hu1, hu2⟩ := exs_two hr2.1 hs2
 obtain ⟨d, cr, xs3, _, eu, hcr, hr3, hs3⟩ := exRep_inv hu2
 rw [ez] at hr
 rw [eu] at hr2
 exact ⟨l1, a, b, d, cp, cq, cr, z1, u1, by rw [ey]; rfl, hr, hr2, rfl⟩
theorem w2_spec (m : Mem) (hg : GlobX m) : FnH Tryz.prog 13 [.v (.string (bs w2))] ⟨[], []⟩ m fun r H' m' => leM m m' ∧ ∃ (a b : Option Addr) (cp cq : Nat) (z2 : Nd), r = .tup [.agg (Nd.svs ⟨16, 0, [61, 61], [], zTy, a, 2, cp⟩), .v (.int .i64 0), .v (.int .i64 0)] ∧
  Rds m' a 2 8 (Nd.cs ⟨18, 0, [], [], ⟨0, 76, [65]⟩, b, 1, cq⟩ ++ z2.cs) ∧ H' = ⟨[], []⟩ := by
 have h := exp1_spec w2 m hg (by decide)
 rw [res2] at h
 refine h.mono ?_
 rintro r H' m' hm ⟨l1, y, rfl, hy, rfl⟩
 obtain ⟨a, cp, xs, ey, _, hcp, hr, hs⟩ := exRep_inv hy
 obtain ⟨z1, z2, rfl, hz1, hz2⟩ := exs_two hr.1 hs
 obtain ⟨b, cq, xs2, _, ez, hcq, hr2, hs2⟩ := exRep_inv hz1
 rw [ez] at hr
 exact ⟨l1, a, b, cp, cq, z2, by rw [ey]; rfl, hr, rfl⟩
theorem rd_ptr {m : Mem} {x : Value} {cs : List Value} (h : Rd m x cs) : isPtr x := by obtain ⟨a, rfl, _⟩ := h; exact ⟨a, rfl⟩
theorem works_spec (m : Mem) (hg : GlobX m) : FnH Tryz.prog 9 [] ⟨[], []⟩ m fun r H' m' => leM m m' ∧ r = .v (.bool true) ∧ H' = ⟨[], []⟩ := by
 have h1 := fun m' (h : leM m m') => w1_spec m' (hg.upM h)
 have h2 := fun m' (h : leM m m') => w2_spec m' (hg.upM h)
 have h3 := fun m' (h : leM m m') => exp1_spec w3 m' (hg.upM h) (by decide)
 have h4 := fun m' (h : leM m m') => exp1_spec w4 m' (hg.upM h) (by decide)
 have h5 := fun m' (h : leM m m') => prog_spec w5 m' (hg.upM h) (by decide)
 have h6 := fun m' (h : leM m m') => blk_spec w6 m' (hg.upM h) (by decide)
 rw [res3] at h3
 rw [res4] at h4
 rw [res5] at h5
 rw [res6] at h6
 refine enter cfN puN Tryz.func9 rfl rfl (by kernel_rfl) rfl ?_ ?_
 ·simp only [go_sem, ↓tfi, ↓fti, ↓reduceIte]
 ·simp only [go_sem, ↓tfi, ↓fti, ↓reduceIte]
  refine cvl ((h1 m (.inl rfl)).mono ?_)
  clear h1
  rintro r H' m1 hm1 ⟨l1, a, b, d, cp, cq, cr, z1, u1, rfl, hr, hr2, rfl⟩
  simp only [go_sem, ↓tfi, ↓fti, ↓reduceIte]
  refine cvl ((h2 m1 l1).mono ?_)
  clear h2
  rintro r H' m2 hm2 ⟨l2, a', b', cp', cq', z2, rfl, hr3, rfl⟩
  simp only [go_sem, ↓tfi, ↓fti, ↓reduceIte]
  refine cvl ((h3 m2 (leM_tr l1 l2)).mono ?_)
  clear h3
  rintro r H' m3 hm3 ⟨l3, y3, rfl, hy3, rfl⟩
  simp only [go_sem, ↓tfi, ↓fti, ↓reduceIte]
  refine cvl ((h4 m3 (leM_tr (leM_tr l1 l2) l3)).mono ?_)
  clear h4
  rintro r H' m4 hm4 ⟨l4, y4, rfl, hy4, rfl⟩
  simp only [go_sem, ↓tfi, ↓fti, ↓reduceIte]
  refine cvl ((h5 m4 (leM_tr (leM_tr (leM_tr l1 l2) l3) l4)).mono ?_)
  clear h5
  rintro r H' m5 hm5 ⟨l5, a5, n5, c5, rfl, hp5, rfl⟩
  simp only [go_sem, ↓tfi, ↓fti, ↓reduceIte]
  refine cvl ((h6 m5 (leM_tr (leM_tr (leM_tr (leM_tr l1 l2) l3) l4) l5)).mono ?_)
  clear h6
  rintro r H' m6 hm6 ⟨l6, a6, n6, c6, rfl, hp6, rfl⟩
  simp only [go_sem, ↓tfi, ↓fti, ↓reduceIte]
  have u1 : leM m1 m6 := leM_tr l2 (leM_tr l3 (leM_tr l4 (leM_tr l5 l6)))
  have u2 : leM m2 m6 := leM_tr l3 (leM_tr l4 (leM_tr l5 l6))
  have hA := Rds_cells (Rds_upM u1 hr) (i := 1) (by decide)
  have hA1 : Rd m6 (ptrAt a 8) (Nd.cs ⟨16, 0, [42], [], zTy, b, 2, cq⟩) := hA.1
  have hA7 : Rd m6 (ptrAdd (ptrAt a 8) 7) [.slice b 2 cq] := Rd_sub hA1 7 1 (by simp [Nd.cs])
  have hA2 : Rd m6 (ptrAdd (ptrAt a 8) 2) [.string (bs [42])] := Rd_sub hA1 2 1 (by simp [Nd.cs])
  have hB := Rds_cells (Rds_upM u1 hr2) (i := 1) (by decide)
  have hB1 : Rd m6 (ptrAt b 8) (Nd.cs ⟨15, 0, [45], [], zTy, d, 1, cr⟩) := hB.1
  have hB0 : Rd m6 (ptrAdd (ptrAt b 8) 0) [.int .i64 15] := Rd_sub hB1 0 1 (by simp [Nd.cs])
  have hC := Rds_cells (Rds_upM u2 hr3) (i := 0) (by decide)
  have hC1 : Rd m6 (ptrAt a' 0) (Nd.cs ⟨18, 0, [], [], ⟨0, 76, [65]⟩, b', 1, cq'⟩) := hC.1
  have hC0 : Rd m6 (ptrAdd (ptrAt a' 0) 0) [.int .i64 18] := Rd_sub hC1 0 1 (by simp [Nd.cs])
  refine ⟨fun _ => ⟨by decide, by decide, hA.2⟩, fun _ => rd_ptr hA1, .slice b 2 cq, fun _ => hA7, ?_⟩
  simp only [go_sem, ↓tfi, ↓fti, ↓reduceIte]
  refine ⟨fun h => (by simp at h), fun h => ⟨⟨by decide, by decide, hA.2⟩, rd_ptr hA1, .string (bs [42]), hA2, ?_⟩⟩
  simp only [go_sem, ↓tfi, ↓fti, ↓reduceIte]
  refine ⟨⟨by decide, by decide, hA.2⟩, rd_ptr hA1, .slice b 2 cq, hA7, ?_⟩
  simp only [go_sem, ↓tfi, ↓fti, ↓reduceIte]
  refine ⟨⟨by decide, by decide, hB.2⟩, rd_ptr hB1, .int .i64 15, hB0, ?_⟩
  simp only [go_sem, ↓tfi, ↓fti, ↓reduceIte]
  refine ⟨⟨by decide, by decide, hC.2⟩, rd_ptr hC1, .int .i64 18, hC0, ?_⟩
  simp only [go_sem, ↓tfi, ↓fti, ↓reduceIte]
  exact leM_tr l1 u1
def sT (t : Tk) : Tk := ⟨t.k, t.s, t.n, 0⟩
def sl (l : List Tk) : List Tk := l.map sT
def ms {α : Type} : PR α → PR α
 | .ok x => .ok (x.1, sl x.2)
 | .error r => .error (sl r)
theorem Ty.eq_self (x : Ty) : Ty.eq x x = true := by simp [Ty.eq]
theorem dec_comm {α : Type} [DecidableEq α] (a b : α) : decide (a = b) = decide (b = a) := by rw [decide_eq_decide]; exact eq_comm
theorem Ty.eq_comm (x y : Ty) : Ty.eq x y = Ty.eq y x := by rw [Ty.eq, Ty.eq, dec_comm x.dim, dec_comm x.base, dec_comm x.name]
theorem Pc.eq_self (p : Pc) : Pc.eq p p = true := by simp [Pc.eq]
theorem Fc.eq_self (p : Fc) : Fc.eq p p = true := by simp [Fc.eq]
theorem Pc.eq_comm (p q : Pc) : Pc.eq p q = Pc.eq q p := by rw [Pc.eq, Pc.eq, dec_comm p.ty.dim, dec_comm p.ty.base, dec_comm p.ty.name, dec_comm p.name]
theorem Fc.eq_comm (p q : Fc) : Fc.eq p q = Fc.eq q p := by rw [Fc.eq, Fc.eq, dec_comm p.fl, dec_comm p.ty.dim, dec_comm p.ty.base, dec_comm p.ty.name, dec_comm p.name]
theorem tok_ok {f : FuncId} {t : List UInt8} {m : Mem} (h : FnH Tryz.prog f [.v (.string (bs t))] ⟨[], []⟩ m fun r H' m' => leM m m' ∧ ROut (tokenizeL t) r H') (h0 : (tokenizeL t).2.2 = 0) :
  FnH Tryz.prog f [.v (.string (bs t))] ⟨[], []⟩ m fun r H' m' => leM m m' ∧ r = .tup [.vec 0 0, .v (.int .i64 (tokenizeL t).2.1), .v (.int .i64 0)] ∧ H' = ⟨[], [⟨0, 0, 50, 4, (tokenizeL t).1.length, tkCells (tokenizeL t).1⟩]⟩ :=
 (tok0 h).mono fun r H' m' _ h => by
  rcases h with ⟨l1, ⟨_, h3, h4⟩ | ⟨h3, _⟩⟩
  ·rw [h0] at h3; exact ⟨l1, h3, h4⟩
  ·exact absurd h0 h3
theorem tok_er {f : FuncId} {t : List UInt8} {m : Mem} (h : FnH Tryz.prog f [.v (.string (bs t))] ⟨[], []⟩ m fun r H' m' => leM m m' ∧ ROut (tokenizeL t) r H') (h0 : ¬ (tokenizeL t).2.2 = 0) :
  FnH Tryz.prog f [.v (.string (bs t))] ⟨[], []⟩ m fun r H' m' => leM m m' ∧ r = .tup [.v (.slice none 0 0), .v (.int .i64 (tokenizeL t).2.1), .v (.int .i64 (tokenizeL t).2.2)] ∧ H' = ⟨[], []⟩ :=
 (tok0 h).mono fun r H' m' _ h => by
  rcases h with ⟨l1, ⟨h3, _⟩ | ⟨_, _, h3, h4⟩⟩
  ·exact absurd h3 h0
  ·exact ⟨l1, h3, h4⟩
theorem curT_of {l : List Tk} {i : Nat} (h : i < l.length) : curT l i = l[i] := by
 simp [curT, h]
theorem grow_lt {l : List Tk} {b : Int} (hg : grow b l) {i : Nat} : ∀ (j : Nat), i < j → j < l.length → (curT l i).at_ < (curT l j).at_
 | 0, h, _ => absurd h (Nat.not_lt_zero _)
 | j + 1, h, hj => by
  have h1 := grow_at hg hj
  rw [curT_of hj]
  rcases Nat.lt_or_ge i j with h2 | h2
  ·have h3 := grow_lt hg j h2 (by omega)
   rw [curT_of (l := l) (i := j) (by omega)] at h3
   omega
  ·obtain rfl : i = j := by omega
   rw [curT_of (by omega)]
   exact h1
theorem grow_eq {l : List Tk} {b : Int} (hg : grow b l) {i j : Nat} (hi : i < l.length) (hj : j < l.length) : ((curT l i).at_ = (curT l j).at_) = (i = j) := by
 refine eq_iff_iff.2 ⟨fun h => ?_, fun h => by rw [h]⟩
 rcases Nat.lt_trichotomy i j with h1 | h1 | h1
 ·have := grow_lt hg j h1 hj; omega
 ·exact h1
 ·have := grow_lt hg i h1 hi; omega
def cutE (s : List UInt8) : List Tk → Nat
 | [] => s.length
 | x :: _ => x.at_.toNat
theorem lawFe_spec (s z : List UInt8) (m : Mem) (hg : GlobX m) (hs : s.length ≤ 4611686018427387904) (hz : z.length ≤ 4611686018427387904) : FnH Tryz.prog 8 [.v (.string (bs s)), .v (.string (bs z))] ⟨[], []⟩ m fun r H' m' => leM m m' ∧ r = .v (.bool true) ∧ H' = ⟨[], []⟩ := by
 have hw := fun m' (h : leM m m') => works_spec m' (hg.upM h)
 have hp := prog_spec s m hg hs
 have hin := tok_in (s := s)
 have hgr := tok_grow s
 refine enter cfN puN Tryz.func8 rfl rfl (by kernel_rfl) rfl ?_ ?_
 ·simp only [go_sem, ↓tfi, ↓fti, ↓reduceIte]
 ·simp only [go_sem, ↓tfi, ↓fti, ↓reduceIte]
  refine ⟨fun h4 => cvl ((hw m (.inl rfl)).mono ?_), fun h4 => ?_⟩
  ·clear hw hp
   rintro r H' m1 hm1 ⟨l1, rfl, rfl⟩
   simp only [go_sem, ↓tfi, ↓fti, ↓reduceIte]
   exact l1
  ·refine cvl (hp.mono ?_)
   clear hp
   rintro r H' m1 hm1 ⟨l1, a1, n1, c1, rfl, r1, rfl⟩
   simp only [go_sem, ↓tfi, ↓fti, ↓reduceIte]
   refine ⟨fun _ => cvl ((hw m1 l1).mono ?_), fun hc => ?_⟩
   ·clear hw
    rintro r H' m2 hm2 ⟨l2, rfl, rfl⟩
    simp only [go_sem, ↓tfi, ↓fti, ↓reduceIte]
    exact leM_tr l1 l2
   ·have hs4 : s.length ≤ 4000 := by omega
    have hz5 : z.length ≤ 500 := by omega
    have hfe := first_err hs4 hc.1.1 (by omega)
    refine hfe.2.elim fun p hfe2 => hfe2.elim fun t hfe3 => hfe3.elim fun a hF => ?_
    have hk := tok_ok (rtokenize_spec s m1 hs) hfe.1
    clear hfe
    have hpl : p.length < (tokenizeL s).1.length := by rw [hF.1]; simp
    have hal : (tokenizeL s).1.length = p.length + 1 + a.length := by rw [hF.1, Lla, Llc]; omega
    have hct : curT (tokenizeL s).1 p.length = t := by rw [curT_of hpl]; simp [hF.1]
    have hca : ∀ x r, a = x :: r → curT (tokenizeL s).1 (p.length + 1) = x := fun x r e => by
     subst e
     rw [curT_of (by rw [hal, Llc]; omega)]
     simp [hF.1]
    have hain : ∀ x r, a = x :: r → 0 ≤ x.at_ ∧ x.at_ < s.length := fun x r e => by
     have := hin x (by rw [hF.1, e]; simp)
     exact ⟨this.lo, this.hi⟩
    have hfew := tok_few s
    have htl := tk_len (tokenizeL s).1
    have hE0 : (cutE s a : Int) ≤ s.length := by
     cases a with
     | nil => exact Int.le_refl _
     | cons x r => have := hain x r rfl; simp only [cutE]; omega
    have hEn : a = [] → (s.length : Int) = cutE s a := fun e => by rw [e]; rfl
    have hEc : ∀ x r, a = x :: r → x.at_ = cutE s a := fun x r e => by
     have := hain x r e
     rw [e]
     simp only [cutE]
     omega
    have hFin := hF.2.2 (cutE s a) z (by omega) (fun e => by rw [e]; rfl) (fun x r e => (hEc x r e).symm) hz5
    clear hin
    refine cvl (hk.mono ?_)
    clear hk
    rintro r H' m2 hm2 ⟨l2, rfl, rfl⟩
    have u2 := leM_tr l1 l2
    simp only [go_sem, ↓tfi, ↓fti, ↓reduceIte]
    refine WP_loop puN (fun y : Nat × Int => ⟨[⟨0, [], .v (.string (bs s))⟩, ⟨1, [], .v (.string (bs z))⟩, ⟨6, [], .v (.int .i64 (progRes s).2.1)⟩, ⟨8, [], .vec 0 0⟩, ⟨11, [], .v (.int .i64 y.2)⟩, ⟨12, [], .v (.int .i64 y.1)⟩], [], [], [tkV0 (tokenizeL s).1], 40, m2⟩)
     (fun y => y.1 ≤ (tokenizeL s).1.length ∧ y.2 = if y.1 ≤ p.length then -1 else (cutE s a : Int)) (fun y => (tokenizeL s).1.length - y.1) (0, -1) (by kernel_rfl) (fun _ _ => nbl rfl) (fun _ _ => .inl rfl) (fun _ => ?_) ?_ ?_ ?_
    ·simp only [go_sem, ↓tfi, ↓fti, ↓reduceIte]
    ·simp only [go_sem, ↓tfi, ↓fti, ↓reduceIte]
     exact rfl
    ·exact ⟨Nat.zero_le _, by simp⟩
    ·rintro ⟨i, e⟩ ⟨q1, q2⟩
     dsimp only at q1 q2
     by_cases hi : i < (tokenizeL s).1.length
     ·have hat := grow_eq hgr hi hpl
      rw [hct] at hat
      have hcd : ((curT (tokenizeL s).1 i).at_ = (progRes s).2.1) = (i = p.length) := by rw [hF.2.1]; exact hat
      have hi' : ((i : Int) < (tokenizeL s).1.length) = True := eq_true (by omega)
      clear hat
      simp only [go_sem, ↓tfi, ↓fti, ↓reduceIte, cur_at hi, hcd, hi', not_true_eq_false]
      refine ⟨by omega, by omega, by omega, fun hip => ⟨by unfold I64; omega, fun hnx => ⟨by unfold I64; omega, ⟨by omega, hnx⟩, by omega, by omega, by unfold I64; omega, (i + 1, cutE s a), ⟨?_, by simp⟩, ⟨hi, by simp only; rw [if_neg (by omega)]⟩, by simp only; omega⟩,
       fun hnx => ⟨by unfold I64; omega, (i + 1, cutE s a), ⟨hEn (List.eq_nil_of_length_eq_zero (by omega)), by simp⟩, ⟨hi, by simp only; rw [if_neg (by omega)]⟩, by simp only; omega⟩⟩,
       fun hip => ⟨by unfold I64; omega, (i + 1, e), ⟨rfl, by simp⟩, ⟨hi, ?_⟩, by simp only; omega⟩⟩
      ·rw [show ((i : Int) + 1).toNat = i + 1 by omega, cur_at (by omega), hip]
       cases a with
       | nil => simp at hal; omega
       | cons x r => rw [hca x r rfl, hEc x r rfl]
      ·simp only
       rw [q2]
       by_cases h : i < p.length
       ·rw [if_pos (by omega), if_pos (by omega)]
       ·rw [if_neg (by omega), if_neg (by omega)]
     ·have hi' : ((i : Int) < (tokenizeL s).1.length) = False := eq_false (by omega)
      rw [if_neg (by omega)] at q2
      subst q2
      have hcat : s.take (cutE s a) ++ [10] ++ z = s.take (cutE s a) ++ 10 :: z := by simp
      have hlt : (s.take (cutE s a)).length ≤ 4000 := by rw [List.length_take]; omega
      have htk : (s.take (cutE s a) ++ 10 :: z).length ≤ 4611686018427387904 := by rw [Lla, Llc]; omega
      have hn0 : ((cutE s a : Int) < 0) = False := eq_false (by omega)
      have hp2 := fun m' (h : leM m m') => prog_spec (s.take (cutE s a) ++ 10 :: z) m' (hg.upM h) htk
      by_cases h3 : (tokenizeL (s.take (cutE s a) ++ 10 :: z)).2.2 = 0
      ·have hk := tok_ok (rtokenize_spec _ m2 htk) h3
       rw [hFin h3] at hp2
       simp only [go_sem, ↓tfi, ↓fti, ↓reduceIte, hi', hn0, hcat]
       refine ⟨⟨by omega, by omega⟩, by omega, by rw [Lla, List.length_singleton]; omega, by kernel_rfl, FnV_of (hk.mono ?_)⟩
       clear hk
       rintro r H' m3 hm3 ⟨l3, rfl, rfl⟩
       have u3 := leM_tr u2 l3
       simp only [go_sem, ↓tfi, ↓fti, ↓reduceIte, not_true_eq_false]
       refine cvl ((hp2 m3 u3).mono ?_)
       clear hp2
       rintro r H' m4 hm4 ⟨l4, a4, n4, c4, rfl, r4, rfl⟩
       have u4 := leM_tr u3 l4
       have h5 : (t.at_ = (progRes s).2.1) = True := eq_true hF.2.1.symm
       simp only [go_sem, ↓tfi, ↓fti, ↓reduceIte, h5, not_true_eq_false]
       refine cvl ((hw m4 u4).mono ?_)
       clear hw
       rintro r H' m5 hm5 ⟨l5, rfl, rfl⟩
       simp only [go_sem, ↓tfi, ↓fti, ↓reduceIte]
       exact leM_tr u4 l5
      ·have hk := tok_er (rtokenize_spec _ m2 htk) h3
       clear hp2
       simp only [go_sem, ↓tfi, ↓fti, ↓reduceIte, hi', hn0, hcat]
       refine ⟨⟨by omega, by omega⟩, by omega, by rw [Lla, List.length_singleton]; omega, by kernel_rfl, FnV_of (hk.mono ?_)⟩
       clear hk
       rintro r H' m3 hm3 ⟨l3, rfl, rfl⟩
       have u3 := leM_tr u2 l3
       simp only [go_sem, ↓tfi, ↓fti, ↓reduceIte]
       refine ⟨fun _ => cvl ((hw m3 u3).mono ?_), fun h => absurd h h3⟩
       clear hw
       rintro r H' m4 hm4 ⟨l4, rfl, rfl⟩
       simp only [go_sem, ↓tfi, ↓fti, ↓reduceIte]
       exact leM_tr u3 l4
end Go.Proofs.YtimddhkipjedcaaGreatDoor.E

/- Several texts in one: AstTk, AstTl, AstRk. -/
import Derived.Test.YtalalcpefggniaaGreatDoorMrg6
set_option linter.unusedSimpArgs false
set_option linter.unusedVariables false
set_option maxHeartbeats 4000000
set_option maxRecDepth 20000
namespace Go.Proofs.YtalalcpefggniaaGreatDoor.E
open Go
theorem lt2 (a : Nat) : a < a + 1 + 1 := by omega
theorem lt3 (a : Nat) : a < a + 1 + 1 + 1 := by omega
theorem lt4 (a : Nat) : a < a + 1 + 1 + 1 + 1 := by omega
theorem lt5 (a : Nat) : a < a + 1 + 1 + 1 + 1 + 1 := by omega
theorem lt6 (a : Nat) : a < a + 1 + 1 + 1 + 1 + 1 + 1 := by omega
theorem lt7 (a : Nat) : a < a + 1 + 1 + 1 + 1 + 1 + 1 + 1 := by omega
theorem lt8 (a : Nat) : a < a + 1 + 1 + 1 + 1 + 1 + 1 + 1 + 1 := by omega
theorem lt9 (a : Nat) : a < a + 1 + 1 + 1 + 1 + 1 + 1 + 1 + 1 + 1 := by omega
theorem lt10 (a : Nat) : a < a + 1 + 1 + 1 + 1 + 1 + 1 + 1 + 1 + 1 + 1 := by omega
theorem lt11 (a : Nat) : a < a + 1 + 1 + 1 + 1 + 1 + 1 + 1 + 1 + 1 + 1 + 1 := by omega
theorem be1 (a : Nat) : (a + 1 == a) = false := beq_eq_false_iff_ne.2 (by omega)
theorem eb1 (a : Nat) : (a == a + 1) = false := beq_eq_false_iff_ne.2 (by omega)
theorem ne1 (a : Nat) : (a + 1 = a) = False := eq_false (by omega)
theorem en1 (a : Nat) : (a = a + 1) = False := eq_false (by omega)
theorem be2 (a : Nat) : (a + 1 + 1 == a) = false := beq_eq_false_iff_ne.2 (by omega)
theorem eb2 (a : Nat) : (a == a + 1 + 1) = false := beq_eq_false_iff_ne.2 (by omega)
theorem ne2 (a : Nat) : (a + 1 + 1 = a) = False := eq_false (by omega)
theorem en2 (a : Nat) : (a = a + 1 + 1) = False := eq_false (by omega)
theorem be3 (a : Nat) : (a + 1 + 1 + 1 == a) = false := beq_eq_false_iff_ne.2 (by omega)
theorem eb3 (a : Nat) : (a == a + 1 + 1 + 1) = false := beq_eq_false_iff_ne.2 (by omega)
theorem ne3 (a : Nat) : (a + 1 + 1 + 1 = a) = False := eq_false (by omega)
theorem en3 (a : Nat) : (a = a + 1 + 1 + 1) = False := eq_false (by omega)
theorem be4 (a : Nat) : (a + 1 + 1 + 1 + 1 == a) = false := beq_eq_false_iff_ne.2 (by omega)
theorem eb4 (a : Nat) : (a == a + 1 + 1 + 1 + 1) = false := beq_eq_false_iff_ne.2 (by omega)
theorem ne4 (a : Nat) : (a + 1 + 1 + 1 + 1 = a) = False := eq_false (by omega)
theorem en4 (a : Nat) : (a = a + 1 + 1 + 1 + 1) = False := eq_false (by omega)
theorem be5 (a : Nat) : (a + 1 + 1 + 1 + 1 + 1 == a) = false := beq_eq_false_iff_ne.2 (by omega)
theorem eb5 (a : Nat) : (a == a + 1 + 1 + 1 + 1 + 1) = false := beq_eq_false_iff_ne.2 (by omega)
theorem ne5 (a : Nat) : (a + 1 + 1 + 1 + 1 + 1 = a) = False := eq_false (by omega)
theorem en5 (a : Nat) : (a = a + 1 + 1 + 1 + 1 + 1) = False := eq_false (by omega)
theorem be6 (a : Nat) : (a + 1 + 1 + 1 + 1 + 1 + 1 == a) = false := beq_eq_false_iff_ne.2 (by omega)
theorem eb6 (a : Nat) : (a == a + 1 + 1 + 1 + 1 + 1 + 1) = false := beq_eq_false_iff_ne.2 (by omega)
theorem ne6 (a : Nat) : (a + 1 + 1 + 1 + 1 + 1 + 1 = a) = False := eq_false (by omega)
theorem en6 (a : Nat) : (a = a + 1 + 1 + 1 + 1 + 1 + 1) = False := eq_false (by omega)
theorem be7 (a : Nat) : (a + 1 + 1 + 1 + 1 + 1 + 1 + 1 == a) = false := beq_eq_false_iff_ne.2 (by omega)
theorem eb7 (a : Nat) : (a == a + 1 + 1 + 1 + 1 + 1 + 1 + 1) = false := beq_eq_false_iff_ne.2 (by omega)
theorem ne7 (a : Nat) : (a + 1 + 1 + 1 + 1 + 1 + 1 + 1 = a) = False := eq_false (by omega)
theorem en7 (a : Nat) : (a = a + 1 + 1 + 1 + 1 + 1 + 1 + 1) = False := eq_false (by omega)
theorem be8 (a : Nat) : (a + 1 + 1 + 1 + 1 + 1 + 1 + 1 + 1 == a) = false := beq_eq_false_iff_ne.2 (by omega)
theorem eb8 (a : Nat) : (a == a + 1 + 1 + 1 + 1 + 1 + 1 + 1 + 1) = false := beq_eq_false_iff_ne.2 (by omega)
theorem ne8 (a : Nat) : (a + 1 + 1 + 1 + 1 + 1 + 1 + 1 + 1 = a) = False := eq_false (by omega)
theorem en8 (a : Nat) : (a = a + 1 + 1 + 1 + 1 + 1 + 1 + 1 + 1) = False := eq_false (by omega)
theorem be9 (a : Nat) : (a + 1 + 1 + 1 + 1 + 1 + 1 + 1 + 1 + 1 == a) = false := beq_eq_false_iff_ne.2 (by omega)
theorem eb9 (a : Nat) : (a == a + 1 + 1 + 1 + 1 + 1 + 1 + 1 + 1 + 1) = false := beq_eq_false_iff_ne.2 (by omega)
theorem ne9 (a : Nat) : (a + 1 + 1 + 1 + 1 + 1 + 1 + 1 + 1 + 1 = a) = False := eq_false (by omega)
theorem en9 (a : Nat) : (a = a + 1 + 1 + 1 + 1 + 1 + 1 + 1 + 1 + 1) = False := eq_false (by omega)
theorem be10 (a : Nat) : (a + 1 + 1 + 1 + 1 + 1 + 1 + 1 + 1 + 1 + 1 == a) = false := beq_eq_false_iff_ne.2 (by omega)
theorem eb10 (a : Nat) : (a == a + 1 + 1 + 1 + 1 + 1 + 1 + 1 + 1 + 1 + 1) = false := beq_eq_false_iff_ne.2 (by omega)
theorem ne10 (a : Nat) : (a + 1 + 1 + 1 + 1 + 1 + 1 + 1 + 1 + 1 + 1 = a) = False := eq_false (by omega)
theorem en10 (a : Nat) : (a = a + 1 + 1 + 1 + 1 + 1 + 1 + 1 + 1 + 1 + 1) = False := eq_false (by omega)
theorem be11 (a : Nat) : (a + 1 + 1 + 1 + 1 + 1 + 1 + 1 + 1 + 1 + 1 + 1 == a) = false := beq_eq_false_iff_ne.2 (by omega)
theorem eb11 (a : Nat) : (a == a + 1 + 1 + 1 + 1 + 1 + 1 + 1 + 1 + 1 + 1 + 1) = false := beq_eq_false_iff_ne.2 (by omega)
theorem ne11 (a : Nat) : (a + 1 + 1 + 1 + 1 + 1 + 1 + 1 + 1 + 1 + 1 + 1 = a) = False := eq_false (by omega)
theorem en11 (a : Nat) : (a = a + 1 + 1 + 1 + 1 + 1 + 1 + 1 + 1 + 1 + 1 + 1) = False := eq_false (by omega)
theorem bz (n : Nat) : (n + 1 == 0) = false := beq_eq_false_iff_ne.2 (by omega)
theorem zb (n : Nat) : (0 == n + 1) = false := beq_eq_false_iff_ne.2 (by omega)
theorem ze8 (e : Nat) : (0 = 8 + e) = False := eq_false (by omega)
theorem ez8 (e : Nat) : (8 + e = 0) = False := eq_false (by omega)
theorem bz8 (e : Nat) : (8 + e == 0) = false := beq_eq_false_iff_ne.2 (by omega)
theorem zb8 (e : Nat) : (0 == 8 + e) = false := beq_eq_false_iff_ne.2 (by omega)
theorem ze16 (e : Nat) : (0 = 16 + e) = False := eq_false (by omega)
theorem ez16 (e : Nat) : (16 + e = 0) = False := eq_false (by omega)
theorem bz16 (e : Nat) : (16 + e == 0) = false := beq_eq_false_iff_ne.2 (by omega)
theorem zb16 (e : Nat) : (0 == 16 + e) = false := beq_eq_false_iff_ne.2 (by omega)
attribute [go_sem] Nat.add_zero Nat.zero_lt_succ Nat.lt_add_one bz zb lt2 lt3 lt4 lt5 lt6 lt7 lt8 lt9 lt10 lt11 be1 eb1 ne1 en1 be2 eb2 ne2 en2 be3 eb3 ne3 en3 be4 eb4 ne4 en4 be5 eb5 ne5 en5 be6 eb6 ne6 en6 be7 eb7 ne7 en7 be8 eb8 ne8 en8 be9 eb9 ne9 en9 be10 eb10 ne10 en10 be11 eb11 ne11 en11 bz8 zb8 ze8 ez8 bz16 zb16 ze16 ez16
def fieldU (f : Fc) : List Tk := List.flatten [modT f.fl, typT f.ty.dim f.ty.base f.ty.name, [nm1 f.name, sg [59]]]
def headU (d : Cd) : List Tk :=
 if hasB d.fl 512 = true then List.flatten [modT (bits .and .i64 d.fl 1), [kw [105, 110, 116, 101, 114, 102, 97, 99, 101], nm1 d.name], ifsT [101, 120, 116, 101, 110, 100, 115] d.ifs, [sg [123]]]
 else List.flatten [modT (bits .and .i64 d.fl 1041), [kw [99, 108, 97, 115, 115], nm1 d.name, kw [101, 120, 116, 101, 110, 100, 115], nm1 d.super], ifsT [105, 109, 112, 108, 101, 109, 101, 110, 116, 115] d.ifs, [sg [123]]]
set_option maxHeartbeats 8000000 in
theorem rdecl_spec (d : Cd) (cs : List Value) (m : Mem) (h : cdRep m d cs) (hdim : ∀ f ∈ d.fields, f.ty.dim ≤ 1000)
  (hB : 0 < d.init.length → ∀ a n c xs m', leM m m' → n = d.init.length → Rds m' a n 23 xs → stsRep m' d.init xs → RetT 101 [.v (.slice a n c)] m' (brT (stmtsT d.init)))
  (hM : ∀ e ∈ d.methods, ∀ cs m', leM m m' → mdRep m' e cs → RetT 102 [.v (.agg ⟨cs⟩)] m' (methodT e))
  (hhd : headU d = headT d ++ [sg [123]]) (hb : (clsT d).length ≤ 100000000) : RetT 40 [.v (.agg ⟨cs⟩)] m (clsT d) := by
 obtain ⟨fl, name, super, ifs, fields, methods, init⟩ := d
 obtain ⟨x, ⟨rfl, rfl, rfl, rfl⟩, ⟨hil, hic, hfn, hfc, hml, hmc, hsl, hsc⟩, hok, r1, r2, xs, ys, r3, s3, r4, s4⟩ := h
 simp only at hil hfn hml hsl r1 r2 r3 s3 r4 s4 hdim hB hM
 have bi : x.il ≤ big := by rw [hil]; exact hok.il
 have bf : x.fn ≤ big := by rw [hfn]; exact hok.fn
 have bm : x.ml ≤ big := by rw [hml]; exact hok.ml
 have hBk := fun (hq : 0 < init.length) m' (hle : leM m m') => hB hq x.sa x.sl x.sc ys m' hle hsl (Rds_upM hle r4) (stsRep_upM hle s4)
 have y1 : ∀ m', leM m m' → ∀ i (hk : i < fields.length), (Rd m' (ptrAt x.fa (i * 5)) (fields[i]).cs ∧ x.fa ≠ none) ∧ (fields[i]).ty.dim ≤ 1000 := fun m' hle i hk => by
  have := Rds_cells (Rds_upM hle r2) (by omega : i < x.fn)
  rw [flat_at (f := Fc.cs) (sz := 5) (fun _ => rfl) hk] at this
  exact ⟨this, hdim _ (List.getElem_mem hk)⟩
 have y2 : ∀ m', leM m m' → ∀ i (hk : i < methods.length), ∃ X : Mc, (Rd m' (ptrAt x.ma (i * 8)) X.cs ∧ x.ma ≠ none) ∧ RetT 102 [.v (.agg ⟨X.cs⟩)] m' (methodT methods[i]) := fun m' hle i hk => by
  have hrep := mdRep_up hle (ls_at s3 hk)
  have hrd := Rds_cells (Rds_upM hle r3) (by omega : i < x.ml)
  obtain ⟨X, e1⟩ := mdRep_mc hrep
  rw [e1] at hrd hrep
  exact ⟨X, hrd, hM _ (List.getElem_mem hk) _ m' hle hrep⟩
 have hN := fun (w : List UInt8) m' (hle : leM m m') => rnames_spec w ifs x.ia x.il x.ic m' hil (Rds_upM hle r1) bi
 clear hB hM s3 s4
 have hfe : ∀ f : Fc, fieldU f = fieldT f := fun f => by simp [fieldU, fieldT]
 have hcls : clsT ⟨x.fl, x.name, x.super, ifs, fields, methods, init⟩ = headU ⟨x.fl, x.name, x.super, ifs, fields, methods, init⟩ ++ (fields.map fieldU).flatten ++ (if 0 < init.length then [kw [115, 116, 97, 116, 105, 99]] ++ brT (stmtsT init) else []) ++ (methods.map methodT).flatten ++ [sg [125]] := by
  rw [hhd, funext hfe]
  rfl
 have hsz : (headU ⟨x.fl, x.name, x.super, ifs, fields, methods, init⟩).length + ((fields.map fieldU).flatten).length + (if 0 < init.length then [kw [115, 116, 97, 116, 105, 99]] ++ brT (stmtsT init) else []).length + ((methods.map methodT).flatten).length + 1 ≤ 100000000 := by
  have h9 := hb
  rw [hcls, Lla, Lla, Lla, Lla] at h9
  exact h9
 have hD : ¬ bits .and .i64 x.fl 512 = 0 → List.flatten [modT (bits .and .i64 x.fl 1), [kw [105, 110, 116, 101, 114, 102, 97, 99, 101], nm1 x.name], ifsT [101, 120, 116, 101, 110, 100, 115] ifs, [sg [123]]] = headU ⟨x.fl, x.name, x.super, ifs, fields, methods, init⟩ := fun h5 => by
  have : hasB x.fl 512 = true := by rw [hasB, decide_eq_false h5]; rfl
  rw [headU, if_pos this]
 refine Exists.elim (⟨_, rfl⟩ : ∃ HC, List.flatten [modT (bits .and .i64 x.fl 1041), [kw [99, 108, 97, 115, 115], nm1 x.name, kw [101, 120, 116, 101, 110, 100, 115], nm1 x.super], ifsT [105, 109, 112, 108, 101, 109, 101, 110, 116, 115] ifs, [sg [123]]] = HC) fun HC hHC => ?_
 have hC : bits .and .i64 x.fl 512 = 0 → HC = headU ⟨x.fl, x.name, x.super, ifs, fields, methods, init⟩ := fun h5 => by
  have : ¬ hasB x.fl 512 = true := by rw [hasB, decide_eq_true h5]; decide
  rw [headU, if_neg this, ← hHC]
 have hI1 := ifs_len [105, 109, 112, 108, 101, 109, 101, 110, 116, 115] ifs
 have hI2 := ifs_len [101, 120, 116, 101, 110, 100, 115] ifs
 have hj1 : HC.length ≤ cap := by
  have z1 := modT_len (bits .and .i64 x.fl 1041)
  rw [← hHC]
  simp only [List.flatten_cons, List.flatten_nil, Lla, Llc, Lln, cap]
  simp only [big] at bi
  omega
 refine Exists.elim (⟨_, rfl⟩ : ∃ T, T = headU ⟨x.fl, x.name, x.super, ifs, fields, methods, init⟩) fun T hT => Exists.elim (⟨_, rfl⟩ : ∃ FT : Nat → List Tk, FT = fun k => ((fields.take k).map fieldU).flatten) fun FT hFT => Exists.elim (⟨_, rfl⟩ : ∃ MT : Nat → List Tk, MT = fun k => ((methods.take k).map methodT).flatten) fun MT hMT => ?_
 rw [← hT] at hC hD hsz hcls
 clear hT
 have hj2 : T.length ≤ cap := by simp only [cap]; omega
 have hF0 : FT 0 = [] := by rw [hFT]; rfl
 have hM0 : MT 0 = [] := by rw [hMT]; rfl
 have hF1 : ∀ k (hk : k < fields.length), FT (k + 1) = FT k ++ fieldU fields[k] ∧ (FT (k + 1)).length ≤ ((fields.map fieldU).flatten).length := fun k hk => by
  rw [hFT]; exact ⟨flat_takeT hk, flat_le (f := fieldU) fields (k + 1)⟩
 have hM1 : ∀ k (hk : k < methods.length), MT (k + 1) = MT k ++ methodT methods[k] ∧ (MT (k + 1)).length ≤ ((methods.map methodT).flatten).length := fun k hk => by
  rw [hMT]; exact ⟨flat_takeT hk, flat_le (f := methodT) methods (k + 1)⟩
 have hF2 : ∀ k, fields.length ≤ k → FT k = (fields.map fieldU).flatten := fun k hk => by rw [hFT]; simp only; rw [List.take_of_length_le hk]
 have hM2 : ∀ k, methods.length ≤ k → MT k = (methods.map methodT).flatten := fun k hk => by rw [hMT]; simp only; rw [List.take_of_length_le hk]
 clear hFT hMT
 refine retT_of ?_
 refine enter cfK puK Tryz.func40 rfl rfl (by kernel_rfl) rfl ?_ ?_
 ·simp only [go_sem, ↓tfi, ↓fti, ↓reduceIte, Cc.cs]
 ·simp only [go_sem, ↓tfi, ↓fti, ↓reduceIte, Cc.cs]
  refine WP_draw (.hoist 0 (.hoist 1 (.hoist 2 (.hoist 5 (.hoist 6 (.hoist 9 (.hoist 10 (.hoist 14 (.hoist 15 (.alt 3 [15, 14, 10, 9, 6, 5] (.alt 4 [15, 14, 10, 9, 6, 5] (.alt 7 [15, 14, 10, 9] (.alt 8 [15, 14, 10, 9] (.alt 11 [15, 14] (.alt 12 [15, 14] (.alt 13 [15, 14] (.alt 16 [] (.alt 17 [] (.alt 18 [] (.alt 19 [] (.alt 20 [] (.alt 21 [] (.hoist 22 .done) .stop) .stop) .stop) .stop) .stop) .stop) .stop) .stop) .stop) .stop) .stop) .stop) .stop)))))))))) puK (by kernel_rfl) (by kernel_rfl) ?_
  simp only [go_sem, ↓tfi, ↓fti, ↓reduceIte, Cc.cs]
  refine cvl ((rmods_spec (bits .and .i64 x.fl 1041) m).mono ?_)
  rintro r H' m1 hm1 ⟨l1, rfl, rfl⟩
  have q1 : leM m m1 := l1
  have L1 := leM_tr (.inl rfl : leM m m) q1
  simp only [go_sem, ↓tfi, ↓fti, ↓reduceIte, Cc.cs, q1, and_self]
  refine cvl ((rsome_spec _ _ m1).mono ?_)
  rintro r H' m2 hm2 ⟨rfl, rfl, _⟩
  have q2 : leM m1 m2 := .inr hm2
  have L2 := leM_tr L1 q2
  have K2 := leM_tr q1 q2
  simp only [go_sem, ↓tfi, ↓fti, ↓reduceIte, Cc.cs, K2, and_self]
  refine cvl ((hN _ m2 L2).mono ?_)
  rintro r H' m3 hm3 ⟨l3, rfl, rfl⟩
  have q3 : leM m2 m3 := l3
  have L3 := leM_tr L2 q3
  have K3 := leM_tr K2 q3
  simp only [go_sem, ↓tfi, ↓fti, ↓reduceIte, Cc.cs, K3, and_self]
  refine cvl ((rsome_spec _ _ m3).mono ?_)
  rintro r H' m4 hm4 ⟨rfl, rfl, _⟩
  have q4 : leM m3 m4 := .inr hm4
  have L4 := leM_tr L3 q4
  have K4 := leM_tr K3 q4
  simp only [go_sem, ↓tfi, ↓fti, ↓reduceIte, Cc.cs, K4, and_self]
  intro p5_0 c5_0 v5_0 hv5_0 hq5_0 s5_0
  intro p5_1 c5_1 v5_1 hv5_1 hq5_1 s5_1
  intro p5_2 c5_2 v5_2 hv5_2 hq5_2 s5_2
  intro p5_3 c5_3 v5_3 hv5_3 hq5_3 s5_3
  refine ⟨by kernel_rfl, fun a5 c5 w5 hw5 hc5 r5 => FnV_of ((rjoinT_spec HC [modT (bits .and .i64 x.fl 1041), [kw [99, 108, 97, 115, 115], nm1 x.name, kw [101, 120, 116, 101, 110, 100, 115], nm1 x.super], ifsT [105, 109, 112, 108, 101, 109, 101, 110, 116, 115] ifs, [sg [123]]] hHC a5 4 c5 _ w5 rfl r5 ⟨⟨p5_0, c5_0, rfl, hq5_0, Rds_upM (leM_tr (.inr hv5_1) (leM_tr (.inr hv5_2) (leM_tr (.inr hv5_3) (.inr hw5)))) s5_0⟩, ⟨⟨p5_1, c5_1, rfl, hq5_1, Rds_upM (leM_tr (.inr hv5_2) (leM_tr (.inr hv5_3) (.inr hw5))) s5_1⟩, ⟨⟨p5_2, c5_2, rfl, hq5_2, Rds_upM (leM_tr (.inr hv5_3) (.inr hw5)) s5_2⟩, ⟨⟨p5_3, c5_3, rfl, hq5_3, Rds_upM (.inr hw5) s5_3⟩, trivial⟩⟩⟩⟩ (by decide) hj1).mono ?_)⟩
  rintro r H' m5 hm5 ⟨l5, rfl, rfl⟩
  have q5 : leM m4 m5 := leM_tr (leM_tr (.inr hv5_0) (leM_tr (.inr hv5_1) (leM_tr (.inr hv5_2) (leM_tr (.inr hv5_3) (.inr hw5))))) l5
  have L5 := leM_tr L4 q5
  have K5 := leM_tr K4 q5
  simp only [go_sem, ↓tfi, ↓fti, ↓reduceIte, Cc.cs, K5, and_self]
  refine ⟨fun h5 => ?_, fun h5 => ?_⟩
  ·clear hC hHC
   refine WP_draw (.hoist 0 (.hoist 1 (.hoist 2 (.hoist 5 (.hoist 6 (.hoist 10 (.hoist 11 (.alt 3 [11, 10, 6, 5] (.alt 4 [11, 10, 6, 5] (.alt 7 [11, 10] (.alt 8 [11, 10] (.alt 9 [11, 10] (.alt 12 [] (.alt 13 [] (.alt 14 [] (.alt 15 [] (.alt 16 [] (.alt 17 [] (.hoist 18 .done) .stop) .stop) .stop) .stop) .stop) .stop) .stop) .stop) .stop) .stop) .stop)))))))) puK (by kernel_rfl) (by kernel_rfl) ?_
   simp only [go_sem, ↓tfi, ↓fti, ↓reduceIte, Cc.cs]
   refine cvl ((rmods_spec (bits .and .i64 x.fl 1) m5).mono ?_)
   rintro r H' m6 hm6 ⟨l6, rfl, rfl⟩
   have q6 : leM m5 m6 := l6
   have L6 := leM_tr L5 q6
   simp only [go_sem, ↓tfi, ↓fti, ↓reduceIte, Cc.cs, q6, and_self]
   refine cvl ((rsome_spec _ _ m6).mono ?_)
   rintro r H' m7 hm7 ⟨rfl, rfl, _⟩
   have q7 : leM m6 m7 := .inr hm7
   have L7 := leM_tr L6 q7
   have K7 := leM_tr q6 q7
   simp only [go_sem, ↓tfi, ↓fti, ↓reduceIte, Cc.cs, K7, and_self]
   refine cvl ((hN _ m7 L7).mono ?_)
   rintro r H' m8 hm8 ⟨l8, rfl, rfl⟩
   have q8 : leM m7 m8 := l8
   have L8 := leM_tr L7 q8
   have K8 := leM_tr K7 q8
   simp only [go_sem, ↓tfi, ↓fti, ↓reduceIte, Cc.cs, K8, and_self]
   refine cvl ((rsome_spec _ _ m8).mono ?_)
   rintro r H' m9 hm9 ⟨rfl, rfl, _⟩
   have q9 : leM m8 m9 := .inr hm9
   have L9 := leM_tr L8 q9
   have K9 := leM_tr K8 q9
   simp only [go_sem, ↓tfi, ↓fti, ↓reduceIte, Cc.cs, K9, and_self]
   intro p10_0 c10_0 v10_0 hv10_0 hq10_0 s10_0
   intro p10_1 c10_1 v10_1 hv10_1 hq10_1 s10_1
   intro p10_2 c10_2 v10_2 hv10_2 hq10_2 s10_2
   intro p10_3 c10_3 v10_3 hv10_3 hq10_3 s10_3
   refine ⟨by kernel_rfl, fun a10 c10 w10 hw10 hc10 r10 => FnV_of ((rjoinT_spec T [modT (bits .and .i64 x.fl 1), [kw [105, 110, 116, 101, 114, 102, 97, 99, 101], nm1 x.name], ifsT [101, 120, 116, 101, 110, 100, 115] ifs, [sg [123]]] (hD h5) a10 4 c10 _ w10 rfl r10 ⟨⟨p10_0, c10_0, rfl, hq10_0, Rds_upM (leM_tr (.inr hv10_1) (leM_tr (.inr hv10_2) (leM_tr (.inr hv10_3) (.inr hw10)))) s10_0⟩, ⟨⟨p10_1, c10_1, rfl, hq10_1, Rds_upM (leM_tr (.inr hv10_2) (leM_tr (.inr hv10_3) (.inr hw10))) s10_1⟩, ⟨⟨p10_2, c10_2, rfl, hq10_2, Rds_upM (leM_tr (.inr hv10_3) (.inr hw10)) s10_2⟩, ⟨⟨p10_3, c10_3, rfl, hq10_3, Rds_upM (.inr hw10) s10_3⟩, trivial⟩⟩⟩⟩ (by decide) hj2).mono ?_)⟩
   rintro r H' m10 hm10 ⟨l10, rfl, rfl⟩
   have q10 : leM m9 m10 := leM_tr (leM_tr (.inr hv10_0) (leM_tr (.inr hv10_1) (leM_tr (.inr hv10_2) (leM_tr (.inr hv10_3) (.inr hw10))))) l10
   have L10 := leM_tr L9 q10
   have K10 := leM_tr K9 q10
   simp only [go_sem, ↓tfi, ↓fti, ↓reduceIte, Cc.cs, K10, and_self]
   refine WP_loop puK (fun y : Nat × Nat × Mem => ⟨[⟨1, [], .box 0 0⟩, ⟨3, [], .vec (16 + y.2.1) 0⟩, ⟨4, [], .v (.int .i64 y.1)⟩], [], [⟨0, 55, x.cs.map .v⟩], [⟨16 + y.2.1, 0, 79, 4, (T ++ FT y.1).length, tkCells (T ++ FT y.1)⟩], 16 + y.2.1 + 1, y.2.2⟩)
    (fun y => leM m10 y.2.2 ∧ y.1 ≤ x.fn) (fun y => x.fn - y.1) (0, 0, m10) (by kernel_rfl) (fun _ _ => ?_) (fun y hy => ?_) (fun _ => ?_) ?_ ?_ ?_
   ·show (17 : Nat) ≤ 16 + _ + 1
    omega
   ·exact hy.1
   ·simp only [go_sem, ↓tfi, ↓fti, ↓reduceIte, Cc.cs, and_self, true_and]
   ·simp only [go_sem, ↓tfi, ↓fti, ↓reduceIte, Cc.cs, and_self, true_and]
    exact ⟨rfl, by rw [hF0, List.append_nil], by rw [hF0, List.append_nil]⟩
   ·exact ⟨.inl rfl, Nat.zero_le _⟩
   ·rintro ⟨k, e, mm⟩ ⟨h1, h2⟩
    simp only at h1 h2
    have L0 := leM_tr L10 h1
    simp only [go_sem, ↓tfi, ↓fti, ↓reduceIte, Cc.cs, and_self, true_and]
    refine ⟨fun hlt => ?_, fun hge => ?_⟩
    ·have hk : k < fields.length := by clear y1 y2 hBk hN; omega
     have hy := y1 mm L0 k hk
     have hF := hF1 k hk
     clear y1 y2 hBk hN
     refine WP_draw (.hoist 0 (.hoist 1 (.hoist 2 (.hoist 3 (.hoist 4 (.hoist 5 (.hoist 6 (.hoist 8 (.hoist 9 (.hoist 10 (.hoist 11 (.hoist 12 (.hoist 13 (.hoist 15 (.hoist 16 (.hoist 17 (.hoist 18 (.hoist 19 (.hoist 20 (.alt 7 [20, 19, 18, 17, 16, 15, 13, 12, 11, 10, 9, 8, 0] (.alt 14 [20, 19, 18, 17, 16, 15, 0] (.alt 21 [0] (.alt 22 [0] (.alt 23 [0] (.alt 24 [0] (.alt 25 [] (.alt 26 [] (.hoist 27 .done) .stop) .stop) .stop) .stop) .stop) .stop) .stop) .stop)))))))))))))))))))) puK (by kernel_rfl) (by kernel_rfl) ?_
     simp only [go_sem, ↓tfi, ↓fti, ↓reduceIte, Cc.cs, true_and]
     refine ⟨⟨by omega, hlt, hy.1.2⟩, Rd_ptr hy.1.1, .int .i64 fields[k].fl, Rd_sub hy.1.1 0 1 (nbl rfl), ⟨by omega, hlt, hy.1.2⟩, Rd_ptr hy.1.1, [.int .i64 fields[k].ty.dim, .int .u8 fields[k].ty.base, .string (bs fields[k].ty.name)], ⟨Rd_sub hy.1.1 1 3 (nbl rfl), rfl⟩, ⟨by omega, hlt, hy.1.2⟩, Rd_ptr hy.1.1, .string (bs fields[k].name), Rd_sub hy.1.1 4 1 (nbl rfl), ?_⟩
     refine cvl ((rmods_spec fields[k].fl mm).mono ?_)
     rintro r H' m11 hm11 ⟨l11, rfl, rfl⟩
     have q11 : leM mm m11 := l11
     have L11 := leM_tr L0 q11
     simp only [go_sem, ↓tfi, ↓fti, ↓reduceIte, Cc.cs, true_and, q11, and_self]
     refine cvl ((rkind_spec fields[k].ty.dim fields[k].ty.base fields[k].ty.name m11 hy.2).mono ?_)
     rintro r H' m12 hm12 ⟨l12, rfl, rfl⟩
     have q12 : leM m11 m12 := l12
     have L12 := leM_tr L11 q12
     have K12 := leM_tr q11 q12
     simp only [go_sem, ↓tfi, ↓fti, ↓reduceIte, Cc.cs, true_and, K12, and_self]
     refine cvl ((rsome_spec _ _ m12).mono ?_)
     rintro r H' m13 hm13 ⟨rfl, rfl, _⟩
     have q13 : leM m12 m13 := .inr hm13
     have L13 := leM_tr L12 q13
     have K13 := leM_tr K12 q13
     simp only [go_sem, ↓tfi, ↓fti, ↓reduceIte, Cc.cs, true_and, K13, and_self]
     have hTF : List.flatten [T ++ FT k, modT fields[k].fl, typT fields[k].ty.dim fields[k].ty.base fields[k].ty.name, [nm1 fields[k].name, sg [59]]] = T ++ FT (k + 1) := by rw [hF.1]; simp [fieldU]
     intro p14_0 c14_0 v14_0 hv14_0 hq14_0 s14_0
     intro p14_1 c14_1 v14_1 hv14_1 hq14_1 s14_1
     intro p14_2 c14_2 v14_2 hv14_2 hq14_2 s14_2
     intro p14_3 c14_3 v14_3 hv14_3 hq14_3 s14_3
     refine ⟨by kernel_rfl, fun a14 c14 w14 hw14 hc14 r14 => FnV_of ((rjoinT_spec (T ++ FT (k + 1)) [T ++ FT k, modT fields[k].fl, typT fields[k].ty.dim fields[k].ty.base fields[k].ty.name, [nm1 fields[k].name, sg [59]]] hTF a14 4 c14 _ w14 rfl r14 ⟨⟨p14_0, c14_0, rfl, hq14_0, Rds_upM (leM_tr (.inr hv14_1) (leM_tr (.inr hv14_2) (leM_tr (.inr hv14_3) (.inr hw14)))) s14_0⟩, ⟨⟨p14_1, c14_1, rfl, hq14_1, Rds_upM (leM_tr (.inr hv14_2) (leM_tr (.inr hv14_3) (.inr hw14))) s14_1⟩, ⟨⟨p14_2, c14_2, rfl, hq14_2, Rds_upM (leM_tr (.inr hv14_3) (.inr hw14)) s14_2⟩, ⟨⟨p14_3, c14_3, rfl, hq14_3, Rds_upM (.inr hw14) s14_3⟩, trivial⟩⟩⟩⟩ (by decide) (by rw [Lla]; simp only [cap]; omega)).mono ?_)⟩
     rintro r H' m14 hm14 ⟨l14, rfl, rfl⟩
     have q14 : leM m13 m14 := leM_tr (leM_tr (.inr hv14_0) (leM_tr (.inr hv14_1) (leM_tr (.inr hv14_2) (leM_tr (.inr hv14_3) (.inr hw14))))) l14
     have L14 := leM_tr L13 q14
     have K14 := leM_tr K13 q14
     simp only [go_sem, ↓tfi, ↓fti, ↓reduceIte, Cc.cs, true_and, K14, and_self]
     exact ⟨by unfold I64; simp only [big] at bf; omega, (k + 1, e + 6, m14), ⟨⟨by simp only [Nat.add_assoc], by simp⟩, by simp only; rw [if_pos (by omega), Nat.add_assoc], .inl rfl⟩, ⟨leM_tr h1 K14, by simp only; omega⟩, by simp only; omega⟩
    ·have hFk := hF2 k (by clear y1 y2 hBk hN; omega)
     clear y1 hN
     refine ⟨fun hs0 => ?_, fun hs0 => ?_⟩
     ·have hs : 0 < init.length := by clear y2 hBk; omega
      refine WP_draw (.hoist 0 (.hoist 4 (.hoist 5 (.alt 1 [5, 4, 0] (.alt 2 [5, 4, 0] (.alt 3 [5, 4, 0] (.alt 6 [0] (.alt 7 [] (.alt 8 [] (.hoist 9 .done) .stop) .stop) .stop) .stop) .stop) .stop)))) puK (by kernel_rfl) (by kernel_rfl) ?_
      simp only [go_sem, ↓tfi, ↓fti, ↓reduceIte, Cc.cs, true_and]
      refine cvl ((rsome_spec _ _ mm).mono ?_)
      rintro r H' m11 hm11 ⟨rfl, rfl, _⟩
      have q11 : leM mm m11 := .inr hm11
      have L11 := leM_tr L0 q11
      simp only [go_sem, ↓tfi, ↓fti, ↓reduceIte, Cc.cs, true_and, q11, and_self]
      refine cvl ((hBk hs m11 L11).mono ?_)
      rintro r H' m12 hm12 ⟨l12, rfl, rfl⟩
      have q12 : leM m11 m12 := l12
      have L12 := leM_tr L11 q12
      have K12 := leM_tr q11 q12
      simp only [go_sem, ↓tfi, ↓fti, ↓reduceIte, Cc.cs, true_and, K12, and_self]
      clear hBk
      rw [← hFk, if_pos hs] at hsz hcls
      simp only [Lla, Llc, Lln] at hsz
      intro p13_0 c13_0 v13_0 hv13_0 hq13_0 s13_0
      intro p13_1 c13_1 v13_1 hv13_1 hq13_1 s13_1
      intro p13_2 c13_2 v13_2 hv13_2 hq13_2 s13_2
      refine ⟨by kernel_rfl, fun a13 c13 w13 hw13 hc13 r13 => FnV_of ((rjoinT_spec (T ++ FT k ++ ([kw [115, 116, 97, 116, 105, 99]] ++ brT (stmtsT init))) [T ++ FT k, [kw [115, 116, 97, 116, 105, 99]], brT (stmtsT init)] (by simp) a13 3 c13 _ w13 rfl r13 ⟨⟨p13_0, c13_0, rfl, hq13_0, Rds_upM (leM_tr (.inr hv13_1) (leM_tr (.inr hv13_2) (.inr hw13))) s13_0⟩, ⟨⟨p13_1, c13_1, rfl, hq13_1, Rds_upM (leM_tr (.inr hv13_2) (.inr hw13)) s13_1⟩, ⟨⟨p13_2, c13_2, rfl, hq13_2, Rds_upM (.inr hw13) s13_2⟩, trivial⟩⟩⟩ (by decide) (by simp only [Lla, Llc, Lln, cap]; omega)).mono ?_)⟩
      rintro r H' m13 hm13 ⟨l13, rfl, rfl⟩
      have q13 : leM m12 m13 := leM_tr (leM_tr (.inr hv13_0) (leM_tr (.inr hv13_1) (leM_tr (.inr hv13_2) (.inr hw13)))) l13
      have L13 := leM_tr L12 q13
      have K13 := leM_tr K12 q13
      simp only [go_sem, ↓tfi, ↓fti, ↓reduceIte, Cc.cs, true_and, K13, and_self]
      refine WP_loop puK (fun y : Nat × Nat × Mem => ⟨[⟨1, [], .box 0 0⟩, ⟨3, [], .vec (16 + y.2.1) 0⟩, ⟨5, [], .v (.int .i64 y.1)⟩], [], [⟨0, 55, x.cs.map .v⟩], [⟨16 + y.2.1, 0, 79, 4, ((T ++ FT k ++ ([kw [115, 116, 97, 116, 105, 99]] ++ brT (stmtsT init))) ++ MT y.1).length, tkCells ((T ++ FT k ++ ([kw [115, 116, 97, 116, 105, 99]] ++ brT (stmtsT init))) ++ MT y.1)⟩], 16 + y.2.1 + 1, y.2.2⟩)
       (fun y => leM m13 y.2.2 ∧ y.1 ≤ x.ml ∧ e + 5 ≤ y.2.1) (fun y => x.ml - y.1) (0, e + 5, m13) (by kernel_rfl) (fun y hy => ?_) (fun y hy => ?_) (fun _ => ?_) ?_ ?_ ?_
      ·have := hy.2.2
       show 16 + (e + 5) + 1 ≤ 16 + y.2.1 + 1
       omega
      ·exact hy.1
      ·simp only [go_sem, ↓tfi, ↓fti, ↓reduceIte, Cc.cs, and_self, true_and]
      ·simp only [go_sem, ↓tfi, ↓fti, ↓reduceIte, Cc.cs, and_self, true_and]
       exact ⟨⟨by simp only [Nat.add_assoc], rfl⟩, by rw [if_pos (by omega), hM0, List.append_nil, Nat.add_assoc]⟩
      ·exact ⟨.inl rfl, Nat.zero_le _, Nnr _⟩
      ·rintro ⟨i, e2, mi⟩ ⟨g1, g2, g3⟩
       simp only at g1 g2 g3
       have LM := leM_tr L13 g1
       simp only [go_sem, ↓tfi, ↓fti, ↓reduceIte, Cc.cs, and_self, true_and]
       refine ⟨fun hlt2 => ?_, fun hge2 => ?_⟩
       ·have hi : i < methods.length := by clear y2; omega
        have hMi := hM1 i hi
        refine Exists.elim (y2 mi LM i hi) fun X hX => ⟨⟨by clear y2 hX; omega, hlt2, hX.1.2⟩, X.cs, ⟨hX.1.1, rfl⟩, ?_⟩
        have ha := hX.2
        clear y2 hX
        simp only [go_sem, ↓tfi, ↓fti, ↓reduceIte, Mc.cs, Cc.cs, true_and]
        refine cvl ((FnH_den (ha) (fun V => rfl)).mono ?_)
        rintro r H' m14 hm14 ⟨l14, rfl, rfl⟩
        have q14 : leM mi m14 := l14
        have L14 := leM_tr LM q14
        simp only [go_sem, ↓tfi, ↓fti, ↓reduceIte, Cc.cs, true_and, q14, and_self]
        clear ha
        have hTM : List.flatten [(T ++ FT k ++ ([kw [115, 116, 97, 116, 105, 99]] ++ brT (stmtsT init))) ++ MT i, methodT methods[i]] = (T ++ FT k ++ ([kw [115, 116, 97, 116, 105, 99]] ++ brT (stmtsT init))) ++ MT (i + 1) := by rw [hMi.1]; simp
        intro p15_0 c15_0 v15_0 hv15_0 hq15_0 s15_0
        intro p15_1 c15_1 v15_1 hv15_1 hq15_1 s15_1
        refine ⟨by kernel_rfl, fun a15 c15 w15 hw15 hc15 r15 => FnV_of ((rjoinT_spec ((T ++ FT k ++ ([kw [115, 116, 97, 116, 105, 99]] ++ brT (stmtsT init))) ++ MT (i + 1)) [(T ++ FT k ++ ([kw [115, 116, 97, 116, 105, 99]] ++ brT (stmtsT init))) ++ MT i, methodT methods[i]] hTM a15 2 c15 _ w15 rfl r15 ⟨⟨p15_0, c15_0, rfl, hq15_0, Rds_upM (leM_tr (.inr hv15_1) (.inr hw15)) s15_0⟩, ⟨⟨p15_1, c15_1, rfl, hq15_1, Rds_upM (.inr hw15) s15_1⟩, trivial⟩⟩ (by decide) (by simp only [Lla, Llc, Lln, cap]; omega)).mono ?_)⟩
        rintro r H' m15 hm15 ⟨l15, rfl, rfl⟩
        have q15 : leM m14 m15 := leM_tr (leM_tr (.inr hv15_0) (leM_tr (.inr hv15_1) (.inr hw15))) l15
        have L15 := leM_tr L14 q15
        have K15 := leM_tr q14 q15
        simp only [go_sem, ↓tfi, ↓fti, ↓reduceIte, Cc.cs, true_and, K15, and_self]
        exact ⟨by unfold I64; simp only [big] at bm; omega, (i + 1, e2 + 3, m15), ⟨⟨by simp only [Nat.add_assoc], by simp⟩, by simp only; rw [if_pos (by omega), Nat.add_assoc], .inl rfl⟩, ⟨leM_tr g1 K15, by simp only; omega, by simp only; omega⟩, by simp only; omega⟩
       ·rw [← hM2 i (by clear y2; omega)] at hsz hcls
        clear y2
        have hcl : clsT ⟨x.fl, x.name, x.super, ifs, fields, methods, init⟩ = ((T ++ FT k ++ ([kw [115, 116, 97, 116, 105, 99]] ++ brT (stmtsT init))) ++ MT i) ++ [sg [125]] := by rw [hcls]
        rw [hcl, Lla (bs := [sg [125]]), tkCells_app _ [sg [125]]]
        exact ⟨⟨by simp only [Lla, Llc, Lln]; omega, by simp only [Lla, Llc, Lln, maxLen]; omega⟩, LM, _, _, rfl, rfl⟩
     ·have hs : ¬ 0 < init.length := by clear y2 hBk; omega
      clear hBk
      rw [← hFk, if_neg hs] at hsz hcls
      simp only [Lla, Lln, List.append_nil] at hsz hcls
      refine WP_loop puK (fun y : Nat × Nat × Mem => ⟨[⟨1, [], .box 0 0⟩, ⟨3, [], .vec (16 + y.2.1) 0⟩, ⟨5, [], .v (.int .i64 y.1)⟩], [], [⟨0, 55, x.cs.map .v⟩], [⟨16 + y.2.1, 0, 79, 4, ((T ++ FT k) ++ MT y.1).length, tkCells ((T ++ FT k) ++ MT y.1)⟩], 16 + y.2.1 + 1, y.2.2⟩)
       (fun y => leM mm y.2.2 ∧ y.1 ≤ x.ml ∧ e ≤ y.2.1) (fun y => x.ml - y.1) (0, e, mm) (by kernel_rfl) (fun y hy => ?_) (fun y hy => ?_) (fun _ => ?_) ?_ ?_ ?_
      ·have := hy.2.2
       show 16 + (e) + 1 ≤ 16 + y.2.1 + 1
       omega
      ·exact hy.1
      ·simp only [go_sem, ↓tfi, ↓fti, ↓reduceIte, Cc.cs, and_self, true_and]
      ·simp only [go_sem, ↓tfi, ↓fti, ↓reduceIte, Cc.cs, and_self, true_and]
       exact ⟨rfl, by rw [hM0, List.append_nil], by rw [hM0, List.append_nil]⟩
      ·exact ⟨.inl rfl, Nat.zero_le _, Nnr _⟩
      ·rintro ⟨i, e2, mi⟩ ⟨g1, g2, g3⟩
       simp only at g1 g2 g3
       have LM := leM_tr L0 g1
       simp only [go_sem, ↓tfi, ↓fti, ↓reduceIte, Cc.cs, and_self, true_and]
       refine ⟨fun hlt2 => ?_, fun hge2 => ?_⟩
       ·have hi : i < methods.length := by clear y2; omega
        have hMi := hM1 i hi
        refine Exists.elim (y2 mi LM i hi) fun X hX => ⟨⟨by clear y2 hX; omega, hlt2, hX.1.2⟩, X.cs, ⟨hX.1.1, rfl⟩, ?_⟩
        have ha := hX.2
        clear y2 hX
        simp only [go_sem, ↓tfi, ↓fti, ↓reduceIte, Mc.cs, Cc.cs, true_and]
        refine cvl ((FnH_den (ha) (fun V => rfl)).mono ?_)
        rintro r H' m11 hm11 ⟨l11, rfl, rfl⟩
        have q11 : leM mi m11 := l11
        have L11 := leM_tr LM q11
        simp only [go_sem, ↓tfi, ↓fti, ↓reduceIte, Cc.cs, true_and, q11, and_self]
        clear ha
        have hTM : List.flatten [(T ++ FT k) ++ MT i, methodT methods[i]] = (T ++ FT k) ++ MT (i + 1) := by rw [hMi.1]; simp
        intro p12_0 c12_0 v12_0 hv12_0 hq12_0 s12_0
        intro p12_1 c12_1 v12_1 hv12_1 hq12_1 s12_1
        refine ⟨by kernel_rfl, fun a12 c12 w12 hw12 hc12 r12 => FnV_of ((rjoinT_spec ((T ++ FT k) ++ MT (i + 1)) [(T ++ FT k) ++ MT i, methodT methods[i]] hTM a12 2 c12 _ w12 rfl r12 ⟨⟨p12_0, c12_0, rfl, hq12_0, Rds_upM (leM_tr (.inr hv12_1) (.inr hw12)) s12_0⟩, ⟨⟨p12_1, c12_1, rfl, hq12_1, Rds_upM (.inr hw12) s12_1⟩, trivial⟩⟩ (by decide) (by simp only [Lla, Llc, Lln, cap]; omega)).mono ?_)⟩
        rintro r H' m12 hm12 ⟨l12, rfl, rfl⟩
        have q12 : leM m11 m12 := leM_tr (leM_tr (.inr hv12_0) (leM_tr (.inr hv12_1) (.inr hw12))) l12
        have L12 := leM_tr L11 q12
        have K12 := leM_tr q11 q12
        simp only [go_sem, ↓tfi, ↓fti, ↓reduceIte, Cc.cs, true_and, K12, and_self]
        exact ⟨by unfold I64; simp only [big] at bm; omega, (i + 1, e2 + 3, m12), ⟨⟨by simp only [Nat.add_assoc], by simp⟩, by simp only; rw [if_pos (by omega), Nat.add_assoc], .inl rfl⟩, ⟨leM_tr g1 K12, by simp only; omega, by simp only; omega⟩, by simp only; omega⟩
       ·rw [← hM2 i (by clear y2; omega)] at hsz hcls
        clear y2
        have hcl : clsT ⟨x.fl, x.name, x.super, ifs, fields, methods, init⟩ = ((T ++ FT k) ++ MT i) ++ [sg [125]] := by rw [hcls]
        rw [hcl, Lla (bs := [sg [125]]), tkCells_app _ [sg [125]]]
        exact ⟨⟨by simp only [Lla, Llc, Lln]; omega, by simp only [Lla, Llc, Lln, maxLen]; omega⟩, LM, _, _, rfl, rfl⟩
  ·have hT0 := (hC h5).symm
   subst hT0
   clear hC hHC hD
   refine WP_loop puK (fun y : Nat × Nat × Mem => ⟨[⟨1, [], .box 0 0⟩, ⟨3, [], .vec (8 + y.2.1) 0⟩, ⟨4, [], .v (.int .i64 y.1)⟩], [], [⟨0, 55, x.cs.map .v⟩], [⟨8 + y.2.1, 0, 79, 4, (T ++ FT y.1).length, tkCells (T ++ FT y.1)⟩], 8 + y.2.1 + 1, y.2.2⟩)
    (fun y => leM m5 y.2.2 ∧ y.1 ≤ x.fn) (fun y => x.fn - y.1) (0, 0, m5) (by kernel_rfl) (fun _ _ => ?_) (fun y hy => ?_) (fun _ => ?_) ?_ ?_ ?_
   ·show (9 : Nat) ≤ 8 + _ + 1
    omega
   ·exact hy.1
   ·simp only [go_sem, ↓tfi, ↓fti, ↓reduceIte, Cc.cs, and_self, true_and]
   ·simp only [go_sem, ↓tfi, ↓fti, ↓reduceIte, Cc.cs, and_self, true_and]
    exact ⟨rfl, by rw [hF0, List.append_nil], by rw [hF0, List.append_nil]⟩
   ·exact ⟨.inl rfl, Nat.zero_le _⟩
   ·rintro ⟨k, e, mm⟩ ⟨h1, h2⟩
    simp only at h1 h2
    have L0 := leM_tr L5 h1
    simp only [go_sem, ↓tfi, ↓fti, ↓reduceIte, Cc.cs, and_self, true_and]
    refine ⟨fun hlt => ?_, fun hge => ?_⟩
    ·have hk : k < fields.length := by clear y1 y2 hBk hN; omega
     have hy := y1 mm L0 k hk
     have hF := hF1 k hk
     clear y1 y2 hBk hN
     refine WP_draw (.hoist 0 (.hoist 1 (.hoist 2 (.hoist 3 (.hoist 4 (.hoist 5 (.hoist 6 (.hoist 8 (.hoist 9 (.hoist 10 (.hoist 11 (.hoist 12 (.hoist 13 (.hoist 15 (.hoist 16 (.hoist 17 (.hoist 18 (.hoist 19 (.hoist 20 (.alt 7 [20, 19, 18, 17, 16, 15, 13, 12, 11, 10, 9, 8, 0] (.alt 14 [20, 19, 18, 17, 16, 15, 0] (.alt 21 [0] (.alt 22 [0] (.alt 23 [0] (.alt 24 [0] (.alt 25 [] (.alt 26 [] (.hoist 27 .done) .stop) .stop) .stop) .stop) .stop) .stop) .stop) .stop)))))))))))))))))))) puK (by kernel_rfl) (by kernel_rfl) ?_
     simp only [go_sem, ↓tfi, ↓fti, ↓reduceIte, Cc.cs, true_and]
     refine ⟨⟨by omega, hlt, hy.1.2⟩, Rd_ptr hy.1.1, .int .i64 fields[k].fl, Rd_sub hy.1.1 0 1 (nbl rfl), ⟨by omega, hlt, hy.1.2⟩, Rd_ptr hy.1.1, [.int .i64 fields[k].ty.dim, .int .u8 fields[k].ty.base, .string (bs fields[k].ty.name)], ⟨Rd_sub hy.1.1 1 3 (nbl rfl), rfl⟩, ⟨by omega, hlt, hy.1.2⟩, Rd_ptr hy.1.1, .string (bs fields[k].name), Rd_sub hy.1.1 4 1 (nbl rfl), ?_⟩
     refine cvl ((rmods_spec fields[k].fl mm).mono ?_)
     rintro r H' m6 hm6 ⟨l6, rfl, rfl⟩
     have q6 : leM mm m6 := l6
     have L6 := leM_tr L0 q6
     simp only [go_sem, ↓tfi, ↓fti, ↓reduceIte, Cc.cs, true_and, q6, and_self]
     refine cvl ((rkind_spec fields[k].ty.dim fields[k].ty.base fields[k].ty.name m6 hy.2).mono ?_)
     rintro r H' m7 hm7 ⟨l7, rfl, rfl⟩
     have q7 : leM m6 m7 := l7
     have L7 := leM_tr L6 q7
     have K7 := leM_tr q6 q7
     simp only [go_sem, ↓tfi, ↓fti, ↓reduceIte, Cc.cs, true_and, K7, and_self]
     refine cvl ((rsome_spec _ _ m7).mono ?_)
     rintro r H' m8 hm8 ⟨rfl, rfl, _⟩
     have q8 : leM m7 m8 := .inr hm8
     have L8 := leM_tr L7 q8
     have K8 := leM_tr K7 q8
     simp only [go_sem, ↓tfi, ↓fti, ↓reduceIte, Cc.cs, true_and, K8, and_self]
     have hTF : List.flatten [T ++ FT k, modT fields[k].fl, typT fields[k].ty.dim fields[k].ty.base fields[k].ty.name, [nm1 fields[k].name, sg [59]]] = T ++ FT (k + 1) := by rw [hF.1]; simp [fieldU]
     intro p9_0 c9_0 v9_0 hv9_0 hq9_0 s9_0
     intro p9_1 c9_1 v9_1 hv9_1 hq9_1 s9_1
     intro p9_2 c9_2 v9_2 hv9_2 hq9_2 s9_2
     intro p9_3 c9_3 v9_3 hv9_3 hq9_3 s9_3
     refine ⟨by kernel_rfl, fun a9 c9 w9 hw9 hc9 r9 => FnV_of ((rjoinT_spec (T ++ FT (k + 1)) [T ++ FT k, modT fields[k].fl, typT fields[k].ty.dim fields[k].ty.base fields[k].ty.name, [nm1 fields[k].name, sg [59]]] hTF a9 4 c9 _ w9 rfl r9 ⟨⟨p9_0, c9_0, rfl, hq9_0, Rds_upM (leM_tr (.inr hv9_1) (leM_tr (.inr hv9_2) (leM_tr (.inr hv9_3) (.inr hw9)))) s9_0⟩, ⟨⟨p9_1, c9_1, rfl, hq9_1, Rds_upM (leM_tr (.inr hv9_2) (leM_tr (.inr hv9_3) (.inr hw9))) s9_1⟩, ⟨⟨p9_2, c9_2, rfl, hq9_2, Rds_upM (leM_tr (.inr hv9_3) (.inr hw9)) s9_2⟩, ⟨⟨p9_3, c9_3, rfl, hq9_3, Rds_upM (.inr hw9) s9_3⟩, trivial⟩⟩⟩⟩ (by decide) (by rw [Lla]; simp only [cap]; omega)).mono ?_)⟩
     rintro r H' m9 hm9 ⟨l9, rfl, rfl⟩
     have q9 : leM m8 m9 := leM_tr (leM_tr (.inr hv9_0) (leM_tr (.inr hv9_1) (leM_tr (.inr hv9_2) (leM_tr (.inr hv9_3) (.inr hw9))))) l9
     have L9 := leM_tr L8 q9
     have K9 := leM_tr K8 q9
     simp only [go_sem, ↓tfi, ↓fti, ↓reduceIte, Cc.cs, true_and, K9, and_self]
     exact ⟨by unfold I64; simp only [big] at bf; omega, (k + 1, e + 6, m9), ⟨⟨by simp only [Nat.add_assoc], by simp⟩, by simp only; rw [if_pos (by omega), Nat.add_assoc], .inl rfl⟩, ⟨leM_tr h1 K9, by simp only; omega⟩, by simp only; omega⟩
    ·have hFk := hF2 k (by clear y1 y2 hBk hN; omega)
     clear y1 hN
     refine ⟨fun hs0 => ?_, fun hs0 => ?_⟩
     ·have hs : 0 < init.length := by clear y2 hBk; omega
      refine WP_draw (.hoist 0 (.hoist 4 (.hoist 5 (.alt 1 [5, 4, 0] (.alt 2 [5, 4, 0] (.alt 3 [5, 4, 0] (.alt 6 [0] (.alt 7 [] (.alt 8 [] (.hoist 9 .done) .stop) .stop) .stop) .stop) .stop) .stop)))) puK (by kernel_rfl) (by kernel_rfl) ?_
      simp only [go_sem, ↓tfi, ↓fti, ↓reduceIte, Cc.cs, true_and]
      refine cvl ((rsome_spec _ _ mm).mono ?_)
      rintro r H' m6 hm6 ⟨rfl, rfl, _⟩
      have q6 : leM mm m6 := .inr hm6
      have L6 := leM_tr L0 q6
      simp only [go_sem, ↓tfi, ↓fti, ↓reduceIte, Cc.cs, true_and, q6, and_self]
      refine cvl ((hBk hs m6 L6).mono ?_)
      rintro r H' m7 hm7 ⟨l7, rfl, rfl⟩
      have q7 : leM m6 m7 := l7
      have L7 := leM_tr L6 q7
      have K7 := leM_tr q6 q7
      simp only [go_sem, ↓tfi, ↓fti, ↓reduceIte, Cc.cs, true_and, K7, and_self]
      clear hBk
      rw [← hFk, if_pos hs] at hsz hcls
      simp only [Lla, Llc, Lln] at hsz
      intro p8_0 c8_0 v8_0 hv8_0 hq8_0 s8_0
      intro p8_1 c8_1 v8_1 hv8_1 hq8_1 s8_1
      intro p8_2 c8_2 v8_2 hv8_2 hq8_2 s8_2
      refine ⟨by kernel_rfl, fun a8 c8 w8 hw8 hc8 r8 => FnV_of ((rjoinT_spec (T ++ FT k ++ ([kw [115, 116, 97, 116, 105, 99]] ++ brT (stmtsT init))) [T ++ FT k, [kw [115, 116, 97, 116, 105, 99]], brT (stmtsT init)] (by simp) a8 3 c8 _ w8 rfl r8 ⟨⟨p8_0, c8_0, rfl, hq8_0, Rds_upM (leM_tr (.inr hv8_1) (leM_tr (.inr hv8_2) (.inr hw8))) s8_0⟩, ⟨⟨p8_1, c8_1, rfl, hq8_1, Rds_upM (leM_tr (.inr hv8_2) (.inr hw8)) s8_1⟩, ⟨⟨p8_2, c8_2, rfl, hq8_2, Rds_upM (.inr hw8) s8_2⟩, trivial⟩⟩⟩ (by decide) (by simp only [Lla, Llc, Lln, cap]; omega)).mono ?_)⟩
      rintro r H' m8 hm8 ⟨l8, rfl, rfl⟩
      have q8 : leM m7 m8 := leM_tr (leM_tr (.inr hv8_0) (leM_tr (.inr hv8_1) (leM_tr (.inr hv8_2) (.inr hw8)))) l8
      have L8 := leM_tr L7 q8
      have K8 := leM_tr K7 q8
      simp only [go_sem, ↓tfi, ↓fti, ↓reduceIte, Cc.cs, true_and, K8, and_self]
      refine WP_loop puK (fun y : Nat × Nat × Mem => ⟨[⟨1, [], .box 0 0⟩, ⟨3, [], .vec (8 + y.2.1) 0⟩, ⟨5, [], .v (.int .i64 y.1)⟩], [], [⟨0, 55, x.cs.map .v⟩], [⟨8 + y.2.1, 0, 79, 4, ((T ++ FT k ++ ([kw [115, 116, 97, 116, 105, 99]] ++ brT (stmtsT init))) ++ MT y.1).length, tkCells ((T ++ FT k ++ ([kw [115, 116, 97, 116, 105, 99]] ++ brT (stmtsT init))) ++ MT y.1)⟩], 8 + y.2.1 + 1, y.2.2⟩)
       (fun y => leM m8 y.2.2 ∧ y.1 ≤ x.ml ∧ e + 5 ≤ y.2.1) (fun y => x.ml - y.1) (0, e + 5, m8) (by kernel_rfl) (fun y hy => ?_) (fun y hy => ?_) (fun _ => ?_) ?_ ?_ ?_
      ·have := hy.2.2
       show 8 + (e + 5) + 1 ≤ 8 + y.2.1 + 1
       omega
      ·exact hy.1
      ·simp only [go_sem, ↓tfi, ↓fti, ↓reduceIte, Cc.cs, and_self, true_and]
      ·simp only [go_sem, ↓tfi, ↓fti, ↓reduceIte, Cc.cs, and_self, true_and]
       exact ⟨⟨by simp only [Nat.add_assoc], rfl⟩, by rw [if_pos (by omega), hM0, List.append_nil, Nat.add_assoc]⟩
      ·exact ⟨.inl rfl, Nat.zero_le _, Nnr _⟩
      ·rintro ⟨i, e2, mi⟩ ⟨g1, g2, g3⟩
       simp only at g1 g2 g3
       have LM := leM_tr L8 g1
       simp only [go_sem, ↓tfi, ↓fti, ↓reduceIte, Cc.cs, and_self, true_and]
       refine ⟨fun hlt2 => ?_, fun hge2 => ?_⟩
       ·have hi : i < methods.length := by clear y2; omega
        have hMi := hM1 i hi
        refine Exists.elim (y2 mi LM i hi) fun X hX => ⟨⟨by clear y2 hX; omega, hlt2, hX.1.2⟩, X.cs, ⟨hX.1.1, rfl⟩, ?_⟩
        have ha := hX.2
        clear y2 hX
        simp only [go_sem, ↓tfi, ↓fti, ↓reduceIte, Mc.cs, Cc.cs, true_and]
        refine cvl ((FnH_den (ha) (fun V => rfl)).mono ?_)
        rintro r H' m9 hm9 ⟨l9, rfl, rfl⟩
        have q9 : leM mi m9 := l9
        have L9 := leM_tr LM q9
        simp only [go_sem, ↓tfi, ↓fti, ↓reduceIte, Cc.cs, true_and, q9, and_self]
        clear ha
        have hTM : List.flatten [(T ++ FT k ++ ([kw [115, 116, 97, 116, 105, 99]] ++ brT (stmtsT init))) ++ MT i, methodT methods[i]] = (T ++ FT k ++ ([kw [115, 116, 97, 116, 105, 99]] ++ brT (stmtsT init))) ++ MT (i + 1) := by rw [hMi.1]; simp
        intro p10_0 c10_0 v10_0 hv10_0 hq10_0 s10_0
        intro p10_1 c10_1 v10_1 hv10_1 hq10_1 s10_1
        refine ⟨by kernel_rfl, fun a10 c10 w10 hw10 hc10 r10 => FnV_of ((rjoinT_spec ((T ++ FT k ++ ([kw [115, 116, 97, 116, 105, 99]] ++ brT (stmtsT init))) ++ MT (i + 1)) [(T ++ FT k ++ ([kw [115, 116, 97, 116, 105, 99]] ++ brT (stmtsT init))) ++ MT i, methodT methods[i]] hTM a10 2 c10 _ w10 rfl r10 ⟨⟨p10_0, c10_0, rfl, hq10_0, Rds_upM (leM_tr (.inr hv10_1) (.inr hw10)) s10_0⟩, ⟨⟨p10_1, c10_1, rfl, hq10_1, Rds_upM (.inr hw10) s10_1⟩, trivial⟩⟩ (by decide) (by simp only [Lla, Llc, Lln, cap]; omega)).mono ?_)⟩
        rintro r H' m10 hm10 ⟨l10, rfl, rfl⟩
        have q10 : leM m9 m10 := leM_tr (leM_tr (.inr hv10_0) (leM_tr (.inr hv10_1) (.inr hw10))) l10
        have L10 := leM_tr L9 q10
        have K10 := leM_tr q9 q10
        simp only [go_sem, ↓tfi, ↓fti, ↓reduceIte, Cc.cs, true_and, K10, and_self]
        exact ⟨by unfold I64; simp only [big] at bm; omega, (i + 1, e2 + 3, m10), ⟨⟨by simp only [Nat.add_assoc], by simp⟩, by simp only; rw [if_pos (by omega), Nat.add_assoc], .inl rfl⟩, ⟨leM_tr g1 K10, by simp only; omega, by simp only; omega⟩, by simp only; omega⟩
       ·rw [← hM2 i (by clear y2; omega)] at hsz hcls
        clear y2
        have hcl : clsT ⟨x.fl, x.name, x.super, ifs, fields, methods, init⟩ = ((T ++ FT k ++ ([kw [115, 116, 97, 116, 105, 99]] ++ brT (stmtsT init))) ++ MT i) ++ [sg [125]] := by rw [hcls]
        rw [hcl, Lla (bs := [sg [125]]), tkCells_app _ [sg [125]]]
        exact ⟨⟨by simp only [Lla, Llc, Lln]; omega, by simp only [Lla, Llc, Lln, maxLen]; omega⟩, LM, _, _, rfl, rfl⟩
     ·have hs : ¬ 0 < init.length := by clear y2 hBk; omega
      clear hBk
      rw [← hFk, if_neg hs] at hsz hcls
      simp only [Lla, Lln, List.append_nil] at hsz hcls
      refine WP_loop puK (fun y : Nat × Nat × Mem => ⟨[⟨1, [], .box 0 0⟩, ⟨3, [], .vec (8 + y.2.1) 0⟩, ⟨5, [], .v (.int .i64 y.1)⟩], [], [⟨0, 55, x.cs.map .v⟩], [⟨8 + y.2.1, 0, 79, 4, ((T ++ FT k) ++ MT y.1).length, tkCells ((T ++ FT k) ++ MT y.1)⟩], 8 + y.2.1 + 1, y.2.2⟩)
       (fun y => leM mm y.2.2 ∧ y.1 ≤ x.ml ∧ e ≤ y.2.1) (fun y => x.ml - y.1) (0, e, mm) (by kernel_rfl) (fun y hy => ?_) (fun y hy => ?_) (fun _ => ?_) ?_ ?_ ?_
      ·have := hy.2.2
       show 8 + (e) + 1 ≤ 8 + y.2.1 + 1
       omega
      ·exact hy.1
      ·simp only [go_sem, ↓tfi, ↓fti, ↓reduceIte, Cc.cs, and_self, true_and]
      ·simp only [go_sem, ↓tfi, ↓fti, ↓reduceIte, Cc.cs, and_self, true_and]
       exact ⟨rfl, by rw [hM0, List.append_nil], by rw [hM0, List.append_nil]⟩
      ·exact ⟨.inl rfl, Nat.zero_le _, Nnr _⟩
      ·rintro ⟨i, e2, mi⟩ ⟨g1, g2, g3⟩
       simp only at g1 g2 g3
       have LM := leM_tr L0 g1
       simp only [go_sem, ↓tfi, ↓fti, ↓reduceIte, Cc.cs, and_self, true_and]
       refine ⟨fun hlt2 => ?_, fun hge2 => ?_⟩
       ·have hi : i < methods.length := by clear y2; omega
        have hMi := hM1 i hi
        refine Exists.elim (y2 mi LM i hi) fun X hX => ⟨⟨by clear y2 hX; omega, hlt2, hX.1.2⟩, X.cs, ⟨hX.1.1, rfl⟩, ?_⟩
        have ha := hX.2
        clear y2 hX
        simp only [go_sem, ↓tfi, ↓fti, ↓reduceIte, Mc.cs, Cc.cs, true_and]
        refine cvl ((FnH_den (ha) (fun V => rfl)).mono ?_)
        rintro r H' m6 hm6 ⟨l6, rfl, rfl⟩
        have q6 : leM mi m6 := l6
        have L6 := leM_tr LM q6
        simp only [go_sem, ↓tfi, ↓fti, ↓reduceIte, Cc.cs, true_and, q6, and_self]
        clear ha
        have hTM : List.flatten [(T ++ FT k) ++ MT i, methodT methods[i]] = (T ++ FT k) ++ MT (i + 1) := by rw [hMi.1]; simp
        intro p7_0 c7_0 v7_0 hv7_0 hq7_0 s7_0
        intro p7_1 c7_1 v7_1 hv7_1 hq7_1 s7_1
        refine ⟨by kernel_rfl, fun a7 c7 w7 hw7 hc7 r7 => FnV_of ((rjoinT_spec ((T ++ FT k) ++ MT (i + 1)) [(T ++ FT k) ++ MT i, methodT methods[i]] hTM a7 2 c7 _ w7 rfl r7 ⟨⟨p7_0, c7_0, rfl, hq7_0, Rds_upM (leM_tr (.inr hv7_1) (.inr hw7)) s7_0⟩, ⟨⟨p7_1, c7_1, rfl, hq7_1, Rds_upM (.inr hw7) s7_1⟩, trivial⟩⟩ (by decide) (by simp only [Lla, Llc, Lln, cap]; omega)).mono ?_)⟩
        rintro r H' m7 hm7 ⟨l7, rfl, rfl⟩
        have q7 : leM m6 m7 := leM_tr (leM_tr (.inr hv7_0) (leM_tr (.inr hv7_1) (.inr hw7))) l7
        have L7 := leM_tr L6 q7
        have K7 := leM_tr q6 q7
        simp only [go_sem, ↓tfi, ↓fti, ↓reduceIte, Cc.cs, true_and, K7, and_self]
        exact ⟨by unfold I64; simp only [big] at bm; omega, (i + 1, e2 + 3, m7), ⟨⟨by simp only [Nat.add_assoc], by simp⟩, by simp only; rw [if_pos (by omega), Nat.add_assoc], .inl rfl⟩, ⟨leM_tr g1 K7, by simp only; omega, by simp only; omega⟩, by simp only; omega⟩
       ·rw [← hM2 i (by clear y2; omega)] at hsz hcls
        clear y2
        have hcl : clsT ⟨x.fl, x.name, x.super, ifs, fields, methods, init⟩ = ((T ++ FT k) ++ MT i) ++ [sg [125]] := by rw [hcls]
        rw [hcl, Lla (bs := [sg [125]]), tkCells_app _ [sg [125]]]
        exact ⟨⟨by simp only [Lla, Llc, Lln]; omega, by simp only [Lla, Llc, Lln, maxLen]; omega⟩, LM, _, _, rfl, rfl⟩
theorem headI {fl : Int} (hI : I64 fl) (h1 : onlyL fl 1537 = true) (h2 : hasB fl 512 = true) (h3 : hasB fl 1024 = true) : modT (bits .and .i64 fl 1) = modT (bits .andNot .i64 fl 1024) := by
 have m0 : modT (bits .and .i64 1536 1) = [] := by kernel_rfl
 have m1 : modT (bits .andNot .i64 1536 1024) = [] := by kernel_rfl
 have m2 : modT (bits .and .i64 1537 1) = [kw [112, 117, 98, 108, 105, 99]] := by kernel_rfl
 have m3 : modT (bits .andNot .i64 1537 1024) = [kw [112, 117, 98, 108, 105, 99]] := by kernel_rfl
 have hr := only_range (al := 1537) hI (by decide) h1
 have hall : ∀ n : Fin 1538, hasB (n.val : Int) 512 = true → hasB (n.val : Int) 1024 = true → n.val = 1536 ∨ n.val = 1537 := by decide +kernel
 have e : fl = (fl.toNat : Int) := by omega
 have := hall ⟨fl.toNat, by omega⟩
 simp only at this
 rw [← e] at this
 rcases (by have := this h2 h3; omega : fl = 1536 ∨ fl = 1537) with rfl | rfl
 ·exact m0.trans m1.symm
 ·exact m2.trans m3.symm
theorem headC {fl : Int} (hI : I64 fl) (h1 : onlyL fl 1041 = true) : bits .and .i64 fl 1041 = fl := by
 have hr := only_range (al := 1041) hI (by decide) h1
 have hall : ∀ n : Fin 1042, onlyL (n.val : Int) 1041 = true → bits .and .i64 (n.val : Int) 1041 = (n.val : Int) := by decide +kernel
 have e : fl = (fl.toNat : Int) := by omega
 have := hall ⟨fl.toNat, by omega⟩
 simp only at this
 rw [← e] at this
 exact this h1
theorem headU_eq {d : Cd} (hI : I64 d.fl) (hv : cHead d = true) : headU d = headT d ++ [sg [123]] := by
 rw [cHead] at hv
 rw [headU, headT]
 by_cases h5 : hasB d.fl 512 = true
 ·rw [if_pos h5] at hv
  rw [if_pos h5, if_pos h5]
  simp only [ifaceL, Bbt] at hv
  rw [headI hI hv.1.1.1.1 h5 hv.1.1.1.2]
  simp
 ·rw [if_neg h5] at hv
  rw [if_neg h5, if_neg h5]
  simp only [Bbt] at hv
  rw [headC hI hv.1]
  simp
theorem rdecl_of {d : Cd} {m : Mem} (hv : classL d = true) (hok : CdOk d) (hz : sizeC d ≤ 1048576) {cs : List Value} (h : cdRep m d cs) : RetT 40 [.v (.agg ⟨cs⟩)] m (clsT d) := by
 have hlen := len_C hv
 have hv0 := hv
 simp only [classL, Bbt] at hv
 obtain ⟨hH, ⟨⟨⟨_, hF⟩, hM⟩, hI⟩⟩ := hv
 have hF' : ∀ f ∈ d.fields, fieldL f = true := fun f hf => by
  rw [Bool.not_eq_true', List.any_eq_false] at hF
  simpa using hF f hf
 have hM' : ∀ f ∈ d.methods, methodL f = true := fun f hf => by
  rw [Bool.not_eq_true', List.any_eq_false] at hM
  simpa using hM f hf
 simp only [sizeC] at hz hlen
 refine rdecl_spec d cs m h (fun f hf => ?_) (fun _ a n c xs m' hle hn hr hs => ?_) (fun e he cs m' hle hrep => ?_) (headU_eq hok.fl hH) (by omega)
 ·have := hF' f hf
  simp only [fieldL, Bbt] at this
  have := value_dim this.1.1.1
  omega
 ·simp only [blockL, Bbt] at hI
  have hl := len_Ss false d.init hI.2
  exact rtblock_spec d.init a n c xs m' hn.symm (by rw [hn]; exact hok.l) hr hs (fun e he => rstmt_all _ e m' (Nnr _) (validSs_mem hI.2 e he) (by have := sizeSs_mem he; simp only [big]; omega)) (by rw [len_br]; simp only [cap]; omega)
 ·have hv := hM' e he
  have hlm := len_M hv
  have hsm := sum_mem (f := sizeM) e he
  simp only [methodL, Bbt] at hv
  obtain ⟨⟨⟨h1, h2⟩, h3⟩, h4⟩ := hv
  have hP : ∀ p ∈ e.params, paramL p = true := fun p hp => by
   rw [Bool.not_eq_true', List.any_eq_false] at h3
   simpa using h3 p hp
  simp only [blockL, Bbt] at h4
  have hl := hrep
  obtain ⟨X, _, ⟨_, _, _, _⟩, hmo, _⟩ := hl
  have hlb := len_Ss _ e.body h4.2
  have hse : sizeSs e.body ≤ sizeM e := by simp only [sizeM]; omega
  refine rfunc_spec e cs m' hrep (by have := res_dim h1; omega) (fun p hp => ?_) (fun _ a n c xs m2 hle2 hn hr hs => rtblock_spec e.body a n c xs m2 hn.symm (by rw [hn]; exact hmo.l) hr hs (fun s hs => rstmt_all _ s m2 (Nnr _) (validSs_mem h4.2 s hs) (by have := sizeSs_mem hs; simp only [big]; omega)) (by rw [len_br]; simp only [cap]; omega)) (by omega)
  have := hP p hp
  simp only [paramL, Bbt] at this
  have := value_dim this.1
  omega
theorem rformatP_spec (l : List Cd) (p : Option Addr) (n c : Nat) (m : Mem) (hz : (l.map sizeC).sum ≤ 1048576) (h : prRep m l p n c) :
  FnH Tryz.prog 14 [.v (.slice p n c)] ⟨[], []⟩ m fun r H' m' => leM m m' ∧ H' = ⟨[], []⟩ ∧ r = .tup [.v (.string (bs (fmtP l).1)), .v (.int .i64 (fmtP l).2)] := by
 have hCk := rcheck_spec l p n c m hz h
 have hW := wfP_rep h
 have hT := fun (h0 : (checkL [] l).2 = 0) => prog_tk hW hz h0
 obtain ⟨hl, hcp, hn, xs, r1, s1⟩ := h
 have hJ : (checkL [] l).2 = 0 → ∀ (T : List Tk) (m' : Mem) (a : Option Addr) (c : Nat), T = progT l → Rds m' a T.length 4 (tkCells T) → FnH Tryz.prog 28 [.v (.slice a T.length c)] ⟨[], []⟩ m' fun r H' m'' => leM m' m'' ∧ H' = ⟨[], []⟩ ∧ r = .tup [.v (.string (bs (fmtP l).1)), .v (.int .i64 (fmtP l).2)] := fun h0 T m' a c he hr => by
  have hf : fmtP l = joinL T := by rw [fmtP, if_pos h0, he]
  rw [hf]
  exact rjoin_spec T a _ c m' hr (he ▸ (hT h0).2) (by have := (hT h0).1; rw [he]; simp only [cap] at this; omega)
 have hX : ∀ (h0 : (checkL [] l).2 = 0) (mm : Mem) (hle : leM m mm) (k : Nat) (hk : k < l.length), ∃ X : Cc, (Rd mm (ptrAt p (k * 7)) X.cs ∧ p ≠ none) ∧ RetT 40 [.v (.agg ⟨X.cs⟩)] mm (clsT l[k]) := fun h0 mm hle k hk => by
  have hrep := cdRep_up hle (ls_at s1 hk)
  have hrd := Rds_cells (Rds_upM hle r1) (by omega : k < n)
  obtain ⟨X, hX⟩ := cdRep_cc hrep
  rw [hX] at hrep hrd
  have hsz := sum_mem (f := sizeC) l[k] (List.getElem_mem hk)
  exact ⟨X, hrd, rdecl_of (check_ok h0 _ (List.getElem_mem hk)).1 (hW _ (List.getElem_mem hk)).1 (by omega) hrep⟩
 clear s1 hW
 refine enter cfK puK Tryz.func14 rfl rfl (by kernel_rfl) rfl ?_ ?_
 ·simp only [go_sem, ↓tfi, ↓fti, ↓reduceIte]
 ·simp only [go_sem, ↓tfi, ↓fti, ↓reduceIte]
  refine cvl (hCk.mono ?_)
  clear hCk
  rintro r H' m1 hm1 ⟨l1, rfl, rfl⟩
  simp only [go_sem, ↓tfi, ↓fti, ↓reduceIte]
  refine ⟨fun hne => ⟨l1, ?_⟩, fun h0 => ?_⟩
  ·clear hJ hX
   rw [fmtP, if_neg hne]
  ·have hTl := (hT h0).1
   have hJ1 := hJ h0
   have hX1 := hX h0
   clear hJ hX hT
   refine WP_loop puK (fun x : Nat × Nat × Mem => ⟨[⟨0, [], .v (.slice p n c)⟩, ⟨6, [], .vec 0 x.2.1⟩, ⟨7, [], .v (.int .i64 x.1)⟩], [], [], [⟨0, x.2.1, 79, 4, (((l.take x.1).map clsT).flatten).length, tkCells (((l.take x.1).map clsT).flatten)⟩], 1, x.2.2⟩)
    (fun x => leM m1 x.2.2 ∧ x.1 ≤ n) (fun x => n - x.1) (0, 0, m1) (by kernel_rfl) (fun _ _ => Nnr _) (fun x hx => hx.1) (fun _ => ?_) ?_ ?_ ?_
   ·simp only [go_sem, ↓tfi, ↓fti, ↓reduceIte]
   ·simp only [go_sem, ↓tfi, ↓fti, ↓reduceIte]
    exact ⟨rfl, rfl, rfl⟩
   ·exact ⟨.inl rfl, Nat.zero_le _⟩
   ·rintro ⟨k, v, mm⟩ ⟨g1, g2⟩
    simp only at g1 g2
    have L0 := leM_tr l1 g1
    have hft := fun (hk : k < l.length) => And.intro (flat_takeT (f := clsT) hk) (flat_le (f := clsT) l (k + 1))
    simp only [go_sem, ↓tfi, ↓fti, ↓reduceIte]
    refine ⟨fun hlt => ?_, fun hge => ?_⟩
    ·have hk : k < l.length := by clear hX1 hJ1; omega
     clear hJ1
     refine Exists.elim (hX1 mm L0 k hk) fun X hX => ⟨⟨by clear hX1 hX; omega, hlt, hX.1.2⟩, X.cs, ⟨hX.1.1, rfl⟩, ?_⟩
     have ha := hX.2
     clear hX1 hX
     have hT := (hft hk).1
     have hL := (hft hk).2
     rw [hT, Lla] at hL
     simp only [cap, progT] at hTl
     simp only [go_sem, ↓tfi, ↓fti, ↓reduceIte, Cc.cs]
     refine cvl ((FnH_den ha (fun V => rfl)).mono ?_)
     clear ha
     rintro r H' m2 hm2 ⟨l2, rfl, rfl⟩
     simp only [go_sem, ↓tfi, ↓fti, ↓reduceIte, Cc.cs]
     refine ⟨⟨by omega, by simp only [maxLen]; omega⟩, by unfold I64; simp only [big] at hn; omega, (k + 1, v + 1, m2), ⟨⟨rfl, by simp⟩, ⟨rfl, ?_, ?_⟩, .inl rfl⟩, ⟨leM_tr g1 l2, by simp only; omega⟩, by simp only; omega⟩
     ·simp only; rw [hT, Lla]
     ·simp only; rw [hT, tkCells_app]
    ·have e0 : l.take k = l := List.take_of_length_le (by clear hX1 hJ1; omega)
     have hJ2 := fun m' a c => hJ1 _ m' a c (show ((l.take k).map clsT).flatten = progT l by rw [e0]; rfl)
     clear hX1 hJ1
     refine ⟨by kernel_rfl, fun a5 c5 w5 hw5 hc5 r5 => FnV_of ((hJ2 w5 a5 c5 r5).mono ?_)⟩
     clear hJ2
     rintro r H' m5 hm5 ⟨l5, rfl, rfl⟩
     simp only [go_sem, ↓tfi, ↓fti, ↓reduceIte]
     exact leM_tr L0 (leM_tr (.inr hw5) l5)
theorem checks_spec (l : List Cd) (p : Option Addr) (n c : Nat) (m : Mem) (hg : Glob m) (h : prRep m l p n c) (hf : FewB l) (hC : ∀ d ∈ l, CdB d) (hz : (l.map sizeC).sum ≤ 1048576) : Ans 3 [.v (.slice p n c)] m (.bool true) := by
 have hW := wfP_rep h
 have hF := few_spec l p n c m h hf
 have hA := fun m' (hle : leM m m') => awake_spec m' (hg.upM hle)
 have hCk := fun m' (hle : leM m m') => check_spec l p n c m' (hg.upM hle) hC (prRep_up hle h)
 have hCr := fun m' (hle : leM m m') => rcheck_spec l p n c m' hz (prRep_up hle h)
 have hFm := fun m' (hle : leM m m') => formatP_spec l p n c m' (hg.upM hle) hC (fun h0 d hd => wrOk_of (check_ok h0 d hd).1 (hW d hd).1) (fun h0 => prog_tk hW hz h0) (prRep_up hle h)
 have hFr := fun m' (hle : leM m m') => rformatP_spec l p n c m' hz (prRep_up hle h)
 clear h hg hf hC hz hW
 refine enter cfW puW Tryz.func3 rfl rfl (by kernel_rfl) rfl ?_ ?_
 ·simp only [go_sem, ↓tfi, ↓fti, ↓reduceIte]
 ·simp only [go_sem, ↓tfi, ↓fti, ↓reduceIte]
  refine cvl (hF.mono ?_)
  clear hF
  rintro r H' m1 hm1 ⟨l1, rfl, b, rfl⟩
  simp only [go_sem, ↓tfi, ↓fti, ↓reduceIte]
  refine ⟨fun hb => cvl ((hA m1 l1).mono ?_), fun hb => cvl ((hCk m1 l1).mono ?_)⟩
  ·clear hA hCk hFm hCr hFr
   rintro r H' m2 hm2 ⟨l2, rfl, rfl⟩
   simp only [go_sem, ↓tfi, ↓fti, ↓reduceIte]
   exact leM_tr l1 l2
  ·clear hCk
   rintro r H' m2 hm2 ⟨l2, rfl, rfl⟩
   have k2 := leM_tr l1 l2
   simp only [go_sem, ↓tfi, ↓fti, ↓reduceIte]
   refine cvl ((hCr m2 k2).mono ?_)
   clear hCr
   rintro r H' m3 hm3 ⟨l3, rfl, rfl⟩
   have k3 := leM_tr k2 l3
   simp only [go_sem, ↓tfi, ↓fti, ↓reduceIte]
   refine cvl ((hFm m3 k3).mono ?_)
   clear hFm
   rintro r H' m4 hm4 ⟨l4, rfl, rfl⟩
   have k4 := leM_tr k3 l4
   simp only [go_sem, ↓tfi, ↓fti, ↓reduceIte]
   refine cvl ((hFr m4 k4).mono ?_)
   clear hFr
   rintro r H' m5 hm5 ⟨l5, rfl, rfl⟩
   have k5 := leM_tr k4 l5
   simp only [go_sem, ↓tfi, ↓fti, ↓reduceIte]
   refine cvl ((hA m5 k5).mono ?_)
   clear hA
   rintro r H' m6 hm6 ⟨l6, rfl, rfl⟩
   simp only [go_sem, ↓tfi, ↓fti, ↓reduceIte]
   exact leM_tr k5 l6
end Go.Proofs.YtalalcpefggniaaGreatDoor.E

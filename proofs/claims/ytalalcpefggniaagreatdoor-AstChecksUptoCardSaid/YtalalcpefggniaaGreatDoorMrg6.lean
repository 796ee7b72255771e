/- Several texts in one: AstXe, AstXf, AstTh, AstTi, AstRe, AstRf, AstRh, AstTe, AstTf, AstTg, AstTj. -/
import Derived.Test.YtalalcpefggniaaGreatDoorMrg5
set_option linter.unusedSimpArgs false
set_option linter.unusedVariables false
set_option maxHeartbeats 4000000
set_option maxRecDepth 20000
namespace Go.Proofs.YtalalcpefggniaaGreatDoor.E
open Go
def mheadT (d : Md) : List Tk := modT d.fl ++ (if d.name = initS then [kw [110, 101, 119]] else typT d.res.dim d.res.base d.res.name ++ [nm1 d.name])
def mbodyT (BT : List Tk) (d : Md) : List Tk := if d.hb = true then BT else [sg [59]]
set_option maxHeartbeats 8000000 in
theorem methodW_spec (d : Md) (cs : List Value) (m : Mem) (u : Nat) (acc : List Tk) (h : mdRep m d cs) (hdim : d.res.dim ≤ 1000) (hpd : ∀ p ∈ d.params, p.ty.dim ≤ 1000)
  (hB : ∀ a n c xs m' u acc, leM m m' → n = d.body.length → Rds m' a n 23 xs → stsRep m' d.body xs → acc.length + (brT (stmtsT d.body)).length ≤ cap → WrT 89 [.v (.slice a n c)] m' u acc (brT (stmtsT d.body)))
  (hb : acc.length + (methodT d).length ≤ cap) : WrT 90 [.v (.agg ⟨cs⟩)] m u acc (methodT d) := by
 have hMT : methodT d = mheadT d ++ [sg [40]] ++ commaT true (d.params.map paramT) ++ [sg [41]] ++ mbodyT (brT (stmtsT d.body)) d := by
  simp only [methodT, mheadT, mbodyT, listT, List.append_assoc, List.cons_append, List.nil_append]
 rw [hMT] at hb ⊢
 clear hMT
 obtain ⟨fl, res, name, params, hbb, body⟩ := d
 obtain ⟨x, ⟨rfl, rfl, rfl, rfl, rfl⟩, ⟨hpl, hpc, hl, hcp⟩, hok, r1, xs, r2, s2⟩ := h
 simp only at hpl hl r1 s2 hdim hpd hB
 have hpb : x.pl ≤ big := by rw [hpl]; exact hok.pl
 have hBk := fun m' u acc (hle : leM m m') => hB x.a x.l x.cp xs m' u acc hle hl (Rds_upM hle r2) (stsRep_upM hle s2)
 clear hB s2
 have hB := hBk
 clear hBk
 have hml := modT_len x.fl
 simp only [Lla, Llc, Lln, cap] at hb
 refine enter cfW puW Tryz.func90 rfl rfl (by kernel_rfl) rfl ?_ ?_
 ·simp only [go_sem, ↓tfi, ↓fti, ↓reduceIte, Mc.cs]
 ·simp only [go_sem, ↓tfi, ↓fti, ↓reduceIte, Mc.cs]
  refine cvl ((mods_spec x.fl m u acc (by clear hB; simp only [cap]; omega)).mono ?_)
  rintro r H' m1 hm1 ⟨l1, rfl, u1, hu1, rfl⟩
  simp only [go_sem, ↓tfi, ↓fti, ↓reduceIte, Mc.cs]
  refine ⟨hu1, fun hn => ?_, fun hn => ?_⟩
  ·have hH : mheadT ⟨x.fl, x.res, x.name, params, x.hb, body⟩ = modT x.fl ++ [kw [110, 101, 119]] := by rw [mheadT]; simp only; rw [if_pos (show x.name = initS from hn)]
   have hHl := congrArg List.length hH
   simp only [Lla, Llc, Lln] at hHl
   refine ⟨by kernel_rfl, fun a2 c2 w2 hw2 hc2 rr2 => FnV_of ((word1 [110, 101, 119] a2 c2 w2 u1 (acc ++ modT x.fl) rr2 (by clear hB; first | omega | (simp only [Lla, Llc, Lln]; omega))).mono ?_)⟩
   rintro r H' m2 hm2 ⟨l2, rfl, u2, hu2, rfl⟩
   have k2 := leM_tr (leM_tr l1 (.inr hw2)) l2
   simp only [go_sem, ↓tfi, ↓fti, ↓reduceIte, Mc.cs]
   refine ⟨hu2, by kernel_rfl, fun a4 c4 w4 hw4 hc4 rr4 => FnV_of ((sign1 [40] a4 c4 w4 u2 (acc ++ modT x.fl ++ [kw [110, 101, 119]]) rr4 (by clear hB; first | omega | (simp only [Lla, Llc, Lln]; omega))).mono ?_)⟩
   rintro r H' m5 hm5 ⟨l5, rfl, u5, hu5, rfl⟩
   have k5 := leM_tr (leM_tr k2 (.inr hw4)) l5
   simp only [go_sem, ↓tfi, ↓fti, ↓reduceIte, Mc.cs]
   refine ⟨hu5, ?_⟩
   refine WP_loop puW (fun y : Nat × Nat × List Tk × Mem => ⟨[⟨0, [], .box 0 0⟩, ⟨3, [], .box 2 0⟩, ⟨28, [], .v (.slice x.pa x.pl x.pc)⟩, ⟨29, [], .v (.int .i64 x.pl)⟩, ⟨30, [], .v (.int .i64 y.1)⟩], [], [⟨0, 64, [.vec 1 (u5 + y.2.1)]⟩, ⟨2, 58, x.cs.map .v⟩], [⟨1, u5 + y.2.1, 79, 4, y.2.2.1.length, tkCells y.2.2.1⟩], 100, y.2.2.2⟩)
    (fun y => leM m5 y.2.2.2 ∧ y.1 ≤ x.pl ∧ y.2.2.1 = acc ++ modT x.fl ++ [kw [110, 101, 119]] ++ [sg [40]] ++ commaT true ((params.map paramT).take y.1)) (fun y => x.pl - y.1) (0, 0, acc ++ modT x.fl ++ [kw [110, 101, 119]] ++ [sg [40]], m5) (by kernel_rfl) (fun _ _ => nbl rfl) (fun y hy => hy.1) (fun _ => ?_) ?_ ?_ ?_
   ·simp only [go_sem, ↓tfi, ↓fti, ↓reduceIte, Mc.cs]
   ·simp only [go_sem, ↓tfi, ↓fti, ↓reduceIte, Mc.cs]
    exact ⟨rfl, rfl, rfl⟩
   ·exact ⟨.inl rfl, Nat.zero_le _, by simp [commaT]⟩
   ·rintro ⟨k, v, acc', mm⟩ ⟨h1, h2, h3⟩
    simp only at h1 h2 h3
    have hcl := comma_len (params.map paramT) true k
    have hal := congrArg List.length h3
    simp only [Lla, Llc, Lln] at hal
    have hy : ∀ (hk : k < params.length), Rd mm (ptrAt x.pa (k * 4)) (params[k]).cs ∧ x.pa ≠ none := fun hk => by
     have := Rds_cells (Rds_upM (leM_tr k5 h1) r1) (by omega : k < x.pl)
     rw [flat_at (f := Pc.cs) (sz := 4) (fun _ => rfl) hk] at this
     exact this
    have hct : ∀ (hk : k < params.length), acc ++ modT x.fl ++ [kw [110, 101, 119]] ++ [sg [40]] ++ commaT true ((params.map paramT).take (k + 1)) = acc' ++ (if 0 < k then [sg [44]] else []) ++ typT (params[k]).ty.dim (params[k]).ty.base (params[k]).ty.name ++ [nm1 (params[k]).name] := fun hk => by
     rw [comma_take (by simpa using hk), h3]
     by_cases h0 : 0 < k <;> simp [h0, paramT]
    have hlen : ∀ (hk : k < params.length), (acc' ++ (if 0 < k then [sg [44]] else []) ++ typT (params[k]).ty.dim (params[k]).ty.base (params[k]).ty.name ++ [nm1 (params[k]).name]).length ≤ 800000000 := fun hk => by
     rw [← hct hk]
     have := comma_len (params.map paramT) true (k + 1)
     simp only [Lla, Llc, Lln]
     clear hB
     omega
    simp only [go_sem, ↓tfi, ↓fti, ↓reduceIte, Mc.cs]
    refine ⟨fun hlt => ?_, fun hge => ?_⟩
    ·have hk : k < params.length := by clear hB; omega
     have hdk := hpd _ (List.getElem_mem hk)
     refine ⟨⟨by clear hB; omega, hlt, (hy hk).2⟩, (params[k]).cs, ⟨(hy hk).1, rfl⟩, ?_⟩
     have hct2 := hct hk
     have hlen2 := hlen hk
     clear hct hlen hy
     simp only [go_sem, ↓tfi, ↓fti, ↓reduceIte, Mc.cs, Pc.cs]
     refine ⟨fun h0 => ?_, fun h0 => ?_⟩
     ·have h0k : 0 < k := by clear hB; omega
      rw [if_pos h0k] at hct2 hlen2
      simp only [Lla, Llc, Lln] at hlen2
      refine ⟨by kernel_rfl, fun a6 c6 w6 hw6 hc6 rr6 => FnV_of ((sign1 [44] a6 c6 w6 (u5 + v) acc' rr6 (by clear hB; omega)).mono ?_)⟩
      rintro r H' m6 hm6 ⟨l6, rfl, u6, hu6, rfl⟩
      have k6 := leM_tr (leM_tr h1 (.inr hw6)) l6
      simp only [go_sem, ↓tfi, ↓fti, ↓reduceIte, Mc.cs, Pc.cs]
      refine ⟨hu6, by kernel_rfl, FnV_of ((FnH_den (typ_spec (params[k]).ty.dim (params[k]).ty.base (params[k]).ty.name m6 (u6) (acc' ++ [sg [44]]) hdk (by clear hB; first | omega | (simp only [Lla, Llc, Lln]; omega))) (fun V => rfl)).mono ?_)⟩
      rintro r H' m7 hm7 ⟨l7, rfl, u7, hu7, rfl⟩
      have k7 := leM_tr k6 l7
      simp only [go_sem, ↓tfi, ↓fti, ↓reduceIte, Mc.cs, Pc.cs]
      refine ⟨hu7, by kernel_rfl, FnV_of ((name_spec (params[k]).name m7 u7 (acc' ++ [sg [44]] ++ typT (params[k]).ty.dim (params[k]).ty.base (params[k]).ty.name) (by clear hB; simp only [room1, Lla, Llc, Lln]; omega)).mono ?_)⟩
      rintro r H' m8 hm8 ⟨l8, rfl, u8, hu8, rfl⟩
      simp only [go_sem, ↓tfi, ↓fti, ↓reduceIte, Mc.cs, Pc.cs]
      refine ⟨hu8, by clear hB; unfold I64; simp only [big] at hpb; omega, (k + 1, u8 - u5, acc' ++ [sg [44]] ++ typT (params[k]).ty.dim (params[k]).ty.base (params[k]).ty.name ++ [nm1 (params[k]).name], m8), ⟨by simp, by rw [show u5 + (u8 - u5) = u8 by omega], ⟨by simp only; omega, rfl, rfl⟩, .inl rfl⟩, ⟨leM_tr k7 l8, by simp only; omega, ?_⟩, by simp only; omega⟩
      simp only
      rw [hct2]
     ·have h0k : ¬ 0 < k := by clear hB; omega
      rw [if_neg h0k, List.append_nil] at hct2 hlen2
      simp only [Lla, Llc, Lln] at hlen2
      refine cvl ((FnH_den (typ_spec (params[k]).ty.dim (params[k]).ty.base (params[k]).ty.name mm (u5 + v) (acc') hdk (by clear hB; first | omega | (simp only [Lla, Llc, Lln]; omega))) (fun V => rfl)).mono ?_)
      rintro r H' m7 hm7 ⟨l7, rfl, u7, hu7, rfl⟩
      have k7 := leM_tr h1 l7
      simp only [go_sem, ↓tfi, ↓fti, ↓reduceIte, Mc.cs, Pc.cs]
      refine ⟨hu7, by kernel_rfl, FnV_of ((name_spec (params[k]).name m7 u7 (acc' ++ typT (params[k]).ty.dim (params[k]).ty.base (params[k]).ty.name) (by clear hB; simp only [room1, Lla, Llc, Lln]; omega)).mono ?_)⟩
      rintro r H' m8 hm8 ⟨l8, rfl, u8, hu8, rfl⟩
      simp only [go_sem, ↓tfi, ↓fti, ↓reduceIte, Mc.cs, Pc.cs]
      refine ⟨hu8, by clear hB; unfold I64; simp only [big] at hpb; omega, (k + 1, u8 - u5, acc' ++ typT (params[k]).ty.dim (params[k]).ty.base (params[k]).ty.name ++ [nm1 (params[k]).name], m8), ⟨by simp, by rw [show u5 + (u8 - u5) = u8 by omega], ⟨by simp only; omega, rfl, rfl⟩, .inl rfl⟩, ⟨leM_tr k7 l8, by simp only; omega, ?_⟩, by simp only; omega⟩
      simp only
      rw [hct2]
    ·clear hy hct hlen
     rw [List.take_of_length_le (by clear hB; simp; omega)] at h3 hal hcl
     refine ⟨by kernel_rfl, fun a9 c9 w9 hw9 hc9 rr9 => FnV_of ((sign1 [41] a9 c9 w9 (u5 + v) acc' rr9 (by clear hB; omega)).mono ?_)⟩
     rintro r H' m9 hm9 ⟨l9, rfl, u9, hu9, rfl⟩
     have k9 := leM_tr (leM_tr (leM_tr k5 h1) (.inr hw9)) l9
     simp only [go_sem, ↓tfi, ↓fti, ↓reduceIte, Mc.cs]
     have fin : acc' ++ [sg [41]] ++ mbodyT (brT (stmtsT body)) ⟨x.fl, x.res, x.name, params, x.hb, body⟩ = acc ++ (mheadT ⟨x.fl, x.res, x.name, params, x.hb, body⟩ ++ [sg [40]] ++ commaT true (params.map paramT) ++ [sg [41]] ++ mbodyT (brT (stmtsT body)) ⟨x.fl, x.res, x.name, params, x.hb, body⟩) := by
      rw [h3, hH]
      simp only [List.append_assoc, List.cons_append, List.nil_append]
     refine ⟨hu9, fun hh => ?_, fun hh => ?_⟩
     ·have hmb : mbodyT (brT (stmtsT body)) ⟨x.fl, x.res, x.name, params, x.hb, body⟩ = brT (stmtsT body) := by rw [mbodyT]; simp only; rw [if_pos hh]
      have hmbl := congrArg List.length hmb
      refine cvl ((hB m9 u9 (acc' ++ [sg [41]]) k9 (by clear hB; simp only [Lla, Llc, Lln, cap]; omega)).mono ?_)
      clear hB
      rintro r H' ma hma ⟨la, rfl, ua, hua, rfl⟩
      simp only [go_sem, ↓tfi, ↓fti, ↓reduceIte, Mc.cs]
      refine ⟨hua, leM_tr k9 la, ua, by omega, ?_⟩
      rw [← fin, hmb]
     ·have hmb : mbodyT (brT (stmtsT body)) ⟨x.fl, x.res, x.name, params, x.hb, body⟩ = [sg [59]] := by rw [mbodyT]; simp only; rw [if_neg (by rw [hh]; decide)]
      have hmbl := congrArg List.length hmb
      clear hB
      refine ⟨by kernel_rfl, fun ab cb wb hwb hcb rrb => FnV_of ((sign1 [59] ab cb wb u9 (acc' ++ [sg [41]]) rrb (by simp only [Lla, Llc, Lln]; omega)).mono ?_)⟩
      rintro r H' ma hma ⟨la, rfl, ua, hua, rfl⟩
      simp only [go_sem, ↓tfi, ↓fti, ↓reduceIte, Mc.cs]
      refine ⟨hua, leM_tr (leM_tr k9 (.inr hwb)) la, ua, by omega, ?_⟩
      rw [← fin, hmb]
  ·have hH : mheadT ⟨x.fl, x.res, x.name, params, x.hb, body⟩ = modT x.fl ++ typT x.res.dim x.res.base x.res.name ++ [nm1 x.name] := by rw [mheadT]; simp only; rw [if_neg (show ¬ x.name = initS from hn)]; simp only [List.append_assoc]
   have hHl := congrArg List.length hH
   simp only [Lla, Llc, Lln] at hHl
   refine cvl ((FnH_den (typ_spec x.res.dim x.res.base x.res.name m1 u1 (acc ++ modT x.fl) hdim (by clear hB; first | omega | (simp only [Lla, Llc, Lln]; omega))) (fun V => rfl)).mono ?_)
   rintro r H' m2 hm2 ⟨l2, rfl, u2, hu2, rfl⟩
   have k2 := leM_tr l1 l2
   simp only [go_sem, ↓tfi, ↓fti, ↓reduceIte, Mc.cs]
   refine ⟨hu2, by kernel_rfl, FnV_of ((name_spec x.name m2 u2 (acc ++ modT x.fl ++ typT x.res.dim x.res.base x.res.name) (by clear hB; simp only [room1, Lla, Llc, Lln]; omega)).mono ?_)⟩
   rintro r H' m3 hm3 ⟨l3, rfl, u3, hu3, rfl⟩
   have k3 := leM_tr k2 l3
   simp only [go_sem, ↓tfi, ↓fti, ↓reduceIte, Mc.cs]
   refine ⟨hu3, by kernel_rfl, fun a4 c4 w4 hw4 hc4 rr4 => FnV_of ((sign1 [40] a4 c4 w4 u3 (acc ++ modT x.fl ++ typT x.res.dim x.res.base x.res.name ++ [nm1 x.name]) rr4 (by clear hB; first | omega | (simp only [Lla, Llc, Lln]; omega))).mono ?_)⟩
   rintro r H' m5 hm5 ⟨l5, rfl, u5, hu5, rfl⟩
   have k5 := leM_tr (leM_tr k3 (.inr hw4)) l5
   simp only [go_sem, ↓tfi, ↓fti, ↓reduceIte, Mc.cs]
   refine ⟨hu5, ?_⟩
   refine WP_loop puW (fun y : Nat × Nat × List Tk × Mem => ⟨[⟨0, [], .box 0 0⟩, ⟨3, [], .box 2 0⟩, ⟨28, [], .v (.slice x.pa x.pl x.pc)⟩, ⟨29, [], .v (.int .i64 x.pl)⟩, ⟨30, [], .v (.int .i64 y.1)⟩], [], [⟨0, 64, [.vec 1 (u5 + y.2.1)]⟩, ⟨2, 58, x.cs.map .v⟩], [⟨1, u5 + y.2.1, 79, 4, y.2.2.1.length, tkCells y.2.2.1⟩], 100, y.2.2.2⟩)
    (fun y => leM m5 y.2.2.2 ∧ y.1 ≤ x.pl ∧ y.2.2.1 = acc ++ modT x.fl ++ typT x.res.dim x.res.base x.res.name ++ [nm1 x.name] ++ [sg [40]] ++ commaT true ((params.map paramT).take y.1)) (fun y => x.pl - y.1) (0, 0, acc ++ modT x.fl ++ typT x.res.dim x.res.base x.res.name ++ [nm1 x.name] ++ [sg [40]], m5) (by kernel_rfl) (fun _ _ => nbl rfl) (fun y hy => hy.1) (fun _ => ?_) ?_ ?_ ?_
   ·simp only [go_sem, ↓tfi, ↓fti, ↓reduceIte, Mc.cs]
   ·simp only [go_sem, ↓tfi, ↓fti, ↓reduceIte, Mc.cs]
    exact ⟨rfl, rfl, rfl⟩
   ·exact ⟨.inl rfl, Nat.zero_le _, by simp [commaT]⟩
   ·rintro ⟨k, v, acc', mm⟩ ⟨h1, h2, h3⟩
    simp only at h1 h2 h3
    have hcl := comma_len (params.map paramT) true k
    have hal := congrArg List.length h3
    simp only [Lla, Llc, Lln] at hal
    have hy : ∀ (hk : k < params.length), Rd mm (ptrAt x.pa (k * 4)) (params[k]).cs ∧ x.pa ≠ none := fun hk => by
     have := Rds_cells (Rds_upM (leM_tr k5 h1) r1) (by omega : k < x.pl)
     rw [flat_at (f := Pc.cs) (sz := 4) (fun _ => rfl) hk] at this
     exact this
    have hct : ∀ (hk : k < params.length), acc ++ modT x.fl ++ typT x.res.dim x.res.base x.res.name ++ [nm1 x.name] ++ [sg [40]] ++ commaT true ((params.map paramT).take (k + 1)) = acc' ++ (if 0 < k then [sg [44]] else []) ++ typT (params[k]).ty.dim (params[k]).ty.base (params[k]).ty.name ++ [nm1 (params[k]).name] := fun hk => by
     rw [comma_take (by simpa using hk), h3]
     by_cases h0 : 0 < k <;> simp [h0, paramT]
    have hlen : ∀ (hk : k < params.length), (acc' ++ (if 0 < k then [sg [44]] else []) ++ typT (params[k]).ty.dim (params[k]).ty.base (params[k]).ty.name ++ [nm1 (params[k]).name]).length ≤ 800000000 := fun hk => by
     rw [← hct hk]
     have := comma_len (params.map paramT) true (k + 1)
     simp only [Lla, Llc, Lln]
     clear hB
     omega
    simp only [go_sem, ↓tfi, ↓fti, ↓reduceIte, Mc.cs]
    refine ⟨fun hlt => ?_, fun hge => ?_⟩
    ·have hk : k < params.length := by clear hB; omega
     have hdk := hpd _ (List.getElem_mem hk)
     refine ⟨⟨by clear hB; omega, hlt, (hy hk).2⟩, (params[k]).cs, ⟨(hy hk).1, rfl⟩, ?_⟩
     have hct2 := hct hk
     have hlen2 := hlen hk
     clear hct hlen hy
     simp only [go_sem, ↓tfi, ↓fti, ↓reduceIte, Mc.cs, Pc.cs]
     refine ⟨fun h0 => ?_, fun h0 => ?_⟩
     ·have h0k : 0 < k := by clear hB; omega
      rw [if_pos h0k] at hct2 hlen2
      simp only [Lla, Llc, Lln] at hlen2
      refine ⟨by kernel_rfl, fun a6 c6 w6 hw6 hc6 rr6 => FnV_of ((sign1 [44] a6 c6 w6 (u5 + v) acc' rr6 (by clear hB; omega)).mono ?_)⟩
      rintro r H' m6 hm6 ⟨l6, rfl, u6, hu6, rfl⟩
      have k6 := leM_tr (leM_tr h1 (.inr hw6)) l6
      simp only [go_sem, ↓tfi, ↓fti, ↓reduceIte, Mc.cs, Pc.cs]
      refine ⟨hu6, by kernel_rfl, FnV_of ((FnH_den (typ_spec (params[k]).ty.dim (params[k]).ty.base (params[k]).ty.name m6 (u6) (acc' ++ [sg [44]]) hdk (by clear hB; first | omega | (simp only [Lla, Llc, Lln]; omega))) (fun V => rfl)).mono ?_)⟩
      rintro r H' m7 hm7 ⟨l7, rfl, u7, hu7, rfl⟩
      have k7 := leM_tr k6 l7
      simp only [go_sem, ↓tfi, ↓fti, ↓reduceIte, Mc.cs, Pc.cs]
      refine ⟨hu7, by kernel_rfl, FnV_of ((name_spec (params[k]).name m7 u7 (acc' ++ [sg [44]] ++ typT (params[k]).ty.dim (params[k]).ty.base (params[k]).ty.name) (by clear hB; simp only [room1, Lla, Llc, Lln]; omega)).mono ?_)⟩
      rintro r H' m8 hm8 ⟨l8, rfl, u8, hu8, rfl⟩
      simp only [go_sem, ↓tfi, ↓fti, ↓reduceIte, Mc.cs, Pc.cs]
      refine ⟨hu8, by clear hB; unfold I64; simp only [big] at hpb; omega, (k + 1, u8 - u5, acc' ++ [sg [44]] ++ typT (params[k]).ty.dim (params[k]).ty.base (params[k]).ty.name ++ [nm1 (params[k]).name], m8), ⟨by simp, by rw [show u5 + (u8 - u5) = u8 by omega], ⟨by simp only; omega, rfl, rfl⟩, .inl rfl⟩, ⟨leM_tr k7 l8, by simp only; omega, ?_⟩, by simp only; omega⟩
      simp only
      rw [hct2]
     ·have h0k : ¬ 0 < k := by clear hB; omega
      rw [if_neg h0k, List.append_nil] at hct2 hlen2
      simp only [Lla, Llc, Lln] at hlen2
      refine cvl ((FnH_den (typ_spec (params[k]).ty.dim (params[k]).ty.base (params[k]).ty.name mm (u5 + v) (acc') hdk (by clear hB; first | omega | (simp only [Lla, Llc, Lln]; omega))) (fun V => rfl)).mono ?_)
      rintro r H' m7 hm7 ⟨l7, rfl, u7, hu7, rfl⟩
      have k7 := leM_tr h1 l7
      simp only [go_sem, ↓tfi, ↓fti, ↓reduceIte, Mc.cs, Pc.cs]
      refine ⟨hu7, by kernel_rfl, FnV_of ((name_spec (params[k]).name m7 u7 (acc' ++ typT (params[k]).ty.dim (params[k]).ty.base (params[k]).ty.name) (by clear hB; simp only [room1, Lla, Llc, Lln]; omega)).mono ?_)⟩
      rintro r H' m8 hm8 ⟨l8, rfl, u8, hu8, rfl⟩
      simp only [go_sem, ↓tfi, ↓fti, ↓reduceIte, Mc.cs, Pc.cs]
      refine ⟨hu8, by clear hB; unfold I64; simp only [big] at hpb; omega, (k + 1, u8 - u5, acc' ++ typT (params[k]).ty.dim (params[k]).ty.base (params[k]).ty.name ++ [nm1 (params[k]).name], m8), ⟨by simp, by rw [show u5 + (u8 - u5) = u8 by omega], ⟨by simp only; omega, rfl, rfl⟩, .inl rfl⟩, ⟨leM_tr k7 l8, by simp only; omega, ?_⟩, by simp only; omega⟩
      simp only
      rw [hct2]
    ·clear hy hct hlen
     rw [List.take_of_length_le (by clear hB; simp; omega)] at h3 hal hcl
     refine ⟨by kernel_rfl, fun a9 c9 w9 hw9 hc9 rr9 => FnV_of ((sign1 [41] a9 c9 w9 (u5 + v) acc' rr9 (by clear hB; omega)).mono ?_)⟩
     rintro r H' m9 hm9 ⟨l9, rfl, u9, hu9, rfl⟩
     have k9 := leM_tr (leM_tr (leM_tr k5 h1) (.inr hw9)) l9
     simp only [go_sem, ↓tfi, ↓fti, ↓reduceIte, Mc.cs]
     have fin : acc' ++ [sg [41]] ++ mbodyT (brT (stmtsT body)) ⟨x.fl, x.res, x.name, params, x.hb, body⟩ = acc ++ (mheadT ⟨x.fl, x.res, x.name, params, x.hb, body⟩ ++ [sg [40]] ++ commaT true (params.map paramT) ++ [sg [41]] ++ mbodyT (brT (stmtsT body)) ⟨x.fl, x.res, x.name, params, x.hb, body⟩) := by
      rw [h3, hH]
      simp only [List.append_assoc, List.cons_append, List.nil_append]
     refine ⟨hu9, fun hh => ?_, fun hh => ?_⟩
     ·have hmb : mbodyT (brT (stmtsT body)) ⟨x.fl, x.res, x.name, params, x.hb, body⟩ = brT (stmtsT body) := by rw [mbodyT]; simp only; rw [if_pos hh]
      have hmbl := congrArg List.length hmb
      refine cvl ((hB m9 u9 (acc' ++ [sg [41]]) k9 (by clear hB; simp only [Lla, Llc, Lln, cap]; omega)).mono ?_)
      clear hB
      rintro r H' ma hma ⟨la, rfl, ua, hua, rfl⟩
      simp only [go_sem, ↓tfi, ↓fti, ↓reduceIte, Mc.cs]
      refine ⟨hua, leM_tr k9 la, ua, by omega, ?_⟩
      rw [← fin, hmb]
     ·have hmb : mbodyT (brT (stmtsT body)) ⟨x.fl, x.res, x.name, params, x.hb, body⟩ = [sg [59]] := by rw [mbodyT]; simp only; rw [if_neg (by rw [hh]; decide)]
      have hmbl := congrArg List.length hmb
      clear hB
      refine ⟨by kernel_rfl, fun ab cb wb hwb hcb rrb => FnV_of ((sign1 [59] ab cb wb u9 (acc' ++ [sg [41]]) rrb (by simp only [Lla, Llc, Lln]; omega)).mono ?_)⟩
      rintro r H' ma hma ⟨la, rfl, ua, hua, rfl⟩
      simp only [go_sem, ↓tfi, ↓fti, ↓reduceIte, Mc.cs]
      refine ⟨hua, leM_tr (leM_tr k9 (.inr hwb)) la, ua, by omega, ?_⟩
      rw [← fin, hmb]
theorem wrOk_of {d : Cd} {m : Mem} (hv : classL d = true) (hok : CdOk d) : WrOk d m := by
 simp only [classL, Bbt] at hv
 obtain ⟨_, ⟨⟨⟨_, hF⟩, hM⟩, hI⟩⟩ := hv
 have hF' : ∀ f ∈ d.fields, fieldL f = true := fun f hf => by
  rw [Bool.not_eq_true', List.any_eq_false] at hF
  simpa using hF f hf
 have hM' : ∀ f ∈ d.methods, methodL f = true := fun f hf => by
  rw [Bool.not_eq_true', List.any_eq_false] at hM
  simpa using hM f hf
 refine ⟨fun f hf => ?_, fun _ a n c xs m' u acc hle hn hr hs hb => ?_, fun e he cs m' u acc hle hrep hb => ?_⟩
 ·have := hF' f hf
  simp only [fieldL, Bbt] at this
  have := value_dim this.1.1.1
  omega
 ·simp only [blockL, Bbt] at hI
  exact blockW_spec d.init a n c xs m' u acc hn.symm (by rw [hn]; exact hok.l) hr hs (fun e he => stmtW_all _ e m' (Nnr _) (validSs_mem hI.2 e he)) hb
 ·have hv := hM' e he
  simp only [methodL, Bbt] at hv
  obtain ⟨⟨⟨h1, h2⟩, h3⟩, h4⟩ := hv
  have hP : ∀ p ∈ e.params, paramL p = true := fun p hp => by
   rw [Bool.not_eq_true', List.any_eq_false] at h3
   simpa using h3 p hp
  simp only [blockL, Bbt] at h4
  have hl := hrep
  obtain ⟨X, _, ⟨_, _, _, _⟩, hmo, _⟩ := hl
  refine methodW_spec e cs m' u acc hrep ?_ (fun p hp => ?_) (fun a n c xs m2 u acc hle2 hn hr hs hb => blockW_spec e.body a n c xs m2 u acc hn.symm (by rw [hn]; exact hmo.l) hr hs (fun s hs => stmtW_all _ s m2 (Nnr _) (validSs_mem h4.2 s hs)) hb) hb
  ·simp only [mHead] at h1
   split at h1
   ·simp only [Bbt, voidTy, decide_eq_true_eq] at h1
    omega
   ·simp only [Bbt, Bool.or_eq_true, voidTy, decide_eq_true_eq] at h1
    rcases h1.2 with g | g
    ·omega
    ·have := value_dim g; omega
  ·have := hP p hp
   simp only [paramL, Bbt] at this
   have := value_dim this.1
   omega
/-! What lies in memory is of bounded size. -/
mutual
def wfS : St → Prop
 | .mk _ nm ty tg ex body alt => nm.length ≤ big ∧ TyOk ty ∧ wfE tg ∧ wfE ex ∧ wfSs body ∧ wfSs alt
def wfSs : List St → Prop
 | [] => True
 | e :: r => wfS e ∧ wfSs r
end
mutual
theorem wfS_rep {m : Mem} : ∀ (e : St) (cs : List Value), stRep m e cs → wfS e
 | .mk k nm ty tg ex body alt, cs, h => by
  obtain ⟨x, _, _, _, _, h5, h6, _, _, _, _, h11, xs, ys, _, _, h14, h15⟩ := st_parts h
  simp only [wfS]
  exact ⟨h11.nm, h11.ty, wfE_rep _ _ h5, wfE_rep _ _ h6, wfSs_rep _ _ h14, wfSs_rep _ _ h15⟩
theorem wfSs_rep {m : Mem} : ∀ (l : List St) (xs : List Value), stsRep m l xs → wfSs l
 | [], _, _ => by simp only [wfSs]
 | e :: r, xs, h => by
  simp only [stsRep] at h
  simp only [wfSs]
  exact ⟨wfS_rep e _ h.1, wfSs_rep r _ h.2⟩
end
def wfC (d : Cd) : Prop := CdOk d ∧ wfSs d.init ∧ ∀ e ∈ d.methods, MdOk e ∧ wfSs e.body
theorem ls_mem {α : Type} {R : α → List Value → Prop} {sz : Nat} : ∀ {l : List α} {xs : List Value}, lsRep R sz l xs → ∀ e ∈ l, ∃ cs, R e cs
 | [], _, _, e, he => by cases he
 | x :: r, xs, h, e, he => by
  rcases List.mem_cons.1 he with rfl | he
  ·exact ⟨_, h.1⟩
  ·exact ls_mem h.2 e he
theorem wfC_rep {m : Mem} {d : Cd} {cs : List Value} (h : cdRep m d cs) : wfC d := by
 obtain ⟨x, _, _, hok, _, _, xs, ys, _, s3, _, s4⟩ := h
 refine ⟨hok, wfSs_rep _ _ s4, fun e he => ?_⟩
 obtain ⟨cs, x, _, _, h1, _, zs, _, h2⟩ := ls_mem s3 e he
 exact ⟨h1, wfSs_rep _ _ h2⟩
theorem wfP_rep {m : Mem} {l : List Cd} {a : Option Addr} {n c : Nat} (h : prRep m l a n c) : ∀ d ∈ l, wfC d := fun d hd => by
 obtain ⟨_, _, _, xs, _, s⟩ := h
 obtain ⟨cs, h⟩ := ls_mem s d hd
 exact wfC_rep h
structure SsOk (p : Tk → Prop) : Prop where
 b : SgOk p
 lc : p (sg [123])
 rc : p (sg [125])
 semi : p (sg [59])
 eq : p (sg [61])
 kif : p (kw [105, 102])
 kelse : p (kw [101, 108, 115, 101])
 kwhile : p (kw [119, 104, 105, 108, 101])
 ktry : p (kw [116, 114, 121])
 kcatch : p (kw [99, 97, 116, 99, 104])
 ksync : p (kw [115, 121, 110, 99])
 kret : p (kw [114, 101, 116, 117, 114, 110])
 kthrow : p (kw [116, 104, 114, 111, 119])
 kstat : p (kw [115, 116, 97, 116, 105, 99])
 kclass : p (kw [99, 108, 97, 115, 115])
 kiface : p (kw [105, 110, 116, 101, 114, 102, 97, 99, 101])
 kext : p (kw [101, 120, 116, 101, 110, 100, 115])
 kimpl : p (kw [105, 109, 112, 108, 101, 109, 101, 110, 116, 115])
 mods : ∀ x ∈ modsL, p (kw x.2)
structure TkP (p : Tk → Prop) : Prop where
 s : SsOk p
 nm : ∀ s, (identL s = true ∨ isCls s = true) → s.length ≤ big → p (nm1 s)
 int : ∀ n : Int, 0 ≤ n → n ≤ 2147483647 → p ⟨3, [], n, 0⟩
 long : ∀ n : Int, 0 ≤ n → I64 n → p ⟨4, [], n, 0⟩
 str : ∀ s, printL s = true → p ⟨5, s, 0, 0⟩
 op : ∀ s ∈ opsL, p (sg s)
 neg : p (sg [45])
 not : p (sg [33])
theorem tkP_ok : TkP TkOk where
 s := by
  refine ⟨sgOk_ok, ok_sg (by decide), ok_sg (by decide), ok_sg (by decide), ok_sg (by decide), ok_kw (by decide), ok_kw (by decide), ok_kw (by decide), ok_kw (by decide), ok_kw (by decide), ok_kw (by decide), ok_kw (by decide), ok_kw (by decide), ok_kw (by decide), ok_kw (by decide), ok_kw (by decide), ok_kw (by decide), ok_kw (by decide), fun x hx => ok_kw ?_⟩
  have : modsL.all fun x => decide (x.2.length ≤ 2000000) := by decide
  simpa using List.all_eq_true.1 this x hx
 nm := fun s _ h => ok_nm h
 int := fun n h1 h2 => ⟨Nat.zero_le _, by unfold I64; simp only; omega⟩
 long := fun n _ h => ⟨Nat.zero_le _, h⟩
 str := fun s h => by
  simp only [printL, Bbt, decide_eq_true_eq] at h
  exact ⟨by simp only; omega, (by unfold I64; decide : I64 0)⟩
 op := fun s h => by
  have : opsL.all fun x => decide (x.length ≤ 2000000) := by decide
  exact ok_sg (by simpa using List.all_eq_true.1 this s h)
 neg := ok_sg (by decide)
 not := ok_sg (by decide)
theorem typ_p {p : Tk → Prop} (hp : TkP p) {t : Ty} (hw : TyOk t) (h : valueTy t.dim t.base t.name = true) : AllT p (typT t.dim t.base t.name) := by
 refine allT_typ hp.s.b _ _ fun h1 h2 h3 => hp.nm _ (.inr ?_) hw.2.2
 simp only [valueTy, Bbt, decide_eq_true_eq, Bool.or_eq_true] at h
 rcases h.2 with g | g
 ·have hv := h.1.1
  exfalso
  simp [validTy, h1, h2, h3, g] at hv
 ·exact g
mutual
theorem tks_p {p : Tk → Prop} (hp : TkP p) : ∀ (e : Ex), wfE e → validE e = true → AllT p (exprT e)
 | .mk k n s c ty args, h, hv => by
  simp only [wfE] at h
  obtain ⟨⟨h1, h2, h3, h4, h5, h6⟩, h7⟩ := h
  simp only [validE, Bbt] at hv
  obtain ⟨hn, hvs⟩ := hv
  simp only [exprT]
  have hn2 := hn
  simp only [nodeL, Bbt, decide_eq_true_eq] at hn
  obtain ⟨⟨⟨⟨⟨_, _⟩, _⟩, hi⟩, hc⟩, ht⟩ := hn
  refine node_all hp.s.b (tkss_p hp args h7 hvs) (fun hk => ?_) (fun hk => ?_) (fun hk => ?_) (fun hk => ?_) (fun hk => ?_) (fun hk => ?_) (fun hk g1 g2 g3 => ?_)
  ·subst hk
   have hi : litL 1 n s = true := hi
   simp only [litL, if_true, Bbt, decide_eq_true_eq] at hi
   exact hp.int n hi.1.1 hi.1.2
  ·subst hk
   have hi : litL 2 n s = true := hi
   have hi : (decide (0 ≤ n) && decide (s = [])) = true := hi
   simp only [Bbt, decide_eq_true_eq] at hi
   exact hp.long n hi.1 h2
  ·subst hk
   have hi : (decide (n = 0) && printL s) = true := hi
   simp only [Bbt, decide_eq_true_eq] at hi
   exact hp.str s hi.2
  ·rw [if_pos hk] at hi
   simp only [Bbt] at hi
   exact hp.nm s (.inl hi.1) h3
  ·rw [if_pos hk] at hc
   exact hp.nm c (.inr hc) h4
  ·rcases hk with rfl | rfl
   ·have hi : (decide (n = 0) && (decide (s = [45]) || decide (s = [33]))) = true := hi
    simp only [Bbt, Bool.or_eq_true, decide_eq_true_eq] at hi
    rcases hi.2 with rfl | rfl
    ·exact hp.neg
    ·exact hp.not
   ·have hi : (decide (n = 0) && opsL.contains s) = true := hi
    simp only [Bbt, decide_eq_true_eq, List.contains_iff_mem] at hi
    exact hp.op s hi.2
  ·rw [if_pos hk] at ht
   simp only [Bbt] at ht
   have := typ_p hp (t := ty) h5 ht.1
   have h0 := this (baseT ty.base ty.name) (List.mem_cons_self ..)
   unfold baseT at h0
   rwa [if_neg g1, if_neg g2, if_neg g3] at h0
theorem tkss_p {p : Tk → Prop} (hp : TkP p) : ∀ (l : List Ex), wfEs l → validEs l = true → ∀ x ∈ exprTs l, AllT p x.2
 | [], _, _ => fun x hx => by simp only [exprTs] at hx; cases hx
 | e :: r, h, hv => by
  simp only [wfEs] at h
  simp only [validEs, Bbt] at hv
  intro x hx
  simp only [exprTs] at hx
  rcases List.mem_cons.1 hx with rfl | hx
  ·exact tks_p hp e h.1 hv.1
  ·exact tkss_p hp r h.2 hv.2 x hx
end
theorem wfEs_mem : ∀ {l : List Ex}, wfEs l → ∀ e ∈ l, wfE e
 | [], _, e, he => by cases he
 | x :: r, h, e, he => by
  simp only [wfEs] at h
  rcases List.mem_cons.1 he with rfl | he
  ·exact h.1
  ·exact wfEs_mem h.2 e he
theorem wfE_args {e : Ex} (h : wfE e) : wfEs e.args := by
 cases e with
 | mk k n s c ty args => simp only [wfE] at h; exact h.2
theorem br_p {p : Tk → Prop} (hp : SsOk p) {t : List Tk} (h : AllT p t) : AllT p (brT t) := allT_cons hp.lc (allT_app h (allT_one hp.rc))
theorem args_p {p : Tk → Prop} (hp : TkP p) {l : List Ex} (h : wfEs l) (hv : validEs l = true) : AllT p (listT (l.map exprT)) :=
 allT_list hp.s.b fun t ht => by
  obtain ⟨e, he, rfl⟩ := List.mem_map.1 ht
  exact tks_p hp e (wfEs_mem h e he) (validEs_mem hv e he)
theorem rnd_p {p : Tk → Prop} (hp : TkP p) {e : Ex} (h : wfE e) (hv : validE e = true) : AllT p (listT [exprT e]) :=
 allT_list hp.s.b fun t ht => by rw [List.mem_singleton.1 ht]; exact tks_p hp e h hv
mutual
theorem stm_p {p : Tk → Prop} (hp : TkP p) : ∀ (s : St), wfS s → validS s = true → AllT p (stmtT s)
 | .mk k nm ty tg ex body alt, h, hv => by
  simp only [wfS] at h
  obtain ⟨w1, w2, w3, w4, w5, w6⟩ := h
  simp only [validS, Bbt] at hv
  have hv1 := hv.1
  clear hv
  have one := fun {t : Tk} (h : p t) => allT_one h
  have hB : ∀ {q : Bool}, (decide (body.length ≤ 32) && validSs false body && q) = true → AllT p (brT (stmtsT body)) := fun hvb => by
   simp only [Bbt] at hvb
   exact br_p hp.s (stms_p hp false body w5 hvb.1.2)
  have hA : ∀ {q : Bool}, (q && (decide (alt.length ≤ 32) && validSs false alt)) = true → AllT p (brT (stmtsT alt)) := fun hvb => by
   simp only [Bbt] at hvb
   exact br_p hp.s (stms_p hp false alt w6 hvb.2.2)
  rcases okStm_kind hv1 with rfl | rfl | rfl | rfl | rfl | rfl | rfl | rfl | rfl | rfl | rfl
  ·have hv2 : (identL nm && valueTy ty.dim ty.base ty.name && validE ex) = true := hv1
   simp only [Bbt] at hv2
   exact allT_app (allT_app (allT_app (allT_app (typ_p hp w2 hv2.1.2) (one (hp.nm nm (.inl hv2.1.1) w1))) (one hp.s.eq)) (tks_p hp ex w4 hv2.2)) (one hp.s.semi)
  ·have hv2 : (targetE tg && validE ex) = true := hv1
   simp only [Bbt] at hv2
   exact allT_app (allT_app (allT_app (tks_p hp tg w3 (target_valid hv2.1)) (one hp.s.eq)) (tks_p hp ex w4 hv2.2)) (one hp.s.semi)
  ·have hv2 : callE ex = true := hv1
   exact allT_app (tks_p hp ex w4 (call_valid hv2)) (one hp.s.semi)
  ·have hv2 : ((decide (body.length ≤ 32) && validSs false body && (decide (alt.length ≤ 32) && validSs false alt)) && validE ex) = true := hv1
   rw [Bbt] at hv2
   refine allT_app (allT_app (allT_app (one hp.s.kif) (rnd_p hp w4 hv2.2)) (hB hv2.1)) ?_
   split
   ·exact allT_app (one hp.s.kelse) (hA hv2.1)
   ·exact allT_nil
  ·have hv2 : ((decide (body.length ≤ 32) && validSs false body && (decide (alt.length ≤ 32) && validSs false alt)) && validE ex) = true := hv1
   rw [Bbt] at hv2
   exact allT_app (allT_app (one hp.s.kwhile) (rnd_p hp w4 hv2.2)) (hB hv2.1)
  ·have hv2 : (emptyE ex || validE ex) = true := hv1
   refine allT_app (allT_app (one hp.s.kret) ?_) (one hp.s.semi)
   split
   ·rename_i h0
    rw [Bool.or_eq_true] at hv2
    rcases hv2 with g | g
    ·exact absurd (empty_k g) h0
    ·exact tks_p hp ex w4 g
   ·exact allT_nil
  ·have hv2 : validE ex = true := hv1
   exact allT_app (allT_app (one hp.s.kthrow) (tks_p hp ex w4 hv2)) (one hp.s.semi)
  ·have hv2 : ((decide (body.length ≤ 32) && validSs false body && (decide (alt.length ≤ 32) && validSs false alt)) && identL nm && valueTy ty.dim ty.base ty.name) = true := hv1
   rw [Bbt, Bbt] at hv2
   exact allT_app (allT_app (allT_app (allT_app (allT_app (allT_app (allT_app (one hp.s.ktry) (hB hv2.1.1)) (one hp.s.kcatch)) (one hp.s.b.lp)) (typ_p hp w2 hv2.2)) (one (hp.nm nm (.inl hv2.1.2) w1))) (one hp.s.b.rp)) (hA hv2.1.1)
  ·have hv2 : ((decide (body.length ≤ 32) && validSs false body && (decide (alt.length ≤ 32) && validSs false alt)) && validE ex) = true := hv1
   rw [Bbt] at hv2
   exact allT_app (allT_app (one hp.s.ksync) (rnd_p hp w4 hv2.2)) (hB hv2.1)
  ·have hv2 : (decide (body.length ≤ 32) && validSs false body && (decide (alt.length ≤ 32) && validSs false alt)) = true := hv1
   exact hB hv2
  ·have hv2 : superE ex = true := hv1
   exact allT_app (allT_app (one hp.s.b.ksuper) (args_p hp (wfE_args w4) (super_args hv2))) (one hp.s.semi)
theorem stms_p {p : Tk → Prop} (hp : TkP p) : ∀ (sup : Bool) (l : List St), wfSs l → validSs sup l = true → AllT p (stmtsT l)
 | _, [], _, _ => by simp only [stmtsT]; exact allT_nil
 | sup, e :: r, h, hv => by
  simp only [wfSs] at h
  simp only [validSs, Bbt] at hv
  simp only [stmtsT]
  exact allT_app (stm_p hp e h.1 hv.1.2) (stms_p hp false r h.2 hv.2)
end
theorem mod_p {p : Tk → Prop} (hp : SsOk p) (fl : Int) : AllT p (modT fl) := fun t ht => by
 simp only [modT, List.mem_map, List.mem_filter] at ht
 obtain ⟨x, ⟨hx, _⟩, rfl⟩ := ht
 exact hp.mods x hx
theorem ifs_p {p : Tk → Prop} (hp : TkP p) {w : List UInt8} (hw : p (kw w)) : ∀ {l : List (List UInt8)}, (∀ s ∈ l, isCls s = true ∧ s.length ≤ big) → AllT p (ifsT w l)
 | [], _ => allT_nil
 | s :: r, h => by
  refine allT_cons hw (allT_cons (hp.nm s (.inr (h s (List.mem_cons_self ..)).1) (h s (List.mem_cons_self ..)).2) fun t ht => ?_)
  obtain ⟨l, hl, ht⟩ := List.mem_flatten.1 ht
  obtain ⟨x, hx, rfl⟩ := List.mem_map.1 hl
  have := h x (List.mem_cons_of_mem _ hx)
  rcases List.mem_cons.1 ht with rfl | ht
  ·exact hp.s.b.comma
  ·rw [List.mem_singleton.1 ht]; exact hp.nm x (.inr this.1) this.2
theorem void_p {p : Tk → Prop} (hp : TkP p) {t : Ty} (h : voidTy t = true) : AllT p (typT t.dim t.base t.name) := by
 simp only [voidTy, Bbt, decide_eq_true_eq] at h
 exact allT_typ hp.s.b _ _ fun _ _ h3 => absurd h.2.1 h3
theorem method_p {p : Tk → Prop} (hp : TkP p) {d : Md} (hw : MdOk d) (hs : wfSs d.body) (hv : methodL d = true) : AllT p (methodT d) := by
 simp only [methodL, Bbt] at hv
 obtain ⟨⟨⟨h1, h2⟩, h3⟩, h4⟩ := hv
 have hP : ∀ q ∈ d.params, paramL q = true := fun q hq => by
  rw [Bool.not_eq_true', List.any_eq_false] at h3
  simpa using h3 q hq
 simp only [blockL, Bbt] at h4
 refine allT_app (allT_app (allT_app (mod_p hp.s _) ?_) (allT_list hp.s.b fun t ht => ?_)) ?_
 ·split
  ·exact allT_one hp.s.b.knew
  ·rename_i h0
   rw [mHead, if_neg h0] at h1
   simp only [Bbt, Bool.or_eq_true] at h1
   refine allT_app ?_ (allT_one (hp.nm _ (.inl h1.1) hw.name))
   rcases h1.2 with g | g
   ·exact void_p hp g
   ·exact typ_p hp hw.res g
 ·obtain ⟨q, hq, rfl⟩ := List.mem_map.1 ht
  have := hP q hq
  simp only [paramL, Bbt] at this
  exact allT_app (typ_p hp (hw.ps q hq).ty this.1) (allT_one (hp.nm _ (.inl this.2) (hw.ps q hq).name))
 ·split
  ·exact br_p hp.s (stms_p hp _ _ hs h4.2)
  ·exact allT_one hp.s.semi
theorem class_p {p : Tk → Prop} (hp : TkP p) {d : Cd} (hw : wfC d) (hv : classL d = true) : AllT p (clsT d) := by
 obtain ⟨hok, hi, hm⟩ := hw
 simp only [classL, Bbt] at hv
 obtain ⟨_, ⟨⟨⟨⟨⟨hn, hif⟩, _⟩, hF⟩, hM⟩, hI⟩⟩ := hv
 simp only [cNames, Bbt] at hn
 have hif' : ∀ s ∈ d.ifs, isCls s = true ∧ s.length ≤ big := fun s hs => by
  rw [Bool.not_eq_true', List.any_eq_false] at hif
  exact ⟨by simpa using hif s hs, hok.ifs s hs⟩
 have hF' : ∀ f ∈ d.fields, fieldL f = true := fun f hf => by
  rw [Bool.not_eq_true', List.any_eq_false] at hF
  simpa using hF f hf
 have hM' : ∀ f ∈ d.methods, methodL f = true := fun f hf => by
  rw [Bool.not_eq_true', List.any_eq_false] at hM
  simpa using hM f hf
 simp only [blockL, Bbt] at hI
 refine allT_app (allT_app (allT_app (allT_app (allT_app ?_ (allT_one hp.s.lc)) fun t ht => ?_) ?_) fun t ht => ?_) (allT_one hp.s.rc)
 ·unfold headT
  split
  ·exact allT_app (allT_app (allT_app (mod_p hp.s _) (allT_one hp.s.kiface)) (allT_one (hp.nm _ (.inr hn.1.1) hok.name))) (ifs_p hp hp.s.kext hif')
  ·exact allT_app (allT_app (allT_app (allT_app (allT_app (mod_p hp.s _) (allT_one hp.s.kclass)) (allT_one (hp.nm _ (.inr hn.1.1) hok.name))) (allT_one hp.s.kext)) (allT_one (hp.nm _ (.inr hn.1.2) hok.super))) (ifs_p hp hp.s.kimpl hif')
 ·obtain ⟨l, hl, ht⟩ := List.mem_flatten.1 ht
  obtain ⟨f, hf, rfl⟩ := List.mem_map.1 hl
  have hv := hF' f hf
  simp only [fieldL, Bbt] at hv
  exact (allT_app (allT_app (allT_app (mod_p hp.s _) (typ_p hp (hok.fs f hf).ty hv.1.1.1)) (allT_one (hp.nm _ (.inl hv.1.1.2) (hok.fs f hf).name))) (allT_one hp.s.semi)) t ht
 ·split
  ·exact allT_app (allT_one hp.s.kstat) (br_p hp.s (stms_p hp _ _ hi hI.2))
  ·exact allT_nil
 ·obtain ⟨l, hl, ht⟩ := List.mem_flatten.1 ht
  obtain ⟨f, hf, rfl⟩ := List.mem_map.1 hl
  exact method_p hp (hm f hf).1 (hm f hf).2 (hM' f hf) t ht
theorem prog_p {p : Tk → Prop} (hp : TkP p) {l : List Cd} (hw : ∀ d ∈ l, wfC d) (hv : ∀ d ∈ l, classL d = true) : AllT p (progT l) := fun t ht => by
 obtain ⟨x, hx, ht⟩ := List.mem_flatten.1 ht
 obtain ⟨d, hd, rfl⟩ := List.mem_map.1 hx
 exact class_p hp (hw d hd) (hv d hd) t ht
theorem check_ok : ∀ {l : List Cd} {seen : List (List UInt8)}, (checkL seen l).2 = 0 → ∀ d ∈ l, classL d = true ∧ deepL d = false ∧ dupL d = false
 | [], _, _, d, hd => by cases hd
 | x :: r, seen, h, d, hd => by
  rw [checkL] at h
  split at h
  ·rename_i h1
   split at h
   ·cases h
   ·rename_i h2
    split at h
    ·cases h
    ·rename_i h3
     rcases List.mem_cons.1 hd with rfl | hd
     ·rw [Bool.not_eq_true, Bool.or_eq_false_iff] at h3
      exact ⟨h1, by simpa using h2, h3.2⟩
     ·exact check_ok h d hd
  ·cases h
/-! How many tokens. -/
theorem comma_le {K : Nat} : ∀ {l : List (List Tk)} {f : Bool}, (∀ t ∈ l, t.length ≤ K) → (commaT f l).length ≤ (K + 1) * l.length
 | [], _, _ => by simp [commaT]
 | t :: r, f, h => by
  have h1 := h t (List.mem_cons_self ..)
  have h2 := comma_le (l := r) (f := false) fun x hx => h x (List.mem_cons_of_mem _ hx)
  simp only [commaT, Lla, Llc, Nat.mul_add, Nat.mul_one]
  cases f
  ·simp only [Bool.false_eq_true, if_false, Llc]; omega
  ·simp only [if_true]; omega
theorem len_args {l : List Ex} (hv : validEs l = true) : (listT (l.map exprT)).length ≤ 28 * sizeL l + 2 := by
 have h1 := list_sum (exprTs l)
 rw [ts_map] at h1
 have h2 := lens_size l hv
 omega
theorem len_br (t : List Tk) : (brT t).length = t.length + 2 := by simp [brT]
theorem sizeE_args (e : Ex) : sizeE e = sizeL e.args + 1 := by cases e; simp [sizeE, Ex.args]
mutual
theorem len_S : ∀ (s : St), validS s = true → (stmtT s).length ≤ 30 * sizeS s
 | .mk k nm ty tg ex body alt, hv => by
  simp only [validS, Bbt] at hv
  have hv1 := hv.1
  clear hv
  have hB : ∀ {q : Bool}, (decide (body.length ≤ 32) && validSs false body && q) = true → (brT (stmtsT body)).length ≤ 30 * sizeSs body + 2 := fun hvb => by
   simp only [Bbt] at hvb
   have := len_Ss false body hvb.1.2
   rw [len_br]; omega
  have hA : ∀ {q : Bool}, (q && (decide (alt.length ≤ 32) && validSs false alt)) = true → (brT (stmtsT alt)).length ≤ 30 * sizeSs alt + 2 := fun hvb => by
   simp only [Bbt] at hvb
   have := len_Ss false alt hvb.2.2
   rw [len_br]; omega
  have hs1 := sizeE_args ex
  have hs2 := sizeE_args tg
  have hX : validE ex = true → (exprT ex).length + 3 ≤ 28 * sizeE ex := len_size ex
  have hR : validE ex = true → (listT [exprT ex]).length + 1 ≤ 28 * sizeE ex := fun h => by have := len_size ex h; rw [one_len]; omega
  simp only [sizeS]
  rcases okStm_kind hv1 with rfl | rfl | rfl | rfl | rfl | rfl | rfl | rfl | rfl | rfl | rfl
  ·have hv2 : (identL nm && valueTy ty.dim ty.base ty.name && validE ex) = true := hv1
   simp only [Bbt] at hv2
   have h1 := typ_len ty.dim ty.base ty.name (value_dim hv2.1.2)
   have h2 := hX hv2.2
   show ((typT ty.dim ty.base ty.name ++ [nm1 nm] ++ [sg [61]] ++ exprT ex) ++ [sg [59]]).length ≤ _
   simp only [Lla, Llc, Lln]
   omega
  ·have hv2 : (targetE tg && validE ex) = true := hv1
   simp only [Bbt] at hv2
   have h1 := len_size tg (target_valid hv2.1)
   have h2 := hX hv2.2
   show ((exprT tg ++ [sg [61]] ++ exprT ex) ++ [sg [59]]).length ≤ _
   simp only [Lla, Llc, Lln]
   omega
  ·have hv2 : callE ex = true := hv1
   have h2 := hX (call_valid hv2)
   show ((exprT ex) ++ [sg [59]]).length ≤ _
   simp only [Lla, Llc, Lln]
   omega
  ·have hv2 : ((decide (body.length ≤ 32) && validSs false body && (decide (alt.length ≤ 32) && validSs false alt)) && validE ex) = true := hv1
   rw [Bbt] at hv2
   have h1 := hR hv2.2
   have h2 := hB hv2.1
   have h3 := hA hv2.1
   have h4 : (if 0 < alt.length then [kw [101, 108, 115, 101]] ++ brT (stmtsT alt) else []).length ≤ 30 * sizeSs alt + 3 := by
    split
    ·simp only [Lla, Llc, Lln]; omega
    ·simp
   show ([kw [105, 102]] ++ listT [exprT ex] ++ brT (stmtsT body) ++ (if 0 < alt.length then [kw [101, 108, 115, 101]] ++ brT (stmtsT alt) else [])).length ≤ _
   rw [Lla]
   simp only [Lla, Llc, Lln] at h4 ⊢
   omega
  ·have hv2 : ((decide (body.length ≤ 32) && validSs false body && (decide (alt.length ≤ 32) && validSs false alt)) && validE ex) = true := hv1
   rw [Bbt] at hv2
   have h1 := hR hv2.2
   have h2 := hB hv2.1
   show ([kw [119, 104, 105, 108, 101]] ++ listT [exprT ex] ++ brT (stmtsT body)).length ≤ _
   simp only [Lla, Llc, Lln]
   omega
  ·have hv2 : (emptyE ex || validE ex) = true := hv1
   have h4 : (if ex.k ≠ 0 then exprT ex else []).length ≤ 28 * sizeE ex := by
    split
    ·rename_i h0
     rw [Bool.or_eq_true] at hv2
     rcases hv2 with g | g
     ·exact absurd (empty_k g) h0
     ·have := hX g; omega
    ·simp
   show (([kw [114, 101, 116, 117, 114, 110]] ++ (if ex.k ≠ 0 then exprT ex else [])) ++ [sg [59]]).length ≤ _
   simp only [Lla, Llc, Lln] at h4 ⊢
   omega
  ·have hv2 : validE ex = true := hv1
   have h2 := hX hv2
   show (([kw [116, 104, 114, 111, 119]] ++ exprT ex) ++ [sg [59]]).length ≤ _
   simp only [Lla, Llc, Lln]
   omega
  ·have hv2 : ((decide (body.length ≤ 32) && validSs false body && (decide (alt.length ≤ 32) && validSs false alt)) && identL nm && valueTy ty.dim ty.base ty.name) = true := hv1
   rw [Bbt, Bbt] at hv2
   have h1 := typ_len ty.dim ty.base ty.name (value_dim hv2.2)
   have h2 := hB hv2.1.1
   have h3 := hA hv2.1.1
   show ([kw [116, 114, 121]] ++ brT (stmtsT body) ++ [kw [99, 97, 116, 99, 104]] ++ [sg [40]] ++ typT ty.dim ty.base ty.name ++ [nm1 nm] ++ [sg [41]] ++ brT (stmtsT alt)).length ≤ _
   simp only [Lla, Llc, Lln]
   omega
  ·have hv2 : ((decide (body.length ≤ 32) && validSs false body && (decide (alt.length ≤ 32) && validSs false alt)) && validE ex) = true := hv1
   rw [Bbt] at hv2
   have h1 := hR hv2.2
   have h2 := hB hv2.1
   show ([kw [115, 121, 110, 99]] ++ listT [exprT ex] ++ brT (stmtsT body)).length ≤ _
   simp only [Lla, Llc, Lln]
   omega
  ·have hv2 : (decide (body.length ≤ 32) && validSs false body && (decide (alt.length ≤ 32) && validSs false alt)) = true := hv1
   have h2 := hB hv2
   show (brT (stmtsT body)).length ≤ _
   omega
  ·have hv2 : superE ex = true := hv1
   have h2 := len_args (super_args hv2)
   show (([kw [115, 117, 112, 101, 114]] ++ listT (ex.args.map exprT)) ++ [sg [59]]).length ≤ _
   simp only [Lla, Llc, Lln]
   omega
theorem len_Ss : ∀ (sup : Bool) (l : List St), validSs sup l = true → (stmtsT l).length ≤ 30 * sizeSs l
 | _, [], _ => by simp [stmtsT, sizeSs]
 | sup, e :: r, hv => by
  simp only [validSs, Bbt] at hv
  have h1 := len_S e hv.1.2
  have h2 := len_Ss false r hv.2
  simp only [stmtsT, sizeSs, Lla]
  omega
end
theorem res_dim {d : Md} (h1 : mHead d = true) : d.res.dim ≤ 8 := by
 simp only [mHead] at h1
 split at h1
 ·simp only [Bbt, voidTy, decide_eq_true_eq] at h1
  omega
 ·simp only [Bbt, Bool.or_eq_true, voidTy, decide_eq_true_eq] at h1
  rcases h1.2 with g | g
  ·omega
  ·exact value_dim g
theorem len_M {d : Md} (hv : methodL d = true) : (methodT d).length ≤ 60 * sizeM d := by
 simp only [methodL, Bbt] at hv
 obtain ⟨⟨⟨h1, h2⟩, h3⟩, h4⟩ := hv
 simp only [blockL, Bbt] at h4
 have hb := len_Ss _ _ h4.2
 have hm := modT_len d.fl
 have ht := typ_len d.res.dim d.res.base d.res.name (res_dim h1)
 have hp : (commaT true (d.params.map paramT)).length ≤ (18 + 1) * (d.params.map paramT).length := comma_le fun t ht => by
  obtain ⟨q, hq, rfl⟩ := List.mem_map.1 ht
  rw [Bool.not_eq_true', List.any_eq_false] at h3
  have hq2 : paramL q = true := by simpa using h3 q hq
  simp only [paramL, Bbt] at hq2
  have := typ_len q.ty.dim q.ty.base q.ty.name (value_dim hq2.1)
  simp only [paramT, Lla, Llc, Lln]
  omega
 rw [List.length_map] at hp
 have e1 : (if d.name = initS then [kw [110, 101, 119]] else typT d.res.dim d.res.base d.res.name ++ [nm1 d.name]).length ≤ 18 := by
  split
  ·simp
  ·simp only [Lla, Llc, Lln]; omega
 have e2 : (if d.hb = true then brT (stmtsT d.body) else [sg [59]]).length ≤ 30 * sizeSs d.body + 2 := by
  split
  ·rw [len_br]; omega
  ·simp
 simp only [methodT, listT, sizeM]
 rw [Lla, Lla, Lla]
 simp only [Lla, Llc, Lln] at e1 e2 ⊢
 omega
theorem sum_le {α : Type} {f : α → List Tk} {g : α → Nat} {K : Nat} : ∀ {l : List α}, (∀ x ∈ l, (f x).length ≤ K * g x) → ((l.map f).flatten).length ≤ K * (l.map g).sum
 | [], _ => by simp
 | x :: r, h => by
  have h1 := h x (List.mem_cons_self ..)
  have h2 := sum_le (l := r) (K := K) (g := g) fun y hy => h y (List.mem_cons_of_mem _ hy)
  simp only [List.map_cons, List.flatten_cons, Lla, List.sum_cons, Nat.mul_add]
  omega
theorem len_C {d : Cd} (hv : classL d = true) : (clsT d).length ≤ 60 * sizeC d := by
 simp only [classL, Bbt] at hv
 obtain ⟨_, ⟨⟨⟨⟨⟨hn, hif⟩, _⟩, hF⟩, hM⟩, hI⟩⟩ := hv
 simp only [blockL, Bbt] at hI
 have hb := len_Ss _ _ hI.2
 have hm := modT_len d.fl
 have hm2 := modT_len (bits .andNot .i64 d.fl 1024)
 have hM' : ((d.methods.map methodT).flatten).length ≤ 60 * (d.methods.map sizeM).sum := sum_le fun f hf => by
  rw [Bool.not_eq_true', List.any_eq_false] at hM
  exact len_M (by simpa using hM f hf)
 have hF' : ((d.fields.map fieldT).flatten).length ≤ 26 * (d.fields.map fun _ => 1).sum := sum_le fun f hf => by
  rw [Bool.not_eq_true', List.any_eq_false] at hF
  have hv : fieldL f = true := by simpa using hF f hf
  simp only [fieldL, Bbt] at hv
  have h1 := typ_len f.ty.dim f.ty.base f.ty.name (value_dim hv.1.1.1)
  have h2 := modT_len f.fl
  simp only [fieldT, Lla, Llc, Lln]
  omega
 have hs : ∀ (l : List Fc), (l.map fun _ => 1).sum = l.length := fun l => by
  induction l with
  | nil => rfl
  | cons a r ih => simp only [List.map_cons, List.sum_cons, Llc, ih]; omega
 rw [hs] at hF'
 have hH : (headT d).length ≤ 11 + d.ifs.length * 2 := by
  unfold headT
  split
  ·simp only [Lla, Llc, Lln, ifs_len]; omega
  ·simp only [Lla, Llc, Lln, ifs_len]; omega
 have e2 : (if 0 < d.init.length then [kw [115, 116, 97, 116, 105, 99]] ++ brT (stmtsT d.init) else []).length ≤ 30 * sizeSs d.init + 3 := by
  split
  ·rw [Lla, len_br]; simp only [Llc, Lln]; omega
  ·simp
 simp only [clsT, classT, sizeC]
 rw [Lla, Lla, Lla, Lla]
 simp only [Lla, Llc, Lln] at e2 ⊢
 omega
theorem len_P {l : List Cd} (hv : ∀ d ∈ l, classL d = true) : (progT l).length ≤ 60 * (l.map sizeC).sum := sum_le fun d hd => len_C (hv d hd)
theorem prog_tk {l : List Cd} {seen : List (List UInt8)} (hw : ∀ d ∈ l, wfC d) (hs : (l.map sizeC).sum ≤ 1048576) (h0 : (checkL seen l).2 = 0) : (progT l).length ≤ cap ∧ AllT TkOk (progT l) := by
 have hv := fun d hd => (check_ok h0 d hd).1
 have := len_P hv
 exact ⟨by simp only [cap]; omega, prog_p tkP_ok hw hv⟩
theorem flatL_take {l : List St} {k : Nat} (hk : k < l.length) (h : flatL (l.take k) = true) : flatL (l.take (k + 1)) = (decide (depthS l[k] ≤ 24) && decide (deepR l[k] ≤ 24)) := by
 simp only [flatL, Bbt, decide_eq_true_eq] at h
 rw [flatL, depthSs_take hk, deepRs_take hk, ← Bool.decide_and, ← Bool.decide_and, decide_eq_decide]
 omega
theorem flatL_le {l : List St} {k : Nat} (h : flatL (l.take (k + 1)) = false) (hk : k < l.length) : flatL l = false := by
 have h1 := depthSs_le l (k + 1)
 have h2 : deepRs (l.take (k + 1)) ≤ deepRs l := by
  have : ∀ (l : List St) (k : Nat), deepRs (l.take k) ≤ deepRs l := fun l => by
   induction l with
   | nil => intro k; simp
   | cons a r ih =>
    intro k
    cases k with
    | zero => simp [deepRs]
    | succ k =>
     have := ih k
     simp only [List.take_succ_cons, deepRs]
     omega
  exact this l (k + 1)
 cases hf : flatL l with
 | false => rfl
 | true =>
  simp only [flatL, Bbt, decide_eq_true_eq] at hf
  rw [flatL, decide_eq_true (by omega), decide_eq_true (by omega)] at h
  cases h
theorem rflat_spec (l : List St) (a : Option Addr) (n c : Nat) (xs : List Value) (m : Mem) (hl : n = l.length) (hr : Rds m a n 23 xs) (hs : stsRep m l xs) (hn : n ≤ big) (hz : sizeSs l ≤ big) : Ans 82 [.v (.slice a n c)] m (.bool (flatL l)) := by
 have hD := st_it (g := fun e => .int .i64 (depthS e)) hl hr hs fun e he cs m2 hle2 hrep => sdepth_all _ e cs m2 (Nnr _) (by have := sizeSs_mem he; have := depD_size e; omega) hrep
 have hE := st_it (g := fun e => .int .i64 (deepR e)) hl hr hs fun e he cs m2 hle2 hrep => sdeep_all _ e cs m2 (Nnr _) (by have := sizeSs_mem he; omega) hrep
 refine enter cfN puN Tryz.func82 rfl rfl (by kernel_rfl) rfl ?_ ?_
 ·simp only [go_sem, ↓tfi, ↓fti, ↓reduceIte]
 ·simp only [go_sem, ↓tfi, ↓fti, ↓reduceIte]
  refine WP_loop puN (fun x : Nat × Mem => ⟨[⟨0, [], .v (.slice a n c)⟩, ⟨3, [], .v (.int .i64 x.1)⟩], [], [], [], 0, x.2⟩)
    (fun x => leM m x.2 ∧ x.1 ≤ n ∧ flatL (l.take x.1) = true) (fun x => n - x.1) (0, m) (by kernel_rfl) (fun _ _ => Nnr _) (fun x hx => hx.1) (fun _ => ?_) ?_ ?_ ?_
  ·simp only [go_sem, ↓tfi, ↓fti, ↓reduceIte]
  ·simp only [go_sem, ↓tfi, ↓fti, ↓reduceIte]
   rfl
  ·exact ⟨.inl rfl, Nat.zero_le _, rfl⟩
  ·rintro ⟨k, mm⟩ ⟨h1, h2, h3⟩
   simp only at h1 h2 h3
   simp only [go_sem, ↓tfi, ↓fti, ↓reduceIte]
   refine ⟨fun hlt => ?_, fun hge => ⟨h1, ?_⟩⟩
   ·have hk : k < l.length := by clear hD hE; omega
    have hT := flatL_take hk h3
    have hF := fun (h : flatL (l.take (k + 1)) = false) => flatL_le h hk
    have hE' := fun m2 (h : leM m m2) => hE m2 h k hk
    clear hE
    refine Exists.elim (hD mm h1 k hk) fun X hX => ⟨⟨by clear hD hE' hX; omega, hlt, hX.1.2⟩, X.cs, ⟨hX.1.1, rfl⟩, ?_⟩
    clear hD
    have ha := hX.2 mm (.inl rfl)
    clear hX
    simp only [go_sem, ↓tfi, ↓fti, ↓reduceIte, Sd.cs, Nd.cs]
    refine cvl ((FnH_den ha (fun V => rfl)).mono ?_)
    clear ha
    rintro r H' m2 hm2 ⟨l2, rfl, rfl⟩
    have k2 := leM_tr h1 l2
    simp only [go_sem, ↓tfi, ↓fti, ↓reduceIte, Sd.cs, Nd.cs]
    refine Exists.elim (hE' m2 k2) fun Y hY => ⟨fun _ => ⟨by clear hE' hY; omega, hlt, hY.1.2⟩, Y.cs, fun _ => ⟨hY.1.1, rfl⟩, ?_⟩
    clear hE'
    have ha := hY.2 m2 (.inl rfl)
    clear hY
    simp only [go_sem, ↓tfi, ↓fti, ↓reduceIte, Sd.cs, Nd.cs]
    refine ⟨fun hc => cvl ((FnH_den ha (fun V => rfl)).mono ?_), fun hc => ?_⟩
    ·clear ha
     rintro r H' m3 hm3 ⟨l3, rfl, rfl⟩
     have k3 := leM_tr k2 l3
     simp only [go_sem, ↓tfi, ↓fti, ↓reduceIte, Sd.cs, Nd.cs]
     refine ⟨fun hb => ⟨k3, ?_⟩, fun hb => ⟨by unfold I64; simp only [big] at hn; omega, (k + 1, m3), ⟨by simp, .inl rfl⟩, ⟨k3, by simp only; omega, ?_⟩, by simp only; omega⟩⟩
     ·rw [hF]
      rw [hT, decide_eq_false (by omega : ¬ deepR l[k] ≤ 24), Bool.and_false]
     ·simp only
      rw [hT, decide_eq_true (by omega : depthS l[k] ≤ 24), decide_eq_true (by omega : deepR l[k] ≤ 24)]
      rfl
    ·clear ha
     refine ⟨k2, ?_⟩
     rw [hF]
     rw [hT, decide_eq_false (by omega : ¬ depthS l[k] ≤ 24), Bool.false_and]
   ·clear hD hE
    rw [List.take_of_length_le (by omega)] at h3
    exact h3.symm
def shallowL (d : Cd) : Bool := (d.methods.all fun e => flatL e.body) && flatL d.init
theorem rshallow_spec (d : Cd) (cs : List Value) (m : Mem) (h : cdRep m d cs) (hz : sizeC d ≤ big) : Ans 36 [.v (.agg ⟨cs⟩)] m (.bool (shallowL d)) := by
 obtain ⟨fl, name, super, ifs, fields, methods, init⟩ := d
 obtain ⟨x, ⟨rfl, rfl, rfl, rfl⟩, ⟨hil, hic, hfn, hfc, hml, hmc, hsl, hsc⟩, hok, r1, r2, xs, ys, r3, s3, r4, s4⟩ := h
 simp only at hil hfn hml hsl r1 r2 r3 s3 r4 s4
 simp only [sizeC] at hz
 have b2 : x.ml ≤ big := by rw [hml]; exact hok.ml
 have hI := fun m' (hle : leM m m') => rflat_spec init x.sa x.sl x.sc ys m' hsl (Rds_upM hle r4) (stsRep_upM hle s4) (by rw [hsl]; exact hok.l) (by omega)
 have y2 : ∀ m', leM m m' → ∀ i (hk : i < methods.length), ∃ X : Mc, (Rd m' (ptrAt x.ma (i * 8)) X.cs ∧ x.ma ≠ none) ∧ Ans 82 [.v (.slice X.a X.l X.cp)] m' (.bool (flatL methods[i].body)) := fun m' hle i hk => by
  have hrep := mdRep_up hle (ls_at s3 hk)
  have hrd := Rds_cells (Rds_upM hle r3) (by omega : i < x.ml)
  have hsm := sum_mem (f := sizeM) methods[i] (List.getElem_mem hk)
  simp only [sizeM] at hsm
  obtain ⟨X, e1, e2, e3, e4, zs, e5, e6⟩ := hrep
  rw [e1.1] at hrd
  exact ⟨X, hrd, rflat_spec _ X.a X.l X.cp zs m' e2.2.2.1 e5 e6 (by rw [e2.2.2.1]; exact e3.l) (by omega)⟩
 clear s3 s4
 have hX : shallowL ⟨x.fl, x.name, x.super, ifs, fields, methods, init⟩ = ((methods.all fun e => flatL e.body) && flatL init) := rfl
 refine enter cfN puN Tryz.func36 rfl rfl (by kernel_rfl) rfl ?_ ?_
 ·simp only [go_sem, ↓tfi, ↓fti, ↓reduceIte, Cc.cs]
 ·simp only [go_sem, ↓tfi, ↓fti, ↓reduceIte, Cc.cs]
  refine WP_loop puN (fun y : Nat × Mem => ⟨[⟨1, [], .box 0 0⟩, ⟨3, [], .v (.int .i64 y.1)⟩], [], [⟨0, 55, x.cs.map .v⟩], [], 1, y.2⟩)
   (fun y => leM m y.2 ∧ y.1 ≤ x.ml ∧ ((methods.take y.1).all fun e => flatL e.body) = true) (fun y => x.ml - y.1) (0, m) (by kernel_rfl) (fun _ _ => Nnr _) (fun y hy => ?_) (fun _ => ?_) ?_ ?_ ?_
  ·exact hy.1
  ·simp only [go_sem, ↓tfi, ↓fti, ↓reduceIte, Cc.cs]
  ·simp only [go_sem, ↓tfi, ↓fti, ↓reduceIte, Cc.cs]
   rfl
  ·exact ⟨.inl rfl, Nat.zero_le _, rfl⟩
  ·rintro ⟨k, mm⟩ ⟨g1, g2, g3⟩
   simp only at g1 g2 g3
   simp only [go_sem, ↓tfi, ↓fti, ↓reduceIte, Cc.cs]
   refine ⟨fun hlt => ?_, fun hge => ?_⟩
   ·have hk : k < methods.length := by clear y2 hI; omega
    have hy := y2 mm g1 k hk
    clear y2 hI
    refine Exists.elim hy fun X hy1 => ⟨⟨by clear hy hy1; omega, hlt, hy1.1.2⟩, Rd_ptr hy1.1.1, .slice X.a X.l X.cp, Rd_sub hy1.1.1 7 1 (nbl rfl), ?_⟩
    have ha := hy1.2
    clear hy hy1
    refine cvl (ha.mono ?_)
    clear ha
    rintro r H' m5 hm5 ⟨l5, rfl, rfl⟩
    simp only [go_sem, ↓tfi, ↓fti, ↓reduceIte, Cc.cs]
    refine ⟨fun hf => ⟨leM_tr g1 l5, ?_⟩, fun ht => ⟨by unfold I64; simp only [big] at b2; omega, (k + 1, m5), ⟨by simp, .inl rfl⟩, ⟨leM_tr g1 l5, by simp only; omega, ?_⟩, by simp only; omega⟩⟩
    ·rw [hX, all_no (p := fun e : Md => flatL e.body) hk hf]; rfl
    ·simp only; rw [all_take hk, g3, ht]; rfl
   ·have hkk : methods.take k = methods := List.take_of_length_le (by clear y2 hI; omega)
    rw [hkk] at g3
    rw [g3, Bool.true_and] at hX
    have ha := hI mm g1
    clear y2 hI
    refine cvl (ha.mono ?_)
    clear ha
    rintro r H' m5 hm5 ⟨l5, rfl, rfl⟩
    simp only [go_sem, ↓tfi, ↓fti, ↓reduceIte, Cc.cs]
    exact ⟨leM_tr g1 l5, hX.symm⟩
/-! Plain: the two depths. -/
theorem stmR_parts {k : Int} {nm : List UInt8} {ty : Ty} {tg ex : Ex} {body alt : List St} (h : stmR k nm ty tg ex body alt = true) : blockL false body = true ∧ blockL false alt = true ∧ (k = 11 → emptyE tg = true) := by
 have hs : ∃ t t2 a b, shapeR nm ty tg body alt t t2 a b = true ∧ (k = 11 → t2 = false) := by
  unfold stmR at h
  split at h
  ·simp only [Bbt] at h; exact ⟨_, _, _, _, h.1, fun _ => rfl⟩
  split at h
  ·rename_i hk
   simp only [Bbt] at h; exact ⟨_, _, _, _, h.1.1.1, fun e => by rw [hk] at e; exact absurd e (by decide)⟩
  split at h
  ·simp only [Bbt] at h; exact ⟨_, _, _, _, h.1.1, fun _ => rfl⟩
  split at h
  ·simp only [Bbt] at h; exact ⟨_, _, _, _, h.1, fun _ => rfl⟩
  split at h
  ·simp only [Bbt] at h; exact ⟨_, _, _, _, h.1, fun _ => rfl⟩
  split at h
  ·rw [Bbt] at h; exact ⟨_, _, _, _, h.1, fun _ => rfl⟩
  split at h
  ·simp only [Bbt] at h; exact ⟨_, _, _, _, h.1, fun _ => rfl⟩
  split at h
  ·simp only [Bbt] at h; exact ⟨_, _, _, _, h.1, fun _ => rfl⟩
  split at h
  ·simp only [Bbt] at h; exact ⟨_, _, _, _, h.1, fun _ => rfl⟩
  split at h
  ·simp only [Bbt] at h; exact ⟨_, _, _, _, h.1, fun _ => rfl⟩
  ·cases h
 obtain ⟨t, t2, a, b, hs, h11⟩ := hs
 simp only [shapeR, Bbt, Bool.or_eq_true] at hs
 exact ⟨hs.1.2, hs.2, fun e => by
  rcases hs.1.1.1.1.2 with h | h
  ·rw [h11 e] at h; cases h
  ·exact h⟩
mutual
theorem deepR_le : ∀ (s : St), validS s = true → (exprD s ≤ 24 ↔ deepR s ≤ 24)
 | .mk k nm ty tg ex body alt, h => by
  rw [stm_eq] at h
  obtain ⟨h1, h2, h3⟩ := stmR_parts h
  simp only [blockL, Bbt] at h1 h2
  have i1 := deepRs_le false body h1.2
  have i2 := deepRs_le false alt h2.2
  have dx : depthE ex = argsD ex + 1 := by cases ex; simp [depthE, argsD]
  simp only [exprD, deepR]
  by_cases hk : k = 11
  ·have ht : depthE tg = 1 := by
    have := h3 hk
    cases tg with
    | mk k n s c ty args =>
     simp only [emptyE, emptyL, Bbt, decide_eq_true_eq] at this
     have ha : args = [] := List.length_eq_zero_iff.1 (by omega)
     subst ha
     simp [depthE, depthL]
   rw [if_pos hk, if_pos hk]
   omega
  ·rw [if_neg hk, if_neg hk]
   omega
theorem deepRs_le : ∀ (sup : Bool) (l : List St), validSs sup l = true → (exprDs l ≤ 24 ↔ deepRs l ≤ 24)
 | _, [], _ => by simp [exprDs, deepRs]
 | sup, e :: r, h => by
  simp only [validSs, Bbt] at h
  have i1 := deepR_le e h.1.2
  have i2 := deepRs_le false r h.2
  simp only [exprDs, deepRs]
  omega
end
theorem flat_eq {sup : Bool} {l : List St} (h : blockL sup l = true) : flatL l = decide (depthSs l ≤ 24 ∧ exprDs l ≤ 24) := by
 simp only [blockL, Bbt] at h
 have := deepRs_le sup l h.2
 rw [flatL, ← Bool.decide_and, decide_eq_decide]
 omega
theorem flats_eq : ∀ (l : List Md), (∀ e ∈ l, methodL e = true) → (l.all fun e => flatL e.body) = decide (mdsS l ≤ 24 ∧ mdsE l ≤ 24)
 | [], _ => by simp [mdsS, mdsE]
 | e :: r, h => by
  have h1 := h e (List.mem_cons_self ..)
  simp only [methodL, Bbt] at h1
  rw [List.all_cons, flats_eq r fun x hx => h x (List.mem_cons_of_mem _ hx), flat_eq h1.2, ← Bool.decide_and, decide_eq_decide]
  simp only [mdsS, mdsE]
  omega
theorem deep_eq {d : Cd} (h : classL d = true) : deepL d = !shallowL d := by
 simp only [classL, Bbt, Bool.not_eq_true', List.any_eq_false] at h
 have hm : ∀ e ∈ d.methods, methodL e = true := fun e he => by
  have := h.2.1.2 e he
  simpa using this
 rw [shallowL, flats_eq d.methods hm, flat_eq h.2.2, deepL, ← Bool.decide_and, ← Bool.decide_or, ← decide_not, decide_eq_decide]
 omega
structure RCls (X : Cc) (e : Cd) (p : Option Addr) (o : Nat) (m' : Mem) : Prop where
 rd : Rd m' (ptrAt p o) X.cs
 nn : p ≠ none
 cl : Ans 35 [.v (.agg ⟨X.cs⟩)] m' (.bool (classL e))
 sh : Ans 36 [.v (.agg ⟨X.cs⟩)] m' (.bool (shallowL e))
 tw : Ans 37 [.v (.agg ⟨X.cs⟩)] m' (.bool (dupL e))
theorem rcheck_spec (l : List Cd) (p : Option Addr) (n c : Nat) (m : Mem) (hz : (l.map sizeC).sum ≤ 1048576) (h : prRep m l p n c) :
  FnH Tryz.prog 12 [.v (.slice p n c)] ⟨[], []⟩ m fun r H' m' => leM m m' ∧ H' = ⟨[], []⟩ ∧ r = .tup [.v (.string (bs (checkL [] l).1)), .v (.int .i64 (checkL [] l).2)] := by
 obtain ⟨hl, hcp, hn, xs, r1, s1⟩ := h
 have y : ∀ i (hk : i < l.length), ∃ X : Cc, X.name = l[i].name ∧ ∀ m', leM m m' → RCls X l[i] p (i * 7) m' := fun i hk => by
  have hrep := ls_at s1 hk
  have hsz := sum_mem (f := sizeC) l[i] (List.getElem_mem hk)
  have hX : ∃ X : Cc, (xs.drop (i * 7)).take 7 = X.cs ∧ X.name = l[i].name ∧ I64 l[i].fl := by
   obtain ⟨X, e1, e2, e3, _⟩ := hrep
   exact ⟨X, e1.1, e1.2.2.1, e3.fl⟩
  obtain ⟨X, e1, e2, e3⟩ := hX
  refine ⟨X, e2, fun m' hle => ?_⟩
  have hrd := Rds_cells (Rds_upM hle r1) (by omega : i < n)
  have hr2 := cdRep_up hle hrep
  rw [e1] at hrd hr2
  have hc := rclass_spec _ _ m' hr2
  rw [class_eq _ e3] at hc
  exact ⟨hrd.1, hrd.2, hc, rshallow_spec _ _ m' hr2 (by simp only [big]; omega), rtwice_spec _ _ m' hr2⟩
 clear s1
 refine enter cfN puN Tryz.func12 rfl rfl (by kernel_rfl) rfl ?_ ?_
 ·simp only [go_sem, ↓tfi, ↓fti, ↓reduceIte]
 ·simp only [go_sem, ↓tfi, ↓fti, ↓reduceIte]
  refine WP_loop puN (fun x : Nat × Mem => ⟨[⟨0, [], .v (.slice p n c)⟩, ⟨4, [], .v (.int .i64 x.1)⟩], [], [], [], 0, x.2⟩)
   (fun x => leM m x.2 ∧ x.1 ≤ n ∧ checkL [] l = checkL ((l.map (·.name)).take x.1) (l.drop x.1)) (fun x => n - x.1) (0, m) (by kernel_rfl) (fun _ _ => Nnr _) (fun x hx => hx.1) (fun _ => ?_) ?_ ?_ ?_
  ·simp only [go_sem, ↓tfi, ↓fti, ↓reduceIte]
  ·simp only [go_sem, ↓tfi, ↓fti, ↓reduceIte]
   rfl
  ·exact ⟨.inl rfl, Nat.zero_le _, rfl⟩
  ·rintro ⟨k, mm⟩ ⟨h1, h2, h3⟩
   simp only at h1 h2 h3
   have hst : ∀ (hk : k < l.length), checkL [] l = (if classL l[k] = true then (if deepL l[k] = true then (l[k].name, 9) else if (((l.map (·.name)).take k).contains l[k].name || dupL l[k]) = true then (l[k].name, 6) else checkL ((l.map (·.name)).take (k + 1)) (l.drop (k + 1))) else (l[k].name, 4)) := fun hk => by
    rw [h3, List.drop_eq_getElem_cons hk, checkL]
    have : (l.map (·.name)).take (k + 1) = (l.map (·.name)).take k ++ [l[k].name] := by
     rw [List.take_succ_eq_append_getElem (by simpa using hk)]
     simp
    rw [this]
   simp only [go_sem, ↓tfi, ↓fti, ↓reduceIte]
   refine ⟨fun hlt => ?_, fun hge => ?_⟩
   ·have hk : k < l.length := by clear y; omega
    have hst' := hst hk
    clear hst
    refine Exists.elim (y k hk) fun X hy => ⟨⟨by clear y hy; omega, hlt, (hy.2 mm h1).nn⟩, X.cs, ⟨(hy.2 mm h1).rd, rfl⟩, ?_⟩
    have hnm := hy.1
    have hV := (hy.2 mm h1).cl
    simp only [go_sem, ↓tfi, ↓fti, ↓reduceIte, Cc.cs]
    refine cvl ((FnH_den hV (fun V => rfl)).mono ?_)
    clear hV
    rintro r H' m2 hm2 ⟨l2, rfl, rfl⟩
    have k2 := leM_tr h1 l2
    have hp2 := (hy.2 m2 k2).rd
    have hp0 := (hy.2 m2 k2).nn
    have hS := (hy.2 m2 k2).sh
    simp only [go_sem, ↓tfi, ↓fti, ↓reduceIte, Cc.cs]
    refine ⟨fun b1 => ⟨⟨by clear y hy hS; omega, hlt, hp0⟩, Rd_ptr hp2, .string (bs X.name), Rd_sub hp2 1 1 (nbl rfl), ?_⟩, fun b1 => ⟨⟨by clear y hy hS; omega, hlt, hp0⟩, X.cs, ⟨hp2, rfl⟩, ?_⟩⟩
    ·clear y hy hS
     refine ⟨k2, ?_⟩
     rw [hst', if_neg (by rw [b1]; decide), hnm]
    ·rw [if_pos b1] at hst'
     simp only [go_sem, ↓tfi, ↓fti, ↓reduceIte, Cc.cs]
     refine cvl ((FnH_den hS (fun V => rfl)).mono ?_)
     clear hS
     rintro r H' m3 hm3 ⟨l3, rfl, rfl⟩
     have k3 := leM_tr k2 l3
     have hp3 := (hy.2 m3 k3).rd
     have hT := (hy.2 m3 k3).tw
     have hdp : deepL l[k] = !shallowL l[k] := deep_eq b1
     simp only [go_sem, ↓tfi, ↓fti, ↓reduceIte, Cc.cs]
     refine ⟨fun b2 => ⟨⟨by clear y hy hT; omega, hlt, hp0⟩, Rd_ptr hp3, .string (bs X.name), Rd_sub hp3 1 1 (nbl rfl), ?_⟩, fun b2 => ?_⟩
     ·clear y hy hT
      refine ⟨k3, ?_⟩
      rw [b2, Bool.not_false] at hdp
      rw [hst', if_pos hdp, hnm]
     ·rw [b2] at hdp
      rw [if_neg (by rw [hdp]; decide), ← hnm] at hst'
      refine WP_loop puN (fun x : Nat => ⟨[⟨0, [], .v (.slice p n c)⟩, ⟨4, [], .v (.int .i64 k)⟩, ⟨5, [], .v (.int .i64 x)⟩], [], [], [], 0, m3⟩)
       (fun x => x ≤ k ∧ ((l.map (·.name)).take x).contains X.name = false) (fun x => k - x) 0 (by kernel_rfl) (fun _ _ => Nnr _) (fun _ _ => .inl rfl) (fun _ => ?_) ?_ ?_ ?_
      ·simp only [go_sem, ↓tfi, ↓fti, ↓reduceIte]
      ·simp only [go_sem, ↓tfi, ↓fti, ↓reduceIte]
       rfl
      ·exact ⟨Nat.zero_le _, by simp⟩
      ·rintro j ⟨u1, u2⟩
       simp only [go_sem, ↓tfi, ↓fti, ↓reduceIte]
       refine ⟨fun hjt => ?_, fun hje => ?_⟩
       ·have hj : j < l.length := by clear y hy hT; omega
        have hjl : j < (l.map (·.name)).length := by simpa using hj
        have hkl : k < (l.map (·.name)).length := by simpa using hk
        have hct := cont_take hjl X.name
        have hca := fun (hjk : j < k) (he : (l.map (·.name))[j] = X.name) => cont_at hjk hkl X.name he
        rw [List.getElem_map] at hct
        refine WP_draw (.hoist 0 (.hoist 1 (.hoist 2 (.hoist 3 (.hoist 4 (.hoist 5 (.hoist 6 (.hoist 7 (.hoist 8 (.hoist 9 (.hoist 10 .done))))))))))) puN (by kernel_rfl) (by kernel_rfl) ?_
        simp only [go_sem, ↓tfi, ↓fti, ↓reduceIte]
        refine Exists.elim (y j hj) fun Y hY => ?_
        have hpj := (hY.2 m3 k3).rd
        have hyn := hY.1
        clear y hy hT hY
        refine ⟨⟨by omega, by omega, hp0⟩, Rd_ptr hpj, .string (bs Y.name), Rd_sub hpj 1 1 (nbl rfl), ⟨by omega, hlt, hp0⟩, Rd_ptr hp3, .string (bs X.name), Rd_sub hp3 1 1 (nbl rfl), ?_⟩
        simp only [go_sem, ↓tfi, ↓fti, ↓reduceIte]
        refine ⟨fun he => ⟨⟨by omega, hlt, hp0⟩, Rd_ptr hp3, .string (bs X.name), Rd_sub hp3 1 1 (nbl rfl), ?_⟩, fun hne => ⟨by unfold I64; simp only [big] at hn; omega, j + 1, by simp, ⟨by omega, ?_⟩, by omega⟩⟩
        ·refine ⟨k3, ?_⟩
         rw [hst', hca (by omega) (by rw [List.getElem_map, ← hyn, he])]
         rfl
        ·rw [hct, u2, beq_eq_false_iff_ne.2 (fun h => hne (by rw [hyn, h]))]
         rfl
       ·have hjk : j = k := by clear y hy hT; omega
        subst hjk
        refine ⟨⟨by clear y hy hT; omega, hlt, hp0⟩, X.cs, ⟨hp3, rfl⟩, ?_⟩
        clear y
        rw [u2, Bool.false_or] at hst'
        simp only [go_sem, ↓tfi, ↓fti, ↓reduceIte, Cc.cs]
        refine cvl ((FnH_den hT (fun V => rfl)).mono ?_)
        clear hT
        rintro r H' m4 hm4 ⟨l4, rfl, rfl⟩
        have k4 := leM_tr k3 l4
        have hp4 := (hy.2 m4 k4).rd
        clear hy
        simp only [go_sem, ↓tfi, ↓fti, ↓reduceIte, Cc.cs]
        refine ⟨fun b4 => ⟨⟨by omega, hlt, hp0⟩, Rd_ptr hp4, .string (bs X.name), Rd_sub hp4 1 1 (nbl rfl), ?_⟩, fun b4 => ⟨by unfold I64; simp only [big] at hn; omega, (j + 1, m4), ⟨by simp, .inl rfl⟩, ⟨k4, by simp only; omega, ?_⟩, by simp only; omega⟩⟩
        ·refine ⟨k4, ?_⟩
         rw [hst', if_pos b4]
        ·simp only
         rw [hst', if_neg (by rw [b4]; decide)]
   ·clear y
    rw [h3, List.drop_of_length_le (by omega), checkL]
    exact ⟨h1, rfl⟩
theorem FnH_ret {P : Program} {f : FuncId} {args : List SV} {H : Hp} {m : Mem} {R R' : SV → Hp → Mem → Prop} (h : FnH P f args H m R) (e : ∀ r H' m', m.le m' → R r H' m' → ∃ r', (∀ V, den V r' = den V r) ∧ R' r' H' m') : FnH P f args H m R' :=
 fun V w D h1 h2 h3 => (h V w D h1 h2 h3).mono fun x w2 ⟨r, V', D', H', m', e1, e2, e3, e4, e5, e6, e7, e8, e9, e10, e11⟩ => (e r H' m' e9 e11).elim fun r' hr => ⟨r', V', D', H', m', by rw [hr.1 V']; exact e1, e2, e3, e4, e5, e6, e7, e8, e9, e10, hr.2⟩
theorem FnH_canon {P : Program} {f : FuncId} {args : List SV} {m : Mem} {R R' : SV → Hp → Mem → Prop} (h : FnH P f args ⟨[], []⟩ m R)
  (e : ∀ r H' m', m.le m' → R r H' m' → ∃ k u el sz n xs, r = .vec k u ∧ H' = ⟨[], [⟨k, u, el, sz, n, xs⟩]⟩ ∧ R' (.vec 0 0) ⟨[], [⟨0, 0, el, sz, n, xs⟩]⟩ m') : FnH P f args ⟨[], []⟩ m R' :=
 fun V w D h1 h2 h3 => (h V w D h1 h2 h3).mono fun x w2 ⟨r, V', D', H', m', e1, e2, e3, e4, e5, e6, e7, e8, e9, e10, e11⟩ => by
  obtain ⟨k, u, el, sz, n, xs, rfl, rfl, hR⟩ := e r H' m' e9 e11
  refine ⟨.vec 0 0, ⟨V'.β, fun _ _ => V'.γ k u⟩, D', _, m', e1, e2, ⟨fun b hb => (by cases hb), fun b hb => ?_, ?_, ?_⟩, fun b hb => (by cases hb), fun b hb => (by cases hb), e6, ?_, e8, e9, e10, hR⟩
  ·rw [List.mem_singleton.1 hb]
   exact e3.vc _ (List.mem_singleton.2 rfl)
  ·exact e3.apart
  ·simp
  ·exact e7
theorem tk_agg {P : Program} {f : FuncId} {k : Int} (h : ∀ s m, FnH P f [.v (.string (bs s))] ⟨[], []⟩ m fun r H' _ => r = .agg [.v (.int .i64 k), .v (.string (bs s)), .v (.int .i64 0), .v (.int .i64 0)] ∧ H' = ⟨[], []⟩) :
  ∀ s m, (fun _ => True) s → FnH P f [.v (.string (bs s))] ⟨[], []⟩ m fun r H' _ => r = .v (.agg ⟨tkC ⟨k, s, 0, 0⟩⟩) ∧ H' = ⟨[], []⟩ :=
 fun s m _ => FnH_ret (h s m) fun r H' m' _ hr => ⟨_, fun V => by rw [hr.1]; rfl, rfl, hr.2⟩
theorem rsign_spec (s : List UInt8) (m : Mem) : FnH Tryz.prog 99 [.v (.string (bs s))] ⟨[], []⟩ m fun r H' _ => r = .agg [.v (.int .i64 6), .v (.string (bs s)), .v (.int .i64 0), .v (.int .i64 0)] ∧ H' = ⟨[], []⟩ := by
 refine enter cfN puN Tryz.func99 rfl rfl (by kernel_rfl) rfl ?_ ?_
 ·simp only [go_sem, ↓tfi, ↓fti, ↓reduceIte]
 ·simp only [go_sem, ↓tfi, ↓fti, ↓reduceIte]
theorem rword_spec (s : List UInt8) (m : Mem) : FnH Tryz.prog 96 [.v (.string (bs s))] ⟨[], []⟩ m fun r H' _ => r = .agg [.v (.int .i64 2), .v (.string (bs s)), .v (.int .i64 0), .v (.int .i64 0)] ∧ H' = ⟨[], []⟩ := by
 refine enter cfN puN Tryz.func96 rfl rfl (by kernel_rfl) rfl ?_ ?_
 ·simp only [go_sem, ↓tfi, ↓fti, ↓reduceIte]
 ·simp only [go_sem, ↓tfi, ↓fti, ↓reduceIte]
theorem rid_spec (s : List UInt8) (m : Mem) : FnH Tryz.prog 97 [.v (.string (bs s))] ⟨[], []⟩ m fun r H' _ => r = .agg [.v (.int .i64 1), .v (.string (bs s)), .v (.int .i64 0), .v (.int .i64 0)] ∧ H' = ⟨[], []⟩ := by
 refine enter cfN puN Tryz.func97 rfl rfl (by kernel_rfl) rfl ?_ ?_
 ·simp only [go_sem, ↓tfi, ↓fti, ↓reduceIte]
 ·simp only [go_sem, ↓tfi, ↓fti, ↓reduceIte]
theorem rsome_spec (n : Nat) (xs : List Value) (m : Mem) : FnH Tryz.prog 95 [.vec 0 0] ⟨[], [⟨0, 0, 79, 4, n, xs⟩]⟩ m fun r H' m' => r = .vec 0 0 ∧ H' = ⟨[], [⟨0, 0, 79, 4, n, xs⟩]⟩ ∧ m' = m := by
 refine enter cfN puN Tryz.func95 rfl rfl (by kernel_rfl) rfl ?_ ?_
 ·simp only [go_sem, ↓tfi, ↓fti, ↓reduceIte]
 ·simp only [go_sem, ↓tfi, ↓fti, ↓reduceIte]
abbrev cfK : Cfg := mkCf (fun f => f == 95) [(99, pS1 (fun _ => True) fun s => .agg ⟨tkC ⟨6, s, 0, 0⟩⟩), (96, pS1 (fun _ => True) fun s => .agg ⟨tkC ⟨2, s, 0, 0⟩⟩), (97, pS1 (fun _ => True) fun s => .agg ⟨tkC ⟨1, s, 0, 0⟩⟩)]
theorem puK : PureOk cfK Tryz.prog := pure_cons (by kernel_rfl) (pureS (tk_agg rsign_spec)) (pure_cons (by kernel_rfl) (pureS (tk_agg rword_spec)) (pure_cons (by kernel_rfl) (pureS (tk_agg rid_spec)) pure_nil))
def RetT (f : FuncId) (args : List SV) (m : Mem) (T : List Tk) : Prop := FnH Tryz.prog f args ⟨[], []⟩ m fun r H' m' => leM m m' ∧ r = .vec 0 0 ∧ H' = ⟨[], [⟨0, 0, 79, 4, T.length, tkCells T⟩]⟩
theorem retT_of {f : FuncId} {args : List SV} {m : Mem} {T : List Tk} (h : FnH Tryz.prog f args ⟨[], []⟩ m fun r H' m' => leM m m' ∧ ∃ k u, r = .vec k u ∧ H' = ⟨[], [⟨k, u, 79, 4, T.length, tkCells T⟩]⟩) : RetT f args m T :=
 FnH_canon h fun r H' m' _ hr => by
  obtain ⟨h1, k, u, rfl, rfl⟩ := hr
  exact ⟨k, u, _, _, _, _, rfl, rfl, h1, rfl, rfl⟩
theorem aggTT : aggN Tryz.prog 160 = some none := by kernel_rfl
theorem elTT : elT Tryz.prog 160 = some 44 := by kernel_rfl
theorem zeroLT : zeroO Tryz.prog 44 = some [.v (.slice none 0 0)] := by kernel_rfl
theorem byLT : byT Tryz.prog 44 = 24 := by kernel_rfl
attribute [go_sem] aggTT elTT zeroLT byLT tkC
def slsRep (m : Mem) : List (List Tk) → List Value → Prop
 | [], [] => True
 | t :: r, x :: xs => (∃ a c, x = .slice a t.length c ∧ t.length ≤ c ∧ Rds m a t.length 4 (tkCells t)) ∧ slsRep m r xs
 | [], _ :: _ => False
 | _ :: _, [] => False
theorem sls_at {m : Mem} : ∀ {ls : List (List Tk)} {xs : List Value} {k : Nat} (_ : slsRep m ls xs) (hk : k < ls.length), ∃ a c, xs[k]? = some (.slice a ls[k].length c) ∧ Rds m a ls[k].length 4 (tkCells ls[k])
 | [], _, _, _, hk => absurd hk (Nat.not_lt_zero _)
 | t :: r, [], _, h, _ => by simp [slsRep] at h
 | t :: r, x :: xs, 0, h, _ => by
  simp only [slsRep] at h
  obtain ⟨⟨a, c, rfl, _, h1⟩, _⟩ := h
  exact ⟨a, c, rfl, h1⟩
 | t :: r, x :: xs, k + 1, h, hk => by
  simp only [slsRep] at h
  have := sls_at (k := k) h.2 (by simpa using hk)
  simpa using this
theorem tks_take {ls : List (List Tk)} {k : Nat} (h : k < ls.length) : (ls.take (k + 1)).flatten = (ls.take k).flatten ++ ls[k] := by
 rw [List.take_succ_eq_append_getElem h, List.flatten_append]
 simp
theorem tks_le (ls : List (List Tk)) (k : Nat) : (ls.take k).flatten.length ≤ ls.flatten.length := by
 have := congrArg (fun l => (List.flatten l).length) (List.take_append_drop k ls)
 simp only [List.flatten_append, Lla] at this
 omega
theorem cells_one (ts : List Tk) : ∀ u ∈ tkCells ts, u.oneCell' = true := by
 intro u hu
 simp only [tkCells, List.mem_flatten, List.mem_map] at hu
 obtain ⟨l, ⟨t, _, rfl⟩, hu⟩ := hu
 simp only [List.mem_cons, List.not_mem_nil, or_false] at hu
 rcases hu with rfl | rfl | rfl | rfl <;> rfl
theorem rjoinL_spec (ls : List (List Tk)) (a : Option Addr) (n c : Nat) (xs : List Value) (m : Mem) (hl : ls.length = n) (hr : Rds m a n 1 xs) (hs : slsRep m ls xs) (hn : n ≤ big) (hb : ls.flatten.length ≤ cap) : RetT 93 [.v (.slice a n c)] m ls.flatten := by
 refine retT_of ?_
 refine enter cfN puN Tryz.func93 rfl rfl (by kernel_rfl) rfl ?_ ?_
 ·simp only [go_sem, ↓tfi, ↓fti, ↓reduceIte]
 ·simp only [go_sem, ↓tfi, ↓fti, ↓reduceIte]
  refine WP_loop puN (fun x : Nat × Nat => ⟨[⟨0, [], .v (.slice a n c)⟩, ⟨3, [], .vec 0 x.2⟩, ⟨4, [], .v (.int .i64 x.1)⟩], [], [], [⟨0, x.2, 79, 4, ((ls.take x.1).flatten).length, tkCells ((ls.take x.1).flatten)⟩], 1, m⟩)
   (fun x => x.1 ≤ n) (fun x => n - x.1) (0, 0) (by kernel_rfl) (fun _ _ => Nnr _) (fun _ _ => .inl rfl) (fun _ => ?_) ?_ ?_ ?_
  ·simp only [go_sem, ↓tfi, ↓fti, ↓reduceIte]
  ·simp only [go_sem, ↓tfi, ↓fti, ↓reduceIte]
   exact ⟨rfl, rfl, rfl⟩
  ·exact Nat.zero_le _
  ·rintro ⟨k, v⟩ h2
   simp only at h2
   have hx : ∀ (hk : k < n), ∃ (b : Option Addr) (d : Nat), Rd m (ptrAt a k) [.slice b (ls.getD k []).length d] ∧ a ≠ none ∧ Rds m b (ls.getD k []).length 4 (tkCells (ls.getD k [])) := fun hk => by
    have hk' : k < ls.length := by omega
    obtain ⟨b, d, e1, e2⟩ := sls_at hs hk'
    obtain ⟨h3, h4, h5⟩ := Rds_one hr hk
    have e : ls.getD k [] = ls[k] := by rw [List.getD_eq_getElem?_getD, List.getElem?_eq_getElem hk']; rfl
    rw [List.getElem?_eq_getElem h3] at e1
    rw [e]
    refine ⟨b, d, ?_, h5, e2⟩
    rw [Option.some.inj e1] at h4
    exact h4
   have hf := fun (hk : k < ls.length) => And.intro (tks_take hk) (tks_le ls (k + 1))
   simp only [go_sem, ↓tfi, ↓fti, ↓reduceIte]
   refine ⟨fun hlt => ?_, fun hge => ?_⟩
   ·have hk : k < n := by omega
    have hkl : k < ls.length := by omega
    refine Exists.elim (hx hk) fun b hx1 => Exists.elim hx1 fun d hx2 => ⟨⟨by omega, hlt, hx2.2.1⟩, _, hx2.1, ?_⟩
    clear hx hx1
    simp only [go_sem, ↓tfi, ↓fti, ↓reduceIte]
    have hT : (ls.take (k + 1)).flatten = (ls.take k).flatten ++ ls.getD k [] := by
     rw [(hf hkl).1, List.getD_eq_getElem?_getD, List.getElem?_eq_getElem hkl]
     rfl
    have hL := (hf hkl).2
    rw [hT, Lla] at hL
    simp only [cap] at hb
    exact ⟨_, hx2.2.2, cells_one _, ⟨by omega, by simp only [maxLen]; omega⟩, by unfold I64; simp only [big] at hn; omega, (k + 1, v + 1), ⟨⟨rfl, by simp⟩, rfl, by simp only; rw [hT, Lla], by simp only; rw [hT, tkCells_app]⟩, by simp only; omega, by simp only; omega⟩
   ·rw [List.take_of_length_le (by omega)]
    exact ⟨0, v, rfl, rfl⟩
theorem rround_spec (T : List Tk) (a : Option Addr) (c : Nat) (m : Mem) (hr : Rds m a T.length 4 (tkCells T)) (hb : T.length + 2 ≤ cap) : RetT 107 [.v (.slice a T.length c)] m (sg [40] :: (T ++ [sg [41]])) := by
 refine retT_of ?_
 refine enter cfK puK Tryz.func107 rfl rfl (by kernel_rfl) rfl ?_ ?_
 ·simp only [go_sem, ↓tfi, ↓fti, ↓reduceIte]
 ·simp only [go_sem, ↓tfi, ↓fti, ↓reduceIte]
  simp only [cap] at hb
  refine ⟨_, hr, cells_one _, ⟨by omega, by simp only [maxLen]; omega⟩, ⟨by omega, by simp only [maxLen]; omega⟩, 0, 2, rfl, ?_⟩
  have e1 : (T ++ [sg [41]]).length + 1 = 1 + T.length + 1 := by simp only [Lla, List.length_singleton]; omega
  have e2 : tkCells (sg [40] :: (T ++ [sg [41]])) = tkC (sg [40]) ++ (tkCells T ++ tkC (sg [41])) := by simp [tkCells, tkC]
  rw [e1, e2]
  rfl
theorem dim_next (t : Tk) (k : Nat) : (t :: dimT ((k + 1 : Nat) : Int)).length = (t :: dimT (k : Int)).length + 2 ∧ tkCells (t :: dimT ((k + 1 : Nat) : Int)) = tkCells (t :: dimT (k : Int)) ++ tkCells [sg [91], sg [93]] := by
 have e : t :: dimT ((k + 1 : Nat) : Int) = (t :: dimT (k : Int)) ++ [sg [91], sg [93]] := by
  simp only [dimT, Int.toNat_natCast, List.replicate_succ', List.flatten_append, List.flatten_cons, List.flatten_nil, List.append_nil, List.cons_append]
 rw [e]
 exact ⟨by simp, tkCells_app _ _⟩
theorem dim_end {d : Int} {k : Nat} (h : ¬ (k : Int) < d) (h1 : k = 0 ∨ (k : Int) ≤ d) : dimT (k : Int) = dimT d := by
 have : (k : Int).toNat = d.toNat := by omega
 simp only [dimT, this]
theorem rkind_spec (d b : Int) (nm : List UInt8) (m : Mem) (hd : d ≤ 1000) : RetT 100 [.v (.agg ⟨[.int .i64 d, .int .u8 b, .string (bs nm)]⟩)] m (typT d b nm) := by
 refine retT_of ?_
 refine enter cfK puK Tryz.func100 rfl rfl (by kernel_rfl) rfl ?_ ?_
 ·simp only [go_sem, ↓tfi, ↓fti, ↓reduceIte]
 ·simp only [go_sem, ↓tfi, ↓fti, ↓reduceIte]
  refine ⟨fun hb => ?_, fun n1 => ⟨fun hb => ?_, fun n2 => ⟨fun hb => ?_, fun n3 => ?_⟩⟩⟩
  ·rw [typT, baseT, if_pos hb]
   refine WP_loop puK (fun x : Nat × Nat => ⟨[⟨1, [], .box 0 0⟩, ⟨3, [], .vec 2 x.2⟩, ⟨4, [], .v (.int .i64 x.1)⟩], [], [⟨0, 29, [.v (.int .i64 d), .v (.int .u8 b), .v (.string (bs nm))]⟩], [⟨2, x.2, 79, 4, ((kw intS) :: dimT x.1).length, tkCells ((kw intS) :: dimT x.1)⟩], 3, m⟩)
    (fun x => x.1 = 0 ∨ (x.1 : Int) ≤ d) (fun x => d.toNat - x.1) (0, 0) (by kernel_rfl) (fun _ _ => nbl rfl) (fun _ _ => .inl rfl) (fun _ => ?_) ?_ ?_ ?_
   ·simp only [go_sem, ↓tfi, ↓fti, ↓reduceIte]
   ·simp only [go_sem, ↓tfi, ↓fti, ↓reduceIte]
    exact ⟨rfl, rfl, rfl⟩
   ·exact .inl rfl
   ·rintro ⟨k, v⟩ h1
    simp only at h1
    simp only [go_sem, ↓tfi, ↓fti, ↓reduceIte]
    have e := dim_next (kw intS) k
    refine ⟨fun hlt => ⟨⟨by simp only [Llc, dimT_len]; omega, by simp only [Llc, dimT_len, maxLen]; omega⟩, by unfold I64; omega, (k + 1, v + 1), ⟨⟨rfl, by simp⟩, rfl, by have := e.1; simp only [Llc] at this; simp only; omega, by simp only; rw [e.2]; rfl⟩, .inr (by simp only; omega), by simp only; omega⟩, fun hge => ⟨2, v, rfl, ?_⟩⟩
    rw [dim_end hge h1]
  ·rw [typT, baseT, if_neg n1, if_pos hb]
   refine WP_loop puK (fun x : Nat × Nat => ⟨[⟨1, [], .box 0 0⟩, ⟨3, [], .vec 2 x.2⟩, ⟨4, [], .v (.int .i64 x.1)⟩], [], [⟨0, 29, [.v (.int .i64 d), .v (.int .u8 b), .v (.string (bs nm))]⟩], [⟨2, x.2, 79, 4, ((kw longS) :: dimT x.1).length, tkCells ((kw longS) :: dimT x.1)⟩], 3, m⟩)
    (fun x => x.1 = 0 ∨ (x.1 : Int) ≤ d) (fun x => d.toNat - x.1) (0, 0) (by kernel_rfl) (fun _ _ => nbl rfl) (fun _ _ => .inl rfl) (fun _ => ?_) ?_ ?_ ?_
   ·simp only [go_sem, ↓tfi, ↓fti, ↓reduceIte]
   ·simp only [go_sem, ↓tfi, ↓fti, ↓reduceIte]
    exact ⟨rfl, rfl, rfl⟩
   ·exact .inl rfl
   ·rintro ⟨k, v⟩ h1
    simp only at h1
    simp only [go_sem, ↓tfi, ↓fti, ↓reduceIte]
    have e := dim_next (kw longS) k
    refine ⟨fun hlt => ⟨⟨by simp only [Llc, dimT_len]; omega, by simp only [Llc, dimT_len, maxLen]; omega⟩, by unfold I64; omega, (k + 1, v + 1), ⟨⟨rfl, by simp⟩, rfl, by have := e.1; simp only [Llc] at this; simp only; omega, by simp only; rw [e.2]; rfl⟩, .inr (by simp only; omega), by simp only; omega⟩, fun hge => ⟨2, v, rfl, ?_⟩⟩
    rw [dim_end hge h1]
  ·rw [typT, baseT, if_neg n1, if_neg n2, if_pos hb]
   refine WP_loop puK (fun x : Nat × Nat => ⟨[⟨1, [], .box 0 0⟩, ⟨3, [], .vec 2 x.2⟩, ⟨4, [], .v (.int .i64 x.1)⟩], [], [⟨0, 29, [.v (.int .i64 d), .v (.int .u8 b), .v (.string (bs nm))]⟩], [⟨2, x.2, 79, 4, ((kw voidS) :: dimT x.1).length, tkCells ((kw voidS) :: dimT x.1)⟩], 3, m⟩)
    (fun x => x.1 = 0 ∨ (x.1 : Int) ≤ d) (fun x => d.toNat - x.1) (0, 0) (by kernel_rfl) (fun _ _ => nbl rfl) (fun _ _ => .inl rfl) (fun _ => ?_) ?_ ?_ ?_
   ·simp only [go_sem, ↓tfi, ↓fti, ↓reduceIte]
   ·simp only [go_sem, ↓tfi, ↓fti, ↓reduceIte]
    exact ⟨rfl, rfl, rfl⟩
   ·exact .inl rfl
   ·rintro ⟨k, v⟩ h1
    simp only at h1
    simp only [go_sem, ↓tfi, ↓fti, ↓reduceIte]
    have e := dim_next (kw voidS) k
    refine ⟨fun hlt => ⟨⟨by simp only [Llc, dimT_len]; omega, by simp only [Llc, dimT_len, maxLen]; omega⟩, by unfold I64; omega, (k + 1, v + 1), ⟨⟨rfl, by simp⟩, rfl, by have := e.1; simp only [Llc] at this; simp only; omega, by simp only; rw [e.2]; rfl⟩, .inr (by simp only; omega), by simp only; omega⟩, fun hge => ⟨2, v, rfl, ?_⟩⟩
    rw [dim_end hge h1]
  ·rw [typT, baseT, if_neg n1, if_neg n2, if_neg n3]
   refine WP_loop puK (fun x : Nat × Nat => ⟨[⟨1, [], .box 0 0⟩, ⟨3, [], .vec 1 x.2⟩, ⟨4, [], .v (.int .i64 x.1)⟩], [], [⟨0, 29, [.v (.int .i64 d), .v (.int .u8 b), .v (.string (bs nm))]⟩], [⟨1, x.2, 79, 4, ((nm1 nm) :: dimT x.1).length, tkCells ((nm1 nm) :: dimT x.1)⟩], 3, m⟩)
    (fun x => x.1 = 0 ∨ (x.1 : Int) ≤ d) (fun x => d.toNat - x.1) (0, 0) (by kernel_rfl) (fun _ _ => nbl rfl) (fun _ _ => .inl rfl) (fun _ => ?_) ?_ ?_ ?_
   ·simp only [go_sem, ↓tfi, ↓fti, ↓reduceIte]
   ·simp only [go_sem, ↓tfi, ↓fti, ↓reduceIte]
    exact ⟨rfl, rfl, rfl⟩
   ·exact .inl rfl
   ·rintro ⟨k, v⟩ h1
    simp only at h1
    simp only [go_sem, ↓tfi, ↓fti, ↓reduceIte]
    have e := dim_next (nm1 nm) k
    refine ⟨fun hlt => ⟨⟨by simp only [Llc, dimT_len]; omega, by simp only [Llc, dimT_len, maxLen]; omega⟩, by unfold I64; omega, (k + 1, v + 1), ⟨⟨rfl, by simp⟩, rfl, by have := e.1; simp only [Llc] at this; simp only; omega, by simp only; rw [e.2]; rfl⟩, .inr (by simp only; omega), by simp only; omega⟩, fun hge => ⟨1, v, rfl, ?_⟩⟩
    rw [dim_end hge h1]
def RefE (e : Ex) (m : Mem) : Prop := ∀ (cs : List Value) (m' : Mem), leM m m' → exRep m' e cs → RetT 42 [.v (.agg ⟨cs⟩)] m' (exprT e)
theorem RefE.up {e : Ex} {m m' : Mem} (h : RefE e m) (hm : leM m m') : RefE e m' := fun cs m2 hle => h cs m2 (leM_tr hm hle)
theorem rlist_spec (l : List Ex) (a : Option Addr) (n c : Nat) (xs : List Value) (m : Mem) (hl : l.length = n) (hn : n ≤ big) (hr : Rds m a n 8 xs) (hes : exsRep m l xs) (hE : ∀ e ∈ l, RefE e m) (hb : (commaT true (l.map exprT)).length ≤ cap) :
  RetT 108 [.v (.slice a n c)] m (commaT true (l.map exprT)) := by
 refine retT_of ?_
 refine enter cfK puK Tryz.func108 rfl rfl (by kernel_rfl) rfl ?_ ?_
 ·simp only [go_sem, ↓tfi, ↓fti, ↓reduceIte]
 ·simp only [go_sem, ↓tfi, ↓fti, ↓reduceIte]
  refine WP_loop puK (fun x : Nat × Nat × Mem => ⟨[⟨0, [], .v (.slice a n c)⟩, ⟨3, [], .vec 0 x.2.1⟩, ⟨4, [], .v (.int .i64 x.1)⟩], [], [], [⟨0, x.2.1, 79, 4, (commaT true ((l.map exprT).take x.1)).length, tkCells (commaT true ((l.map exprT).take x.1))⟩], 1, x.2.2⟩)
   (fun x => leM m x.2.2 ∧ x.1 ≤ n) (fun x => n - x.1) (0, 0, m) (by kernel_rfl) (fun _ _ => Nnr _) (fun x hx => hx.1) (fun _ => ?_) ?_ ?_ ?_
  ·simp only [go_sem, ↓tfi, ↓fti, ↓reduceIte]
  ·simp only [go_sem, ↓tfi, ↓fti, ↓reduceIte]
   exact ⟨rfl, rfl, rfl⟩
  ·exact ⟨.inl rfl, Nat.zero_le _⟩
  ·rintro ⟨k, v, mm⟩ ⟨h1, h2⟩
   simp only at h1 h2
   have hx : ∀ (hk : k < l.length), ∃ x : Nd, Rd mm (ptrAt a (k * 8)) x.cs ∧ a ≠ none ∧ RetT 42 [.v (.agg ⟨x.cs⟩)] mm (exprT l[k]) := fun hk => by
    have hrep := exRep_upM h1 (exs_at hes hk)
    obtain ⟨x, hx⟩ := exRep_nd hrep
    have hrd := Rds_cells (Rds_upM h1 hr) (by omega : k < n)
    rw [hx] at hrep hrd
    exact ⟨x, hrd.1, hrd.2, hE _ (List.getElem_mem hk) x.cs mm h1 hrep⟩
   have hct := fun (hk : k < l.length) => comma_take (l := l.map exprT) (f := true) (k := k) (by simpa using hk)
   have hcl := comma_len (l.map exprT) true
   clear hE
   simp only [go_sem, ↓tfi, ↓fti, ↓reduceIte]
   refine ⟨fun hlt => ?_, fun hge => ⟨h1, 0, v, rfl, ?_⟩⟩
   ·have hk : k < l.length := by clear hx; omega
    have hT := hct hk
    have hL := hcl (k + 1)
    simp only [List.getElem_map] at hT
    rw [hT] at hL
    simp only [Lla, cap] at hL hb
    clear hct hcl
    refine Exists.elim (hx hk) fun x hx1 => ?_
    clear hx
    have hxr := hx1.1
    have hxn := hx1.2.1
    have hxc := hx1.2.2
    clear hx1
    refine ⟨fun h0 => ⟨⟨by clear hxc; omega, by clear hxc; simp only [maxLen]; omega⟩, ⟨by clear hxc; omega, hlt, hxn⟩, x.cs, ⟨hxr, rfl⟩, by kernel_rfl, FnV_of (hxc.mono ?_)⟩, fun h0 => ⟨⟨by clear hxc; omega, hlt, hxn⟩, x.cs, ⟨hxr, rfl⟩, by kernel_rfl, FnV_of (hxc.mono ?_)⟩⟩
    ·clear hxc
     have e1 : (0 < k ∨ true = false) := .inl (by omega)
     rw [if_pos e1] at hT hL
     simp only [Llc] at hL
     rintro r H' m2 hm2 ⟨l2, rfl, rfl⟩
     simp only [go_sem, ↓tfi, ↓fti, ↓reduceIte]
     refine ⟨⟨by omega, by simp only [maxLen]; omega⟩, by unfold I64; simp only [big] at hn; omega, (k + 1, v + 2, m2), ⟨⟨rfl, by simp⟩, ⟨rfl, ?_, ?_⟩, .inl rfl⟩, ⟨leM_tr h1 l2, by simp only; omega⟩, by simp only; omega⟩
     ·simp only; rw [hT]; simp only [Lla, Llc]; omega
     ·simp only; rw [hT, tkCells_app]; simp [tkCells, sg]
    ·clear hxc
     have e1 : ¬ (0 < k ∨ true = false) := fun h => by rcases h with h | h; omega; cases h
     rw [if_neg e1] at hT hL
     rintro r H' m2 hm2 ⟨l2, rfl, rfl⟩
     simp only [go_sem, ↓tfi, ↓fti, ↓reduceIte]
     refine ⟨⟨by omega, by simp only [maxLen]; omega⟩, by unfold I64; simp only [big] at hn; omega, (k + 1, v + 1, m2), ⟨⟨rfl, by simp⟩, ⟨rfl, ?_, ?_⟩, .inl rfl⟩, ⟨leM_tr h1 l2, by simp only; omega⟩, by simp only; omega⟩
     ·simp only; rw [hT]; simp only [Lla]
     ·simp only; rw [hT, tkCells_app]
   ·rw [List.take_of_length_le (by simp; clear hx; omega)]
theorem roperand_spec (e : Ex) (x : Nd) (m : Mem) (hrep : exRep m e x.cs) (hE : RefE e m) (hb : (exprT e).length + 2 ≤ cap) : RetT 106 [.v (.agg ⟨x.cs⟩)] m (opdT (isOp e.k) (exprT e)) := by
 have hk : x.k = e.k := by
  cases e with
  | mk k n s c ty args =>
   obtain ⟨y, hy, h1, _⟩ := ex_parts hrep
   rw [nd_inj hy, h1]
   rfl
 have hT := hE x.cs m (.inl rfl) hrep
 refine retT_of ?_
 refine enter cfK puK Tryz.func106 rfl rfl (by kernel_rfl) rfl ?_ ?_
 ·simp only [go_sem, ↓tfi, ↓fti, ↓reduceIte, Nd.cs]
 ·simp only [go_sem, ↓tfi, ↓fti, ↓reduceIte, Nd.cs]
  have hR := fun (a : Option Addr) (c : Nat) (m' : Mem) (hr : Rds m' a (exprT e).length 4 (tkCells (exprT e))) => rround_spec (exprT e) a c m' hr hb
  refine ⟨fun h => cvl ((FnH_den hT (fun V => rfl)).mono ?_), fun h => cvl ((FnH_den hT (fun V => rfl)).mono ?_)⟩
  ·clear hT
   have e1 : isOp e.k = true := by rw [← hk]; simp only [isOp, Bool.or_eq_true, decide_eq_true_eq]; exact h
   rintro r H' m2 hm2 ⟨l2, rfl, rfl⟩
   simp only [go_sem, ↓tfi, ↓fti, ↓reduceIte]
   refine ⟨by kernel_rfl, fun a c m3 hm3 hc hr => FnV_of ((hR a c m3 hr).mono ?_)⟩
   clear hR
   rintro r H' m4 hm4 ⟨l4, rfl, rfl⟩
   simp only [go_sem, ↓tfi, ↓fti, ↓reduceIte]
   refine ⟨leM_tr l2 (leM_tr (.inr hm3) l4), _, _, rfl, ?_⟩
   have e2 : opdT true (exprT e) = sg [40] :: (exprT e ++ [sg [41]]) := by simp [opdT, listT, commaT]
   rw [e1, e2]
   rfl
  ·clear hT hR
   have e1 : isOp e.k = false := by rw [← hk]; simp only [isOp, Bool.or_eq_false_iff, decide_eq_false_iff_not]; exact h
   rintro r H' m2 hm2 ⟨l2, rfl, rfl⟩
   simp only [go_sem, ↓tfi, ↓fti, ↓reduceIte]
   refine ⟨l2, _, _, rfl, ?_⟩
   rw [e1]
   rfl
structure RArgOk (args : List Ex) (a : Option Addr) (cp : Nat) (m : Mem) : Prop where
 opd : ∀ (i o : Nat) (m' : Mem) (_ : i < args.length), leM m m' → o = i * 8 → ∃ x : Nd, (Rd m' (ptrAt a o) x.cs ∧ a ≠ none) ∧
  (∀ m2, leM m' m2 → (oAt (exprTs args) i).length ≤ cap → RetT 106 [.v (.agg ⟨x.cs⟩)] m2 (oAt (exprTs args) i)) ∧
  (∀ m2, leM m' m2 → (tAt (exprTs args) i).length ≤ cap → RetT 42 [.v (.agg ⟨x.cs⟩)] m2 (tAt (exprTs args) i))
 lst : ∀ m', leM m m' → (commaT true ((exprTs args).map (·.2))).length ≤ cap → RetT 108 [.v (.slice a args.length cp)] m' (commaT true ((exprTs args).map (·.2)))
 lst1 : 1 ≤ args.length → ∀ m', leM m m' → (commaT true (((exprTs args).drop 1).map (·.2))).length ≤ cap → RetT 108 [.v (slv a cp 1 args.length 8)] m' (commaT true (((exprTs args).drop 1).map (·.2)))
theorem rtk1 (n : Int) (s c : List UInt8) (ty : Ty) (args : List Ex) (a : Option Addr) (cp : Nat) (m : Mem) (hcp : args.length ≤ cp) (hn : args.length ≤ big) (hty : ty.dim ≤ 1000) (hA : RArgOk args a cp m)
  (hb : (nodeT 1 n s c ty (exprTs args)).length ≤ cap) : RetT 42 [.v (.agg ⟨exC 1 n s c ty (.slice a args.length cp)⟩)] m (nodeT 1 n s c ty (exprTs args)) := by
 have hT : nodeT 1 n s c ty (exprTs args) = [⟨3, [], n, 0⟩] := rfl
 rw [hT] at hb ⊢
 clear hT
 refine retT_of ?_
 refine enter cfK puK Tryz.func42 rfl rfl (by kernel_rfl) rfl ?_ ?_
 ·simp only [go_sem, ↓tfi, ↓fti, ↓reduceIte, exC]
 ·simp only [go_sem, ↓tfi, ↓fti, ↓reduceIte, exC, Int.reduceEq, decide_true, decide_false]
  refine cvl ((rsome_spec _ _ m).mono ?_)
  rintro r H' m1 hm1 ⟨rfl, rfl, rfl⟩
  simp only [go_sem, ↓tfi, ↓fti, ↓reduceIte, exC]
  exact ⟨_, _, rfl, rfl⟩
theorem rtk2 (n : Int) (s c : List UInt8) (ty : Ty) (args : List Ex) (a : Option Addr) (cp : Nat) (m : Mem) (hcp : args.length ≤ cp) (hn : args.length ≤ big) (hty : ty.dim ≤ 1000) (hA : RArgOk args a cp m)
  (hb : (nodeT 2 n s c ty (exprTs args)).length ≤ cap) : RetT 42 [.v (.agg ⟨exC 2 n s c ty (.slice a args.length cp)⟩)] m (nodeT 2 n s c ty (exprTs args)) := by
 have hT : nodeT 2 n s c ty (exprTs args) = [⟨4, [], n, 0⟩] := rfl
 rw [hT] at hb ⊢
 clear hT
 refine retT_of ?_
 refine enter cfK puK Tryz.func42 rfl rfl (by kernel_rfl) rfl ?_ ?_
 ·simp only [go_sem, ↓tfi, ↓fti, ↓reduceIte, exC]
 ·simp only [go_sem, ↓tfi, ↓fti, ↓reduceIte, exC, Int.reduceEq, decide_true, decide_false]
  refine cvl ((rsome_spec _ _ m).mono ?_)
  rintro r H' m1 hm1 ⟨rfl, rfl, rfl⟩
  simp only [go_sem, ↓tfi, ↓fti, ↓reduceIte, exC]
  exact ⟨_, _, rfl, rfl⟩
theorem rtk3 (n : Int) (s c : List UInt8) (ty : Ty) (args : List Ex) (a : Option Addr) (cp : Nat) (m : Mem) (hcp : args.length ≤ cp) (hn : args.length ≤ big) (hty : ty.dim ≤ 1000) (hA : RArgOk args a cp m)
  (hb : (nodeT 3 n s c ty (exprTs args)).length ≤ cap) : RetT 42 [.v (.agg ⟨exC 3 n s c ty (.slice a args.length cp)⟩)] m (nodeT 3 n s c ty (exprTs args)) := by
 have hT : nodeT 3 n s c ty (exprTs args) = [⟨5, s, 0, 0⟩] := rfl
 rw [hT] at hb ⊢
 clear hT
 refine retT_of ?_
 refine enter cfK puK Tryz.func42 rfl rfl (by kernel_rfl) rfl ?_ ?_
 ·simp only [go_sem, ↓tfi, ↓fti, ↓reduceIte, exC]
 ·simp only [go_sem, ↓tfi, ↓fti, ↓reduceIte, exC, Int.reduceEq, decide_true, decide_false]
  refine cvl ((rsome_spec _ _ m).mono ?_)
  rintro r H' m1 hm1 ⟨rfl, rfl, rfl⟩
  simp only [go_sem, ↓tfi, ↓fti, ↓reduceIte, exC]
  exact ⟨_, _, rfl, rfl⟩
theorem rtk4 (n : Int) (s c : List UInt8) (ty : Ty) (args : List Ex) (a : Option Addr) (cp : Nat) (m : Mem) (hcp : args.length ≤ cp) (hn : args.length ≤ big) (hty : ty.dim ≤ 1000) (hA : RArgOk args a cp m)
  (hb : (nodeT 4 n s c ty (exprTs args)).length ≤ cap) : RetT 42 [.v (.agg ⟨exC 4 n s c ty (.slice a args.length cp)⟩)] m (nodeT 4 n s c ty (exprTs args)) := by
 have hT : nodeT 4 n s c ty (exprTs args) = [kw [110, 117, 108, 108]] := rfl
 rw [hT] at hb ⊢
 clear hT
 refine retT_of ?_
 refine enter cfK puK Tryz.func42 rfl rfl (by kernel_rfl) rfl ?_ ?_
 ·simp only [go_sem, ↓tfi, ↓fti, ↓reduceIte, exC]
 ·simp only [go_sem, ↓tfi, ↓fti, ↓reduceIte, exC, Int.reduceEq, decide_true, decide_false]
  refine cvl ((rsome_spec _ _ m).mono ?_)
  rintro r H' m1 hm1 ⟨rfl, rfl, rfl⟩
  simp only [go_sem, ↓tfi, ↓fti, ↓reduceIte, exC]
  exact ⟨_, _, rfl, rfl⟩
theorem rtk5 (n : Int) (s c : List UInt8) (ty : Ty) (args : List Ex) (a : Option Addr) (cp : Nat) (m : Mem) (hcp : args.length ≤ cp) (hn : args.length ≤ big) (hty : ty.dim ≤ 1000) (hA : RArgOk args a cp m)
  (hb : (nodeT 5 n s c ty (exprTs args)).length ≤ cap) : RetT 42 [.v (.agg ⟨exC 5 n s c ty (.slice a args.length cp)⟩)] m (nodeT 5 n s c ty (exprTs args)) := by
 have hT : nodeT 5 n s c ty (exprTs args) = [kw [116, 104, 105, 115]] := rfl
 rw [hT] at hb ⊢
 clear hT
 refine retT_of ?_
 refine enter cfK puK Tryz.func42 rfl rfl (by kernel_rfl) rfl ?_ ?_
 ·simp only [go_sem, ↓tfi, ↓fti, ↓reduceIte, exC]
 ·simp only [go_sem, ↓tfi, ↓fti, ↓reduceIte, exC, Int.reduceEq, decide_true, decide_false]
  refine cvl ((rsome_spec _ _ m).mono ?_)
  rintro r H' m1 hm1 ⟨rfl, rfl, rfl⟩
  simp only [go_sem, ↓tfi, ↓fti, ↓reduceIte, exC]
  exact ⟨_, _, rfl, rfl⟩
theorem rtk6 (n : Int) (s c : List UInt8) (ty : Ty) (args : List Ex) (a : Option Addr) (cp : Nat) (m : Mem) (hcp : args.length ≤ cp) (hn : args.length ≤ big) (hty : ty.dim ≤ 1000) (hA : RArgOk args a cp m)
  (hb : (nodeT 6 n s c ty (exprTs args)).length ≤ cap) : RetT 42 [.v (.agg ⟨exC 6 n s c ty (.slice a args.length cp)⟩)] m (nodeT 6 n s c ty (exprTs args)) := by
 have hT : nodeT 6 n s c ty (exprTs args) = [nm1 s] := rfl
 rw [hT] at hb ⊢
 clear hT
 refine retT_of ?_
 refine enter cfK puK Tryz.func42 rfl rfl (by kernel_rfl) rfl ?_ ?_
 ·simp only [go_sem, ↓tfi, ↓fti, ↓reduceIte, exC]
 ·simp only [go_sem, ↓tfi, ↓fti, ↓reduceIte, exC, Int.reduceEq, decide_true, decide_false]
  refine cvl ((rsome_spec _ _ m).mono ?_)
  rintro r H' m1 hm1 ⟨rfl, rfl, rfl⟩
  simp only [go_sem, ↓tfi, ↓fti, ↓reduceIte, exC]
  exact ⟨_, _, rfl, rfl⟩
theorem rtk7 (n : Int) (s c : List UInt8) (ty : Ty) (args : List Ex) (a : Option Addr) (cp : Nat) (m : Mem) (hcp : args.length ≤ cp) (hn : args.length ≤ big) (hty : ty.dim ≤ 1000) (hA : RArgOk args a cp m) (hl : 1 ≤ args.length)
  (hb : (nodeT 7 n s c ty (exprTs args)).length ≤ cap) : RetT 42 [.v (.agg ⟨exC 7 n s c ty (.slice a args.length cp)⟩)] m (nodeT 7 n s c ty (exprTs args)) := by
 have hT : nodeT 7 n s c ty (exprTs args) = List.flatten [oAt (exprTs args) 0, [sg [46], nm1 s]] := by simp [nodeT, listT, commaT]
 rw [hT] at hb ⊢
 clear hT
 have hb0 := hb
 simp only [List.flatten_cons, List.flatten_nil, Lla, Llc, Lln, cap] at hb
 refine retT_of ?_
 refine enter cfK puK Tryz.func42 rfl rfl (by kernel_rfl) rfl ?_ ?_
 ·simp only [go_sem, ↓tfi, ↓fti, ↓reduceIte, exC]
 ·simp only [go_sem, ↓tfi, ↓fti, ↓reduceIte, exC, Int.reduceEq, decide_true, decide_false]
  refine WP_draw (.hoist 0 (.hoist 1 (.hoist 2 (.hoist 3 (.hoist 6 (.hoist 7 (.alt 4 [7, 6] (.alt 5 [7, 6] (.alt 8 [] (.alt 9 [] (.alt 10 [] (.alt 11 [] (.alt 12 [] (.hoist 13 .done) .stop) .stop) .stop) .stop) .stop) .stop) .stop))))))) puK (by kernel_rfl) (by kernel_rfl) ?_
  simp only [go_sem, ↓tfi, ↓fti, ↓reduceIte, exC]
  refine Exists.elim (hA.opd 0 0 m (by omega) (.inl rfl) rfl) fun x0 hx0 => ⟨⟨by omega, by omega, hx0.1.2⟩, x0.cs, ⟨hx0.1.1, rfl⟩, ?_⟩
  refine cvl ((FnH_den (hx0.2.1 m (.inl rfl : leM m m) (by simp only [cap]; omega)) (fun V => rfl)).mono ?_)
  rintro r H' m1 hm1 ⟨l1, rfl, rfl⟩
  have L1 : leM m m1 := leM_tr (.inl rfl : leM m m) l1
  simp only [go_sem, ↓tfi, ↓fti, ↓reduceIte, exC, Int.reduceEq, decide_true, decide_false, L1, and_self]
  refine cvl ((rsome_spec _ _ m1).mono ?_)
  rintro r H' m2 hm2 ⟨rfl, rfl, _⟩
  have l2 : leM m1 m2 := .inr hm2
  have L2 : leM m m2 := leM_tr L1 l2
  simp only [go_sem, ↓tfi, ↓fti, ↓reduceIte, exC, Int.reduceEq, decide_true, decide_false, L2, and_self]
  intro p0 q0 v0 hv0 hq0 s0
  intro p1 q1 v1 hv1 hq1 s1
  refine ⟨by kernel_rfl, fun aj cj wj hwj hcj rj => FnV_of ((rjoinL_spec [oAt (exprTs args) 0, [sg [46], nm1 s]] aj 2 cj _ wj rfl rj ⟨⟨p0, q0, rfl, hq0, Rds_upM (leM_tr (.inr hv1) (.inr hwj)) s0⟩, ⟨⟨p1, q1, rfl, hq1, Rds_upM (.inr hwj) s1⟩, trivial⟩⟩ (by decide) hb0).mono ?_)⟩
  rintro r H' mj hmj ⟨lj, rfl, rfl⟩
  simp only [go_sem, ↓tfi, ↓fti, ↓reduceIte, exC, Int.reduceEq, decide_true, decide_false]
  exact ⟨leM_tr L2 (leM_tr (leM_tr (.inr hv0) (leM_tr (.inr hv1) (.inr hwj))) lj), _, _, rfl, rfl⟩
theorem rtk8 (n : Int) (s c : List UInt8) (ty : Ty) (args : List Ex) (a : Option Addr) (cp : Nat) (m : Mem) (hcp : args.length ≤ cp) (hn : args.length ≤ big) (hty : ty.dim ≤ 1000) (hA : RArgOk args a cp m)
  (hb : (nodeT 8 n s c ty (exprTs args)).length ≤ cap) : RetT 42 [.v (.agg ⟨exC 8 n s c ty (.slice a args.length cp)⟩)] m (nodeT 8 n s c ty (exprTs args)) := by
 have hT : nodeT 8 n s c ty (exprTs args) = [nm1 c, sg [46], nm1 s] := rfl
 rw [hT] at hb ⊢
 clear hT
 refine retT_of ?_
 refine enter cfK puK Tryz.func42 rfl rfl (by kernel_rfl) rfl ?_ ?_
 ·simp only [go_sem, ↓tfi, ↓fti, ↓reduceIte, exC]
 ·simp only [go_sem, ↓tfi, ↓fti, ↓reduceIte, exC, Int.reduceEq, decide_true, decide_false]
  refine WP_draw (.hoist 0 (.hoist 1 (.hoist 4 (.hoist 5 (.alt 2 [5, 4] (.alt 3 [5, 4] (.alt 6 [] (.alt 7 [] (.alt 8 [] (.hoist 9 .done) .stop) .stop) .stop) .stop) .stop))))) puK (by kernel_rfl) (by kernel_rfl) ?_
  simp only [go_sem, ↓tfi, ↓fti, ↓reduceIte, exC]
  refine cvl ((rsome_spec _ _ m).mono ?_)
  rintro r H' m1 hm1 ⟨rfl, rfl, rfl⟩
  simp only [go_sem, ↓tfi, ↓fti, ↓reduceIte, exC]
  exact ⟨_, _, rfl, rfl⟩
theorem rtk9 (n : Int) (s c : List UInt8) (ty : Ty) (args : List Ex) (a : Option Addr) (cp : Nat) (m : Mem) (hcp : args.length ≤ cp) (hn : args.length ≤ big) (hty : ty.dim ≤ 1000) (hA : RArgOk args a cp m) (hl : 2 ≤ args.length)
  (hb : (nodeT 9 n s c ty (exprTs args)).length ≤ cap) : RetT 42 [.v (.agg ⟨exC 9 n s c ty (.slice a args.length cp)⟩)] m (nodeT 9 n s c ty (exprTs args)) := by
 have hT : nodeT 9 n s c ty (exprTs args) = List.flatten [oAt (exprTs args) 0, [sg [91]], tAt (exprTs args) 1, [sg [93]]] := by simp [nodeT, listT, commaT]
 rw [hT] at hb ⊢
 clear hT
 have hb0 := hb
 simp only [List.flatten_cons, List.flatten_nil, Lla, Llc, Lln, cap] at hb
 refine retT_of ?_
 refine enter cfK puK Tryz.func42 rfl rfl (by kernel_rfl) rfl ?_ ?_
 ·simp only [go_sem, ↓tfi, ↓fti, ↓reduceIte, exC]
 ·simp only [go_sem, ↓tfi, ↓fti, ↓reduceIte, exC, Int.reduceEq, decide_true, decide_false]
  refine WP_draw (.hoist 0 (.hoist 1 (.hoist 2 (.hoist 3 (.hoist 8 (.hoist 9 (.hoist 10 (.hoist 11 (.alt 4 [11, 10, 9, 8] (.alt 5 [11, 10, 9, 8] (.alt 6 [11, 10, 9, 8] (.alt 7 [11, 10, 9, 8] (.alt 12 [] (.alt 13 [] (.alt 14 [] (.alt 15 [] (.alt 16 [] (.alt 17 [] (.hoist 18 .done) .stop) .stop) .stop) .stop) .stop) .stop) .stop) .stop) .stop) .stop))))))))) puK (by kernel_rfl) (by kernel_rfl) ?_
  simp only [go_sem, ↓tfi, ↓fti, ↓reduceIte, exC]
  refine Exists.elim (hA.opd 0 0 m (by omega) (.inl rfl) rfl) fun x0 hx0 => ⟨⟨by omega, by omega, hx0.1.2⟩, x0.cs, ⟨hx0.1.1, rfl⟩, ?_⟩
  refine Exists.elim (hA.opd 1 8 m (by omega) (.inl rfl) rfl) fun x1 hx1 => ⟨⟨by omega, by omega, hx1.1.2⟩, x1.cs, ⟨hx1.1.1, rfl⟩, ?_⟩
  refine cvl ((FnH_den (hx0.2.1 m (.inl rfl : leM m m) (by simp only [cap]; omega)) (fun V => rfl)).mono ?_)
  rintro r H' m1 hm1 ⟨l1, rfl, rfl⟩
  have L1 : leM m m1 := leM_tr (.inl rfl : leM m m) l1
  simp only [go_sem, ↓tfi, ↓fti, ↓reduceIte, exC, Int.reduceEq, decide_true, decide_false, L1, and_self]
  refine cvl ((rsome_spec _ _ m1).mono ?_)
  rintro r H' m2 hm2 ⟨rfl, rfl, _⟩
  have l2 : leM m1 m2 := .inr hm2
  have L2 : leM m m2 := leM_tr L1 l2
  simp only [go_sem, ↓tfi, ↓fti, ↓reduceIte, exC, Int.reduceEq, decide_true, decide_false, L2, and_self]
  refine cvl ((FnH_den (hx1.2.2 m2 L2 (by simp only [cap]; omega)) (fun V => rfl)).mono ?_)
  rintro r H' m3 hm3 ⟨l3, rfl, rfl⟩
  have L3 : leM m m3 := leM_tr L2 l3
  simp only [go_sem, ↓tfi, ↓fti, ↓reduceIte, exC, Int.reduceEq, decide_true, decide_false, L3, and_self]
  refine cvl ((rsome_spec _ _ m3).mono ?_)
  rintro r H' m4 hm4 ⟨rfl, rfl, _⟩
  have l4 : leM m3 m4 := .inr hm4
  have L4 : leM m m4 := leM_tr L3 l4
  simp only [go_sem, ↓tfi, ↓fti, ↓reduceIte, exC, Int.reduceEq, decide_true, decide_false, L4, and_self]
  intro p0 q0 v0 hv0 hq0 s0
  intro p1 q1 v1 hv1 hq1 s1
  intro p2 q2 v2 hv2 hq2 s2
  intro p3 q3 v3 hv3 hq3 s3
  refine ⟨by kernel_rfl, fun aj cj wj hwj hcj rj => FnV_of ((rjoinL_spec [oAt (exprTs args) 0, [sg [91]], tAt (exprTs args) 1, [sg [93]]] aj 4 cj _ wj rfl rj ⟨⟨p0, q0, rfl, hq0, Rds_upM (leM_tr (.inr hv1) (leM_tr (.inr hv2) (leM_tr (.inr hv3) (.inr hwj)))) s0⟩, ⟨⟨p1, q1, rfl, hq1, Rds_upM (leM_tr (.inr hv2) (leM_tr (.inr hv3) (.inr hwj))) s1⟩, ⟨⟨p2, q2, rfl, hq2, Rds_upM (leM_tr (.inr hv3) (.inr hwj)) s2⟩, ⟨⟨p3, q3, rfl, hq3, Rds_upM (.inr hwj) s3⟩, trivial⟩⟩⟩⟩ (by decide) hb0).mono ?_)⟩
  rintro r H' mj hmj ⟨lj, rfl, rfl⟩
  simp only [go_sem, ↓tfi, ↓fti, ↓reduceIte, exC, Int.reduceEq, decide_true, decide_false]
  exact ⟨leM_tr L4 (leM_tr (leM_tr (.inr hv0) (leM_tr (.inr hv1) (leM_tr (.inr hv2) (leM_tr (.inr hv3) (.inr hwj))))) lj), _, _, rfl, rfl⟩
theorem rtk10 (n : Int) (s c : List UInt8) (ty : Ty) (args : List Ex) (a : Option Addr) (cp : Nat) (m : Mem) (hcp : args.length ≤ cp) (hn : args.length ≤ big) (hty : ty.dim ≤ 1000) (hA : RArgOk args a cp m) (hl : 1 ≤ args.length)
  (hb : (nodeT 10 n s c ty (exprTs args)).length ≤ cap) : RetT 42 [.v (.agg ⟨exC 10 n s c ty (.slice a args.length cp)⟩)] m (nodeT 10 n s c ty (exprTs args)) := by
 have hT : nodeT 10 n s c ty (exprTs args) = List.flatten [oAt (exprTs args) 0, [sg [46], nm1 s], (sg [40] :: (commaT true (((exprTs args).drop 1).map (·.2)) ++ [sg [41]]))] := by simp [nodeT, listT, commaT]
 rw [hT] at hb ⊢
 clear hT
 have hb0 := hb
 simp only [List.flatten_cons, List.flatten_nil, Lla, Llc, Lln, cap] at hb
 refine retT_of ?_
 refine enter cfK puK Tryz.func42 rfl rfl (by kernel_rfl) rfl ?_ ?_
 ·simp only [go_sem, ↓tfi, ↓fti, ↓reduceIte, exC]
 ·simp only [go_sem, ↓tfi, ↓fti, ↓reduceIte, exC, Int.reduceEq, decide_true, decide_false]
  refine WP_draw (.hoist 0 (.hoist 1 (.hoist 2 (.hoist 3 (.hoist 6 (.hoist 7 (.hoist 11 (.hoist 12 (.hoist 13 (.alt 4 [13, 12, 11, 7, 6] (.alt 5 [13, 12, 11, 7, 6] (.alt 8 [13, 12, 11] (.alt 9 [13, 12, 11] (.alt 10 [13, 12, 11] (.alt 14 [] (.alt 15 [] (.alt 16 [] (.alt 17 [] (.hoist 18 .done) .stop) .stop) .stop) .stop) .stop) .stop) .stop) .stop) .stop)))))))))) puK (by kernel_rfl) (by kernel_rfl) ?_
  simp only [go_sem, ↓tfi, ↓fti, ↓reduceIte, exC]
  refine Exists.elim (hA.opd 0 0 m (by omega) (.inl rfl) rfl) fun x0 hx0 => ⟨⟨by omega, by omega, hx0.1.2⟩, x0.cs, ⟨hx0.1.1, rfl⟩, ?_⟩
  refine ⟨⟨by omega, by omega, by omega⟩, ?_⟩
  refine cvl ((FnH_den (hx0.2.1 m (.inl rfl : leM m m) (by simp only [cap]; omega)) (fun V => rfl)).mono ?_)
  rintro r H' m1 hm1 ⟨l1, rfl, rfl⟩
  have L1 : leM m m1 := leM_tr (.inl rfl : leM m m) l1
  simp only [go_sem, ↓tfi, ↓fti, ↓reduceIte, exC, Int.reduceEq, decide_true, decide_false, L1, and_self]
  refine cvl ((rsome_spec _ _ m1).mono ?_)
  rintro r H' m2 hm2 ⟨rfl, rfl, _⟩
  have l2 : leM m1 m2 := .inr hm2
  have L2 : leM m m2 := leM_tr L1 l2
  simp only [go_sem, ↓tfi, ↓fti, ↓reduceIte, exC, Int.reduceEq, decide_true, decide_false, L2, and_self]
  refine cvl ((hA.lst1 hl m2 L2 (by simp only [cap]; omega)).mono ?_)
  rintro r H' m3 hm3 ⟨l3, rfl, rfl⟩
  have L3 : leM m m3 := leM_tr L2 l3
  simp only [go_sem, ↓tfi, ↓fti, ↓reduceIte, exC, Int.reduceEq, decide_true, decide_false, L3, and_self]
  refine ⟨by kernel_rfl, fun a4 c4 w4 hw4 hc4 r4 => FnV_of ((rround_spec _ a4 c4 w4 r4 (by simp only [cap]; omega)).mono ?_)⟩
  rintro r H' m4 hm4 ⟨l4, rfl, rfl⟩
  have L4 : leM m m4 := leM_tr L3 (leM_tr (.inr hw4) l4)
  simp only [go_sem, ↓tfi, ↓fti, ↓reduceIte, exC, Int.reduceEq, decide_true, decide_false, L4, and_self]
  intro p0 q0 v0 hv0 hq0 s0
  intro p1 q1 v1 hv1 hq1 s1
  intro p2 q2 v2 hv2 hq2 s2
  refine ⟨by kernel_rfl, fun aj cj wj hwj hcj rj => FnV_of ((rjoinL_spec [oAt (exprTs args) 0, [sg [46], nm1 s], (sg [40] :: (commaT true (((exprTs args).drop 1).map (·.2)) ++ [sg [41]]))] aj 3 cj _ wj rfl rj ⟨⟨p0, q0, rfl, hq0, Rds_upM (leM_tr (.inr hv1) (leM_tr (.inr hv2) (.inr hwj))) s0⟩, ⟨⟨p1, q1, rfl, hq1, Rds_upM (leM_tr (.inr hv2) (.inr hwj)) s1⟩, ⟨⟨p2, q2, rfl, hq2, Rds_upM (.inr hwj) s2⟩, trivial⟩⟩⟩ (by decide) hb0).mono ?_)⟩
  rintro r H' mj hmj ⟨lj, rfl, rfl⟩
  simp only [go_sem, ↓tfi, ↓fti, ↓reduceIte, exC, Int.reduceEq, decide_true, decide_false]
  exact ⟨leM_tr L4 (leM_tr (leM_tr (.inr hv0) (leM_tr (.inr hv1) (leM_tr (.inr hv2) (.inr hwj)))) lj), _, _, rfl, rfl⟩
theorem rtk11 (n : Int) (s c : List UInt8) (ty : Ty) (args : List Ex) (a : Option Addr) (cp : Nat) (m : Mem) (hcp : args.length ≤ cp) (hn : args.length ≤ big) (hty : ty.dim ≤ 1000) (hA : RArgOk args a cp m)
  (hb : (nodeT 11 n s c ty (exprTs args)).length ≤ cap) : RetT 42 [.v (.agg ⟨exC 11 n s c ty (.slice a args.length cp)⟩)] m (nodeT 11 n s c ty (exprTs args)) := by
 have hT : nodeT 11 n s c ty (exprTs args) = List.flatten [[nm1 c, sg [46], nm1 s], (sg [40] :: (commaT true ((exprTs args).map (·.2)) ++ [sg [41]]))] := by simp [nodeT, listT, commaT]
 rw [hT] at hb ⊢
 clear hT
 have hb0 := hb
 simp only [List.flatten_cons, List.flatten_nil, Lla, Llc, Lln, cap] at hb
 refine retT_of ?_
 refine enter cfK puK Tryz.func42 rfl rfl (by kernel_rfl) rfl ?_ ?_
 ·simp only [go_sem, ↓tfi, ↓fti, ↓reduceIte, exC]
 ·simp only [go_sem, ↓tfi, ↓fti, ↓reduceIte, exC, Int.reduceEq, decide_true, decide_false]
  refine WP_draw (.hoist 0 (.hoist 1 (.hoist 4 (.hoist 5 (.hoist 9 (.hoist 10 (.alt 2 [10, 9, 5, 4] (.alt 3 [10, 9, 5, 4] (.alt 6 [10, 9] (.alt 7 [10, 9] (.alt 8 [10, 9] (.alt 11 [] (.alt 12 [] (.alt 13 [] (.alt 14 [] (.hoist 15 .done) .stop) .stop) .stop) .stop) .stop) .stop) .stop) .stop) .stop))))))) puK (by kernel_rfl) (by kernel_rfl) ?_
  simp only [go_sem, ↓tfi, ↓fti, ↓reduceIte, exC]
  refine cvl ((rsome_spec _ _ m).mono ?_)
  rintro r H' m1 hm1 ⟨rfl, rfl, _⟩
  have l1 : leM m m1 := .inr hm1
  have L1 : leM m m1 := leM_tr (.inl rfl : leM m m) l1
  simp only [go_sem, ↓tfi, ↓fti, ↓reduceIte, exC, Int.reduceEq, decide_true, decide_false, L1, and_self]
  refine cvl ((hA.lst m1 L1 (by simp only [cap]; omega)).mono ?_)
  rintro r H' m2 hm2 ⟨l2, rfl, rfl⟩
  have L2 : leM m m2 := leM_tr L1 l2
  simp only [go_sem, ↓tfi, ↓fti, ↓reduceIte, exC, Int.reduceEq, decide_true, decide_false, L2, and_self]
  refine ⟨by kernel_rfl, fun a3 c3 w3 hw3 hc3 r3 => FnV_of ((rround_spec _ a3 c3 w3 r3 (by simp only [cap]; omega)).mono ?_)⟩
  rintro r H' m3 hm3 ⟨l3, rfl, rfl⟩
  have L3 : leM m m3 := leM_tr L2 (leM_tr (.inr hw3) l3)
  simp only [go_sem, ↓tfi, ↓fti, ↓reduceIte, exC, Int.reduceEq, decide_true, decide_false, L3, and_self]
  intro p0 q0 v0 hv0 hq0 s0
  intro p1 q1 v1 hv1 hq1 s1
  refine ⟨by kernel_rfl, fun aj cj wj hwj hcj rj => FnV_of ((rjoinL_spec [[nm1 c, sg [46], nm1 s], (sg [40] :: (commaT true ((exprTs args).map (·.2)) ++ [sg [41]]))] aj 2 cj _ wj rfl rj ⟨⟨p0, q0, rfl, hq0, Rds_upM (leM_tr (.inr hv1) (.inr hwj)) s0⟩, ⟨⟨p1, q1, rfl, hq1, Rds_upM (.inr hwj) s1⟩, trivial⟩⟩ (by decide) hb0).mono ?_)⟩
  rintro r H' mj hmj ⟨lj, rfl, rfl⟩
  simp only [go_sem, ↓tfi, ↓fti, ↓reduceIte, exC, Int.reduceEq, decide_true, decide_false]
  exact ⟨leM_tr L3 (leM_tr (leM_tr (.inr hv0) (leM_tr (.inr hv1) (.inr hwj))) lj), _, _, rfl, rfl⟩
theorem rtk12 (n : Int) (s c : List UInt8) (ty : Ty) (args : List Ex) (a : Option Addr) (cp : Nat) (m : Mem) (hcp : args.length ≤ cp) (hn : args.length ≤ big) (hty : ty.dim ≤ 1000) (hA : RArgOk args a cp m)
  (hb : (nodeT 12 n s c ty (exprTs args)).length ≤ cap) : RetT 42 [.v (.agg ⟨exC 12 n s c ty (.slice a args.length cp)⟩)] m (nodeT 12 n s c ty (exprTs args)) := by
 have hT : nodeT 12 n s c ty (exprTs args) = List.flatten [[kw [115, 117, 112, 101, 114], sg [46], nm1 s], (sg [40] :: (commaT true ((exprTs args).map (·.2)) ++ [sg [41]]))] := by simp [nodeT, listT, commaT]
 rw [hT] at hb ⊢
 clear hT
 have hb0 := hb
 simp only [List.flatten_cons, List.flatten_nil, Lla, Llc, Lln, cap] at hb
 refine retT_of ?_
 refine enter cfK puK Tryz.func42 rfl rfl (by kernel_rfl) rfl ?_ ?_
 ·simp only [go_sem, ↓tfi, ↓fti, ↓reduceIte, exC]
 ·simp only [go_sem, ↓tfi, ↓fti, ↓reduceIte, exC, Int.reduceEq, decide_true, decide_false]
  refine WP_draw (.hoist 2 (.hoist 3 (.hoist 7 (.hoist 8 (.alt 0 [8, 7, 3, 2] (.alt 1 [8, 7, 3, 2] (.alt 4 [8, 7] (.alt 5 [8, 7] (.alt 6 [8, 7] (.alt 9 [] (.alt 10 [] (.alt 11 [] (.alt 12 [] (.hoist 13 .done) .stop) .stop) .stop) .stop) .stop) .stop) .stop) .stop) .stop))))) puK (by kernel_rfl) (by kernel_rfl) ?_
  simp only [go_sem, ↓tfi, ↓fti, ↓reduceIte, exC]
  refine cvl ((rsome_spec _ _ m).mono ?_)
  rintro r H' m1 hm1 ⟨rfl, rfl, _⟩
  have l1 : leM m m1 := .inr hm1
  have L1 : leM m m1 := leM_tr (.inl rfl : leM m m) l1
  simp only [go_sem, ↓tfi, ↓fti, ↓reduceIte, exC, Int.reduceEq, decide_true, decide_false, L1, and_self]
  refine cvl ((hA.lst m1 L1 (by simp only [cap]; omega)).mono ?_)
  rintro r H' m2 hm2 ⟨l2, rfl, rfl⟩
  have L2 : leM m m2 := leM_tr L1 l2
  simp only [go_sem, ↓tfi, ↓fti, ↓reduceIte, exC, Int.reduceEq, decide_true, decide_false, L2, and_self]
  refine ⟨by kernel_rfl, fun a3 c3 w3 hw3 hc3 r3 => FnV_of ((rround_spec _ a3 c3 w3 r3 (by simp only [cap]; omega)).mono ?_)⟩
  rintro r H' m3 hm3 ⟨l3, rfl, rfl⟩
  have L3 : leM m m3 := leM_tr L2 (leM_tr (.inr hw3) l3)
  simp only [go_sem, ↓tfi, ↓fti, ↓reduceIte, exC, Int.reduceEq, decide_true, decide_false, L3, and_self]
  intro p0 q0 v0 hv0 hq0 s0
  intro p1 q1 v1 hv1 hq1 s1
  refine ⟨by kernel_rfl, fun aj cj wj hwj hcj rj => FnV_of ((rjoinL_spec [[kw [115, 117, 112, 101, 114], sg [46], nm1 s], (sg [40] :: (commaT true ((exprTs args).map (·.2)) ++ [sg [41]]))] aj 2 cj _ wj rfl rj ⟨⟨p0, q0, rfl, hq0, Rds_upM (leM_tr (.inr hv1) (.inr hwj)) s0⟩, ⟨⟨p1, q1, rfl, hq1, Rds_upM (.inr hwj) s1⟩, trivial⟩⟩ (by decide) hb0).mono ?_)⟩
  rintro r H' mj hmj ⟨lj, rfl, rfl⟩
  simp only [go_sem, ↓tfi, ↓fti, ↓reduceIte, exC, Int.reduceEq, decide_true, decide_false]
  exact ⟨leM_tr L3 (leM_tr (leM_tr (.inr hv0) (leM_tr (.inr hv1) (.inr hwj))) lj), _, _, rfl, rfl⟩
theorem rtk13 (n : Int) (s c : List UInt8) (ty : Ty) (args : List Ex) (a : Option Addr) (cp : Nat) (m : Mem) (hcp : args.length ≤ cp) (hn : args.length ≤ big) (hty : ty.dim ≤ 1000) (hA : RArgOk args a cp m)
  (hb : (nodeT 13 n s c ty (exprTs args)).length ≤ cap) : RetT 42 [.v (.agg ⟨exC 13 n s c ty (.slice a args.length cp)⟩)] m (nodeT 13 n s c ty (exprTs args)) := by
 have hT : nodeT 13 n s c ty (exprTs args) = List.flatten [[kw [110, 101, 119], nm1 c], (sg [40] :: (commaT true ((exprTs args).map (·.2)) ++ [sg [41]]))] := by simp [nodeT, listT, commaT]
 rw [hT] at hb ⊢
 clear hT
 have hb0 := hb
 simp only [List.flatten_cons, List.flatten_nil, Lla, Llc, Lln, cap] at hb
 refine retT_of ?_
 refine enter cfK puK Tryz.func42 rfl rfl (by kernel_rfl) rfl ?_ ?_
 ·simp only [go_sem, ↓tfi, ↓fti, ↓reduceIte, exC]
 ·simp only [go_sem, ↓tfi, ↓fti, ↓reduceIte, exC, Int.reduceEq, decide_true, decide_false]
  refine WP_draw (.hoist 1 (.hoist 2 (.hoist 6 (.hoist 7 (.alt 0 [7, 6, 2, 1] (.alt 3 [7, 6] (.alt 4 [7, 6] (.alt 5 [7, 6] (.alt 8 [] (.alt 9 [] (.alt 10 [] (.alt 11 [] (.hoist 12 .done) .stop) .stop) .stop) .stop) .stop) .stop) .stop) .stop))))) puK (by kernel_rfl) (by kernel_rfl) ?_
  simp only [go_sem, ↓tfi, ↓fti, ↓reduceIte, exC]
  refine cvl ((rsome_spec _ _ m).mono ?_)
  rintro r H' m1 hm1 ⟨rfl, rfl, _⟩
  have l1 : leM m m1 := .inr hm1
  have L1 : leM m m1 := leM_tr (.inl rfl : leM m m) l1
  simp only [go_sem, ↓tfi, ↓fti, ↓reduceIte, exC, Int.reduceEq, decide_true, decide_false, L1, and_self]
  refine cvl ((hA.lst m1 L1 (by simp only [cap]; omega)).mono ?_)
  rintro r H' m2 hm2 ⟨l2, rfl, rfl⟩
  have L2 : leM m m2 := leM_tr L1 l2
  simp only [go_sem, ↓tfi, ↓fti, ↓reduceIte, exC, Int.reduceEq, decide_true, decide_false, L2, and_self]
  refine ⟨by kernel_rfl, fun a3 c3 w3 hw3 hc3 r3 => FnV_of ((rround_spec _ a3 c3 w3 r3 (by simp only [cap]; omega)).mono ?_)⟩
  rintro r H' m3 hm3 ⟨l3, rfl, rfl⟩
  have L3 : leM m m3 := leM_tr L2 (leM_tr (.inr hw3) l3)
  simp only [go_sem, ↓tfi, ↓fti, ↓reduceIte, exC, Int.reduceEq, decide_true, decide_false, L3, and_self]
  intro p0 q0 v0 hv0 hq0 s0
  intro p1 q1 v1 hv1 hq1 s1
  refine ⟨by kernel_rfl, fun aj cj wj hwj hcj rj => FnV_of ((rjoinL_spec [[kw [110, 101, 119], nm1 c], (sg [40] :: (commaT true ((exprTs args).map (·.2)) ++ [sg [41]]))] aj 2 cj _ wj rfl rj ⟨⟨p0, q0, rfl, hq0, Rds_upM (leM_tr (.inr hv1) (.inr hwj)) s0⟩, ⟨⟨p1, q1, rfl, hq1, Rds_upM (.inr hwj) s1⟩, trivial⟩⟩ (by decide) hb0).mono ?_)⟩
  rintro r H' mj hmj ⟨lj, rfl, rfl⟩
  simp only [go_sem, ↓tfi, ↓fti, ↓reduceIte, exC, Int.reduceEq, decide_true, decide_false]
  exact ⟨leM_tr L3 (leM_tr (leM_tr (.inr hv0) (leM_tr (.inr hv1) (.inr hwj))) lj), _, _, rfl, rfl⟩
theorem rtk14 (n : Int) (s c : List UInt8) (ty : Ty) (args : List Ex) (a : Option Addr) (cp : Nat) (m : Mem) (hcp : args.length ≤ cp) (hn : args.length ≤ big) (hty : ty.dim ≤ 1000) (hA : RArgOk args a cp m) (hl : 1 ≤ args.length)
  (hb : (nodeT 14 n s c ty (exprTs args)).length ≤ cap) : RetT 42 [.v (.agg ⟨exC 14 n s c ty (.slice a args.length cp)⟩)] m (nodeT 14 n s c ty (exprTs args)) := by
 have hT : nodeT 14 n s c ty (exprTs args) = List.flatten [[kw [110, 101, 119]], typT ty.dim ty.base ty.name, [sg [91]], tAt (exprTs args) 0, [sg [93]]] := by simp [nodeT, listT, commaT]
 rw [hT] at hb ⊢
 clear hT
 have hb0 := hb
 simp only [List.flatten_cons, List.flatten_nil, Lla, Llc, Lln, cap] at hb
 refine retT_of ?_
 refine enter cfK puK Tryz.func42 rfl rfl (by kernel_rfl) rfl ?_ ?_
 ·simp only [go_sem, ↓tfi, ↓fti, ↓reduceIte, exC]
 ·simp only [go_sem, ↓tfi, ↓fti, ↓reduceIte, exC, Int.reduceEq, decide_true, decide_false]
  refine WP_draw (.hoist 3 (.hoist 4 (.hoist 9 (.hoist 10 (.hoist 11 (.hoist 12 (.alt 0 [12, 11, 10, 9, 4, 3] (.alt 1 [12, 11, 10, 9, 4, 3] (.alt 2 [12, 11, 10, 9, 4, 3] (.alt 5 [12, 11, 10, 9] (.alt 6 [12, 11, 10, 9] (.alt 7 [12, 11, 10, 9] (.alt 8 [12, 11, 10, 9] (.alt 13 [] (.alt 14 [] (.alt 15 [] (.alt 16 [] (.alt 17 [] (.alt 18 [] (.hoist 19 .done) .stop) .stop) .stop) .stop) .stop) .stop) .stop) .stop) .stop) .stop) .stop) .stop) .stop))))))) puK (by kernel_rfl) (by kernel_rfl) ?_
  simp only [go_sem, ↓tfi, ↓fti, ↓reduceIte, exC]
  refine Exists.elim (hA.opd 0 0 m (by omega) (.inl rfl) rfl) fun x0 hx0 => ⟨⟨by omega, by omega, hx0.1.2⟩, x0.cs, ⟨hx0.1.1, rfl⟩, ?_⟩
  refine cvl ((rsome_spec _ _ m).mono ?_)
  rintro r H' m1 hm1 ⟨rfl, rfl, _⟩
  have l1 : leM m m1 := .inr hm1
  have L1 : leM m m1 := leM_tr (.inl rfl : leM m m) l1
  simp only [go_sem, ↓tfi, ↓fti, ↓reduceIte, exC, Int.reduceEq, decide_true, decide_false, L1, and_self]
  refine cvl ((FnH_den (rkind_spec ty.dim ty.base ty.name m1 hty) (fun V => rfl)).mono ?_)
  rintro r H' m2 hm2 ⟨l2, rfl, rfl⟩
  have L2 : leM m m2 := leM_tr L1 l2
  simp only [go_sem, ↓tfi, ↓fti, ↓reduceIte, exC, Int.reduceEq, decide_true, decide_false, L2, and_self]
  refine cvl ((rsome_spec _ _ m2).mono ?_)
  rintro r H' m3 hm3 ⟨rfl, rfl, _⟩
  have l3 : leM m2 m3 := .inr hm3
  have L3 : leM m m3 := leM_tr L2 l3
  simp only [go_sem, ↓tfi, ↓fti, ↓reduceIte, exC, Int.reduceEq, decide_true, decide_false, L3, and_self]
  refine cvl ((FnH_den (hx0.2.2 m3 L3 (by simp only [cap]; omega)) (fun V => rfl)).mono ?_)
  rintro r H' m4 hm4 ⟨l4, rfl, rfl⟩
  have L4 : leM m m4 := leM_tr L3 l4
  simp only [go_sem, ↓tfi, ↓fti, ↓reduceIte, exC, Int.reduceEq, decide_true, decide_false, L4, and_self]
  refine cvl ((rsome_spec _ _ m4).mono ?_)
  rintro r H' m5 hm5 ⟨rfl, rfl, _⟩
  have l5 : leM m4 m5 := .inr hm5
  have L5 : leM m m5 := leM_tr L4 l5
  simp only [go_sem, ↓tfi, ↓fti, ↓reduceIte, exC, Int.reduceEq, decide_true, decide_false, L5, and_self]
  intro p0 q0 v0 hv0 hq0 s0
  intro p1 q1 v1 hv1 hq1 s1
  intro p2 q2 v2 hv2 hq2 s2
  intro p3 q3 v3 hv3 hq3 s3
  intro p4 q4 v4 hv4 hq4 s4
  refine ⟨by kernel_rfl, fun aj cj wj hwj hcj rj => FnV_of ((rjoinL_spec [[kw [110, 101, 119]], typT ty.dim ty.base ty.name, [sg [91]], tAt (exprTs args) 0, [sg [93]]] aj 5 cj _ wj rfl rj ⟨⟨p0, q0, rfl, hq0, Rds_upM (leM_tr (.inr hv1) (leM_tr (.inr hv2) (leM_tr (.inr hv3) (leM_tr (.inr hv4) (.inr hwj))))) s0⟩, ⟨⟨p1, q1, rfl, hq1, Rds_upM (leM_tr (.inr hv2) (leM_tr (.inr hv3) (leM_tr (.inr hv4) (.inr hwj)))) s1⟩, ⟨⟨p2, q2, rfl, hq2, Rds_upM (leM_tr (.inr hv3) (leM_tr (.inr hv4) (.inr hwj))) s2⟩, ⟨⟨p3, q3, rfl, hq3, Rds_upM (leM_tr (.inr hv4) (.inr hwj)) s3⟩, ⟨⟨p4, q4, rfl, hq4, Rds_upM (.inr hwj) s4⟩, trivial⟩⟩⟩⟩⟩ (by decide) hb0).mono ?_)⟩
  rintro r H' mj hmj ⟨lj, rfl, rfl⟩
  simp only [go_sem, ↓tfi, ↓fti, ↓reduceIte, exC, Int.reduceEq, decide_true, decide_false]
  exact ⟨leM_tr L5 (leM_tr (leM_tr (.inr hv0) (leM_tr (.inr hv1) (leM_tr (.inr hv2) (leM_tr (.inr hv3) (leM_tr (.inr hv4) (.inr hwj)))))) lj), _, _, rfl, rfl⟩
theorem rtk15 (n : Int) (s c : List UInt8) (ty : Ty) (args : List Ex) (a : Option Addr) (cp : Nat) (m : Mem) (hcp : args.length ≤ cp) (hn : args.length ≤ big) (hty : ty.dim ≤ 1000) (hA : RArgOk args a cp m) (hl : 1 ≤ args.length)
  (hb : (nodeT 15 n s c ty (exprTs args)).length ≤ cap) : RetT 42 [.v (.agg ⟨exC 15 n s c ty (.slice a args.length cp)⟩)] m (nodeT 15 n s c ty (exprTs args)) := by
 have hT : nodeT 15 n s c ty (exprTs args) = List.flatten [[sg s], oAt (exprTs args) 0] := by simp [nodeT, listT, commaT]
 rw [hT] at hb ⊢
 clear hT
 have hb0 := hb
 simp only [List.flatten_cons, List.flatten_nil, Lla, Llc, Lln, cap] at hb
 refine retT_of ?_
 refine enter cfK puK Tryz.func42 rfl rfl (by kernel_rfl) rfl ?_ ?_
 ·simp only [go_sem, ↓tfi, ↓fti, ↓reduceIte, exC]
 ·simp only [go_sem, ↓tfi, ↓fti, ↓reduceIte, exC, Int.reduceEq, decide_true, decide_false]
  refine WP_draw (.hoist 0 (.hoist 1 (.hoist 5 (.hoist 6 (.hoist 7 (.hoist 8 (.alt 2 [8, 7, 6, 5] (.alt 3 [8, 7, 6, 5] (.alt 4 [8, 7, 6, 5] (.alt 9 [] (.alt 10 [] (.alt 11 [] (.hoist 12 .done) .stop) .stop) .stop) .stop) .stop) .stop))))))) puK (by kernel_rfl) (by kernel_rfl) ?_
  simp only [go_sem, ↓tfi, ↓fti, ↓reduceIte, exC]
  refine Exists.elim (hA.opd 0 0 m (by omega) (.inl rfl) rfl) fun x0 hx0 => ⟨⟨by omega, by omega, hx0.1.2⟩, x0.cs, ⟨hx0.1.1, rfl⟩, ?_⟩
  refine cvl ((rsome_spec _ _ m).mono ?_)
  rintro r H' m1 hm1 ⟨rfl, rfl, _⟩
  have l1 : leM m m1 := .inr hm1
  have L1 : leM m m1 := leM_tr (.inl rfl : leM m m) l1
  simp only [go_sem, ↓tfi, ↓fti, ↓reduceIte, exC, Int.reduceEq, decide_true, decide_false, L1, and_self]
  refine cvl ((FnH_den (hx0.2.1 m1 L1 (by simp only [cap]; omega)) (fun V => rfl)).mono ?_)
  rintro r H' m2 hm2 ⟨l2, rfl, rfl⟩
  have L2 : leM m m2 := leM_tr L1 l2
  simp only [go_sem, ↓tfi, ↓fti, ↓reduceIte, exC, Int.reduceEq, decide_true, decide_false, L2, and_self]
  intro p0 q0 v0 hv0 hq0 s0
  intro p1 q1 v1 hv1 hq1 s1
  refine ⟨by kernel_rfl, fun aj cj wj hwj hcj rj => FnV_of ((rjoinL_spec [[sg s], oAt (exprTs args) 0] aj 2 cj _ wj rfl rj ⟨⟨p0, q0, rfl, hq0, Rds_upM (leM_tr (.inr hv1) (.inr hwj)) s0⟩, ⟨⟨p1, q1, rfl, hq1, Rds_upM (.inr hwj) s1⟩, trivial⟩⟩ (by decide) hb0).mono ?_)⟩
  rintro r H' mj hmj ⟨lj, rfl, rfl⟩
  simp only [go_sem, ↓tfi, ↓fti, ↓reduceIte, exC, Int.reduceEq, decide_true, decide_false]
  exact ⟨leM_tr L2 (leM_tr (leM_tr (.inr hv0) (leM_tr (.inr hv1) (.inr hwj))) lj), _, _, rfl, rfl⟩
theorem rtk16 (n : Int) (s c : List UInt8) (ty : Ty) (args : List Ex) (a : Option Addr) (cp : Nat) (m : Mem) (hcp : args.length ≤ cp) (hn : args.length ≤ big) (hty : ty.dim ≤ 1000) (hA : RArgOk args a cp m) (hl : 2 ≤ args.length)
  (hb : (nodeT 16 n s c ty (exprTs args)).length ≤ cap) : RetT 42 [.v (.agg ⟨exC 16 n s c ty (.slice a args.length cp)⟩)] m (nodeT 16 n s c ty (exprTs args)) := by
 have hT : nodeT 16 n s c ty (exprTs args) = List.flatten [oAt (exprTs args) 0, [sg s], oAt (exprTs args) 1] := by simp [nodeT, listT, commaT]
 rw [hT] at hb ⊢
 clear hT
 have hb0 := hb
 simp only [List.flatten_cons, List.flatten_nil, Lla, Llc, Lln, cap] at hb
 refine retT_of ?_
 refine enter cfK puK Tryz.func42 rfl rfl (by kernel_rfl) rfl ?_ ?_
 ·simp only [go_sem, ↓tfi, ↓fti, ↓reduceIte, exC]
 ·simp only [go_sem, ↓tfi, ↓fti, ↓reduceIte, exC, Int.reduceEq, decide_true, decide_false]
  refine WP_draw (.hoist 0 (.hoist 1 (.hoist 2 (.hoist 3 (.hoist 5 (.hoist 6 (.hoist 10 (.hoist 11 (.hoist 12 (.hoist 13 (.alt 4 [13, 12, 11, 10, 6, 5] (.alt 7 [13, 12, 11, 10] (.alt 8 [13, 12, 11, 10] (.alt 9 [13, 12, 11, 10] (.alt 14 [] (.alt 15 [] (.alt 16 [] (.hoist 17 .done) .stop) .stop) .stop) .stop) .stop) .stop) .stop))))))))))) puK (by kernel_rfl) (by kernel_rfl) ?_
  simp only [go_sem, ↓tfi, ↓fti, ↓reduceIte, exC]
  refine Exists.elim (hA.opd 0 0 m (by omega) (.inl rfl) rfl) fun x0 hx0 => ⟨⟨by omega, by omega, hx0.1.2⟩, x0.cs, ⟨hx0.1.1, rfl⟩, ?_⟩
  refine Exists.elim (hA.opd 1 8 m (by omega) (.inl rfl) rfl) fun x1 hx1 => ⟨⟨by omega, by omega, hx1.1.2⟩, x1.cs, ⟨hx1.1.1, rfl⟩, ?_⟩
  refine cvl ((FnH_den (hx0.2.1 m (.inl rfl : leM m m) (by simp only [cap]; omega)) (fun V => rfl)).mono ?_)
  rintro r H' m1 hm1 ⟨l1, rfl, rfl⟩
  have L1 : leM m m1 := leM_tr (.inl rfl : leM m m) l1
  simp only [go_sem, ↓tfi, ↓fti, ↓reduceIte, exC, Int.reduceEq, decide_true, decide_false, L1, and_self]
  refine cvl ((rsome_spec _ _ m1).mono ?_)
  rintro r H' m2 hm2 ⟨rfl, rfl, _⟩
  have l2 : leM m1 m2 := .inr hm2
  have L2 : leM m m2 := leM_tr L1 l2
  simp only [go_sem, ↓tfi, ↓fti, ↓reduceIte, exC, Int.reduceEq, decide_true, decide_false, L2, and_self]
  refine cvl ((FnH_den (hx1.2.1 m2 L2 (by simp only [cap]; omega)) (fun V => rfl)).mono ?_)
  rintro r H' m3 hm3 ⟨l3, rfl, rfl⟩
  have L3 : leM m m3 := leM_tr L2 l3
  simp only [go_sem, ↓tfi, ↓fti, ↓reduceIte, exC, Int.reduceEq, decide_true, decide_false, L3, and_self]
  intro p0 q0 v0 hv0 hq0 s0
  intro p1 q1 v1 hv1 hq1 s1
  intro p2 q2 v2 hv2 hq2 s2
  refine ⟨by kernel_rfl, fun aj cj wj hwj hcj rj => FnV_of ((rjoinL_spec [oAt (exprTs args) 0, [sg s], oAt (exprTs args) 1] aj 3 cj _ wj rfl rj ⟨⟨p0, q0, rfl, hq0, Rds_upM (leM_tr (.inr hv1) (leM_tr (.inr hv2) (.inr hwj))) s0⟩, ⟨⟨p1, q1, rfl, hq1, Rds_upM (leM_tr (.inr hv2) (.inr hwj)) s1⟩, ⟨⟨p2, q2, rfl, hq2, Rds_upM (.inr hwj) s2⟩, trivial⟩⟩⟩ (by decide) hb0).mono ?_)⟩
  rintro r H' mj hmj ⟨lj, rfl, rfl⟩
  simp only [go_sem, ↓tfi, ↓fti, ↓reduceIte, exC, Int.reduceEq, decide_true, decide_false]
  exact ⟨leM_tr L3 (leM_tr (leM_tr (.inr hv0) (leM_tr (.inr hv1) (leM_tr (.inr hv2) (.inr hwj)))) lj), _, _, rfl, rfl⟩
theorem rtk17 (n : Int) (s c : List UInt8) (ty : Ty) (args : List Ex) (a : Option Addr) (cp : Nat) (m : Mem) (hcp : args.length ≤ cp) (hn : args.length ≤ big) (hty : ty.dim ≤ 1000) (hA : RArgOk args a cp m) (hl : 1 ≤ args.length)
  (hb : (nodeT 17 n s c ty (exprTs args)).length ≤ cap) : RetT 42 [.v (.agg ⟨exC 17 n s c ty (.slice a args.length cp)⟩)] m (nodeT 17 n s c ty (exprTs args)) := by
 have hT : nodeT 17 n s c ty (exprTs args) = List.flatten [oAt (exprTs args) 0, [kw [97, 115]], typT ty.dim ty.base ty.name] := by simp [nodeT, listT, commaT]
 rw [hT] at hb ⊢
 clear hT
 have hb0 := hb
 simp only [List.flatten_cons, List.flatten_nil, Lla, Llc, Lln, cap] at hb
 refine retT_of ?_
 refine enter cfK puK Tryz.func42 rfl rfl (by kernel_rfl) rfl ?_ ?_
 ·simp only [go_sem, ↓tfi, ↓fti, ↓reduceIte, exC]
 ·simp only [go_sem, ↓tfi, ↓fti, ↓reduceIte, exC, Int.reduceEq, decide_true, decide_false]
  refine WP_draw (.hoist 0 (.hoist 1 (.hoist 2 (.hoist 3 (.hoist 8 (.hoist 9 (.alt 4 [9, 8] (.alt 5 [9, 8] (.alt 6 [9, 8] (.alt 7 [9, 8] (.alt 10 [] (.alt 11 [] (.alt 12 [] (.hoist 13 .done) .stop) .stop) .stop) .stop) .stop) .stop) .stop))))))) puK (by kernel_rfl) (by kernel_rfl) ?_
  simp only [go_sem, ↓tfi, ↓fti, ↓reduceIte, exC]
  refine Exists.elim (hA.opd 0 0 m (by omega) (.inl rfl) rfl) fun x0 hx0 => ⟨⟨by omega, by omega, hx0.1.2⟩, x0.cs, ⟨hx0.1.1, rfl⟩, ?_⟩
  refine cvl ((FnH_den (hx0.2.1 m (.inl rfl : leM m m) (by simp only [cap]; omega)) (fun V => rfl)).mono ?_)
  rintro r H' m1 hm1 ⟨l1, rfl, rfl⟩
  have L1 : leM m m1 := leM_tr (.inl rfl : leM m m) l1
  simp only [go_sem, ↓tfi, ↓fti, ↓reduceIte, exC, Int.reduceEq, decide_true, decide_false, L1, and_self]
  refine cvl ((rsome_spec _ _ m1).mono ?_)
  rintro r H' m2 hm2 ⟨rfl, rfl, _⟩
  have l2 : leM m1 m2 := .inr hm2
  have L2 : leM m m2 := leM_tr L1 l2
  simp only [go_sem, ↓tfi, ↓fti, ↓reduceIte, exC, Int.reduceEq, decide_true, decide_false, L2, and_self]
  refine cvl ((FnH_den (rkind_spec ty.dim ty.base ty.name m2 hty) (fun V => rfl)).mono ?_)
  rintro r H' m3 hm3 ⟨l3, rfl, rfl⟩
  have L3 : leM m m3 := leM_tr L2 l3
  simp only [go_sem, ↓tfi, ↓fti, ↓reduceIte, exC, Int.reduceEq, decide_true, decide_false, L3, and_self]
  intro p0 q0 v0 hv0 hq0 s0
  intro p1 q1 v1 hv1 hq1 s1
  intro p2 q2 v2 hv2 hq2 s2
  refine ⟨by kernel_rfl, fun aj cj wj hwj hcj rj => FnV_of ((rjoinL_spec [oAt (exprTs args) 0, [kw [97, 115]], typT ty.dim ty.base ty.name] aj 3 cj _ wj rfl rj ⟨⟨p0, q0, rfl, hq0, Rds_upM (leM_tr (.inr hv1) (leM_tr (.inr hv2) (.inr hwj))) s0⟩, ⟨⟨p1, q1, rfl, hq1, Rds_upM (leM_tr (.inr hv2) (.inr hwj)) s1⟩, ⟨⟨p2, q2, rfl, hq2, Rds_upM (.inr hwj) s2⟩, trivial⟩⟩⟩ (by decide) hb0).mono ?_)⟩
  rintro r H' mj hmj ⟨lj, rfl, rfl⟩
  simp only [go_sem, ↓tfi, ↓fti, ↓reduceIte, exC, Int.reduceEq, decide_true, decide_false]
  exact ⟨leM_tr L3 (leM_tr (leM_tr (.inr hv0) (leM_tr (.inr hv1) (leM_tr (.inr hv2) (.inr hwj)))) lj), _, _, rfl, rfl⟩
theorem rtk18 (n : Int) (s c : List UInt8) (ty : Ty) (args : List Ex) (a : Option Addr) (cp : Nat) (m : Mem) (hcp : args.length ≤ cp) (hn : args.length ≤ big) (hty : ty.dim ≤ 1000) (hA : RArgOk args a cp m) (hl : 1 ≤ args.length)
  (hb : (nodeT 18 n s c ty (exprTs args)).length ≤ cap) : RetT 42 [.v (.agg ⟨exC 18 n s c ty (.slice a args.length cp)⟩)] m (nodeT 18 n s c ty (exprTs args)) := by
 have hT : nodeT 18 n s c ty (exprTs args) = List.flatten [oAt (exprTs args) 0, [kw [105, 115]], typT ty.dim ty.base ty.name] := by simp [nodeT, listT, commaT]
 rw [hT] at hb ⊢
 clear hT
 have hb0 := hb
 simp only [List.flatten_cons, List.flatten_nil, Lla, Llc, Lln, cap] at hb
 refine retT_of ?_
 refine enter cfK puK Tryz.func42 rfl rfl (by kernel_rfl) rfl ?_ ?_
 ·simp only [go_sem, ↓tfi, ↓fti, ↓reduceIte, exC]
 ·simp only [go_sem, ↓tfi, ↓fti, ↓reduceIte, exC, Int.reduceEq, decide_true, decide_false]
  refine WP_draw (.hoist 0 (.hoist 1 (.hoist 2 (.hoist 3 (.hoist 8 (.hoist 9 (.alt 4 [9, 8] (.alt 5 [9, 8] (.alt 6 [9, 8] (.alt 7 [9, 8] (.alt 10 [] (.alt 11 [] (.alt 12 [] (.hoist 13 .done) .stop) .stop) .stop) .stop) .stop) .stop) .stop))))))) puK (by kernel_rfl) (by kernel_rfl) ?_
  simp only [go_sem, ↓tfi, ↓fti, ↓reduceIte, exC]
  refine Exists.elim (hA.opd 0 0 m (by omega) (.inl rfl) rfl) fun x0 hx0 => ⟨⟨by omega, by omega, hx0.1.2⟩, x0.cs, ⟨hx0.1.1, rfl⟩, ?_⟩
  refine cvl ((FnH_den (hx0.2.1 m (.inl rfl : leM m m) (by simp only [cap]; omega)) (fun V => rfl)).mono ?_)
  rintro r H' m1 hm1 ⟨l1, rfl, rfl⟩
  have L1 : leM m m1 := leM_tr (.inl rfl : leM m m) l1
  simp only [go_sem, ↓tfi, ↓fti, ↓reduceIte, exC, Int.reduceEq, decide_true, decide_false, L1, and_self]
  refine cvl ((rsome_spec _ _ m1).mono ?_)
  rintro r H' m2 hm2 ⟨rfl, rfl, _⟩
  have l2 : leM m1 m2 := .inr hm2
  have L2 : leM m m2 := leM_tr L1 l2
  simp only [go_sem, ↓tfi, ↓fti, ↓reduceIte, exC, Int.reduceEq, decide_true, decide_false, L2, and_self]
  refine cvl ((FnH_den (rkind_spec ty.dim ty.base ty.name m2 hty) (fun V => rfl)).mono ?_)
  rintro r H' m3 hm3 ⟨l3, rfl, rfl⟩
  have L3 : leM m m3 := leM_tr L2 l3
  simp only [go_sem, ↓tfi, ↓fti, ↓reduceIte, exC, Int.reduceEq, decide_true, decide_false, L3, and_self]
  intro p0 q0 v0 hv0 hq0 s0
  intro p1 q1 v1 hv1 hq1 s1
  intro p2 q2 v2 hv2 hq2 s2
  refine ⟨by kernel_rfl, fun aj cj wj hwj hcj rj => FnV_of ((rjoinL_spec [oAt (exprTs args) 0, [kw [105, 115]], typT ty.dim ty.base ty.name] aj 3 cj _ wj rfl rj ⟨⟨p0, q0, rfl, hq0, Rds_upM (leM_tr (.inr hv1) (leM_tr (.inr hv2) (.inr hwj))) s0⟩, ⟨⟨p1, q1, rfl, hq1, Rds_upM (leM_tr (.inr hv2) (.inr hwj)) s1⟩, ⟨⟨p2, q2, rfl, hq2, Rds_upM (.inr hwj) s2⟩, trivial⟩⟩⟩ (by decide) hb0).mono ?_)⟩
  rintro r H' mj hmj ⟨lj, rfl, rfl⟩
  simp only [go_sem, ↓tfi, ↓fti, ↓reduceIte, exC, Int.reduceEq, decide_true, decide_false]
  exact ⟨leM_tr L3 (leM_tr (leM_tr (.inr hv0) (leM_tr (.inr hv1) (leM_tr (.inr hv2) (.inr hwj)))) lj), _, _, rfl, rfl⟩
theorem rtk19 (n : Int) (s c : List UInt8) (ty : Ty) (args : List Ex) (a : Option Addr) (cp : Nat) (m : Mem) (hcp : args.length ≤ cp) (hn : args.length ≤ big) (hty : ty.dim ≤ 1000) (hA : RArgOk args a cp m) (hl : 1 ≤ args.length)
  (hb : (nodeT 19 n s c ty (exprTs args)).length ≤ cap) : RetT 42 [.v (.agg ⟨exC 19 n s c ty (.slice a args.length cp)⟩)] m (nodeT 19 n s c ty (exprTs args)) := by
 have hT : nodeT 19 n s c ty (exprTs args) = List.flatten [[kw [108, 101, 110]], (sg [40] :: (tAt (exprTs args) 0 ++ [sg [41]]))] := by simp [nodeT, listT, commaT]
 rw [hT] at hb ⊢
 clear hT
 have hb0 := hb
 simp only [List.flatten_cons, List.flatten_nil, Lla, Llc, Lln, cap] at hb
 refine retT_of ?_
 refine enter cfK puK Tryz.func42 rfl rfl (by kernel_rfl) rfl ?_ ?_
 ·simp only [go_sem, ↓tfi, ↓fti, ↓reduceIte, exC]
 ·simp only [go_sem, ↓tfi, ↓fti, ↓reduceIte, exC, Int.reduceEq, decide_true, decide_false]
  refine WP_draw (.hoist 3 (.hoist 4 (.hoist 5 (.hoist 6 (.alt 0 [6, 5, 4, 3] (.alt 1 [6, 5, 4, 3] (.alt 2 [6, 5, 4, 3] (.alt 7 [] (.alt 8 [] (.alt 9 [] (.alt 10 [] (.hoist 11 .done) .stop) .stop) .stop) .stop) .stop) .stop) .stop))))) puK (by kernel_rfl) (by kernel_rfl) ?_
  simp only [go_sem, ↓tfi, ↓fti, ↓reduceIte, exC]
  refine Exists.elim (hA.opd 0 0 m (by omega) (.inl rfl) rfl) fun x0 hx0 => ⟨⟨by omega, by omega, hx0.1.2⟩, x0.cs, ⟨hx0.1.1, rfl⟩, ?_⟩
  refine cvl ((rsome_spec _ _ m).mono ?_)
  rintro r H' m1 hm1 ⟨rfl, rfl, _⟩
  have l1 : leM m m1 := .inr hm1
  have L1 : leM m m1 := leM_tr (.inl rfl : leM m m) l1
  simp only [go_sem, ↓tfi, ↓fti, ↓reduceIte, exC, Int.reduceEq, decide_true, decide_false, L1, and_self]
  refine cvl ((FnH_den (hx0.2.2 m1 L1 (by simp only [cap]; omega)) (fun V => rfl)).mono ?_)
  rintro r H' m2 hm2 ⟨l2, rfl, rfl⟩
  have L2 : leM m m2 := leM_tr L1 l2
  simp only [go_sem, ↓tfi, ↓fti, ↓reduceIte, exC, Int.reduceEq, decide_true, decide_false, L2, and_self]
  refine ⟨by kernel_rfl, fun a3 c3 w3 hw3 hc3 r3 => FnV_of ((rround_spec _ a3 c3 w3 r3 (by simp only [cap]; omega)).mono ?_)⟩
  rintro r H' m3 hm3 ⟨l3, rfl, rfl⟩
  have L3 : leM m m3 := leM_tr L2 (leM_tr (.inr hw3) l3)
  simp only [go_sem, ↓tfi, ↓fti, ↓reduceIte, exC, Int.reduceEq, decide_true, decide_false, L3, and_self]
  intro p0 q0 v0 hv0 hq0 s0
  intro p1 q1 v1 hv1 hq1 s1
  refine ⟨by kernel_rfl, fun aj cj wj hwj hcj rj => FnV_of ((rjoinL_spec [[kw [108, 101, 110]], (sg [40] :: (tAt (exprTs args) 0 ++ [sg [41]]))] aj 2 cj _ wj rfl rj ⟨⟨p0, q0, rfl, hq0, Rds_upM (leM_tr (.inr hv1) (.inr hwj)) s0⟩, ⟨⟨p1, q1, rfl, hq1, Rds_upM (.inr hwj) s1⟩, trivial⟩⟩ (by decide) hb0).mono ?_)⟩
  rintro r H' mj hmj ⟨lj, rfl, rfl⟩
  simp only [go_sem, ↓tfi, ↓fti, ↓reduceIte, exC, Int.reduceEq, decide_true, decide_false]
  exact ⟨leM_tr L3 (leM_tr (leM_tr (.inr hv0) (leM_tr (.inr hv1) (.inr hwj))) lj), _, _, rfl, rfl⟩
theorem rtk20 (n : Int) (s c : List UInt8) (ty : Ty) (args : List Ex) (a : Option Addr) (cp : Nat) (m : Mem) (hcp : args.length ≤ cp) (hn : args.length ≤ big) (hty : ty.dim ≤ 1000) (hA : RArgOk args a cp m) (hl : 1 ≤ args.length)
  (hb : (nodeT 20 n s c ty (exprTs args)).length ≤ cap) : RetT 42 [.v (.agg ⟨exC 20 n s c ty (.slice a args.length cp)⟩)] m (nodeT 20 n s c ty (exprTs args)) := by
 have hT : nodeT 20 n s c ty (exprTs args) = List.flatten [[kw intS], (sg [40] :: (tAt (exprTs args) 0 ++ [sg [41]]))] := by simp [nodeT, listT, commaT]
 rw [hT] at hb ⊢
 clear hT
 have hb0 := hb
 simp only [List.flatten_cons, List.flatten_nil, Lla, Llc, Lln, cap] at hb
 refine retT_of ?_
 refine enter cfK puK Tryz.func42 rfl rfl (by kernel_rfl) rfl ?_ ?_
 ·simp only [go_sem, ↓tfi, ↓fti, ↓reduceIte, exC]
 ·simp only [go_sem, ↓tfi, ↓fti, ↓reduceIte, exC, Int.reduceEq, decide_true, decide_false]
  refine WP_draw (.hoist 3 (.hoist 4 (.hoist 5 (.hoist 6 (.alt 0 [6, 5, 4, 3] (.alt 1 [6, 5, 4, 3] (.alt 2 [6, 5, 4, 3] (.alt 7 [] (.alt 8 [] (.alt 9 [] (.alt 10 [] (.hoist 11 .done) .stop) .stop) .stop) .stop) .stop) .stop) .stop))))) puK (by kernel_rfl) (by kernel_rfl) ?_
  simp only [go_sem, ↓tfi, ↓fti, ↓reduceIte, exC]
  refine Exists.elim (hA.opd 0 0 m (by omega) (.inl rfl) rfl) fun x0 hx0 => ⟨⟨by omega, by omega, hx0.1.2⟩, x0.cs, ⟨hx0.1.1, rfl⟩, ?_⟩
  refine cvl ((rsome_spec _ _ m).mono ?_)
  rintro r H' m1 hm1 ⟨rfl, rfl, _⟩
  have l1 : leM m m1 := .inr hm1
  have L1 : leM m m1 := leM_tr (.inl rfl : leM m m) l1
  simp only [go_sem, ↓tfi, ↓fti, ↓reduceIte, exC, Int.reduceEq, decide_true, decide_false, L1, and_self]
  refine cvl ((FnH_den (hx0.2.2 m1 L1 (by simp only [cap]; omega)) (fun V => rfl)).mono ?_)
  rintro r H' m2 hm2 ⟨l2, rfl, rfl⟩
  have L2 : leM m m2 := leM_tr L1 l2
  simp only [go_sem, ↓tfi, ↓fti, ↓reduceIte, exC, Int.reduceEq, decide_true, decide_false, L2, and_self]
  refine ⟨by kernel_rfl, fun a3 c3 w3 hw3 hc3 r3 => FnV_of ((rround_spec _ a3 c3 w3 r3 (by simp only [cap]; omega)).mono ?_)⟩
  rintro r H' m3 hm3 ⟨l3, rfl, rfl⟩
  have L3 : leM m m3 := leM_tr L2 (leM_tr (.inr hw3) l3)
  simp only [go_sem, ↓tfi, ↓fti, ↓reduceIte, exC, Int.reduceEq, decide_true, decide_false, L3, and_self]
  intro p0 q0 v0 hv0 hq0 s0
  intro p1 q1 v1 hv1 hq1 s1
  refine ⟨by kernel_rfl, fun aj cj wj hwj hcj rj => FnV_of ((rjoinL_spec [[kw intS], (sg [40] :: (tAt (exprTs args) 0 ++ [sg [41]]))] aj 2 cj _ wj rfl rj ⟨⟨p0, q0, rfl, hq0, Rds_upM (leM_tr (.inr hv1) (.inr hwj)) s0⟩, ⟨⟨p1, q1, rfl, hq1, Rds_upM (.inr hwj) s1⟩, trivial⟩⟩ (by decide) hb0).mono ?_)⟩
  rintro r H' mj hmj ⟨lj, rfl, rfl⟩
  simp only [go_sem, ↓tfi, ↓fti, ↓reduceIte, exC, Int.reduceEq, decide_true, decide_false]
  exact ⟨leM_tr L3 (leM_tr (leM_tr (.inr hv0) (leM_tr (.inr hv1) (.inr hwj))) lj), _, _, rfl, rfl⟩
theorem rtk21 (n : Int) (s c : List UInt8) (ty : Ty) (args : List Ex) (a : Option Addr) (cp : Nat) (m : Mem) (hcp : args.length ≤ cp) (hn : args.length ≤ big) (hty : ty.dim ≤ 1000) (hA : RArgOk args a cp m) (hl : 1 ≤ args.length)
  (hb : (nodeT 21 n s c ty (exprTs args)).length ≤ cap) : RetT 42 [.v (.agg ⟨exC 21 n s c ty (.slice a args.length cp)⟩)] m (nodeT 21 n s c ty (exprTs args)) := by
 have hT : nodeT 21 n s c ty (exprTs args) = List.flatten [[kw longS], (sg [40] :: (tAt (exprTs args) 0 ++ [sg [41]]))] := by simp [nodeT, listT, commaT]
 rw [hT] at hb ⊢
 clear hT
 have hb0 := hb
 simp only [List.flatten_cons, List.flatten_nil, Lla, Llc, Lln, cap] at hb
 refine retT_of ?_
 refine enter cfK puK Tryz.func42 rfl rfl (by kernel_rfl) rfl ?_ ?_
 ·simp only [go_sem, ↓tfi, ↓fti, ↓reduceIte, exC]
 ·simp only [go_sem, ↓tfi, ↓fti, ↓reduceIte, exC, Int.reduceEq, decide_true, decide_false]
  refine WP_draw (.hoist 3 (.hoist 4 (.hoist 5 (.hoist 6 (.alt 0 [6, 5, 4, 3] (.alt 1 [6, 5, 4, 3] (.alt 2 [6, 5, 4, 3] (.alt 7 [] (.alt 8 [] (.alt 9 [] (.alt 10 [] (.hoist 11 .done) .stop) .stop) .stop) .stop) .stop) .stop) .stop))))) puK (by kernel_rfl) (by kernel_rfl) ?_
  simp only [go_sem, ↓tfi, ↓fti, ↓reduceIte, exC]
  refine Exists.elim (hA.opd 0 0 m (by omega) (.inl rfl) rfl) fun x0 hx0 => ⟨⟨by omega, by omega, hx0.1.2⟩, x0.cs, ⟨hx0.1.1, rfl⟩, ?_⟩
  refine cvl ((rsome_spec _ _ m).mono ?_)
  rintro r H' m1 hm1 ⟨rfl, rfl, _⟩
  have l1 : leM m m1 := .inr hm1
  have L1 : leM m m1 := leM_tr (.inl rfl : leM m m) l1
  simp only [go_sem, ↓tfi, ↓fti, ↓reduceIte, exC, Int.reduceEq, decide_true, decide_false, L1, and_self]
  refine cvl ((FnH_den (hx0.2.2 m1 L1 (by simp only [cap]; omega)) (fun V => rfl)).mono ?_)
  rintro r H' m2 hm2 ⟨l2, rfl, rfl⟩
  have L2 : leM m m2 := leM_tr L1 l2
  simp only [go_sem, ↓tfi, ↓fti, ↓reduceIte, exC, Int.reduceEq, decide_true, decide_false, L2, and_self]
  refine ⟨by kernel_rfl, fun a3 c3 w3 hw3 hc3 r3 => FnV_of ((rround_spec _ a3 c3 w3 r3 (by simp only [cap]; omega)).mono ?_)⟩
  rintro r H' m3 hm3 ⟨l3, rfl, rfl⟩
  have L3 : leM m m3 := leM_tr L2 (leM_tr (.inr hw3) l3)
  simp only [go_sem, ↓tfi, ↓fti, ↓reduceIte, exC, Int.reduceEq, decide_true, decide_false, L3, and_self]
  intro p0 q0 v0 hv0 hq0 s0
  intro p1 q1 v1 hv1 hq1 s1
  refine ⟨by kernel_rfl, fun aj cj wj hwj hcj rj => FnV_of ((rjoinL_spec [[kw longS], (sg [40] :: (tAt (exprTs args) 0 ++ [sg [41]]))] aj 2 cj _ wj rfl rj ⟨⟨p0, q0, rfl, hq0, Rds_upM (leM_tr (.inr hv1) (.inr hwj)) s0⟩, ⟨⟨p1, q1, rfl, hq1, Rds_upM (.inr hwj) s1⟩, trivial⟩⟩ (by decide) hb0).mono ?_)⟩
  rintro r H' mj hmj ⟨lj, rfl, rfl⟩
  simp only [go_sem, ↓tfi, ↓fti, ↓reduceIte, exC, Int.reduceEq, decide_true, decide_false]
  exact ⟨leM_tr L3 (leM_tr (leM_tr (.inr hv0) (leM_tr (.inr hv1) (.inr hwj))) lj), _, _, rfl, rfl⟩
theorem rargOk {args : List Ex} {a : Option Addr} {cp : Nat} {m : Mem} {xs : List Value} (hcp : args.length ≤ cp) (hn : args.length ≤ big) (hr : Rds m a args.length 8 xs) (hes : exsRep m args xs) (hE : ∀ e ∈ args, RefE e m ∧ (exprT e).length + 2 ≤ cap) : RArgOk args a cp m := by
 refine ⟨fun i o m' hi hle ho => ?_, fun m' hle hb => ?_, fun hl m' hle hb => ?_⟩
 ·subst ho
  have hrep := exRep_upM hle (exs_at hes hi)
  obtain ⟨x, hx⟩ := exRep_nd hrep
  have hrd := Rds_cells (Rds_upM hle hr) hi
  rw [hx] at hrep hrd
  have hW := hE _ (List.getElem_mem hi)
  rw [oAt_eq hi, tAt_eq hi]
  exact ⟨x, hrd, fun m2 hle2 _ => roperand_spec _ x m2 (exRep_upM hle2 hrep) (hW.1.up (leM_tr hle hle2)) hW.2, fun m2 hle2 _ => hW.1 x.cs m2 (leM_tr hle hle2) (exRep_upM hle2 hrep)⟩
 ·rw [ts_map] at hb ⊢
  exact rlist_spec args a args.length cp xs m' rfl hn (Rds_upM hle hr) (exsRep_upM hle hes) (fun e he => (hE e he).1.up hle) hb
 ·rw [ts_map1] at hb ⊢
  exact rlist_spec (args.drop 1) _ (args.length - 1) (cp - 1) (xs.drop 8) m' (by simp) (by omega) (Rds_drop (Rds_upM hle hr) hl hcp) (exs_drop (exsRep_upM hle hes) hl) (fun e he => (hE e (List.mem_of_mem_drop he)).1.up hle) hb
theorem sizeL_mem : ∀ {l : List Ex} {e : Ex}, e ∈ l → sizeE e ≤ sizeL l
 | [], e, he => by cases he
 | x :: r, e, he => by
  simp only [sizeL]
  rcases List.mem_cons.1 he with rfl | he
  ·omega
  ·have := sizeL_mem he; omega
theorem rtok_all : ∀ (h : Nat) (e : Ex) (m : Mem), depthE e ≤ h → validE e = true → sizeE e ≤ big → RefE e m
 | 0, .mk k n s c ty args, m, hd, _, _ => by simp [depthE] at hd
 | h + 1, .mk k n s c ty args, m, hd, hv, hsz => by
  intro cs m' hle hrep
  have hb := len_size _ hv
  simp only [exRep] at hrep
  obtain ⟨a, cp, xs, rfl, hcp, hr, hok, hes⟩ := hrep
  have hn := hok.2.2.2.2.2
  simp only [depthE] at hd
  simp only [sizeE] at hsz hb
  simp only [validE, Bbt] at hv
  have hA : RArgOk args a cp m' := rargOk hcp hn hr hes fun e he => by
   have h1 := sizeL_mem he
   have h2 := validEs_mem hv.2 e he
   have h3 := len_size e h2
   exact ⟨rtok_all h e m' (by have := depthL_mem he; omega) h2 (by omega), by simp only [big] at hsz; simp only [cap]; omega⟩
  obtain ⟨hk, har, hty⟩ := node_kind hv.1
  have hty : ty.dim ≤ 1000 := by omega
  simp only [exprT] at hb ⊢
  have hb : (nodeT k n s c ty (exprTs args)).length ≤ cap := by simp only [big] at hsz; simp only [cap]; omega
  rcases kinds hk with h | h | h | h | h | h | h | h | h | h | h | h | h | h | h | h | h | h | h | h | h <;> subst h
  ·exact rtk1 n s c ty args a cp m' hcp hn hty hA hb
  ·exact rtk2 n s c ty args a cp m' hcp hn hty hA hb
  ·exact rtk3 n s c ty args a cp m' hcp hn hty hA hb
  ·exact rtk4 n s c ty args a cp m' hcp hn hty hA hb
  ·exact rtk5 n s c ty args a cp m' hcp hn hty hA hb
  ·exact rtk6 n s c ty args a cp m' hcp hn hty hA hb
  ·exact rtk7 n s c ty args a cp m' hcp hn hty hA (by simp [shapeL] at har; omega) hb
  ·exact rtk8 n s c ty args a cp m' hcp hn hty hA hb
  ·exact rtk9 n s c ty args a cp m' hcp hn hty hA (by simp [shapeL] at har; omega) hb
  ·exact rtk10 n s c ty args a cp m' hcp hn hty hA (by simp [shapeL] at har; omega) hb
  ·exact rtk11 n s c ty args a cp m' hcp hn hty hA hb
  ·exact rtk12 n s c ty args a cp m' hcp hn hty hA hb
  ·exact rtk13 n s c ty args a cp m' hcp hn hty hA hb
  ·exact rtk14 n s c ty args a cp m' hcp hn hty hA (by simp [shapeL] at har; omega) hb
  ·exact rtk15 n s c ty args a cp m' hcp hn hty hA (by simp [shapeL] at har; omega) hb
  ·exact rtk16 n s c ty args a cp m' hcp hn hty hA (by simp [shapeL] at har; omega) hb
  ·exact rtk17 n s c ty args a cp m' hcp hn hty hA (by simp [shapeL] at har; omega) hb
  ·exact rtk18 n s c ty args a cp m' hcp hn hty hA (by simp [shapeL] at har; omega) hb
  ·exact rtk19 n s c ty args a cp m' hcp hn hty hA (by simp [shapeL] at har; omega) hb
  ·exact rtk20 n s c ty args a cp m' hcp hn hty hA (by simp [shapeL] at har; omega) hb
  ·exact rtk21 n s c ty args a cp m' hcp hn hty hA (by simp [shapeL] at har; omega) hb
abbrev cfKs : Cfg := mkCf (fun f => f == 95) [(99, pS1 (fun _ => True) fun s => .agg ⟨tkC ⟨6, s, 0, 0⟩⟩), (96, pS1 (fun _ => True) fun s => .agg ⟨tkC ⟨2, s, 0, 0⟩⟩), (97, pS1 (fun _ => True) fun s => .agg ⟨tkC ⟨1, s, 0, 0⟩⟩), (56, pZero)]
theorem puKs : PureOk cfKs Tryz.prog := pure_cons (by kernel_rfl) (pureS (tk_agg rsign_spec)) (pure_cons (by kernel_rfl) (pureS (tk_agg rword_spec)) (pure_cons (by kernel_rfl) (pureS (tk_agg rid_spec)) (pure_cons (by kernel_rfl) pureZero pure_nil)))
theorem rsk1 (nm : List UInt8) (ty : Ty) (tN eN : Nd) (a : Option Addr) (l cp : Nat) (b : Option Addr) (l2 cp2 : Nat) (m : Mem) (hty : ty.dim ≤ 1000) (TX : List Tk) (hX : ∀ m', leM m m' → RetT 42 [.v (.agg ⟨eN.cs⟩)] m' TX)
  (hb : (List.flatten [typT ty.dim ty.base ty.name, [nm1 nm, sg [61]], TX, [sg [59]]]).length ≤ cap) : RetT 167 [.v (.agg ⟨Sd.cs ⟨1, nm, ty, tN, eN, a, l, cp, b, l2, cp2⟩⟩)] m (List.flatten [typT ty.dim ty.base ty.name, [nm1 nm, sg [61]], TX, [sg [59]]]) := by
 have hb0 := hb
 simp only [List.flatten_cons, List.flatten_nil, Lla, Llc, Lln, cap] at hb
 refine retT_of ?_
 refine enter cfKs puKs Tryz.func167 rfl rfl (by kernel_rfl) rfl ?_ ?_
 ·simp only [go_sem, ↓tfi, ↓fti, ↓reduceIte, Sd.cs, Nd.cs]
 ·simp only [go_sem, ↓tfi, ↓fti, ↓reduceIte, Sd.cs, Nd.cs, Int.reduceEq, decide_true, decide_false]
  refine cvl ((rsome_spec _ _ m).mono ?_)
  rintro r H' m1 hm1 ⟨rfl, rfl, _⟩
  have l1 : leM m m1 := .inr hm1
  have L1 : leM m m1 := leM_tr (.inl rfl : leM m m) l1
  simp only [go_sem, ↓tfi, ↓fti, ↓reduceIte, Sd.cs, Nd.cs, Int.reduceEq, decide_true, decide_false, L1, and_self]
  refine WP_draw (.hoist 0 (.hoist 1 (.hoist 3 (.hoist 4 (.hoist 9 (.hoist 10 (.hoist 12 (.alt 2 [12, 10, 9, 4, 3] (.alt 5 [12, 10, 9] (.alt 6 [12, 10, 9] (.alt 7 [12, 10, 9] (.alt 8 [12, 10, 9] (.alt 11 [12] (.alt 13 [] (.alt 14 [] (.hoist 15 .done) .stop) .stop) .stop) .stop) .stop) .stop) .stop) .stop)))))))) puKs (by kernel_rfl) (by kernel_rfl) ?_
  simp only [go_sem, ↓tfi, ↓fti, ↓reduceIte, Sd.cs, Nd.cs, Int.reduceEq, decide_true, decide_false, L1, and_self]
  refine cvl ((FnH_den (rkind_spec ty.dim ty.base ty.name m1 hty) (fun V => rfl)).mono ?_)
  rintro r H' m2 hm2 ⟨l2, rfl, rfl⟩
  have L2 : leM m m2 := leM_tr L1 l2
  have K2 : leM m1 m2 := leM_tr (.inl rfl : leM m1 m1) l2
  simp only [go_sem, ↓tfi, ↓fti, ↓reduceIte, Sd.cs, Nd.cs, Int.reduceEq, decide_true, decide_false, K2, and_self]
  refine cvl ((rsome_spec _ _ m2).mono ?_)
  rintro r H' m3 hm3 ⟨rfl, rfl, _⟩
  have l3 : leM m2 m3 := .inr hm3
  have L3 : leM m m3 := leM_tr L2 l3
  have K3 : leM m1 m3 := leM_tr K2 l3
  simp only [go_sem, ↓tfi, ↓fti, ↓reduceIte, Sd.cs, Nd.cs, Int.reduceEq, decide_true, decide_false, K3, and_self]
  refine cvl ((FnH_den (hX m3 L3) (fun V => rfl)).mono ?_)
  rintro r H' m4 hm4 ⟨l4, rfl, rfl⟩
  have L4 : leM m m4 := leM_tr L3 l4
  have K4 : leM m1 m4 := leM_tr K3 l4
  simp only [go_sem, ↓tfi, ↓fti, ↓reduceIte, Sd.cs, Nd.cs, Int.reduceEq, decide_true, decide_false, K4, and_self]
  intro p0 q0 v0 hv0 hq0 s0
  intro p1 q1 v1 hv1 hq1 s1
  intro p2 q2 v2 hv2 hq2 s2
  intro p3 q3 v3 hv3 hq3 s3
  refine ⟨by kernel_rfl, fun aj cj wj hwj hcj rj => FnV_of ((rjoinL_spec [typT ty.dim ty.base ty.name, [nm1 nm, sg [61]], TX, [sg [59]]] aj 4 cj _ wj rfl rj ⟨⟨p0, q0, rfl, hq0, Rds_upM (leM_tr (.inr hv1) (leM_tr (.inr hv2) (leM_tr (.inr hv3) (.inr hwj)))) s0⟩, ⟨⟨p1, q1, rfl, hq1, Rds_upM (leM_tr (.inr hv2) (leM_tr (.inr hv3) (.inr hwj))) s1⟩, ⟨⟨p2, q2, rfl, hq2, Rds_upM (leM_tr (.inr hv3) (.inr hwj)) s2⟩, ⟨⟨p3, q3, rfl, hq3, Rds_upM (.inr hwj) s3⟩, trivial⟩⟩⟩⟩ (by decide) hb0).mono ?_)⟩
  rintro r H' mj hmj ⟨lj, rfl, rfl⟩
  simp only [go_sem, ↓tfi, ↓fti, ↓reduceIte, Sd.cs, Nd.cs, Int.reduceEq, decide_true, decide_false]
  exact ⟨leM_tr L4 (leM_tr (leM_tr (.inr hv0) (leM_tr (.inr hv1) (leM_tr (.inr hv2) (leM_tr (.inr hv3) (.inr hwj))))) lj), _, _, rfl, rfl⟩
theorem rsk2 (nm : List UInt8) (ty : Ty) (tN eN : Nd) (a : Option Addr) (l cp : Nat) (b : Option Addr) (l2 cp2 : Nat) (m : Mem) (TG : List Tk) (hT : ∀ m', leM m m' → RetT 42 [.v (.agg ⟨tN.cs⟩)] m' TG) (TX : List Tk) (hX : ∀ m', leM m m' → RetT 42 [.v (.agg ⟨eN.cs⟩)] m' TX)
  (hb : (List.flatten [TG, [sg [61]], TX, [sg [59]]]).length ≤ cap) : RetT 167 [.v (.agg ⟨Sd.cs ⟨2, nm, ty, tN, eN, a, l, cp, b, l2, cp2⟩⟩)] m (List.flatten [TG, [sg [61]], TX, [sg [59]]]) := by
 have hb0 := hb
 simp only [List.flatten_cons, List.flatten_nil, Lla, Llc, Lln, cap] at hb
 refine retT_of ?_
 refine enter cfKs puKs Tryz.func167 rfl rfl (by kernel_rfl) rfl ?_ ?_
 ·simp only [go_sem, ↓tfi, ↓fti, ↓reduceIte, Sd.cs, Nd.cs]
 ·simp only [go_sem, ↓tfi, ↓fti, ↓reduceIte, Sd.cs, Nd.cs, Int.reduceEq, decide_true, decide_false]
  refine cvl ((rsome_spec _ _ m).mono ?_)
  rintro r H' m1 hm1 ⟨rfl, rfl, _⟩
  have l1 : leM m m1 := .inr hm1
  have L1 : leM m m1 := leM_tr (.inl rfl : leM m m) l1
  simp only [go_sem, ↓tfi, ↓fti, ↓reduceIte, Sd.cs, Nd.cs, Int.reduceEq, decide_true, decide_false, L1, and_self]
  refine WP_draw (.hoist 0 (.hoist 1 (.hoist 6 (.hoist 7 (.hoist 9 (.alt 2 [9, 7, 6] (.alt 3 [9, 7, 6] (.alt 4 [9, 7, 6] (.alt 5 [9, 7, 6] (.alt 8 [9] (.alt 10 [] (.alt 11 [] (.hoist 12 .done) .stop) .stop) .stop) .stop) .stop) .stop) .stop)))))) puKs (by kernel_rfl) (by kernel_rfl) ?_
  simp only [go_sem, ↓tfi, ↓fti, ↓reduceIte, Sd.cs, Nd.cs, Int.reduceEq, decide_true, decide_false, L1, and_self]
  refine cvl ((FnH_den (hT m1 L1) (fun V => rfl)).mono ?_)
  rintro r H' m2 hm2 ⟨l2, rfl, rfl⟩
  have L2 : leM m m2 := leM_tr L1 l2
  have K2 : leM m1 m2 := leM_tr (.inl rfl : leM m1 m1) l2
  simp only [go_sem, ↓tfi, ↓fti, ↓reduceIte, Sd.cs, Nd.cs, Int.reduceEq, decide_true, decide_false, K2, and_self]
  refine cvl ((rsome_spec _ _ m2).mono ?_)
  rintro r H' m3 hm3 ⟨rfl, rfl, _⟩
  have l3 : leM m2 m3 := .inr hm3
  have L3 : leM m m3 := leM_tr L2 l3
  have K3 : leM m1 m3 := leM_tr K2 l3
  simp only [go_sem, ↓tfi, ↓fti, ↓reduceIte, Sd.cs, Nd.cs, Int.reduceEq, decide_true, decide_false, K3, and_self]
  refine cvl ((FnH_den (hX m3 L3) (fun V => rfl)).mono ?_)
  rintro r H' m4 hm4 ⟨l4, rfl, rfl⟩
  have L4 : leM m m4 := leM_tr L3 l4
  have K4 : leM m1 m4 := leM_tr K3 l4
  simp only [go_sem, ↓tfi, ↓fti, ↓reduceIte, Sd.cs, Nd.cs, Int.reduceEq, decide_true, decide_false, K4, and_self]
  intro p0 q0 v0 hv0 hq0 s0
  intro p1 q1 v1 hv1 hq1 s1
  intro p2 q2 v2 hv2 hq2 s2
  intro p3 q3 v3 hv3 hq3 s3
  refine ⟨by kernel_rfl, fun aj cj wj hwj hcj rj => FnV_of ((rjoinL_spec [TG, [sg [61]], TX, [sg [59]]] aj 4 cj _ wj rfl rj ⟨⟨p0, q0, rfl, hq0, Rds_upM (leM_tr (.inr hv1) (leM_tr (.inr hv2) (leM_tr (.inr hv3) (.inr hwj)))) s0⟩, ⟨⟨p1, q1, rfl, hq1, Rds_upM (leM_tr (.inr hv2) (leM_tr (.inr hv3) (.inr hwj))) s1⟩, ⟨⟨p2, q2, rfl, hq2, Rds_upM (leM_tr (.inr hv3) (.inr hwj)) s2⟩, ⟨⟨p3, q3, rfl, hq3, Rds_upM (.inr hwj) s3⟩, trivial⟩⟩⟩⟩ (by decide) hb0).mono ?_)⟩
  rintro r H' mj hmj ⟨lj, rfl, rfl⟩
  simp only [go_sem, ↓tfi, ↓fti, ↓reduceIte, Sd.cs, Nd.cs, Int.reduceEq, decide_true, decide_false]
  exact ⟨leM_tr L4 (leM_tr (leM_tr (.inr hv0) (leM_tr (.inr hv1) (leM_tr (.inr hv2) (leM_tr (.inr hv3) (.inr hwj))))) lj), _, _, rfl, rfl⟩
theorem rsk3 (nm : List UInt8) (ty : Ty) (tN eN : Nd) (a : Option Addr) (l cp : Nat) (b : Option Addr) (l2 cp2 : Nat) (m : Mem) (TX : List Tk) (hX : ∀ m', leM m m' → RetT 42 [.v (.agg ⟨eN.cs⟩)] m' TX)
  (hb : (List.flatten [TX, [sg [59]]]).length ≤ cap) : RetT 167 [.v (.agg ⟨Sd.cs ⟨3, nm, ty, tN, eN, a, l, cp, b, l2, cp2⟩⟩)] m (List.flatten [TX, [sg [59]]]) := by
 have hb0 := hb
 simp only [List.flatten_cons, List.flatten_nil, Lla, Llc, Lln, cap] at hb
 refine retT_of ?_
 refine enter cfKs puKs Tryz.func167 rfl rfl (by kernel_rfl) rfl ?_ ?_
 ·simp only [go_sem, ↓tfi, ↓fti, ↓reduceIte, Sd.cs, Nd.cs]
 ·simp only [go_sem, ↓tfi, ↓fti, ↓reduceIte, Sd.cs, Nd.cs, Int.reduceEq, decide_true, decide_false]
  refine cvl ((rsome_spec _ _ m).mono ?_)
  rintro r H' m1 hm1 ⟨rfl, rfl, _⟩
  have l1 : leM m m1 := .inr hm1
  have L1 : leM m m1 := leM_tr (.inl rfl : leM m m) l1
  simp only [go_sem, ↓tfi, ↓fti, ↓reduceIte, Sd.cs, Nd.cs, Int.reduceEq, decide_true, decide_false, L1, and_self]
  refine cvl ((FnH_den (hX m1 L1) (fun V => rfl)).mono ?_)
  rintro r H' m2 hm2 ⟨l2, rfl, rfl⟩
  have L2 : leM m m2 := leM_tr L1 l2
  simp only [go_sem, ↓tfi, ↓fti, ↓reduceIte, Sd.cs, Nd.cs, Int.reduceEq, decide_true, decide_false, L2, and_self]
  intro p0 q0 v0 hv0 hq0 s0
  intro p1 q1 v1 hv1 hq1 s1
  refine ⟨by kernel_rfl, fun aj cj wj hwj hcj rj => FnV_of ((rjoinL_spec [TX, [sg [59]]] aj 2 cj _ wj rfl rj ⟨⟨p0, q0, rfl, hq0, Rds_upM (leM_tr (.inr hv1) (.inr hwj)) s0⟩, ⟨⟨p1, q1, rfl, hq1, Rds_upM (.inr hwj) s1⟩, trivial⟩⟩ (by decide) hb0).mono ?_)⟩
  rintro r H' mj hmj ⟨lj, rfl, rfl⟩
  simp only [go_sem, ↓tfi, ↓fti, ↓reduceIte, Sd.cs, Nd.cs, Int.reduceEq, decide_true, decide_false]
  exact ⟨leM_tr L2 (leM_tr (leM_tr (.inr hv0) (leM_tr (.inr hv1) (.inr hwj))) lj), _, _, rfl, rfl⟩
theorem rsk4a (nm : List UInt8) (ty : Ty) (tN eN : Nd) (a : Option Addr) (l cp : Nat) (b : Option Addr) (l2 cp2 : Nat) (m : Mem) (hc : ((0 : Int) < (l2 : Int)) = True) (TX : List Tk) (hX : ∀ m', leM m m' → RetT 42 [.v (.agg ⟨eN.cs⟩)] m' TX) (TB : List Tk) (hB : ∀ m', leM m m' → RetT 101 [.v (.slice a l cp)] m' TB) (TA : List Tk) (hA : ∀ m', leM m m' → RetT 101 [.v (.slice b l2 cp2)] m' TA)
  (hb : (List.flatten [List.flatten [[kw [105, 102]], (sg [40] :: (TX ++ [sg [41]])), TB], [kw [101, 108, 115, 101]], TA]).length ≤ cap) : RetT 167 [.v (.agg ⟨Sd.cs ⟨4, nm, ty, tN, eN, a, l, cp, b, l2, cp2⟩⟩)] m (List.flatten [List.flatten [[kw [105, 102]], (sg [40] :: (TX ++ [sg [41]])), TB], [kw [101, 108, 115, 101]], TA]) := by
 have hb0 := hb
 simp only [List.flatten_cons, List.flatten_nil, Lla, Llc, Lln, cap] at hb
 refine retT_of ?_
 refine enter cfKs puKs Tryz.func167 rfl rfl (by kernel_rfl) rfl ?_ ?_
 ·simp only [go_sem, ↓tfi, ↓fti, ↓reduceIte, Sd.cs, Nd.cs]
 ·simp only [go_sem, ↓tfi, ↓fti, ↓reduceIte, Sd.cs, Nd.cs, Int.reduceEq, decide_true, decide_false]
  refine cvl ((rsome_spec _ _ m).mono ?_)
  rintro r H' m1 hm1 ⟨rfl, rfl, _⟩
  have l1 : leM m m1 := .inr hm1
  have L1 : leM m m1 := leM_tr (.inl rfl : leM m m) l1
  simp only [go_sem, ↓tfi, ↓fti, ↓reduceIte, Sd.cs, Nd.cs, Int.reduceEq, decide_true, decide_false, L1, and_self, hc]
  refine WP_draw (.hoist 3 (.hoist 4 (.hoist 7 (.hoist 8 (.alt 0 [8, 7, 4, 3] (.alt 1 [8, 7, 4, 3] (.alt 2 [8, 7, 4, 3] (.alt 5 [8, 7] (.alt 6 [8, 7] (.alt 9 [] (.alt 10 [] (.alt 11 [] (.hoist 12 .done) .stop) .stop) .stop) .stop) .stop) .stop) .stop) .stop))))) puKs (by kernel_rfl) (by kernel_rfl) ?_
  simp only [go_sem, ↓tfi, ↓fti, ↓reduceIte, Sd.cs, Nd.cs, Int.reduceEq, decide_true, decide_false, L1, and_self, hc]
  refine cvl ((rsome_spec _ _ m1).mono ?_)
  rintro r H' m2 hm2 ⟨rfl, rfl, _⟩
  have l2 : leM m1 m2 := .inr hm2
  have L2 : leM m m2 := leM_tr L1 l2
  have K2 : leM m1 m2 := leM_tr (.inl rfl : leM m1 m1) l2
  simp only [go_sem, ↓tfi, ↓fti, ↓reduceIte, Sd.cs, Nd.cs, Int.reduceEq, decide_true, decide_false, K2, and_self, hc]
  refine cvl ((FnH_den (hX m2 L2) (fun V => rfl)).mono ?_)
  rintro r H' m3 hm3 ⟨l3, rfl, rfl⟩
  have L3 : leM m m3 := leM_tr L2 l3
  have K3 : leM m1 m3 := leM_tr K2 l3
  simp only [go_sem, ↓tfi, ↓fti, ↓reduceIte, Sd.cs, Nd.cs, Int.reduceEq, decide_true, decide_false, K3, and_self, hc]
  refine ⟨by kernel_rfl, fun a4 c4 w4 hw4 hc4 r4 => FnV_of ((rround_spec _ a4 c4 w4 r4 (by simp only [List.flatten_cons, List.flatten_nil, Lla, Llc, Lln, cap]; omega)).mono ?_)⟩
  rintro r H' m4 hm4 ⟨l4, rfl, rfl⟩
  have L4 : leM m m4 := leM_tr L3 (leM_tr (.inr hw4) l4)
  have K4 : leM m1 m4 := leM_tr K3 (leM_tr (.inr hw4) l4)
  simp only [go_sem, ↓tfi, ↓fti, ↓reduceIte, Sd.cs, Nd.cs, Int.reduceEq, decide_true, decide_false, K4, and_self, hc]
  refine cvl ((hB m4 L4).mono ?_)
  rintro r H' m5 hm5 ⟨l5, rfl, rfl⟩
  have L5 : leM m m5 := leM_tr L4 l5
  have K5 : leM m1 m5 := leM_tr K4 l5
  simp only [go_sem, ↓tfi, ↓fti, ↓reduceIte, Sd.cs, Nd.cs, Int.reduceEq, decide_true, decide_false, K5, and_self, hc]
  intro px0 qx0 vx0 hvx0 hqx0 sx0
  intro px1 qx1 vx1 hvx1 hqx1 sx1
  intro px2 qx2 vx2 hvx2 hqx2 sx2
  refine ⟨by kernel_rfl, fun ajx cjx wjx hwjx hcjx rjx => FnV_of ((rjoinL_spec [[kw [105, 102]], (sg [40] :: (TX ++ [sg [41]])), TB] ajx 3 cjx _ wjx rfl rjx ⟨⟨px0, qx0, rfl, hqx0, Rds_upM (leM_tr (.inr hvx1) (leM_tr (.inr hvx2) (.inr hwjx))) sx0⟩, ⟨⟨px1, qx1, rfl, hqx1, Rds_upM (leM_tr (.inr hvx2) (.inr hwjx)) sx1⟩, ⟨⟨px2, qx2, rfl, hqx2, Rds_upM (.inr hwjx) sx2⟩, trivial⟩⟩⟩ (by decide) (by simp only [List.flatten_cons, List.flatten_nil, Lla, Llc, Lln, cap]; omega)).mono ?_)⟩
  rintro r H' m6 hm6 ⟨l6, rfl, rfl⟩
  have L6 : leM m m6 := leM_tr L5 (leM_tr (leM_tr (.inr hvx0) (leM_tr (.inr hvx1) (leM_tr (.inr hvx2) (.inr hwjx)))) l6)
  have K6 : leM m1 m6 := leM_tr K5 (leM_tr (leM_tr (.inr hvx0) (leM_tr (.inr hvx1) (leM_tr (.inr hvx2) (.inr hwjx)))) l6)
  simp only [go_sem, ↓tfi, ↓fti, ↓reduceIte, Sd.cs, Nd.cs, Int.reduceEq, decide_true, decide_false, K6, and_self, hc]
  refine WP_draw (.hoist 0 (.hoist 4 (.hoist 5 (.alt 1 [5, 4, 0] (.alt 2 [5, 4, 0] (.alt 3 [5, 4, 0] (.alt 6 [0] (.alt 7 [] (.alt 8 [] (.hoist 9 .done) .stop) .stop) .stop) .stop) .stop) .stop)))) puKs (by kernel_rfl) (by kernel_rfl) ?_
  simp only [go_sem, ↓tfi, ↓fti, ↓reduceIte, Sd.cs, Nd.cs, Int.reduceEq, decide_true, decide_false, K6, and_self, hc]
  refine cvl ((rsome_spec _ _ m6).mono ?_)
  rintro r H' m7 hm7 ⟨rfl, rfl, _⟩
  have l7 : leM m6 m7 := .inr hm7
  have L7 : leM m m7 := leM_tr L6 l7
  have K7 : leM m6 m7 := leM_tr (.inl rfl : leM m6 m6) l7
  simp only [go_sem, ↓tfi, ↓fti, ↓reduceIte, Sd.cs, Nd.cs, Int.reduceEq, decide_true, decide_false, K7, and_self, hc]
  refine cvl ((hA m7 L7).mono ?_)
  rintro r H' m8 hm8 ⟨l8, rfl, rfl⟩
  have L8 : leM m m8 := leM_tr L7 l8
  have K8 : leM m6 m8 := leM_tr K7 l8
  simp only [go_sem, ↓tfi, ↓fti, ↓reduceIte, Sd.cs, Nd.cs, Int.reduceEq, decide_true, decide_false, K8, and_self, hc]
  intro p0 q0 v0 hv0 hq0 s0
  intro p1 q1 v1 hv1 hq1 s1
  intro p2 q2 v2 hv2 hq2 s2
  refine ⟨by kernel_rfl, fun aj cj wj hwj hcj rj => FnV_of ((rjoinL_spec [List.flatten [[kw [105, 102]], (sg [40] :: (TX ++ [sg [41]])), TB], [kw [101, 108, 115, 101]], TA] aj 3 cj _ wj rfl rj ⟨⟨p0, q0, rfl, hq0, Rds_upM (leM_tr (.inr hv1) (leM_tr (.inr hv2) (.inr hwj))) s0⟩, ⟨⟨p1, q1, rfl, hq1, Rds_upM (leM_tr (.inr hv2) (.inr hwj)) s1⟩, ⟨⟨p2, q2, rfl, hq2, Rds_upM (.inr hwj) s2⟩, trivial⟩⟩⟩ (by decide) hb0).mono ?_)⟩
  rintro r H' mj hmj ⟨lj, rfl, rfl⟩
  simp only [go_sem, ↓tfi, ↓fti, ↓reduceIte, Sd.cs, Nd.cs, Int.reduceEq, decide_true, decide_false, hc]
  exact ⟨leM_tr L8 (leM_tr (leM_tr (.inr hv0) (leM_tr (.inr hv1) (leM_tr (.inr hv2) (.inr hwj)))) lj), _, _, rfl, rfl⟩
theorem rsk4b (nm : List UInt8) (ty : Ty) (tN eN : Nd) (a : Option Addr) (l cp : Nat) (b : Option Addr) (l2 cp2 : Nat) (m : Mem) (hc : ((0 : Int) < (l2 : Int)) = False) (TX : List Tk) (hX : ∀ m', leM m m' → RetT 42 [.v (.agg ⟨eN.cs⟩)] m' TX) (TB : List Tk) (hB : ∀ m', leM m m' → RetT 101 [.v (.slice a l cp)] m' TB)
  (hb : (List.flatten [[kw [105, 102]], (sg [40] :: (TX ++ [sg [41]])), TB]).length ≤ cap) : RetT 167 [.v (.agg ⟨Sd.cs ⟨4, nm, ty, tN, eN, a, l, cp, b, l2, cp2⟩⟩)] m (List.flatten [[kw [105, 102]], (sg [40] :: (TX ++ [sg [41]])), TB]) := by
 have hb0 := hb
 simp only [List.flatten_cons, List.flatten_nil, Lla, Llc, Lln, cap] at hb
 refine retT_of ?_
 refine enter cfKs puKs Tryz.func167 rfl rfl (by kernel_rfl) rfl ?_ ?_
 ·simp only [go_sem, ↓tfi, ↓fti, ↓reduceIte, Sd.cs, Nd.cs]
 ·simp only [go_sem, ↓tfi, ↓fti, ↓reduceIte, Sd.cs, Nd.cs, Int.reduceEq, decide_true, decide_false]
  refine cvl ((rsome_spec _ _ m).mono ?_)
  rintro r H' m1 hm1 ⟨rfl, rfl, _⟩
  have l1 : leM m m1 := .inr hm1
  have L1 : leM m m1 := leM_tr (.inl rfl : leM m m) l1
  simp only [go_sem, ↓tfi, ↓fti, ↓reduceIte, Sd.cs, Nd.cs, Int.reduceEq, decide_true, decide_false, L1, and_self, hc]
  refine WP_draw (.hoist 3 (.hoist 4 (.hoist 7 (.hoist 8 (.alt 0 [8, 7, 4, 3] (.alt 1 [8, 7, 4, 3] (.alt 2 [8, 7, 4, 3] (.alt 5 [8, 7] (.alt 6 [8, 7] (.alt 9 [] (.alt 10 [] (.alt 11 [] (.hoist 12 .done) .stop) .stop) .stop) .stop) .stop) .stop) .stop) .stop))))) puKs (by kernel_rfl) (by kernel_rfl) ?_
  simp only [go_sem, ↓tfi, ↓fti, ↓reduceIte, Sd.cs, Nd.cs, Int.reduceEq, decide_true, decide_false, L1, and_self, hc]
  refine cvl ((rsome_spec _ _ m1).mono ?_)
  rintro r H' m2 hm2 ⟨rfl, rfl, _⟩
  have l2 : leM m1 m2 := .inr hm2
  have L2 : leM m m2 := leM_tr L1 l2
  have K2 : leM m1 m2 := leM_tr (.inl rfl : leM m1 m1) l2
  simp only [go_sem, ↓tfi, ↓fti, ↓reduceIte, Sd.cs, Nd.cs, Int.reduceEq, decide_true, decide_false, K2, and_self, hc]
  refine cvl ((FnH_den (hX m2 L2) (fun V => rfl)).mono ?_)
  rintro r H' m3 hm3 ⟨l3, rfl, rfl⟩
  have L3 : leM m m3 := leM_tr L2 l3
  have K3 : leM m1 m3 := leM_tr K2 l3
  simp only [go_sem, ↓tfi, ↓fti, ↓reduceIte, Sd.cs, Nd.cs, Int.reduceEq, decide_true, decide_false, K3, and_self, hc]
  refine ⟨by kernel_rfl, fun a4 c4 w4 hw4 hc4 r4 => FnV_of ((rround_spec _ a4 c4 w4 r4 (by simp only [List.flatten_cons, List.flatten_nil, Lla, Llc, Lln, cap]; omega)).mono ?_)⟩
  rintro r H' m4 hm4 ⟨l4, rfl, rfl⟩
  have L4 : leM m m4 := leM_tr L3 (leM_tr (.inr hw4) l4)
  have K4 : leM m1 m4 := leM_tr K3 (leM_tr (.inr hw4) l4)
  simp only [go_sem, ↓tfi, ↓fti, ↓reduceIte, Sd.cs, Nd.cs, Int.reduceEq, decide_true, decide_false, K4, and_self, hc]
  refine cvl ((hB m4 L4).mono ?_)
  rintro r H' m5 hm5 ⟨l5, rfl, rfl⟩
  have L5 : leM m m5 := leM_tr L4 l5
  have K5 : leM m1 m5 := leM_tr K4 l5
  simp only [go_sem, ↓tfi, ↓fti, ↓reduceIte, Sd.cs, Nd.cs, Int.reduceEq, decide_true, decide_false, K5, and_self, hc]
  intro p0 q0 v0 hv0 hq0 s0
  intro p1 q1 v1 hv1 hq1 s1
  intro p2 q2 v2 hv2 hq2 s2
  refine ⟨by kernel_rfl, fun aj cj wj hwj hcj rj => FnV_of ((rjoinL_spec [[kw [105, 102]], (sg [40] :: (TX ++ [sg [41]])), TB] aj 3 cj _ wj rfl rj ⟨⟨p0, q0, rfl, hq0, Rds_upM (leM_tr (.inr hv1) (leM_tr (.inr hv2) (.inr hwj))) s0⟩, ⟨⟨p1, q1, rfl, hq1, Rds_upM (leM_tr (.inr hv2) (.inr hwj)) s1⟩, ⟨⟨p2, q2, rfl, hq2, Rds_upM (.inr hwj) s2⟩, trivial⟩⟩⟩ (by decide) hb0).mono ?_)⟩
  rintro r H' mj hmj ⟨lj, rfl, rfl⟩
  simp only [go_sem, ↓tfi, ↓fti, ↓reduceIte, Sd.cs, Nd.cs, Int.reduceEq, decide_true, decide_false, hc]
  exact ⟨leM_tr L5 (leM_tr (leM_tr (.inr hv0) (leM_tr (.inr hv1) (leM_tr (.inr hv2) (.inr hwj)))) lj), _, _, rfl, rfl⟩
theorem rsk5 (nm : List UInt8) (ty : Ty) (tN eN : Nd) (a : Option Addr) (l cp : Nat) (b : Option Addr) (l2 cp2 : Nat) (m : Mem) (TX : List Tk) (hX : ∀ m', leM m m' → RetT 42 [.v (.agg ⟨eN.cs⟩)] m' TX) (TB : List Tk) (hB : ∀ m', leM m m' → RetT 101 [.v (.slice a l cp)] m' TB)
  (hb : (List.flatten [[kw [119, 104, 105, 108, 101]], (sg [40] :: (TX ++ [sg [41]])), TB]).length ≤ cap) : RetT 167 [.v (.agg ⟨Sd.cs ⟨5, nm, ty, tN, eN, a, l, cp, b, l2, cp2⟩⟩)] m (List.flatten [[kw [119, 104, 105, 108, 101]], (sg [40] :: (TX ++ [sg [41]])), TB]) := by
 have hb0 := hb
 simp only [List.flatten_cons, List.flatten_nil, Lla, Llc, Lln, cap] at hb
 refine retT_of ?_
 refine enter cfKs puKs Tryz.func167 rfl rfl (by kernel_rfl) rfl ?_ ?_
 ·simp only [go_sem, ↓tfi, ↓fti, ↓reduceIte, Sd.cs, Nd.cs]
 ·simp only [go_sem, ↓tfi, ↓fti, ↓reduceIte, Sd.cs, Nd.cs, Int.reduceEq, decide_true, decide_false]
  refine cvl ((rsome_spec _ _ m).mono ?_)
  rintro r H' m1 hm1 ⟨rfl, rfl, _⟩
  have l1 : leM m m1 := .inr hm1
  have L1 : leM m m1 := leM_tr (.inl rfl : leM m m) l1
  simp only [go_sem, ↓tfi, ↓fti, ↓reduceIte, Sd.cs, Nd.cs, Int.reduceEq, decide_true, decide_false, L1, and_self]
  refine WP_draw (.hoist 3 (.hoist 4 (.hoist 7 (.hoist 8 (.alt 0 [8, 7, 4, 3] (.alt 1 [8, 7, 4, 3] (.alt 2 [8, 7, 4, 3] (.alt 5 [8, 7] (.alt 6 [8, 7] (.alt 9 [] (.alt 10 [] (.alt 11 [] (.hoist 12 .done) .stop) .stop) .stop) .stop) .stop) .stop) .stop) .stop))))) puKs (by kernel_rfl) (by kernel_rfl) ?_
  simp only [go_sem, ↓tfi, ↓fti, ↓reduceIte, Sd.cs, Nd.cs, Int.reduceEq, decide_true, decide_false, L1, and_self]
  refine cvl ((rsome_spec _ _ m1).mono ?_)
  rintro r H' m2 hm2 ⟨rfl, rfl, _⟩
  have l2 : leM m1 m2 := .inr hm2
  have L2 : leM m m2 := leM_tr L1 l2
  have K2 : leM m1 m2 := leM_tr (.inl rfl : leM m1 m1) l2
  simp only [go_sem, ↓tfi, ↓fti, ↓reduceIte, Sd.cs, Nd.cs, Int.reduceEq, decide_true, decide_false, K2, and_self]
  refine cvl ((FnH_den (hX m2 L2) (fun V => rfl)).mono ?_)
  rintro r H' m3 hm3 ⟨l3, rfl, rfl⟩
  have L3 : leM m m3 := leM_tr L2 l3
  have K3 : leM m1 m3 := leM_tr K2 l3
  simp only [go_sem, ↓tfi, ↓fti, ↓reduceIte, Sd.cs, Nd.cs, Int.reduceEq, decide_true, decide_false, K3, and_self]
  refine ⟨by kernel_rfl, fun a4 c4 w4 hw4 hc4 r4 => FnV_of ((rround_spec _ a4 c4 w4 r4 (by simp only [List.flatten_cons, List.flatten_nil, Lla, Llc, Lln, cap]; omega)).mono ?_)⟩
  rintro r H' m4 hm4 ⟨l4, rfl, rfl⟩
  have L4 : leM m m4 := leM_tr L3 (leM_tr (.inr hw4) l4)
  have K4 : leM m1 m4 := leM_tr K3 (leM_tr (.inr hw4) l4)
  simp only [go_sem, ↓tfi, ↓fti, ↓reduceIte, Sd.cs, Nd.cs, Int.reduceEq, decide_true, decide_false, K4, and_self]
  refine cvl ((hB m4 L4).mono ?_)
  rintro r H' m5 hm5 ⟨l5, rfl, rfl⟩
  have L5 : leM m m5 := leM_tr L4 l5
  have K5 : leM m1 m5 := leM_tr K4 l5
  simp only [go_sem, ↓tfi, ↓fti, ↓reduceIte, Sd.cs, Nd.cs, Int.reduceEq, decide_true, decide_false, K5, and_self]
  intro p0 q0 v0 hv0 hq0 s0
  intro p1 q1 v1 hv1 hq1 s1
  intro p2 q2 v2 hv2 hq2 s2
  refine ⟨by kernel_rfl, fun aj cj wj hwj hcj rj => FnV_of ((rjoinL_spec [[kw [119, 104, 105, 108, 101]], (sg [40] :: (TX ++ [sg [41]])), TB] aj 3 cj _ wj rfl rj ⟨⟨p0, q0, rfl, hq0, Rds_upM (leM_tr (.inr hv1) (leM_tr (.inr hv2) (.inr hwj))) s0⟩, ⟨⟨p1, q1, rfl, hq1, Rds_upM (leM_tr (.inr hv2) (.inr hwj)) s1⟩, ⟨⟨p2, q2, rfl, hq2, Rds_upM (.inr hwj) s2⟩, trivial⟩⟩⟩ (by decide) hb0).mono ?_)⟩
  rintro r H' mj hmj ⟨lj, rfl, rfl⟩
  simp only [go_sem, ↓tfi, ↓fti, ↓reduceIte, Sd.cs, Nd.cs, Int.reduceEq, decide_true, decide_false]
  exact ⟨leM_tr L5 (leM_tr (leM_tr (.inr hv0) (leM_tr (.inr hv1) (leM_tr (.inr hv2) (.inr hwj)))) lj), _, _, rfl, rfl⟩
theorem rsk6a (nm : List UInt8) (ty : Ty) (tN eN : Nd) (a : Option Addr) (l cp : Nat) (b : Option Addr) (l2 cp2 : Nat) (m : Mem) (hc : emptyL eN.k eN.n eN.s eN.c eN.ty eN.l = false) (TX : List Tk) (hX : ∀ m', leM m m' → RetT 42 [.v (.agg ⟨eN.cs⟩)] m' TX)
  (hb : (List.flatten [[kw [114, 101, 116, 117, 114, 110]], TX, [sg [59]]]).length ≤ cap) : RetT 167 [.v (.agg ⟨Sd.cs ⟨6, nm, ty, tN, eN, a, l, cp, b, l2, cp2⟩⟩)] m (List.flatten [[kw [114, 101, 116, 117, 114, 110]], TX, [sg [59]]]) := by
 have hb0 := hb
 simp only [List.flatten_cons, List.flatten_nil, Lla, Llc, Lln, cap] at hb
 refine retT_of ?_
 refine enter cfKs puKs Tryz.func167 rfl rfl (by kernel_rfl) rfl ?_ ?_
 ·simp only [go_sem, ↓tfi, ↓fti, ↓reduceIte, Sd.cs, Nd.cs]
 ·simp only [go_sem, ↓tfi, ↓fti, ↓reduceIte, Sd.cs, Nd.cs, Int.reduceEq, decide_true, decide_false]
  refine cvl ((rsome_spec _ _ m).mono ?_)
  rintro r H' m1 hm1 ⟨rfl, rfl, _⟩
  have l1 : leM m m1 := .inr hm1
  have L1 : leM m m1 := leM_tr (.inl rfl : leM m m) l1
  simp only [go_sem, ↓tfi, ↓fti, ↓reduceIte, Sd.cs, Nd.cs, Int.reduceEq, decide_true, decide_false, L1, and_self, hc]
  refine WP_draw (.hoist 3 (.hoist 4 (.hoist 6 (.alt 0 [6, 4, 3] (.alt 1 [6, 4, 3] (.alt 2 [6, 4, 3] (.alt 5 [6] (.alt 7 [] (.alt 8 [] (.hoist 9 .done) .stop) .stop) .stop) .stop) .stop) .stop)))) puKs (by kernel_rfl) (by kernel_rfl) ?_
  simp only [go_sem, ↓tfi, ↓fti, ↓reduceIte, Sd.cs, Nd.cs, Int.reduceEq, decide_true, decide_false, L1, and_self, hc]
  refine cvl ((rsome_spec _ _ m1).mono ?_)
  rintro r H' m2 hm2 ⟨rfl, rfl, _⟩
  have l2 : leM m1 m2 := .inr hm2
  have L2 : leM m m2 := leM_tr L1 l2
  have K2 : leM m1 m2 := leM_tr (.inl rfl : leM m1 m1) l2
  simp only [go_sem, ↓tfi, ↓fti, ↓reduceIte, Sd.cs, Nd.cs, Int.reduceEq, decide_true, decide_false, K2, and_self, hc]
  refine cvl ((FnH_den (hX m2 L2) (fun V => rfl)).mono ?_)
  rintro r H' m3 hm3 ⟨l3, rfl, rfl⟩
  have L3 : leM m m3 := leM_tr L2 l3
  have K3 : leM m1 m3 := leM_tr K2 l3
  simp only [go_sem, ↓tfi, ↓fti, ↓reduceIte, Sd.cs, Nd.cs, Int.reduceEq, decide_true, decide_false, K3, and_self, hc]
  intro p0 q0 v0 hv0 hq0 s0
  intro p1 q1 v1 hv1 hq1 s1
  intro p2 q2 v2 hv2 hq2 s2
  refine ⟨by kernel_rfl, fun aj cj wj hwj hcj rj => FnV_of ((rjoinL_spec [[kw [114, 101, 116, 117, 114, 110]], TX, [sg [59]]] aj 3 cj _ wj rfl rj ⟨⟨p0, q0, rfl, hq0, Rds_upM (leM_tr (.inr hv1) (leM_tr (.inr hv2) (.inr hwj))) s0⟩, ⟨⟨p1, q1, rfl, hq1, Rds_upM (leM_tr (.inr hv2) (.inr hwj)) s1⟩, ⟨⟨p2, q2, rfl, hq2, Rds_upM (.inr hwj) s2⟩, trivial⟩⟩⟩ (by decide) hb0).mono ?_)⟩
  rintro r H' mj hmj ⟨lj, rfl, rfl⟩
  simp only [go_sem, ↓tfi, ↓fti, ↓reduceIte, Sd.cs, Nd.cs, Int.reduceEq, decide_true, decide_false, hc]
  exact ⟨leM_tr L3 (leM_tr (leM_tr (.inr hv0) (leM_tr (.inr hv1) (leM_tr (.inr hv2) (.inr hwj)))) lj), _, _, rfl, rfl⟩
theorem rsk6b (nm : List UInt8) (ty : Ty) (tN eN : Nd) (a : Option Addr) (l cp : Nat) (b : Option Addr) (l2 cp2 : Nat) (m : Mem) (hc : emptyL eN.k eN.n eN.s eN.c eN.ty eN.l = true) 
  (hb : (List.flatten [[kw [114, 101, 116, 117, 114, 110]], [sg [59]]]).length ≤ cap) : RetT 167 [.v (.agg ⟨Sd.cs ⟨6, nm, ty, tN, eN, a, l, cp, b, l2, cp2⟩⟩)] m (List.flatten [[kw [114, 101, 116, 117, 114, 110]], [sg [59]]]) := by
 have hb0 := hb
 simp only [List.flatten_cons, List.flatten_nil, Lla, Llc, Lln, cap] at hb
 refine retT_of ?_
 refine enter cfKs puKs Tryz.func167 rfl rfl (by kernel_rfl) rfl ?_ ?_
 ·simp only [go_sem, ↓tfi, ↓fti, ↓reduceIte, Sd.cs, Nd.cs]
 ·simp only [go_sem, ↓tfi, ↓fti, ↓reduceIte, Sd.cs, Nd.cs, Int.reduceEq, decide_true, decide_false]
  refine cvl ((rsome_spec _ _ m).mono ?_)
  rintro r H' m1 hm1 ⟨rfl, rfl, _⟩
  have l1 : leM m m1 := .inr hm1
  have L1 : leM m m1 := leM_tr (.inl rfl : leM m m) l1
  simp only [go_sem, ↓tfi, ↓fti, ↓reduceIte, Sd.cs, Nd.cs, Int.reduceEq, decide_true, decide_false, L1, and_self, hc]
  refine cvl ((rsome_spec _ _ m1).mono ?_)
  rintro r H' m2 hm2 ⟨rfl, rfl, _⟩
  have l2 : leM m1 m2 := .inr hm2
  have L2 : leM m m2 := leM_tr L1 l2
  simp only [go_sem, ↓tfi, ↓fti, ↓reduceIte, Sd.cs, Nd.cs, Int.reduceEq, decide_true, decide_false, L2, and_self, hc]
  intro p0 q0 v0 hv0 hq0 s0
  intro p1 q1 v1 hv1 hq1 s1
  refine ⟨by kernel_rfl, fun aj cj wj hwj hcj rj => FnV_of ((rjoinL_spec [[kw [114, 101, 116, 117, 114, 110]], [sg [59]]] aj 2 cj _ wj rfl rj ⟨⟨p0, q0, rfl, hq0, Rds_upM (leM_tr (.inr hv1) (.inr hwj)) s0⟩, ⟨⟨p1, q1, rfl, hq1, Rds_upM (.inr hwj) s1⟩, trivial⟩⟩ (by decide) hb0).mono ?_)⟩
  rintro r H' mj hmj ⟨lj, rfl, rfl⟩
  simp only [go_sem, ↓tfi, ↓fti, ↓reduceIte, Sd.cs, Nd.cs, Int.reduceEq, decide_true, decide_false, hc]
  exact ⟨leM_tr L2 (leM_tr (leM_tr (.inr hv0) (leM_tr (.inr hv1) (.inr hwj))) lj), _, _, rfl, rfl⟩
theorem rsk7 (nm : List UInt8) (ty : Ty) (tN eN : Nd) (a : Option Addr) (l cp : Nat) (b : Option Addr) (l2 cp2 : Nat) (m : Mem) (TX : List Tk) (hX : ∀ m', leM m m' → RetT 42 [.v (.agg ⟨eN.cs⟩)] m' TX)
  (hb : (List.flatten [[kw [116, 104, 114, 111, 119]], TX, [sg [59]]]).length ≤ cap) : RetT 167 [.v (.agg ⟨Sd.cs ⟨7, nm, ty, tN, eN, a, l, cp, b, l2, cp2⟩⟩)] m (List.flatten [[kw [116, 104, 114, 111, 119]], TX, [sg [59]]]) := by
 have hb0 := hb
 simp only [List.flatten_cons, List.flatten_nil, Lla, Llc, Lln, cap] at hb
 refine retT_of ?_
 refine enter cfKs puKs Tryz.func167 rfl rfl (by kernel_rfl) rfl ?_ ?_
 ·simp only [go_sem, ↓tfi, ↓fti, ↓reduceIte, Sd.cs, Nd.cs]
 ·simp only [go_sem, ↓tfi, ↓fti, ↓reduceIte, Sd.cs, Nd.cs, Int.reduceEq, decide_true, decide_false]
  refine cvl ((rsome_spec _ _ m).mono ?_)
  rintro r H' m1 hm1 ⟨rfl, rfl, _⟩
  have l1 : leM m m1 := .inr hm1
  have L1 : leM m m1 := leM_tr (.inl rfl : leM m m) l1
  simp only [go_sem, ↓tfi, ↓fti, ↓reduceIte, Sd.cs, Nd.cs, Int.reduceEq, decide_true, decide_false, L1, and_self]
  refine WP_draw (.hoist 3 (.hoist 4 (.hoist 6 (.alt 0 [6, 4, 3] (.alt 1 [6, 4, 3] (.alt 2 [6, 4, 3] (.alt 5 [6] (.alt 7 [] (.alt 8 [] (.hoist 9 .done) .stop) .stop) .stop) .stop) .stop) .stop)))) puKs (by kernel_rfl) (by kernel_rfl) ?_
  simp only [go_sem, ↓tfi, ↓fti, ↓reduceIte, Sd.cs, Nd.cs, Int.reduceEq, decide_true, decide_false, L1, and_self]
  refine cvl ((rsome_spec _ _ m1).mono ?_)
  rintro r H' m2 hm2 ⟨rfl, rfl, _⟩
  have l2 : leM m1 m2 := .inr hm2
  have L2 : leM m m2 := leM_tr L1 l2
  have K2 : leM m1 m2 := leM_tr (.inl rfl : leM m1 m1) l2
  simp only [go_sem, ↓tfi, ↓fti, ↓reduceIte, Sd.cs, Nd.cs, Int.reduceEq, decide_true, decide_false, K2, and_self]
  refine cvl ((FnH_den (hX m2 L2) (fun V => rfl)).mono ?_)
  rintro r H' m3 hm3 ⟨l3, rfl, rfl⟩
  have L3 : leM m m3 := leM_tr L2 l3
  have K3 : leM m1 m3 := leM_tr K2 l3
  simp only [go_sem, ↓tfi, ↓fti, ↓reduceIte, Sd.cs, Nd.cs, Int.reduceEq, decide_true, decide_false, K3, and_self]
  intro p0 q0 v0 hv0 hq0 s0
  intro p1 q1 v1 hv1 hq1 s1
  intro p2 q2 v2 hv2 hq2 s2
  refine ⟨by kernel_rfl, fun aj cj wj hwj hcj rj => FnV_of ((rjoinL_spec [[kw [116, 104, 114, 111, 119]], TX, [sg [59]]] aj 3 cj _ wj rfl rj ⟨⟨p0, q0, rfl, hq0, Rds_upM (leM_tr (.inr hv1) (leM_tr (.inr hv2) (.inr hwj))) s0⟩, ⟨⟨p1, q1, rfl, hq1, Rds_upM (leM_tr (.inr hv2) (.inr hwj)) s1⟩, ⟨⟨p2, q2, rfl, hq2, Rds_upM (.inr hwj) s2⟩, trivial⟩⟩⟩ (by decide) hb0).mono ?_)⟩
  rintro r H' mj hmj ⟨lj, rfl, rfl⟩
  simp only [go_sem, ↓tfi, ↓fti, ↓reduceIte, Sd.cs, Nd.cs, Int.reduceEq, decide_true, decide_false]
  exact ⟨leM_tr L3 (leM_tr (leM_tr (.inr hv0) (leM_tr (.inr hv1) (leM_tr (.inr hv2) (.inr hwj)))) lj), _, _, rfl, rfl⟩
theorem rsk8 (nm : List UInt8) (ty : Ty) (tN eN : Nd) (a : Option Addr) (l cp : Nat) (b : Option Addr) (l2 cp2 : Nat) (m : Mem) (TB : List Tk) (hB : ∀ m', leM m m' → RetT 101 [.v (.slice a l cp)] m' TB) (hty : ty.dim ≤ 1000) (TA : List Tk) (hA : ∀ m', leM m m' → RetT 101 [.v (.slice b l2 cp2)] m' TA)
  (hb : (List.flatten [[kw [116, 114, 121]], TB, [kw [99, 97, 116, 99, 104]], (sg [40] :: (List.flatten [typT ty.dim ty.base ty.name, [nm1 nm]] ++ [sg [41]])), TA]).length ≤ cap) : RetT 167 [.v (.agg ⟨Sd.cs ⟨8, nm, ty, tN, eN, a, l, cp, b, l2, cp2⟩⟩)] m (List.flatten [[kw [116, 114, 121]], TB, [kw [99, 97, 116, 99, 104]], (sg [40] :: (List.flatten [typT ty.dim ty.base ty.name, [nm1 nm]] ++ [sg [41]])), TA]) := by
 have hb0 := hb
 simp only [List.flatten_cons, List.flatten_nil, Lla, Llc, Lln, cap] at hb
 refine retT_of ?_
 refine enter cfKs puKs Tryz.func167 rfl rfl (by kernel_rfl) rfl ?_ ?_
 ·simp only [go_sem, ↓tfi, ↓fti, ↓reduceIte, Sd.cs, Nd.cs]
 ·simp only [go_sem, ↓tfi, ↓fti, ↓reduceIte, Sd.cs, Nd.cs, Int.reduceEq, decide_true, decide_false]
  refine cvl ((rsome_spec _ _ m).mono ?_)
  rintro r H' m1 hm1 ⟨rfl, rfl, _⟩
  have l1 : leM m m1 := .inr hm1
  have L1 : leM m m1 := leM_tr (.inl rfl : leM m m) l1
  simp only [go_sem, ↓tfi, ↓fti, ↓reduceIte, Sd.cs, Nd.cs, Int.reduceEq, decide_true, decide_false, L1, and_self]
  refine WP_draw (.hoist 3 (.hoist 4 (.hoist 9 (.hoist 10 (.hoist 12 (.hoist 13 (.hoist 20 (.hoist 21 (.alt 0 [21, 20, 13, 12, 10, 9, 4, 3] (.alt 1 [21, 20, 13, 12, 10, 9, 4, 3] (.alt 2 [21, 20, 13, 12, 10, 9, 4, 3] (.alt 5 [21, 20, 13, 12, 10, 9] (.alt 6 [21, 20, 13, 12, 10, 9] (.alt 7 [21, 20, 13, 12, 10, 9] (.alt 8 [21, 20, 13, 12, 10, 9] (.alt 11 [21, 20, 13, 12] (.alt 14 [21, 20] (.alt 15 [21, 20] (.alt 16 [21, 20] (.alt 17 [21, 20] (.alt 18 [21, 20] (.alt 19 [21, 20] (.alt 22 [] (.alt 23 [] (.alt 24 [] (.hoist 25 .done) .stop) .stop) .stop) .stop) .stop) .stop) .stop) .stop) .stop) .stop) .stop) .stop) .stop) .stop) .stop) .stop) .stop))))))))) puKs (by kernel_rfl) (by kernel_rfl) ?_
  simp only [go_sem, ↓tfi, ↓fti, ↓reduceIte, Sd.cs, Nd.cs, Int.reduceEq, decide_true, decide_false, L1, and_self]
  refine cvl ((rsome_spec _ _ m1).mono ?_)
  rintro r H' m2 hm2 ⟨rfl, rfl, _⟩
  have l2 : leM m1 m2 := .inr hm2
  have L2 : leM m m2 := leM_tr L1 l2
  have K2 : leM m1 m2 := leM_tr (.inl rfl : leM m1 m1) l2
  simp only [go_sem, ↓tfi, ↓fti, ↓reduceIte, Sd.cs, Nd.cs, Int.reduceEq, decide_true, decide_false, K2, and_self]
  refine cvl ((hB m2 L2).mono ?_)
  rintro r H' m3 hm3 ⟨l3, rfl, rfl⟩
  have L3 : leM m m3 := leM_tr L2 l3
  have K3 : leM m1 m3 := leM_tr K2 l3
  simp only [go_sem, ↓tfi, ↓fti, ↓reduceIte, Sd.cs, Nd.cs, Int.reduceEq, decide_true, decide_false, K3, and_self]
  refine cvl ((rsome_spec _ _ m3).mono ?_)
  rintro r H' m4 hm4 ⟨rfl, rfl, _⟩
  have l4 : leM m3 m4 := .inr hm4
  have L4 : leM m m4 := leM_tr L3 l4
  have K4 : leM m1 m4 := leM_tr K3 l4
  simp only [go_sem, ↓tfi, ↓fti, ↓reduceIte, Sd.cs, Nd.cs, Int.reduceEq, decide_true, decide_false, K4, and_self]
  refine cvl ((FnH_den (rkind_spec ty.dim ty.base ty.name m4 hty) (fun V => rfl)).mono ?_)
  rintro r H' m5 hm5 ⟨l5, rfl, rfl⟩
  have L5 : leM m m5 := leM_tr L4 l5
  have K5 : leM m1 m5 := leM_tr K4 l5
  simp only [go_sem, ↓tfi, ↓fti, ↓reduceIte, Sd.cs, Nd.cs, Int.reduceEq, decide_true, decide_false, K5, and_self]
  refine cvl ((rsome_spec _ _ m5).mono ?_)
  rintro r H' m6 hm6 ⟨rfl, rfl, _⟩
  have l6 : leM m5 m6 := .inr hm6
  have L6 : leM m m6 := leM_tr L5 l6
  have K6 : leM m1 m6 := leM_tr K5 l6
  simp only [go_sem, ↓tfi, ↓fti, ↓reduceIte, Sd.cs, Nd.cs, Int.reduceEq, decide_true, decide_false, K6, and_self]
  intro px0 qx0 vx0 hvx0 hqx0 sx0
  intro px1 qx1 vx1 hvx1 hqx1 sx1
  refine ⟨(leM_tr (leM_tr K6 (.inr hvx0)) (.inr hvx1)), by kernel_rfl, fun ajx cjx wjx hwjx hcjx rjx => FnV_of ((rjoinL_spec [typT ty.dim ty.base ty.name, [nm1 nm]] ajx 2 cjx _ wjx rfl rjx ⟨⟨px0, qx0, rfl, hqx0, Rds_upM (leM_tr (.inr hvx1) (.inr hwjx)) sx0⟩, ⟨⟨px1, qx1, rfl, hqx1, Rds_upM (.inr hwjx) sx1⟩, trivial⟩⟩ (by decide) (by simp only [List.flatten_cons, List.flatten_nil, Lla, Llc, Lln, cap]; omega)).mono ?_)⟩
  rintro r H' m7 hm7 ⟨l7, rfl, rfl⟩
  have L7 : leM m m7 := leM_tr L6 (leM_tr (leM_tr (.inr hvx0) (leM_tr (.inr hvx1) (.inr hwjx))) l7)
  have K7 : leM m1 m7 := leM_tr K6 (leM_tr (leM_tr (.inr hvx0) (leM_tr (.inr hvx1) (.inr hwjx))) l7)
  simp only [go_sem, ↓tfi, ↓fti, ↓reduceIte, Sd.cs, Nd.cs, Int.reduceEq, decide_true, decide_false, K7, and_self]
  refine ⟨by kernel_rfl, fun a8 c8 w8 hw8 hc8 r8 => FnV_of ((rround_spec _ a8 c8 w8 r8 (by simp only [List.flatten_cons, List.flatten_nil, Lla, Llc, Lln, cap]; omega)).mono ?_)⟩
  rintro r H' m8 hm8 ⟨l8, rfl, rfl⟩
  have L8 : leM m m8 := leM_tr L7 (leM_tr (.inr hw8) l8)
  have K8 : leM m1 m8 := leM_tr K7 (leM_tr (.inr hw8) l8)
  simp only [go_sem, ↓tfi, ↓fti, ↓reduceIte, Sd.cs, Nd.cs, Int.reduceEq, decide_true, decide_false, K8, and_self]
  refine cvl ((hA m8 L8).mono ?_)
  rintro r H' m9 hm9 ⟨l9, rfl, rfl⟩
  have L9 : leM m m9 := leM_tr L8 l9
  have K9 : leM m1 m9 := leM_tr K8 l9
  simp only [go_sem, ↓tfi, ↓fti, ↓reduceIte, Sd.cs, Nd.cs, Int.reduceEq, decide_true, decide_false, K9, and_self]
  intro p0 q0 v0 hv0 hq0 s0
  intro p1 q1 v1 hv1 hq1 s1
  intro p2 q2 v2 hv2 hq2 s2
  intro p3 q3 v3 hv3 hq3 s3
  intro p4 q4 v4 hv4 hq4 s4
  refine ⟨by kernel_rfl, fun aj cj wj hwj hcj rj => FnV_of ((rjoinL_spec [[kw [116, 114, 121]], TB, [kw [99, 97, 116, 99, 104]], (sg [40] :: (List.flatten [typT ty.dim ty.base ty.name, [nm1 nm]] ++ [sg [41]])), TA] aj 5 cj _ wj rfl rj ⟨⟨p0, q0, rfl, hq0, Rds_upM (leM_tr (.inr hv1) (leM_tr (.inr hv2) (leM_tr (.inr hv3) (leM_tr (.inr hv4) (.inr hwj))))) s0⟩, ⟨⟨p1, q1, rfl, hq1, Rds_upM (leM_tr (.inr hv2) (leM_tr (.inr hv3) (leM_tr (.inr hv4) (.inr hwj)))) s1⟩, ⟨⟨p2, q2, rfl, hq2, Rds_upM (leM_tr (.inr hv3) (leM_tr (.inr hv4) (.inr hwj))) s2⟩, ⟨⟨p3, q3, rfl, hq3, Rds_upM (leM_tr (.inr hv4) (.inr hwj)) s3⟩, ⟨⟨p4, q4, rfl, hq4, Rds_upM (.inr hwj) s4⟩, trivial⟩⟩⟩⟩⟩ (by decide) hb0).mono ?_)⟩
  rintro r H' mj hmj ⟨lj, rfl, rfl⟩
  simp only [go_sem, ↓tfi, ↓fti, ↓reduceIte, Sd.cs, Nd.cs, Int.reduceEq, decide_true, decide_false]
  exact ⟨leM_tr L9 (leM_tr (leM_tr (.inr hv0) (leM_tr (.inr hv1) (leM_tr (.inr hv2) (leM_tr (.inr hv3) (leM_tr (.inr hv4) (.inr hwj)))))) lj), _, _, rfl, rfl⟩
theorem rsk9 (nm : List UInt8) (ty : Ty) (tN eN : Nd) (a : Option Addr) (l cp : Nat) (b : Option Addr) (l2 cp2 : Nat) (m : Mem) (TX : List Tk) (hX : ∀ m', leM m m' → RetT 42 [.v (.agg ⟨eN.cs⟩)] m' TX) (TB : List Tk) (hB : ∀ m', leM m m' → RetT 101 [.v (.slice a l cp)] m' TB)
  (hb : (List.flatten [[kw [115, 121, 110, 99]], (sg [40] :: (TX ++ [sg [41]])), TB]).length ≤ cap) : RetT 167 [.v (.agg ⟨Sd.cs ⟨9, nm, ty, tN, eN, a, l, cp, b, l2, cp2⟩⟩)] m (List.flatten [[kw [115, 121, 110, 99]], (sg [40] :: (TX ++ [sg [41]])), TB]) := by
 have hb0 := hb
 simp only [List.flatten_cons, List.flatten_nil, Lla, Llc, Lln, cap] at hb
 refine retT_of ?_
 refine enter cfKs puKs Tryz.func167 rfl rfl (by kernel_rfl) rfl ?_ ?_
 ·simp only [go_sem, ↓tfi, ↓fti, ↓reduceIte, Sd.cs, Nd.cs]
 ·simp only [go_sem, ↓tfi, ↓fti, ↓reduceIte, Sd.cs, Nd.cs, Int.reduceEq, decide_true, decide_false]
  refine cvl ((rsome_spec _ _ m).mono ?_)
  rintro r H' m1 hm1 ⟨rfl, rfl, _⟩
  have l1 : leM m m1 := .inr hm1
  have L1 : leM m m1 := leM_tr (.inl rfl : leM m m) l1
  simp only [go_sem, ↓tfi, ↓fti, ↓reduceIte, Sd.cs, Nd.cs, Int.reduceEq, decide_true, decide_false, L1, and_self]
  refine WP_draw (.hoist 3 (.hoist 4 (.hoist 7 (.hoist 8 (.alt 0 [8, 7, 4, 3] (.alt 1 [8, 7, 4, 3] (.alt 2 [8, 7, 4, 3] (.alt 5 [8, 7] (.alt 6 [8, 7] (.alt 9 [] (.alt 10 [] (.alt 11 [] (.hoist 12 .done) .stop) .stop) .stop) .stop) .stop) .stop) .stop) .stop))))) puKs (by kernel_rfl) (by kernel_rfl) ?_
  simp only [go_sem, ↓tfi, ↓fti, ↓reduceIte, Sd.cs, Nd.cs, Int.reduceEq, decide_true, decide_false, L1, and_self]
  refine cvl ((rsome_spec _ _ m1).mono ?_)
  rintro r H' m2 hm2 ⟨rfl, rfl, _⟩
  have l2 : leM m1 m2 := .inr hm2
  have L2 : leM m m2 := leM_tr L1 l2
  have K2 : leM m1 m2 := leM_tr (.inl rfl : leM m1 m1) l2
  simp only [go_sem, ↓tfi, ↓fti, ↓reduceIte, Sd.cs, Nd.cs, Int.reduceEq, decide_true, decide_false, K2, and_self]
  refine cvl ((FnH_den (hX m2 L2) (fun V => rfl)).mono ?_)
  rintro r H' m3 hm3 ⟨l3, rfl, rfl⟩
  have L3 : leM m m3 := leM_tr L2 l3
  have K3 : leM m1 m3 := leM_tr K2 l3
  simp only [go_sem, ↓tfi, ↓fti, ↓reduceIte, Sd.cs, Nd.cs, Int.reduceEq, decide_true, decide_false, K3, and_self]
  refine ⟨by kernel_rfl, fun a4 c4 w4 hw4 hc4 r4 => FnV_of ((rround_spec _ a4 c4 w4 r4 (by simp only [List.flatten_cons, List.flatten_nil, Lla, Llc, Lln, cap]; omega)).mono ?_)⟩
  rintro r H' m4 hm4 ⟨l4, rfl, rfl⟩
  have L4 : leM m m4 := leM_tr L3 (leM_tr (.inr hw4) l4)
  have K4 : leM m1 m4 := leM_tr K3 (leM_tr (.inr hw4) l4)
  simp only [go_sem, ↓tfi, ↓fti, ↓reduceIte, Sd.cs, Nd.cs, Int.reduceEq, decide_true, decide_false, K4, and_self]
  refine cvl ((hB m4 L4).mono ?_)
  rintro r H' m5 hm5 ⟨l5, rfl, rfl⟩
  have L5 : leM m m5 := leM_tr L4 l5
  have K5 : leM m1 m5 := leM_tr K4 l5
  simp only [go_sem, ↓tfi, ↓fti, ↓reduceIte, Sd.cs, Nd.cs, Int.reduceEq, decide_true, decide_false, K5, and_self]
  intro p0 q0 v0 hv0 hq0 s0
  intro p1 q1 v1 hv1 hq1 s1
  intro p2 q2 v2 hv2 hq2 s2
  refine ⟨by kernel_rfl, fun aj cj wj hwj hcj rj => FnV_of ((rjoinL_spec [[kw [115, 121, 110, 99]], (sg [40] :: (TX ++ [sg [41]])), TB] aj 3 cj _ wj rfl rj ⟨⟨p0, q0, rfl, hq0, Rds_upM (leM_tr (.inr hv1) (leM_tr (.inr hv2) (.inr hwj))) s0⟩, ⟨⟨p1, q1, rfl, hq1, Rds_upM (leM_tr (.inr hv2) (.inr hwj)) s1⟩, ⟨⟨p2, q2, rfl, hq2, Rds_upM (.inr hwj) s2⟩, trivial⟩⟩⟩ (by decide) hb0).mono ?_)⟩
  rintro r H' mj hmj ⟨lj, rfl, rfl⟩
  simp only [go_sem, ↓tfi, ↓fti, ↓reduceIte, Sd.cs, Nd.cs, Int.reduceEq, decide_true, decide_false]
  exact ⟨leM_tr L5 (leM_tr (leM_tr (.inr hv0) (leM_tr (.inr hv1) (leM_tr (.inr hv2) (.inr hwj)))) lj), _, _, rfl, rfl⟩
theorem rsk10 (nm : List UInt8) (ty : Ty) (tN eN : Nd) (a : Option Addr) (l cp : Nat) (b : Option Addr) (l2 cp2 : Nat) (m : Mem) (TB : List Tk) (hB : ∀ m', leM m m' → RetT 101 [.v (.slice a l cp)] m' TB)
  (hb : (TB).length ≤ cap) : RetT 167 [.v (.agg ⟨Sd.cs ⟨10, nm, ty, tN, eN, a, l, cp, b, l2, cp2⟩⟩)] m (TB) := by
 have hb0 := hb
 simp only [List.flatten_cons, List.flatten_nil, Lla, Llc, Lln, cap] at hb
 refine retT_of ?_
 refine enter cfKs puKs Tryz.func167 rfl rfl (by kernel_rfl) rfl ?_ ?_
 ·simp only [go_sem, ↓tfi, ↓fti, ↓reduceIte, Sd.cs, Nd.cs]
 ·simp only [go_sem, ↓tfi, ↓fti, ↓reduceIte, Sd.cs, Nd.cs, Int.reduceEq, decide_true, decide_false]
  refine cvl ((rsome_spec _ _ m).mono ?_)
  rintro r H' m1 hm1 ⟨rfl, rfl, _⟩
  have l1 : leM m m1 := .inr hm1
  have L1 : leM m m1 := leM_tr (.inl rfl : leM m m) l1
  simp only [go_sem, ↓tfi, ↓fti, ↓reduceIte, Sd.cs, Nd.cs, Int.reduceEq, decide_true, decide_false, L1, and_self]
  refine cvl ((hB m1 L1).mono ?_)
  rintro r H' m2 hm2 ⟨l2, rfl, rfl⟩
  have L2 : leM m m2 := leM_tr L1 l2
  simp only [go_sem, ↓tfi, ↓fti, ↓reduceIte, Sd.cs, Nd.cs, Int.reduceEq, decide_true, decide_false, L2, and_self]
  exact ⟨_, _, rfl, rfl⟩
theorem rsk11 (nm : List UInt8) (ty : Ty) (tN eN : Nd) (a : Option Addr) (l cp : Nat) (b : Option Addr) (l2 cp2 : Nat) (m : Mem) (TL : List Tk) (hL : ∀ m', leM m m' → RetT 108 [.v (.slice eN.a eN.l eN.cp)] m' TL)
  (hb : (List.flatten [[kw [115, 117, 112, 101, 114]], (sg [40] :: (TL ++ [sg [41]])), [sg [59]]]).length ≤ cap) : RetT 167 [.v (.agg ⟨Sd.cs ⟨11, nm, ty, tN, eN, a, l, cp, b, l2, cp2⟩⟩)] m (List.flatten [[kw [115, 117, 112, 101, 114]], (sg [40] :: (TL ++ [sg [41]])), [sg [59]]]) := by
 have hb0 := hb
 simp only [List.flatten_cons, List.flatten_nil, Lla, Llc, Lln, cap] at hb
 refine retT_of ?_
 refine enter cfKs puKs Tryz.func167 rfl rfl (by kernel_rfl) rfl ?_ ?_
 ·simp only [go_sem, ↓tfi, ↓fti, ↓reduceIte, Sd.cs, Nd.cs]
 ·simp only [go_sem, ↓tfi, ↓fti, ↓reduceIte, Sd.cs, Nd.cs, Int.reduceEq, decide_true, decide_false]
  refine cvl ((rsome_spec _ _ m).mono ?_)
  rintro r H' m1 hm1 ⟨rfl, rfl, _⟩
  have l1 : leM m m1 := .inr hm1
  have L1 : leM m m1 := leM_tr (.inl rfl : leM m m) l1
  simp only [go_sem, ↓tfi, ↓fti, ↓reduceIte, Sd.cs, Nd.cs, Int.reduceEq, decide_true, decide_false, L1, and_self]
  refine WP_draw (.hoist 3 (.hoist 4 (.hoist 5 (.hoist 8 (.alt 0 [8, 5, 4, 3] (.alt 1 [8, 5, 4, 3] (.alt 2 [8, 5, 4, 3] (.alt 6 [8] (.alt 7 [8] (.alt 9 [] (.alt 10 [] (.hoist 11 .done) .stop) .stop) .stop) .stop) .stop) .stop) .stop))))) puKs (by kernel_rfl) (by kernel_rfl) ?_
  simp only [go_sem, ↓tfi, ↓fti, ↓reduceIte, Sd.cs, Nd.cs, Int.reduceEq, decide_true, decide_false, L1, and_self]
  refine cvl ((rsome_spec _ _ m1).mono ?_)
  rintro r H' m2 hm2 ⟨rfl, rfl, _⟩
  have l2 : leM m1 m2 := .inr hm2
  have L2 : leM m m2 := leM_tr L1 l2
  have K2 : leM m1 m2 := leM_tr (.inl rfl : leM m1 m1) l2
  simp only [go_sem, ↓tfi, ↓fti, ↓reduceIte, Sd.cs, Nd.cs, Int.reduceEq, decide_true, decide_false, K2, and_self]
  refine cvl ((hL m2 L2).mono ?_)
  rintro r H' m3 hm3 ⟨l3, rfl, rfl⟩
  have L3 : leM m m3 := leM_tr L2 l3
  have K3 : leM m1 m3 := leM_tr K2 l3
  simp only [go_sem, ↓tfi, ↓fti, ↓reduceIte, Sd.cs, Nd.cs, Int.reduceEq, decide_true, decide_false, K3, and_self]
  refine ⟨by kernel_rfl, fun a4 c4 w4 hw4 hc4 r4 => FnV_of ((rround_spec _ a4 c4 w4 r4 (by simp only [List.flatten_cons, List.flatten_nil, Lla, Llc, Lln, cap]; omega)).mono ?_)⟩
  rintro r H' m4 hm4 ⟨l4, rfl, rfl⟩
  have L4 : leM m m4 := leM_tr L3 (leM_tr (.inr hw4) l4)
  have K4 : leM m1 m4 := leM_tr K3 (leM_tr (.inr hw4) l4)
  simp only [go_sem, ↓tfi, ↓fti, ↓reduceIte, Sd.cs, Nd.cs, Int.reduceEq, decide_true, decide_false, K4, and_self]
  intro p0 q0 v0 hv0 hq0 s0
  intro p1 q1 v1 hv1 hq1 s1
  intro p2 q2 v2 hv2 hq2 s2
  refine ⟨by kernel_rfl, fun aj cj wj hwj hcj rj => FnV_of ((rjoinL_spec [[kw [115, 117, 112, 101, 114]], (sg [40] :: (TL ++ [sg [41]])), [sg [59]]] aj 3 cj _ wj rfl rj ⟨⟨p0, q0, rfl, hq0, Rds_upM (leM_tr (.inr hv1) (leM_tr (.inr hv2) (.inr hwj))) s0⟩, ⟨⟨p1, q1, rfl, hq1, Rds_upM (leM_tr (.inr hv2) (.inr hwj)) s1⟩, ⟨⟨p2, q2, rfl, hq2, Rds_upM (.inr hwj) s2⟩, trivial⟩⟩⟩ (by decide) hb0).mono ?_)⟩
  rintro r H' mj hmj ⟨lj, rfl, rfl⟩
  simp only [go_sem, ↓tfi, ↓fti, ↓reduceIte, Sd.cs, Nd.cs, Int.reduceEq, decide_true, decide_false]
  exact ⟨leM_tr L4 (leM_tr (leM_tr (.inr hv0) (leM_tr (.inr hv1) (leM_tr (.inr hv2) (.inr hwj)))) lj), _, _, rfl, rfl⟩
def RefS (s : St) (m : Mem) : Prop := ∀ (cs : List Value) (m' : Mem), leM m m' → stRep m' s cs → RetT 167 [.v (.agg ⟨cs⟩)] m' (stmtT s)
theorem rtblock_spec (l : List St) (a : Option Addr) (n c : Nat) (xs : List Value) (m : Mem) (hl : l.length = n) (hn : n ≤ big) (hr : Rds m a n 23 xs) (hs : stsRep m l xs) (hS : ∀ e ∈ l, RefS e m) (hb : (brT (stmtsT l)).length ≤ cap) :
  RetT 101 [.v (.slice a n c)] m (brT (stmtsT l)) := by
 rw [stmtsT_map] at hb ⊢
 have hb0 : ((l.map stmtT).flatten).length + 2 ≤ cap := by
  simp only [brT, Llc, Lla, Lln] at hb; omega
 clear hb
 refine retT_of ?_
 refine enter cfK puK Tryz.func101 rfl rfl (by kernel_rfl) rfl ?_ ?_
 ·simp only [go_sem, ↓tfi, ↓fti, ↓reduceIte]
 ·simp only [go_sem, ↓tfi, ↓fti, ↓reduceIte]
  refine cvl ((rsome_spec _ _ m).mono ?_)
  rintro r H' m1 hm1 ⟨rfl, rfl, _⟩
  have l1 : leM m m1 := .inr hm1
  simp only [go_sem, ↓tfi, ↓fti, ↓reduceIte]
  refine WP_loop puK (fun x : Nat × Nat × Mem => ⟨[⟨0, [], .v (.slice a n c)⟩, ⟨3, [], .vec 0 x.2.1⟩, ⟨4, [], .v (.int .i64 x.1)⟩], [], [], [⟨0, x.2.1, 79, 4, (sg [123] :: ((l.take x.1).map stmtT).flatten).length, tkCells (sg [123] :: ((l.take x.1).map stmtT).flatten)⟩], 2, x.2.2⟩)
   (fun x => leM m1 x.2.2 ∧ x.1 ≤ n) (fun x => n - x.1) (0, 0, m1) (by kernel_rfl) (fun _ _ => nbl rfl) (fun x hx => ?_) (fun _ => ?_) ?_ ?_ ?_
  ·exact hx.1
  ·simp only [go_sem, ↓tfi, ↓fti, ↓reduceIte]
  ·simp only [go_sem, ↓tfi, ↓fti, ↓reduceIte]
   exact ⟨rfl, rfl, rfl⟩
  ·exact ⟨.inl rfl, Nat.zero_le _⟩
  ·rintro ⟨k, v, mm⟩ ⟨h0, h2⟩
   simp only at h0 h2
   have h1 := leM_tr l1 h0
   have hx : ∀ (hk : k < l.length), ∃ x : Sd, (Rd mm (ptrAt a (k * 23)) x.cs ∧ a ≠ none) ∧ RetT 167 [.v (.agg ⟨x.cs⟩)] mm (stmtT l[k]) := fun hk => by
    have hrep := stRep_upM h1 (sts_at hs hk)
    obtain ⟨x, hx⟩ := stRep_sd hrep
    have hrd := Rds_cells (Rds_upM h1 hr) (by omega : k < n)
    rw [hx] at hrep hrd
    exact ⟨x, hrd, hS _ (List.getElem_mem hk) x.cs mm h1 hrep⟩
   have hft := fun (hk : k < l.length) => And.intro (flat_takeT (f := stmtT) hk) (flat_le (f := stmtT) l (k + 1))
   have hcl := flat_le (f := stmtT) l k
   clear hS
   simp only [go_sem, ↓tfi, ↓fti, ↓reduceIte]
   refine ⟨fun hlt => ?_, fun hge => ?_⟩
   ·have hk : k < l.length := by clear hx; omega
    refine Exists.elim (hx hk) fun x hx' => ⟨⟨by clear hx hx'; omega, hlt, hx'.1.2⟩, x.cs, ⟨hx'.1.1, rfl⟩, ?_⟩
    clear hx
    have ha := hx'.2
    clear hx'
    have hT := (hft hk).1
    have hL := (hft hk).2
    rw [hT, Lla] at hL
    clear hft
    simp only [cap] at hb0
    simp only [go_sem, ↓tfi, ↓fti, ↓reduceIte, Sd.cs]
    refine cvl ((FnH_den ha (fun V => rfl)).mono ?_)
    clear ha
    rintro r H' m2 hm2 ⟨l2, rfl, rfl⟩
    simp only [go_sem, ↓tfi, ↓fti, ↓reduceIte, Sd.cs]
    refine ⟨⟨by omega, by simp only [maxLen]; omega⟩, by unfold I64; simp only [big] at hn; omega, (k + 1, v + 1, m2), ⟨⟨rfl, by simp⟩, ⟨rfl, ?_, ?_⟩, .inl rfl⟩, ⟨leM_tr h0 l2, by simp only; omega⟩, by simp only; omega⟩
    ·simp only; rw [hT, Lla]; omega
    ·simp only; rw [hT, ← List.cons_append, tkCells_app]
   ·clear hx hft
    rw [List.take_of_length_le (by omega)]
    simp only [cap] at hb0
    refine ⟨⟨by omega, by simp only [maxLen]; omega⟩, h1, 0, v + 1, rfl, ?_⟩
    have e1 : (brT (l.map stmtT).flatten).length = (l.map stmtT).flatten.length + 1 + 1 := by rw [len_br]
    have e2 : tkCells (brT (l.map stmtT).flatten) = tkCells (sg [123] :: (l.map stmtT).flatten) ++ tkC (sg [125]) := by rw [brT, ← List.cons_append, tkCells_app]; rfl
    rw [e1, e2]
    rfl
theorem RetT_eq {f : FuncId} {args : List SV} {m : Mem} {T T' : List Tk} (e : T = T') (h : RetT f args m T') : RetT f args m T := by rw [e]; exact h
theorem rstmt_all : ∀ (h : Nat) (s : St) (m : Mem), depthS s ≤ h → validS s = true → sizeS s ≤ big → RefS s m
 | 0, .mk k nm ty tg ex body alt, m, hd, _, _ => by simp [depthS] at hd
 | h + 1, .mk k nm ty tg ex body alt, m, hd, hv, hsz => by
  intro cs m' hle hrep
  have hb := len_S _ hv
  have hb : (stmtT (.mk k nm ty tg ex body alt)).length ≤ cap := by simp only [big] at hsz; simp only [cap]; omega
  obtain ⟨⟨k', nm', ty', tN, eN, a, l, cp, b, l2, cp2⟩, rfl, rfl, rfl, rfl, htg, hex, hl, hcp, hl2, hcp2, hok, xs, ys, r1, r2, s1, s2⟩ := st_parts hrep
  simp only at htg hex hl hcp hl2 hcp2 r1 r2 hv hb hok
  simp only [depthS] at hd
  simp only [sizeS] at hsz
  simp only [validS, Bbt] at hv
  have hv1 := hv.1
  clear hv hrep
  have hB : ∀ {q : Bool}, (decide (body.length ≤ 32) && validSs false body && q) = true → ∀ m2, leM m' m2 → RetT 101 [.v (.slice a l cp)] m2 (brT (stmtsT body)) := fun hvb m2 hle2 => by
   simp only [Bbt] at hvb
   have hlen := len_Ss false body hvb.1.2
   exact rtblock_spec body a l cp xs m2 hl.symm (by rw [hl]; exact hok.l) (Rds_upM hle2 r1) (stsRep_upM hle2 s1) (fun e he => rstmt_all h e m2 (by have := depthSs_mem he; omega) (validSs_mem hvb.1.2 e he) (by have := sizeSs_mem he; omega)) (by rw [len_br]; simp only [big] at hsz; simp only [cap]; omega)
  have hA : ∀ {q : Bool}, (q && (decide (alt.length ≤ 32) && validSs false alt)) = true → ∀ m2, leM m' m2 → RetT 101 [.v (.slice b l2 cp2)] m2 (brT (stmtsT alt)) := fun hvb m2 hle2 => by
   simp only [Bbt] at hvb
   have hlen := len_Ss false alt hvb.2.2
   exact rtblock_spec alt b l2 cp2 ys m2 hl2.symm (by rw [hl2]; exact hok.l2) (Rds_upM hle2 r2) (stsRep_upM hle2 s2) (fun e he => rstmt_all h e m2 (by have := depthSs_mem he; omega) (validSs_mem hvb.2.2 e he) (by have := sizeSs_mem he; omega)) (by rw [len_br]; simp only [big] at hsz; simp only [cap]; omega)
  have hX : validE ex = true → ∀ m2, leM m' m2 → RetT 42 [.v (.agg ⟨eN.cs⟩)] m2 (exprT ex) := fun hv m2 hle2 => rtok_all _ ex m2 (Nnr _) hv (by omega) _ m2 (.inl rfl) (exRep_upM hle2 hex)
  have hG : validE tg = true → ∀ m2, leM m' m2 → RetT 42 [.v (.agg ⟨tN.cs⟩)] m2 (exprT tg) := fun hv m2 hle2 => rtok_all _ tg m2 (Nnr _) hv (by omega) _ m2 (.inl rfl) (exRep_upM hle2 htg)
  have ne := (nd_of hex).2
  rcases okStm_kind hv1 with rfl | rfl | rfl | rfl | rfl | rfl | rfl | rfl | rfl | rfl | rfl
  ·have hv2 : (identL nm' && valueTy ty'.dim ty'.base ty'.name && validE ex) = true := hv1
   simp only [Bbt] at hv2
   have hT : stmtT (.mk 1 nm' ty' tg ex body alt) = List.flatten [typT ty'.dim ty'.base ty'.name, [nm1 nm', sg [61]], exprT ex, [sg [59]]] := by simp [stmtT, stT]
   rw [hT] at hb
   exact RetT_eq hT (rsk1 nm' ty' tN eN a l cp b l2 cp2 m' (by have := value_dim hv2.1.2; omega) _ (hX hv2.2) hb)
  ·have hv2 : (targetE tg && validE ex) = true := hv1
   simp only [Bbt] at hv2
   have hT : stmtT (.mk 2 nm' ty' tg ex body alt) = List.flatten [exprT tg, [sg [61]], exprT ex, [sg [59]]] := by simp [stmtT, stT]
   rw [hT] at hb
   exact RetT_eq hT (rsk2 nm' ty' tN eN a l cp b l2 cp2 m' _ (hG (target_valid hv2.1)) _ (hX hv2.2) hb)
  ·have hv2 : callE ex = true := hv1
   have hT : stmtT (.mk 3 nm' ty' tg ex body alt) = List.flatten [exprT ex, [sg [59]]] := by simp [stmtT, stT]
   rw [hT] at hb
   exact RetT_eq hT (rsk3 nm' ty' tN eN a l cp b l2 cp2 m' _ (hX (call_valid hv2)) hb)
  ·have hv2 : ((decide (body.length ≤ 32) && validSs false body && (decide (alt.length ≤ 32) && validSs false alt)) && validE ex) = true := hv1
   rw [Bbt] at hv2
   by_cases ha : 0 < alt.length
   ·have hT : stmtT (.mk 4 nm' ty' tg ex body alt) = List.flatten [List.flatten [[kw [105, 102]], (sg [40] :: (exprT ex ++ [sg [41]])), brT (stmtsT body)], [kw [101, 108, 115, 101]], brT (stmtsT alt)] := by simp [stmtT, stT, listT, commaT, ha]
    rw [hT] at hb
    exact RetT_eq hT (rsk4a nm' ty' tN eN a l cp b l2 cp2 m' (eq_true (by omega)) _ (hX hv2.2) _ (hB hv2.1) _ (hA hv2.1) hb)
   ·have hT : stmtT (.mk 4 nm' ty' tg ex body alt) = List.flatten [[kw [105, 102]], (sg [40] :: (exprT ex ++ [sg [41]])), brT (stmtsT body)] := by simp [stmtT, stT, listT, commaT, ha]
    rw [hT] at hb
    exact RetT_eq hT (rsk4b nm' ty' tN eN a l cp b l2 cp2 m' (eq_false (by omega)) _ (hX hv2.2) _ (hB hv2.1) hb)
  ·have hv2 : ((decide (body.length ≤ 32) && validSs false body && (decide (alt.length ≤ 32) && validSs false alt)) && validE ex) = true := hv1
   rw [Bbt] at hv2
   have hT : stmtT (.mk 5 nm' ty' tg ex body alt) = List.flatten [[kw [119, 104, 105, 108, 101]], (sg [40] :: (exprT ex ++ [sg [41]])), brT (stmtsT body)] := by simp [stmtT, stT, listT, commaT]
   rw [hT] at hb
   exact RetT_eq hT (rsk5 nm' ty' tN eN a l cp b l2 cp2 m' _ (hX hv2.2) _ (hB hv2.1) hb)
  ·have hv2 : (emptyE ex || validE ex) = true := hv1
   by_cases h0 : emptyE ex = true
   ·have hk0 := empty_k h0
    have hT : stmtT (.mk 6 nm' ty' tg ex body alt) = List.flatten [[kw [114, 101, 116, 117, 114, 110]], [sg [59]]] := by simp [stmtT, stT, hk0]
    rw [hT] at hb
    exact RetT_eq hT (rsk6b nm' ty' tN eN a l cp b l2 cp2 m' (by rw [ne]; exact h0) hb)
   ·have h0 : emptyE ex = false := Bool.eq_false_iff.2 h0
    rw [h0, Bool.false_or] at hv2
    have hk0 := valid_k hv2
    have hT : stmtT (.mk 6 nm' ty' tg ex body alt) = List.flatten [[kw [114, 101, 116, 117, 114, 110]], exprT ex, [sg [59]]] := by simp [stmtT, stT, hk0]
    rw [hT] at hb
    exact RetT_eq hT (rsk6a nm' ty' tN eN a l cp b l2 cp2 m' (by rw [ne]; exact h0) _ (hX hv2) hb)
  ·have hv2 : validE ex = true := hv1
   have hT : stmtT (.mk 7 nm' ty' tg ex body alt) = List.flatten [[kw [116, 104, 114, 111, 119]], exprT ex, [sg [59]]] := by simp [stmtT, stT]
   rw [hT] at hb
   exact RetT_eq hT (rsk7 nm' ty' tN eN a l cp b l2 cp2 m' _ (hX hv2) hb)
  ·have hv2 : ((decide (body.length ≤ 32) && validSs false body && (decide (alt.length ≤ 32) && validSs false alt)) && identL nm' && valueTy ty'.dim ty'.base ty'.name) = true := hv1
   rw [Bbt, Bbt] at hv2
   have hT : stmtT (.mk 8 nm' ty' tg ex body alt) = List.flatten [[kw [116, 114, 121]], brT (stmtsT body), [kw [99, 97, 116, 99, 104]], (sg [40] :: (List.flatten [typT ty'.dim ty'.base ty'.name, [nm1 nm']] ++ [sg [41]])), brT (stmtsT alt)] := by simp [stmtT, stT]
   rw [hT] at hb
   exact RetT_eq hT (rsk8 nm' ty' tN eN a l cp b l2 cp2 m' _ (hB hv2.1.1) (by have := value_dim hv2.2; omega) _ (hA hv2.1.1) hb)
  ·have hv2 : ((decide (body.length ≤ 32) && validSs false body && (decide (alt.length ≤ 32) && validSs false alt)) && validE ex) = true := hv1
   rw [Bbt] at hv2
   have hT : stmtT (.mk 9 nm' ty' tg ex body alt) = List.flatten [[kw [115, 121, 110, 99]], (sg [40] :: (exprT ex ++ [sg [41]])), brT (stmtsT body)] := by simp [stmtT, stT, listT, commaT]
   rw [hT] at hb
   exact RetT_eq hT (rsk9 nm' ty' tN eN a l cp b l2 cp2 m' _ (hX hv2.2) _ (hB hv2.1) hb)
  ·have hv2 : (decide (body.length ≤ 32) && validSs false body && (decide (alt.length ≤ 32) && validSs false alt)) = true := hv1
   have hT : stmtT (.mk 10 nm' ty' tg ex body alt) = brT (stmtsT body) := by simp [stmtT, stT]
   rw [hT] at hb
   exact RetT_eq hT (rsk10 nm' ty' tN eN a l cp b l2 cp2 m' _ (hB hv2) hb)
  ·have hv2 : superE ex = true := hv1
   have hv3 := super_args hv2
   obtain ⟨_, q1, q2, q3, zs, q4, q5⟩ := exRep_args hex
   have hT : stmtT (.mk 11 nm' ty' tg ex body alt) = List.flatten [[kw [115, 117, 112, 101, 114]], (sg [40] :: (commaT true (ex.args.map exprT) ++ [sg [41]])), [sg [59]]] := by simp [stmtT, stT, listT]
   rw [hT] at hb
   have hsl := sizeE_args ex
   exact RetT_eq hT (rsk11 nm' ty' tN eN a l cp b l2 cp2 m' _ (fun m3 h3 => rlist_spec ex.args eN.a eN.l eN.cp zs m3 q1.symm q3 (Rds_upM h3 q4) (exsRep_upM h3 q5) (fun e he => rtok_all _ e m3 (Nnr _) (validEs_mem hv3 e he) (by have := sizeL_mem he; omega)) (by simp only [List.flatten_cons, Lla, Llc] at hb; omega)) hb)
theorem elI : elT Tryz.prog 161 = some 3 := by kernel_rfl
theorem zeroI : zeroO Tryz.prog 3 = some [.v (.int .i64 0)] := by kernel_rfl
theorem szI : szT Tryz.prog 3 = 1 := by kernel_rfl
attribute [go_sem] elI zeroI szI
def modU (fl : Int) (k : Nat) : List Tk := ((modsL.take k).filter fun p => hasB fl p.1).map fun p => kw p.2
def bitC : List Value := [.int .i64 1, .int .i64 2, .int .i64 4, .int .i64 8, .int .i64 16, .int .i64 32, .int .i64 1024]
def wrdC : List Value := modsL.map fun p => .string (bs p.2)
theorem rmods_spec (fl : Int) (m : Mem) : RetT 94 [.v (.int .i64 fl)] m (modT fl) := by
 refine retT_of ?_
 refine enter cfK puK Tryz.func94 rfl rfl (by kernel_rfl) rfl ?_ ?_
 ·simp only [go_sem, ↓tfi, ↓fti, ↓reduceIte]
 ·simp only [go_sem, ↓tfi, ↓fti, ↓reduceIte]
  refine WP_loop puK (fun x : Nat × Nat => ⟨[⟨0, [], .v (.int .i64 fl)⟩, ⟨3, [], .vec 0 0⟩, ⟨4, [], .vec 1 0⟩, ⟨5, [], .vec 2 x.2⟩, ⟨6, [], .v (.int .i64 x.1)⟩], [], [], [⟨2, x.2, 79, 4, (modU fl x.1).length, tkCells (modU fl x.1)⟩, ⟨1, 0, 9, 1, 7, wrdC⟩, ⟨0, 0, 3, 1, 7, bitC⟩], 3, m⟩)
   (fun x => x.1 ≤ 7) (fun x => 7 - x.1) (0, 0) (by kernel_rfl) (fun _ _ => nbl rfl) (fun _ _ => .inl rfl) (fun _ => ?_) ?_ ?_ ?_
  ·simp only [go_sem, ↓tfi, ↓fti, ↓reduceIte]
  ·simp only [go_sem, ↓tfi, ↓fti, ↓reduceIte]
   exact ⟨rfl, ⟨rfl, rfl⟩, rfl, rfl⟩
  ·exact Nat.zero_le _
  ·rintro ⟨k, v⟩ h2
   simp only at h2
   have hc : ∀ (hk : k < 7), bitC.getD k undef = .int .i64 (modsL[k]'hk).1 ∧ wrdC.getD k undef = .string (bs (modsL[k]'hk).2) := fun hk => by
    rcases (by omega : k = 0 ∨ k = 1 ∨ k = 2 ∨ k = 3 ∨ k = 4 ∨ k = 5 ∨ k = 6) with rfl | rfl | rfl | rfl | rfl | rfl | rfl <;> exact ⟨rfl, rfl⟩
   have hm := fun (hk : k < 7) => mod_take fl hk
   have hl := mod_len fl k
   simp only [go_sem, ↓tfi, ↓fti, ↓reduceIte]
   refine ⟨fun hlt => ⟨⟨by omega, hlt⟩, by have : bitC.length = 7 := rfl; omega, ?_⟩, fun hge => ?_⟩
   ·have hk : k < 7 := by omega
    have hc' := hc hk
    have hm' := hm hk
    clear hc hm
    have hc1 := hc'.1
    have hc2 := hc'.2
    simp only [go_sem, ↓tfi, ↓fti, ↓reduceIte, hc1, hc2]
    have hz : hasB fl (modsL[k]'hk).1 = !decide (bits .and .i64 fl (modsL[k]'hk).1 = 0) := rfl
    refine ⟨fun h1 => ⟨⟨by omega, hlt⟩, by have : wrdC.length = 7 := rfl; omega, ⟨by simp only [modU]; omega, by simp only [modU, maxLen]; omega⟩, by unfold I64; omega, (k + 1, v + 1), ⟨⟨rfl, by simp⟩, rfl, ?_, ?_⟩, by simp only; omega, by simp only; omega⟩, fun h1 => ⟨by unfold I64; omega, (k + 1, v), ⟨⟨rfl, by simp⟩, rfl, ?_, ?_⟩, by simp only; omega, by simp only; omega⟩⟩
    ·rw [decide_eq_false h1, Bool.not_false] at hz
     simp only [modU]
     rw [hm', if_pos hz, Lla]
     rfl
    ·rw [decide_eq_false h1, Bool.not_false] at hz
     simp only [modU]
     rw [hm', if_pos hz, tkCells_app]
     rfl
    ·rw [decide_eq_true h1, Bool.not_true] at hz
     simp only [modU]
     rw [hm', if_neg (Bool.eq_false_iff.1 hz), List.append_nil]
    ·rw [decide_eq_true h1, Bool.not_true] at hz
     simp only [modU]
     rw [hm', if_neg (Bool.eq_false_iff.1 hz), List.append_nil]
   ·have : k = 7 := by omega
    subst this
    exact ⟨2, v, rfl, rfl⟩
theorem rnames_spec (w : List UInt8) (l : List (List UInt8)) (a : Option Addr) (n c : Nat) (m : Mem) (hl : n = l.length) (hr : Rds m a n 1 (strs l)) (hn : n ≤ big) : RetT 98 [.v (.string (bs w)), .v (.slice a n c)] m (ifsT w l) := by
 refine retT_of ?_
 refine enter cfK puK Tryz.func98 rfl rfl (by kernel_rfl) rfl ?_ ?_
 ·simp only [go_sem, ↓tfi, ↓fti, ↓reduceIte]
 ·simp only [go_sem, ↓tfi, ↓fti, ↓reduceIte]
  refine WP_loop puK (fun x : Nat × Nat => ⟨[⟨0, [], .v (.string (bs w))⟩, ⟨1, [], .v (.slice a n c)⟩, ⟨5, [], .vec 0 x.2⟩, ⟨6, [], .v (.int .i64 x.1)⟩], [], [], [⟨0, x.2, 79, 4, (ifsT w (l.take x.1)).length, tkCells (ifsT w (l.take x.1))⟩], 1, m⟩)
   (fun x => x.1 ≤ n) (fun x => n - x.1) (0, 0) (by kernel_rfl) (fun _ _ => Nnr _) (fun _ _ => .inl rfl) (fun _ => ?_) ?_ ?_ ?_
  ·simp only [go_sem, ↓tfi, ↓fti, ↓reduceIte]
  ·simp only [go_sem, ↓tfi, ↓fti, ↓reduceIte]
   exact ⟨rfl, rfl, rfl⟩
  ·exact Nat.zero_le _
  ·rintro ⟨k, v⟩ h2
   simp only at h2
   have hx : ∀ (hk : k < l.length), Rd m (ptrAt a k) [.string (bs l[k])] ∧ a ≠ none := fun hk => strs_rd hr hk
   have hft := fun (hk : k < l.length) => ifs_take w hk
   have hln := ifs_len w (l.take k)
   rw [List.length_take] at hln
   simp only [go_sem, ↓tfi, ↓fti, ↓reduceIte]
   refine ⟨fun hlt => ?_, fun hge => ?_⟩
   ·have hk : k < l.length := by omega
    have hT := hft hk
    have hx' := hx hk
    clear hft hx
    simp only [big] at hn
    refine ⟨fun h0 => ⟨⟨by omega, by simp only [maxLen]; omega⟩, ⟨by omega, hlt, hx'.2⟩, _, hx'.1, ?_⟩, fun h0 => ⟨⟨by omega, by simp only [maxLen]; omega⟩, ⟨by omega, hlt, hx'.2⟩, _, hx'.1, ?_⟩⟩
    ·simp only [go_sem, ↓tfi, ↓fti, ↓reduceIte]
     have hk0 : k = 0 := by omega
     rw [if_pos hk0, List.append_assoc] at hT
     refine ⟨⟨by omega, by simp only [maxLen]; omega⟩, by unfold I64; omega, (k + 1, v + 1 + 1), ⟨⟨rfl, by simp⟩, rfl, ?_, ?_⟩, by simp only; omega, by simp only; omega⟩
     ·simp only; rw [hT, Lla]; rfl
     ·simp only; rw [hT, tkCells_app, List.append_assoc]; rfl
    ·simp only [go_sem, ↓tfi, ↓fti, ↓reduceIte]
     have hk0 : ¬ k = 0 := by omega
     rw [if_neg hk0, List.append_assoc] at hT
     refine ⟨⟨by omega, by simp only [maxLen]; omega⟩, by unfold I64; omega, (k + 1, v + 1 + 1), ⟨⟨rfl, by simp⟩, rfl, ?_, ?_⟩, by simp only; omega, by simp only; omega⟩
     ·simp only; rw [hT, Lla]; rfl
     ·simp only; rw [hT, tkCells_app, List.append_assoc]; rfl
   ·rw [List.take_of_length_le (by omega)]
    exact ⟨0, v, rfl, rfl⟩
theorem rjoinT_spec (T : List Tk) (ls : List (List Tk)) (hT : ls.flatten = T) (a : Option Addr) (n c : Nat) (xs : List Value) (m : Mem) (hl : ls.length = n) (hr : Rds m a n 1 xs) (hs : slsRep m ls xs) (hn : n ≤ big) (hb : T.length ≤ cap) : RetT 93 [.v (.slice a n c)] m T := by
 subst hT
 exact rjoinL_spec ls a n c xs m hl hr hs hn hb
set_option maxHeartbeats 8000000 in
theorem rfunc_spec (d : Md) (cs : List Value) (m : Mem) (h : mdRep m d cs) (hdim : d.res.dim ≤ 1000) (hpd : ∀ p ∈ d.params, p.ty.dim ≤ 1000)
  (hB : d.hb = true → ∀ a n c xs m', leM m m' → n = d.body.length → Rds m' a n 23 xs → stsRep m' d.body xs → RetT 101 [.v (.slice a n c)] m' (brT (stmtsT d.body)))
  (hb : (methodT d).length ≤ 100000000) : RetT 102 [.v (.agg ⟨cs⟩)] m (methodT d) := by
 obtain ⟨fl, res, name, params, hbd, body⟩ := d
 obtain ⟨x, ⟨rfl, rfl, rfl, rfl, rfl⟩, ⟨hpl, hpc, hl, hcp⟩, hok, r1, xs, r2, s2⟩ := h
 simp only at hpl hl hdim hpd hB r1 s2
 have bp : x.pl ≤ big := by rw [hpl]; exact hok.pl
 have hBk := fun (hq : x.hb = true) m' (hle : leM m m') => hB hq x.a x.l x.cp xs m' hle hl (Rds_upM hle r2) (stsRep_upM hle s2)
 clear hB s2
 have hpz : (commaT true (params.map paramT)).length ≤ 100000000 := by
  simp only [methodT, listT, Lla, Llc] at hb
  omega
 have hj1 : ∀ (k : Nat), (List.flatten [modT x.fl, typT x.res.dim x.res.base x.res.name, [nm1 x.name], sg [40] :: (commaT true ((params.map paramT).take k) ++ [sg [41]])]).length ≤ cap := fun k => by
  have z1 := modT_len x.fl
  have z2 : (typT x.res.dim x.res.base x.res.name).length ≤ 2001 := by simp only [typT, Llc, dimT_len]; omega
  have z3 := comma_len (params.map paramT) true k
  simp only [List.flatten_cons, List.flatten_nil, Lla, Llc, Lln, cap]
  omega
 have hj2 : ∀ (k : Nat), (List.flatten [modT x.fl, [kw [110, 101, 119]], sg [40] :: (commaT true ((params.map paramT).take k) ++ [sg [41]])]).length ≤ cap := fun k => by
  have z1 := modT_len x.fl
  have z3 := comma_len (params.map paramT) true k
  simp only [List.flatten_cons, List.flatten_nil, Lla, Llc, Lln, cap]
  omega
 refine retT_of ?_
 refine enter cfK puK Tryz.func102 rfl rfl (by kernel_rfl) rfl ?_ ?_
 ·simp only [go_sem, ↓tfi, ↓fti, ↓reduceIte, Mc.cs]
 ·simp only [go_sem, ↓tfi, ↓fti, ↓reduceIte, Mc.cs]
  refine WP_loop puK (fun y : Nat × Nat × Mem => ⟨[⟨1, [], .box 0 0⟩, ⟨3, [], .vec 1 y.2.1⟩, ⟨4, [], .v (.int .i64 y.1)⟩], [], [⟨0, 58, x.cs.map .v⟩], [⟨1, y.2.1, 79, 4, (commaT true ((params.map paramT).take y.1)).length, tkCells (commaT true ((params.map paramT).take y.1))⟩], 2, y.2.2⟩)
   (fun y => leM m y.2.2 ∧ y.1 ≤ x.pl) (fun y => x.pl - y.1) (0, 0, m) (by kernel_rfl) (fun _ _ => Nnr _) (fun y hy => ?_) (fun _ => ?_) ?_ ?_ ?_
  ·exact hy.1
  ·simp only [go_sem, ↓tfi, ↓fti, ↓reduceIte, Mc.cs]
  ·simp only [go_sem, ↓tfi, ↓fti, ↓reduceIte, Mc.cs]
   exact ⟨rfl, rfl, rfl⟩
  ·exact ⟨.inl rfl, Nat.zero_le _⟩
  ·rintro ⟨k, v, mm⟩ ⟨h1, h2⟩
   simp only at h1 h2
   have hx : ∀ (hk : k < params.length), (Rd mm (ptrAt x.pa (k * 4)) (params[k]).cs ∧ x.pa ≠ none) ∧ params[k].ty.dim ≤ 1000 := fun hk => by
    have q1 := Rds_cells (Rds_upM h1 r1) (by omega : k < x.pl)
    rw [flat_at (f := Pc.cs) (sz := 4) (fun _ => rfl) hk] at q1
    exact ⟨q1, hpd _ (List.getElem_mem hk)⟩
   have hct := fun (hk : k < params.length) => comma_take (l := params.map paramT) (f := true) (k := k) (by simpa using hk)
   have hcl := comma_len (params.map paramT) true
   simp only [go_sem, ↓tfi, ↓fti, ↓reduceIte, Mc.cs]
   refine ⟨fun hlt => ?_, fun hge => ?_⟩
   ·clear hBk
    have hk : k < params.length := by omega
    have hx' := hx hk
    have hT := hct hk
    have hL := hcl (k + 1)
    clear hx hct hcl
    simp only [List.getElem_map] at hT
    rw [hT] at hL
    simp only [Lla] at hL
    refine ⟨fun h0 => ⟨⟨by omega, by simp only [maxLen]; omega⟩, ?_⟩, fun h0 => ?_⟩
    ·refine WP_draw (.hoist 0 (.hoist 1 (.hoist 2 (.hoist 3 (.hoist 4 (.hoist 5 (.hoist 6 (.hoist 9 (.hoist 10 (.hoist 11 (.hoist 12 (.hoist 13 (.hoist 14 (.alt 7 [14, 13, 12, 11, 10, 9, 0] (.alt 8 [14, 13, 12, 11, 10, 9] (.alt 15 [] (.alt 16 [] (.alt 17 [] (.hoist 18 .done) .stop) .stop) .stop) .stop) .stop)))))))))))))) puK (by kernel_rfl) (by kernel_rfl) ?_
     simp only [go_sem, ↓tfi, ↓fti, ↓reduceIte, Mc.cs, Pc.cs]
     refine ⟨⟨by omega, hlt, hx'.1.2⟩, Rd_ptr hx'.1.1, [.int .i64 params[k].ty.dim, .int .u8 params[k].ty.base, .string (bs params[k].ty.name)], ⟨Rd_sub hx'.1.1 0 3 (nbl rfl), rfl⟩, ⟨by omega, hlt, hx'.1.2⟩, Rd_ptr hx'.1.1, .string (bs params[k].name), Rd_sub hx'.1.1 3 1 (nbl rfl), by kernel_rfl, FnV_of ((rkind_spec params[k].ty.dim params[k].ty.base params[k].ty.name mm hx'.2).mono ?_)⟩
     clear hx'
     rintro r H' m2 hm2 ⟨l2, rfl, rfl⟩
     simp only [go_sem, ↓tfi, ↓fti, ↓reduceIte, Mc.cs, Pc.cs, l2, and_self]
     rw [if_pos (.inl (by omega) : (0 < k ∨ true = false))] at hT hL
     simp only [Llc, paramT, Lla, Lln] at hL
     refine ⟨⟨by omega, by simp only [maxLen]; omega⟩, ⟨by omega, by simp only [maxLen]; omega⟩, by unfold I64; simp only [big] at bp; omega, (k + 1, v + 1 + 1 + 1, m2), ⟨⟨rfl, by simp⟩, ⟨rfl, ?_, ?_⟩, .inl rfl⟩, ⟨leM_tr h1 l2, by simp only; omega⟩, by simp only; omega⟩
     ·simp only; rw [hT]; simp only [Lla, Llc, paramT, Lln]; omega
     ·simp only; rw [hT]; simp [tkCells, paramT, sg, nm1]
    ·refine WP_draw (.hoist 0 (.hoist 1 (.hoist 2 (.hoist 3 (.hoist 4 (.hoist 5 (.hoist 6 (.hoist 9 (.hoist 10 (.hoist 11 (.hoist 12 (.hoist 13 (.hoist 14 (.alt 7 [14, 13, 12, 11, 10, 9, 0] (.alt 8 [14, 13, 12, 11, 10, 9] (.alt 15 [] (.alt 16 [] (.alt 17 [] (.hoist 18 .done) .stop) .stop) .stop) .stop) .stop)))))))))))))) puK (by kernel_rfl) (by kernel_rfl) ?_
     simp only [go_sem, ↓tfi, ↓fti, ↓reduceIte, Mc.cs, Pc.cs]
     refine ⟨⟨by omega, hlt, hx'.1.2⟩, Rd_ptr hx'.1.1, [.int .i64 params[k].ty.dim, .int .u8 params[k].ty.base, .string (bs params[k].ty.name)], ⟨Rd_sub hx'.1.1 0 3 (nbl rfl), rfl⟩, ⟨by omega, hlt, hx'.1.2⟩, Rd_ptr hx'.1.1, .string (bs params[k].name), Rd_sub hx'.1.1 3 1 (nbl rfl), by kernel_rfl, FnV_of ((rkind_spec params[k].ty.dim params[k].ty.base params[k].ty.name mm hx'.2).mono ?_)⟩
     clear hx'
     rintro r H' m2 hm2 ⟨l2, rfl, rfl⟩
     simp only [go_sem, ↓tfi, ↓fti, ↓reduceIte, Mc.cs, Pc.cs, l2, and_self]
     have e1 : ¬ (0 < k ∨ true = false) := fun h => by
      rcases h with h | h
      ·omega
      ·cases h
     rw [if_neg e1] at hT hL
     simp only [Llc, paramT, Lla, Lln] at hL
     refine ⟨⟨by omega, by simp only [maxLen]; omega⟩, ⟨by omega, by simp only [maxLen]; omega⟩, by unfold I64; simp only [big] at bp; omega, (k + 1, v + 1 + 1, m2), ⟨⟨rfl, by simp⟩, ⟨rfl, ?_, ?_⟩, .inl rfl⟩, ⟨leM_tr h1 l2, by simp only; omega⟩, by simp only; omega⟩
     ·simp only; rw [hT]; simp only [Lla, Llc, paramT, Lln]; omega
     ·simp only; rw [hT]; simp [tkCells, paramT, sg, nm1]
   ·clear hx hct hcl
    have e0 : (params.map paramT).take k = params.map paramT := List.take_of_length_le (by simp; clear hBk; omega)
    have ez : (commaT true ((params.map paramT).take k)).length + 2 ≤ cap := by rw [e0]; simp only [cap]; omega
    refine WP_draw (.hoist 0 (.hoist 1 (.hoist 3 (.hoist 4 (.hoist 6 (.hoist 7 (.hoist 11 (.alt 2 [11, 7, 6, 4, 3] (.alt 5 [11, 7, 6] (.alt 8 [11] (.alt 9 [11] (.alt 10 [11] (.alt 12 [] (.alt 13 [] (.alt 14 [] (.hoist 15 .done) .stop) .stop) .stop) .stop) .stop) .stop) .stop) .stop)))))))) puK (by kernel_rfl) (by kernel_rfl) ?_
    simp only [go_sem, ↓tfi, ↓fti, ↓reduceIte, Mc.cs]
    refine cvl ((rmods_spec x.fl mm).mono ?_)
    rintro r H' m2 hm2 ⟨l2, rfl, rfl⟩
    have q2 : leM mm m2 := l2
    have L2 := leM_tr h1 q2
    simp only [go_sem, ↓tfi, ↓fti, ↓reduceIte, Mc.cs, q2, and_self]
    refine cvl ((FnH_den (rkind_spec x.res.dim x.res.base x.res.name m2 hdim) (fun V => rfl)).mono ?_)
    rintro r H' m3 hm3 ⟨l3, rfl, rfl⟩
    have q3 : leM m2 m3 := l3
    have L3 := leM_tr L2 q3
    have K3 := leM_tr q2 q3
    simp only [go_sem, ↓tfi, ↓fti, ↓reduceIte, Mc.cs, K3, and_self]
    refine cvl ((rsome_spec _ _ m3).mono ?_)
    rintro r H' m4 hm4 ⟨rfl, rfl, _⟩
    have q4 : leM m3 m4 := .inr hm4
    have L4 := leM_tr L3 q4
    have K4 := leM_tr K3 q4
    simp only [go_sem, ↓tfi, ↓fti, ↓reduceIte, Mc.cs, K4, and_self]
    refine ⟨by kernel_rfl, fun a5 c5 w5 hw5 hc5 r5 => FnV_of ((rround_spec _ a5 c5 w5 r5 ez).mono ?_)⟩
    rintro r H' m5 hm5 ⟨l5, rfl, rfl⟩
    have q5 : leM m4 m5 := leM_tr (.inr hw5) l5
    have L5 := leM_tr L4 q5
    have K5 := leM_tr K4 q5
    simp only [go_sem, ↓tfi, ↓fti, ↓reduceIte, Mc.cs, K5, and_self]
    intro p6_0 c6_0 v6_0 hv6_0 hq6_0 s6_0
    intro p6_1 c6_1 v6_1 hv6_1 hq6_1 s6_1
    intro p6_2 c6_2 v6_2 hv6_2 hq6_2 s6_2
    intro p6_3 c6_3 v6_3 hv6_3 hq6_3 s6_3
    refine ⟨by kernel_rfl, fun a6 c6 w6 hw6 hc6 r6 => FnV_of ((rjoinL_spec [modT x.fl, typT x.res.dim x.res.base x.res.name, [nm1 x.name], (sg [40] :: (commaT true ((params.map paramT).take k) ++ [sg [41]]))] a6 4 c6 _ w6 rfl r6 ⟨⟨p6_0, c6_0, rfl, hq6_0, Rds_upM (leM_tr (.inr hv6_1) (leM_tr (.inr hv6_2) (leM_tr (.inr hv6_3) (.inr hw6)))) s6_0⟩, ⟨⟨p6_1, c6_1, rfl, hq6_1, Rds_upM (leM_tr (.inr hv6_2) (leM_tr (.inr hv6_3) (.inr hw6))) s6_1⟩, ⟨⟨p6_2, c6_2, rfl, hq6_2, Rds_upM (leM_tr (.inr hv6_3) (.inr hw6)) s6_2⟩, ⟨⟨p6_3, c6_3, rfl, hq6_3, Rds_upM (.inr hw6) s6_3⟩, trivial⟩⟩⟩⟩ (by decide) (hj1 k)).mono ?_)⟩
    rintro r H' m6 hm6 ⟨l6, rfl, rfl⟩
    have q6 : leM m5 m6 := leM_tr (leM_tr (.inr hv6_0) (leM_tr (.inr hv6_1) (leM_tr (.inr hv6_2) (leM_tr (.inr hv6_3) (.inr hw6))))) l6
    have L6 := leM_tr L5 q6
    have K6 := leM_tr K5 q6
    simp only [go_sem, ↓tfi, ↓fti, ↓reduceIte, Mc.cs, K6, and_self]
    refine ⟨fun hn => ?_, fun hn => ?_⟩
    ·have hn1 : x.name = initS := hn
     refine cvl ((rmods_spec x.fl m6).mono ?_)
     rintro r H' m7 hm7 ⟨l7, rfl, rfl⟩
     have q7 : leM m6 m7 := l7
     have L7 := leM_tr L6 q7
     simp only [go_sem, ↓tfi, ↓fti, ↓reduceIte, Mc.cs, q7, and_self]
     refine cvl ((rsome_spec _ _ m7).mono ?_)
     rintro r H' m8 hm8 ⟨rfl, rfl, _⟩
     have q8 : leM m7 m8 := .inr hm8
     have L8 := leM_tr L7 q8
     have K8 := leM_tr q7 q8
     simp only [go_sem, ↓tfi, ↓fti, ↓reduceIte, Mc.cs, K8, and_self]
     refine ⟨by kernel_rfl, fun a9 c9 w9 hw9 hc9 r9 => FnV_of ((rround_spec _ a9 c9 w9 r9 ez).mono ?_)⟩
     rintro r H' m9 hm9 ⟨l9, rfl, rfl⟩
     have q9 : leM m8 m9 := leM_tr (.inr hw9) l9
     have L9 := leM_tr L8 q9
     have K9 := leM_tr K8 q9
     simp only [go_sem, ↓tfi, ↓fti, ↓reduceIte, Mc.cs, K9, and_self]
     intro p10_0 c10_0 v10_0 hv10_0 hq10_0 s10_0
     intro p10_1 c10_1 v10_1 hv10_1 hq10_1 s10_1
     intro p10_2 c10_2 v10_2 hv10_2 hq10_2 s10_2
     refine ⟨by kernel_rfl, fun a10 c10 w10 hw10 hc10 r10 => FnV_of ((rjoinL_spec [modT x.fl, [kw [110, 101, 119]], (sg [40] :: (commaT true ((params.map paramT).take k) ++ [sg [41]]))] a10 3 c10 _ w10 rfl r10 ⟨⟨p10_0, c10_0, rfl, hq10_0, Rds_upM (leM_tr (.inr hv10_1) (leM_tr (.inr hv10_2) (.inr hw10))) s10_0⟩, ⟨⟨p10_1, c10_1, rfl, hq10_1, Rds_upM (leM_tr (.inr hv10_2) (.inr hw10)) s10_1⟩, ⟨⟨p10_2, c10_2, rfl, hq10_2, Rds_upM (.inr hw10) s10_2⟩, trivial⟩⟩⟩ (by decide) (hj2 k)).mono ?_)⟩
     rintro r H' m10 hm10 ⟨l10, rfl, rfl⟩
     have q10 : leM m9 m10 := leM_tr (leM_tr (.inr hv10_0) (leM_tr (.inr hv10_1) (leM_tr (.inr hv10_2) (.inr hw10)))) l10
     have L10 := leM_tr L9 q10
     have K10 := leM_tr K9 q10
     simp only [go_sem, ↓tfi, ↓fti, ↓reduceIte, Mc.cs, K10, and_self]
     refine ⟨fun hb1 => ?_, fun hb1 => ?_⟩
     ·have hE : methodT ⟨x.fl, x.res, x.name, params, x.hb, body⟩ = List.flatten [List.flatten [modT x.fl, [kw [110, 101, 119]], (sg [40] :: (commaT true ((params.map paramT).take k) ++ [sg [41]]))], brT (stmtsT body)] := by
       simp only [methodT, listT, if_pos hn1, hb1, if_true, e0]; simp
      have hz : (List.flatten [List.flatten [modT x.fl, [kw [110, 101, 119]], (sg [40] :: (commaT true ((params.map paramT).take k) ++ [sg [41]]))], brT (stmtsT body)]).length ≤ cap := by rw [← hE]; simp only [cap]; omega
      refine cvl ((hBk hb1 m10 L10).mono ?_)
      rintro r H' m11 hm11 ⟨l11, rfl, rfl⟩
      have q11 : leM m10 m11 := l11
      have L11 := leM_tr L10 q11
      simp only [go_sem, ↓tfi, ↓fti, ↓reduceIte, Mc.cs, q11, and_self]
      clear hBk
      intro p12_0 c12_0 v12_0 hv12_0 hq12_0 s12_0
      intro p12_1 c12_1 v12_1 hv12_1 hq12_1 s12_1
      refine ⟨by kernel_rfl, fun a12 c12 w12 hw12 hc12 r12 => FnV_of ((rjoinL_spec [List.flatten [modT x.fl, [kw [110, 101, 119]], (sg [40] :: (commaT true ((params.map paramT).take k) ++ [sg [41]]))], brT (stmtsT body)] a12 2 c12 _ w12 rfl r12 ⟨⟨p12_0, c12_0, rfl, hq12_0, Rds_upM (leM_tr (.inr hv12_1) (.inr hw12)) s12_0⟩, ⟨⟨p12_1, c12_1, rfl, hq12_1, Rds_upM (.inr hw12) s12_1⟩, trivial⟩⟩ (by decide) hz).mono ?_)⟩
      rintro r H' m12 hm12 ⟨l12, rfl, rfl⟩
      have q12 : leM m11 m12 := leM_tr (leM_tr (.inr hv12_0) (leM_tr (.inr hv12_1) (.inr hw12))) l12
      have L12 := leM_tr L11 q12
      have K12 := leM_tr q11 q12
      simp only [go_sem, ↓tfi, ↓fti, ↓reduceIte, Mc.cs, K12, and_self]
      exact ⟨L12, _, _, rfl, by rw [hE]⟩
     ·clear hBk
      have hE : methodT ⟨x.fl, x.res, x.name, params, x.hb, body⟩ = List.flatten [modT x.fl, [kw [110, 101, 119]], (sg [40] :: (commaT true ((params.map paramT).take k) ++ [sg [41]]))] ++ [sg [59]] := by
       simp only [methodT, listT, if_pos hn1, hb1, e0]; simp
      have hj0 := hj2 k
      have hj3 : (List.flatten [modT x.fl, [kw [110, 101, 119]], (sg [40] :: (commaT true ((params.map paramT).take k) ++ [sg [41]]))] ++ [sg [59]]).length ≤ 100000000 := by rw [← hE]; exact hb
      rw [Lla] at hj3
      have hj4 : [sg [59]].length = 1 := rfl
      rw [hE, Lla, tkCells_app]
      exact ⟨⟨by omega, by simp only [maxLen]; omega⟩, L10, _, _, rfl, rfl⟩
    ·have hn1 : ¬ x.name = initS := hn
     refine ⟨fun hb1 => ?_, fun hb1 => ?_⟩
     ·have hE : methodT ⟨x.fl, x.res, x.name, params, x.hb, body⟩ = List.flatten [List.flatten [modT x.fl, typT x.res.dim x.res.base x.res.name, [nm1 x.name], (sg [40] :: (commaT true ((params.map paramT).take k) ++ [sg [41]]))], brT (stmtsT body)] := by
       simp only [methodT, listT, if_neg hn1, hb1, if_true, e0]; simp
      have hz : (List.flatten [List.flatten [modT x.fl, typT x.res.dim x.res.base x.res.name, [nm1 x.name], (sg [40] :: (commaT true ((params.map paramT).take k) ++ [sg [41]]))], brT (stmtsT body)]).length ≤ cap := by rw [← hE]; simp only [cap]; omega
      refine cvl ((hBk hb1 m6 L6).mono ?_)
      rintro r H' m7 hm7 ⟨l7, rfl, rfl⟩
      have q7 : leM m6 m7 := l7
      have L7 := leM_tr L6 q7
      simp only [go_sem, ↓tfi, ↓fti, ↓reduceIte, Mc.cs, q7, and_self]
      clear hBk
      intro p8_0 c8_0 v8_0 hv8_0 hq8_0 s8_0
      intro p8_1 c8_1 v8_1 hv8_1 hq8_1 s8_1
      refine ⟨by kernel_rfl, fun a8 c8 w8 hw8 hc8 r8 => FnV_of ((rjoinL_spec [List.flatten [modT x.fl, typT x.res.dim x.res.base x.res.name, [nm1 x.name], (sg [40] :: (commaT true ((params.map paramT).take k) ++ [sg [41]]))], brT (stmtsT body)] a8 2 c8 _ w8 rfl r8 ⟨⟨p8_0, c8_0, rfl, hq8_0, Rds_upM (leM_tr (.inr hv8_1) (.inr hw8)) s8_0⟩, ⟨⟨p8_1, c8_1, rfl, hq8_1, Rds_upM (.inr hw8) s8_1⟩, trivial⟩⟩ (by decide) hz).mono ?_)⟩
      rintro r H' m8 hm8 ⟨l8, rfl, rfl⟩
      have q8 : leM m7 m8 := leM_tr (leM_tr (.inr hv8_0) (leM_tr (.inr hv8_1) (.inr hw8))) l8
      have L8 := leM_tr L7 q8
      have K8 := leM_tr q7 q8
      simp only [go_sem, ↓tfi, ↓fti, ↓reduceIte, Mc.cs, K8, and_self]
      exact ⟨L8, _, _, rfl, by rw [hE]⟩
     ·clear hBk
      have hE : methodT ⟨x.fl, x.res, x.name, params, x.hb, body⟩ = List.flatten [modT x.fl, typT x.res.dim x.res.base x.res.name, [nm1 x.name], (sg [40] :: (commaT true ((params.map paramT).take k) ++ [sg [41]]))] ++ [sg [59]] := by
       simp only [methodT, listT, if_neg hn1, hb1, e0]; simp
      have hj0 := hj1 k
      have hj3 : (List.flatten [modT x.fl, typT x.res.dim x.res.base x.res.name, [nm1 x.name], (sg [40] :: (commaT true ((params.map paramT).take k) ++ [sg [41]]))] ++ [sg [59]]).length ≤ 100000000 := by rw [← hE]; exact hb
      rw [Lla] at hj3
      have hj4 : [sg [59]].length = 1 := rfl
      rw [hE, Lla, tkCells_app]
      exact ⟨⟨by omega, by simp only [maxLen]; omega⟩, L6, _, _, rfl, rfl⟩
end Go.Proofs.YtalalcpefggniaaGreatDoor.E

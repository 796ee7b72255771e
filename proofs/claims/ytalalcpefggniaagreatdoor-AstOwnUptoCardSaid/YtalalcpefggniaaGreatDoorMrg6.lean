/- Several texts in one: AstXe, AstXf, AstXh, AstRa, AstRt, AstXi, AstPa, AstPb. -/
import Derived.Lib.ParseIntB
import Derived.Test.YtalalcpefggniaaGreatDoorMrg5
set_option linter.unusedSimpArgs false
set_option linter.unusedVariables false
set_option maxHeartbeats 4000000
set_option maxRecDepth 20000
namespace Go.Proofs.YtalalcpefggniaaGreatDoor.E
open Go

def mheadT (d : Md) : List Tk := modT d.fl ++ (if d.name = initS then [kw [110, 101, 119]] else typT d.res.dim d.res.base d.res.name ++ [nm1 d.name])
def mbodyT (BT : List Tk) (d : Md) : List Tk := if d.hb = true then BT else [sg [59]]
set_option maxHeartbeats 8000000 in
theorem methodW_spec (d : Md) (cs : List Value) (m : Mem) (u : Nat) (acc : List Tk) (h : mdRep m d cs) (hdim : d.res.dim ≤ 1000) (hpd : ∀ p ∈ d.params, p.ty.dim ≤ 1000)
    (hB : ∀ a n c xs m' u acc, leM m m' → n = d.body.length → Rds m' a n 23 xs → stsRep m' d.body xs → acc.length + (brT (stmtsT d.body)).length ≤ cap → WrT 89 [.v (.slice a n c)] m' u acc (brT (stmtsT d.body)))
    (hb : acc.length + (methodT d).length ≤ cap) : WrT 90 [.v (.agg ⟨cs⟩)] m u acc (methodT d) := by
  have hMT : methodT d = mheadT d ++ [sg [40]] ++ commaT true (d.params.map paramT) ++ [sg [41]] ++ mbodyT (brT (stmtsT d.body)) d := by
    simp only [methodT, mheadT, mbodyT, listT, List.append_assoc, List.cons_append, List.nil_append]
  rw [hMT] at hb ⊢
  clear hMT
  obtain ⟨fl, res, name, params, hbb, body⟩ := d
  obtain ⟨x, ⟨rfl, rfl, rfl, rfl, rfl⟩, ⟨hpl, hpc, hl, hcp⟩, hok, r1, xs, r2, s2⟩ := h
  simp only at hpl hl r1 s2 hdim hpd hB
  have hpb : x.pl ≤ big := by rw [hpl]; exact hok.pl
  have hBk := fun m' u acc (hle : leM m m') => hB x.a x.l x.cp xs m' u acc hle hl (Rds_upM hle r2) (stsRep_upM hle s2)
  clear hB s2
  have hB := hBk
  clear hBk
  have hml := modT_len x.fl
  simp only [List.length_append, List.length_cons, List.length_nil, cap] at hb
  refine enter cfW puW Tryz.func90 rfl rfl (by kernel_rfl) rfl ?_ ?_
  · simp only [go_sem, ↓imp_tf, ↓imp_ft, ↓reduceIte, Mc.cs]
  · simp only [go_sem, ↓imp_tf, ↓imp_ft, ↓reduceIte, Mc.cs]
    refine ⟨by kernel_rfl, FnV_of ((mods_spec x.fl m u acc (by clear hB; simp only [cap]; omega)).mono ?_)⟩
    rintro r H' m1 hm1 ⟨l1, rfl, u1, hu1, rfl⟩
    simp only [go_sem, ↓imp_tf, ↓imp_ft, ↓reduceIte, Mc.cs]
    refine ⟨hu1, fun hn => ?_, fun hn => ?_⟩
    · have hH : mheadT ⟨x.fl, x.res, x.name, params, x.hb, body⟩ = modT x.fl ++ [kw [110, 101, 119]] := by rw [mheadT]; simp only; rw [if_pos (show x.name = initS from hn)]
      have hHl := congrArg List.length hH
      simp only [List.length_append, List.length_cons, List.length_nil] at hHl
      refine ⟨by kernel_rfl, fun a2 c2 w2 hw2 hc2 rr2 => FnV_of ((word1 [110, 101, 119] a2 c2 w2 u1 (acc ++ modT x.fl) rr2 (by clear hB; first | omega | (simp only [List.length_append, List.length_cons, List.length_nil]; omega))).mono ?_)⟩
      rintro r H' m2 hm2 ⟨l2, rfl, u2, hu2, rfl⟩
      have k2 := leM_tr (leM_tr l1 (.inr hw2)) l2
      simp only [go_sem, ↓imp_tf, ↓imp_ft, ↓reduceIte, Mc.cs]
      refine ⟨hu2, by kernel_rfl, fun a4 c4 w4 hw4 hc4 rr4 => FnV_of ((sign1 [40] a4 c4 w4 u2 (acc ++ modT x.fl ++ [kw [110, 101, 119]]) rr4 (by clear hB; first | omega | (simp only [List.length_append, List.length_cons, List.length_nil]; omega))).mono ?_)⟩
      rintro r H' m5 hm5 ⟨l5, rfl, u5, hu5, rfl⟩
      have k5 := leM_tr (leM_tr k2 (.inr hw4)) l5
      simp only [go_sem, ↓imp_tf, ↓imp_ft, ↓reduceIte, Mc.cs]
      refine ⟨hu5, ?_⟩
      refine WP_loop puW (fun y : Nat × Nat × List Tk × Mem => ⟨[⟨0, [], .box 0 0⟩, ⟨3, [], .box 2 0⟩, ⟨28, [], .v (.slice x.pa x.pl x.pc)⟩, ⟨29, [], .v (.int .i64 x.pl)⟩, ⟨30, [], .v (.int .i64 y.1)⟩], [], [⟨0, 64, [.vec 1 (u5 + y.2.1)]⟩, ⟨2, 58, x.cs.map .v⟩], [⟨1, u5 + y.2.1, 79, 4, y.2.2.1.length, tkCells y.2.2.1⟩], 100, y.2.2.2⟩)
        (fun y => leM m5 y.2.2.2 ∧ y.1 ≤ x.pl ∧ y.2.2.1 = acc ++ modT x.fl ++ [kw [110, 101, 119]] ++ [sg [40]] ++ commaT true ((params.map paramT).take y.1)) (fun y => x.pl - y.1) (0, 0, acc ++ modT x.fl ++ [kw [110, 101, 119]] ++ [sg [40]], m5) (by kernel_rfl) (fun _ _ => Nat.le_of_ble_eq_true rfl) (fun y hy => hy.1) (fun _ => ?_) ?_ ?_ ?_
      · simp only [go_sem, ↓imp_tf, ↓imp_ft, ↓reduceIte, Mc.cs]
      · simp only [go_sem, ↓imp_tf, ↓imp_ft, ↓reduceIte, Mc.cs]
        exact ⟨rfl, rfl, rfl⟩
      · exact ⟨.inl rfl, Nat.zero_le _, by simp [commaT]⟩
      · rintro ⟨k, v, acc', mm⟩ ⟨h1, h2, h3⟩
        simp only at h1 h2 h3
        have hcl := comma_len (params.map paramT) true k
        have hal := congrArg List.length h3
        simp only [List.length_append, List.length_cons, List.length_nil] at hal
        have hy : ∀ (hk : k < params.length), Rd mm (ptrAt x.pa (k * 4)) (params[k]).cs ∧ x.pa ≠ none := fun hk => by
          have := Rds_cells (Rds_upM (leM_tr k5 h1) r1) (by omega : k < x.pl)
          rw [flat_at (f := Pc.cs) (sz := 4) (fun _ => rfl) hk] at this
          exact this
        have hct : ∀ (hk : k < params.length), acc ++ modT x.fl ++ [kw [110, 101, 119]] ++ [sg [40]] ++ commaT true ((params.map paramT).take (k + 1)) = acc' ++ (if 0 < k then [sg [44]] else []) ++ typT (params[k]).ty.dim (params[k]).ty.base (params[k]).ty.name ++ [nm1 (params[k]).name] := fun hk => by
          rw [comma_take (by simpa using hk), h3]
          by_cases h0 : 0 < k <;> simp [h0, paramT]
        have hlen : ∀ (hk : k < params.length), (acc' ++ (if 0 < k then [sg [44]] else []) ++ typT (params[k]).ty.dim (params[k]).ty.base (params[k]).ty.name ++ [nm1 (params[k]).name]).length ≤ 800000000 := fun hk => by
          rw [← hct hk]
          have := comma_len (params.map paramT) true (k + 1)
          simp only [List.length_append, List.length_cons, List.length_nil]
          clear hB
          omega
        simp only [go_sem, ↓imp_tf, ↓imp_ft, ↓reduceIte, Mc.cs]
        refine ⟨fun hlt => ?_, fun hge => ?_⟩
        · have hk : k < params.length := by clear hB; omega
          have hdk := hpd _ (List.getElem_mem hk)
          refine ⟨⟨by clear hB; omega, hlt, (hy hk).2⟩, (params[k]).cs, ⟨(hy hk).1, rfl⟩, ?_⟩
          have hct2 := hct hk
          have hlen2 := hlen hk
          clear hct hlen hy
          simp only [go_sem, ↓imp_tf, ↓imp_ft, ↓reduceIte, Mc.cs, Pc.cs]
          refine ⟨fun h0 => ?_, fun h0 => ?_⟩
          · have h0k : 0 < k := by clear hB; omega
            rw [if_pos h0k] at hct2 hlen2
            simp only [List.length_append, List.length_cons, List.length_nil] at hlen2
            refine ⟨by kernel_rfl, fun a6 c6 w6 hw6 hc6 rr6 => FnV_of ((sign1 [44] a6 c6 w6 (u5 + v) acc' rr6 (by clear hB; omega)).mono ?_)⟩
            rintro r H' m6 hm6 ⟨l6, rfl, u6, hu6, rfl⟩
            have k6 := leM_tr (leM_tr h1 (.inr hw6)) l6
            simp only [go_sem, ↓imp_tf, ↓imp_ft, ↓reduceIte, Mc.cs, Pc.cs]
            refine ⟨hu6, by kernel_rfl, FnV_of ((FnH_den (typ_spec (params[k]).ty.dim (params[k]).ty.base (params[k]).ty.name m6 (u6) (acc' ++ [sg [44]]) hdk (by clear hB; first | omega | (simp only [List.length_append, List.length_cons, List.length_nil]; omega))) (fun V => rfl)).mono ?_)⟩
            rintro r H' m7 hm7 ⟨l7, rfl, u7, hu7, rfl⟩
            have k7 := leM_tr k6 l7
            simp only [go_sem, ↓imp_tf, ↓imp_ft, ↓reduceIte, Mc.cs, Pc.cs]
            refine ⟨hu7, by kernel_rfl, FnV_of ((name_spec (params[k]).name m7 u7 (acc' ++ [sg [44]] ++ typT (params[k]).ty.dim (params[k]).ty.base (params[k]).ty.name) (by clear hB; simp only [room1, List.length_append, List.length_cons, List.length_nil]; omega)).mono ?_)⟩
            rintro r H' m8 hm8 ⟨l8, rfl, u8, hu8, rfl⟩
            simp only [go_sem, ↓imp_tf, ↓imp_ft, ↓reduceIte, Mc.cs, Pc.cs]
            refine ⟨hu8, by clear hB; unfold I64; simp only [big] at hpb; omega, (k + 1, u8 - u5, acc' ++ [sg [44]] ++ typT (params[k]).ty.dim (params[k]).ty.base (params[k]).ty.name ++ [nm1 (params[k]).name], m8), ⟨by simp, by rw [show u5 + (u8 - u5) = u8 by omega], ⟨by simp only; omega, rfl, rfl⟩, .inl rfl⟩, ⟨leM_tr k7 l8, by simp only; omega, ?_⟩, by simp only; omega⟩
            simp only
            rw [hct2]
          · have h0k : ¬ 0 < k := by clear hB; omega
            rw [if_neg h0k, List.append_nil] at hct2 hlen2
            simp only [List.length_append, List.length_cons, List.length_nil] at hlen2
            refine ⟨by kernel_rfl, FnV_of ((FnH_den (typ_spec (params[k]).ty.dim (params[k]).ty.base (params[k]).ty.name mm (u5 + v) (acc') hdk (by clear hB; first | omega | (simp only [List.length_append, List.length_cons, List.length_nil]; omega))) (fun V => rfl)).mono ?_)⟩
            rintro r H' m7 hm7 ⟨l7, rfl, u7, hu7, rfl⟩
            have k7 := leM_tr h1 l7
            simp only [go_sem, ↓imp_tf, ↓imp_ft, ↓reduceIte, Mc.cs, Pc.cs]
            refine ⟨hu7, by kernel_rfl, FnV_of ((name_spec (params[k]).name m7 u7 (acc' ++ typT (params[k]).ty.dim (params[k]).ty.base (params[k]).ty.name) (by clear hB; simp only [room1, List.length_append, List.length_cons, List.length_nil]; omega)).mono ?_)⟩
            rintro r H' m8 hm8 ⟨l8, rfl, u8, hu8, rfl⟩
            simp only [go_sem, ↓imp_tf, ↓imp_ft, ↓reduceIte, Mc.cs, Pc.cs]
            refine ⟨hu8, by clear hB; unfold I64; simp only [big] at hpb; omega, (k + 1, u8 - u5, acc' ++ typT (params[k]).ty.dim (params[k]).ty.base (params[k]).ty.name ++ [nm1 (params[k]).name], m8), ⟨by simp, by rw [show u5 + (u8 - u5) = u8 by omega], ⟨by simp only; omega, rfl, rfl⟩, .inl rfl⟩, ⟨leM_tr k7 l8, by simp only; omega, ?_⟩, by simp only; omega⟩
            simp only
            rw [hct2]
        · clear hy hct hlen
          rw [List.take_of_length_le (by clear hB; simp; omega)] at h3 hal hcl
          refine ⟨by kernel_rfl, fun a9 c9 w9 hw9 hc9 rr9 => FnV_of ((sign1 [41] a9 c9 w9 (u5 + v) acc' rr9 (by clear hB; omega)).mono ?_)⟩
          rintro r H' m9 hm9 ⟨l9, rfl, u9, hu9, rfl⟩
          have k9 := leM_tr (leM_tr (leM_tr k5 h1) (.inr hw9)) l9
          simp only [go_sem, ↓imp_tf, ↓imp_ft, ↓reduceIte, Mc.cs]
          have fin : acc' ++ [sg [41]] ++ mbodyT (brT (stmtsT body)) ⟨x.fl, x.res, x.name, params, x.hb, body⟩ = acc ++ (mheadT ⟨x.fl, x.res, x.name, params, x.hb, body⟩ ++ [sg [40]] ++ commaT true (params.map paramT) ++ [sg [41]] ++ mbodyT (brT (stmtsT body)) ⟨x.fl, x.res, x.name, params, x.hb, body⟩) := by
            rw [h3, hH]
            simp only [List.append_assoc, List.cons_append, List.nil_append]
          refine ⟨hu9, fun hh => ?_, fun hh => ?_⟩
          · have hmb : mbodyT (brT (stmtsT body)) ⟨x.fl, x.res, x.name, params, x.hb, body⟩ = brT (stmtsT body) := by rw [mbodyT]; simp only; rw [if_pos hh]
            have hmbl := congrArg List.length hmb
            refine ⟨by kernel_rfl, FnV_of ((hB m9 u9 (acc' ++ [sg [41]]) k9 (by clear hB; simp only [List.length_append, List.length_cons, List.length_nil, cap]; omega)).mono ?_)⟩
            clear hB
            rintro r H' ma hma ⟨la, rfl, ua, hua, rfl⟩
            simp only [go_sem, ↓imp_tf, ↓imp_ft, ↓reduceIte, Mc.cs]
            refine ⟨hua, leM_tr k9 la, ua, by omega, ?_⟩
            rw [← fin, hmb]
          · have hmb : mbodyT (brT (stmtsT body)) ⟨x.fl, x.res, x.name, params, x.hb, body⟩ = [sg [59]] := by rw [mbodyT]; simp only; rw [if_neg (by rw [hh]; decide)]
            have hmbl := congrArg List.length hmb
            clear hB
            refine ⟨by kernel_rfl, fun ab cb wb hwb hcb rrb => FnV_of ((sign1 [59] ab cb wb u9 (acc' ++ [sg [41]]) rrb (by simp only [List.length_append, List.length_cons, List.length_nil]; omega)).mono ?_)⟩
            rintro r H' ma hma ⟨la, rfl, ua, hua, rfl⟩
            simp only [go_sem, ↓imp_tf, ↓imp_ft, ↓reduceIte, Mc.cs]
            refine ⟨hua, leM_tr (leM_tr k9 (.inr hwb)) la, ua, by omega, ?_⟩
            rw [← fin, hmb]
    · have hH : mheadT ⟨x.fl, x.res, x.name, params, x.hb, body⟩ = modT x.fl ++ typT x.res.dim x.res.base x.res.name ++ [nm1 x.name] := by rw [mheadT]; simp only; rw [if_neg (show ¬ x.name = initS from hn)]; simp only [List.append_assoc]
      have hHl := congrArg List.length hH
      simp only [List.length_append, List.length_cons, List.length_nil] at hHl
      refine ⟨by kernel_rfl, FnV_of ((FnH_den (typ_spec x.res.dim x.res.base x.res.name m1 u1 (acc ++ modT x.fl) hdim (by clear hB; first | omega | (simp only [List.length_append, List.length_cons, List.length_nil]; omega))) (fun V => rfl)).mono ?_)⟩
      rintro r H' m2 hm2 ⟨l2, rfl, u2, hu2, rfl⟩
      have k2 := leM_tr l1 l2
      simp only [go_sem, ↓imp_tf, ↓imp_ft, ↓reduceIte, Mc.cs]
      refine ⟨hu2, by kernel_rfl, FnV_of ((name_spec x.name m2 u2 (acc ++ modT x.fl ++ typT x.res.dim x.res.base x.res.name) (by clear hB; simp only [room1, List.length_append, List.length_cons, List.length_nil]; omega)).mono ?_)⟩
      rintro r H' m3 hm3 ⟨l3, rfl, u3, hu3, rfl⟩
      have k3 := leM_tr k2 l3
      simp only [go_sem, ↓imp_tf, ↓imp_ft, ↓reduceIte, Mc.cs]
      refine ⟨hu3, by kernel_rfl, fun a4 c4 w4 hw4 hc4 rr4 => FnV_of ((sign1 [40] a4 c4 w4 u3 (acc ++ modT x.fl ++ typT x.res.dim x.res.base x.res.name ++ [nm1 x.name]) rr4 (by clear hB; first | omega | (simp only [List.length_append, List.length_cons, List.length_nil]; omega))).mono ?_)⟩
      rintro r H' m5 hm5 ⟨l5, rfl, u5, hu5, rfl⟩
      have k5 := leM_tr (leM_tr k3 (.inr hw4)) l5
      simp only [go_sem, ↓imp_tf, ↓imp_ft, ↓reduceIte, Mc.cs]
      refine ⟨hu5, ?_⟩
      refine WP_loop puW (fun y : Nat × Nat × List Tk × Mem => ⟨[⟨0, [], .box 0 0⟩, ⟨3, [], .box 2 0⟩, ⟨28, [], .v (.slice x.pa x.pl x.pc)⟩, ⟨29, [], .v (.int .i64 x.pl)⟩, ⟨30, [], .v (.int .i64 y.1)⟩], [], [⟨0, 64, [.vec 1 (u5 + y.2.1)]⟩, ⟨2, 58, x.cs.map .v⟩], [⟨1, u5 + y.2.1, 79, 4, y.2.2.1.length, tkCells y.2.2.1⟩], 100, y.2.2.2⟩)
        (fun y => leM m5 y.2.2.2 ∧ y.1 ≤ x.pl ∧ y.2.2.1 = acc ++ modT x.fl ++ typT x.res.dim x.res.base x.res.name ++ [nm1 x.name] ++ [sg [40]] ++ commaT true ((params.map paramT).take y.1)) (fun y => x.pl - y.1) (0, 0, acc ++ modT x.fl ++ typT x.res.dim x.res.base x.res.name ++ [nm1 x.name] ++ [sg [40]], m5) (by kernel_rfl) (fun _ _ => Nat.le_of_ble_eq_true rfl) (fun y hy => hy.1) (fun _ => ?_) ?_ ?_ ?_
      · simp only [go_sem, ↓imp_tf, ↓imp_ft, ↓reduceIte, Mc.cs]
      · simp only [go_sem, ↓imp_tf, ↓imp_ft, ↓reduceIte, Mc.cs]
        exact ⟨rfl, rfl, rfl⟩
      · exact ⟨.inl rfl, Nat.zero_le _, by simp [commaT]⟩
      · rintro ⟨k, v, acc', mm⟩ ⟨h1, h2, h3⟩
        simp only at h1 h2 h3
        have hcl := comma_len (params.map paramT) true k
        have hal := congrArg List.length h3
        simp only [List.length_append, List.length_cons, List.length_nil] at hal
        have hy : ∀ (hk : k < params.length), Rd mm (ptrAt x.pa (k * 4)) (params[k]).cs ∧ x.pa ≠ none := fun hk => by
          have := Rds_cells (Rds_upM (leM_tr k5 h1) r1) (by omega : k < x.pl)
          rw [flat_at (f := Pc.cs) (sz := 4) (fun _ => rfl) hk] at this
          exact this
        have hct : ∀ (hk : k < params.length), acc ++ modT x.fl ++ typT x.res.dim x.res.base x.res.name ++ [nm1 x.name] ++ [sg [40]] ++ commaT true ((params.map paramT).take (k + 1)) = acc' ++ (if 0 < k then [sg [44]] else []) ++ typT (params[k]).ty.dim (params[k]).ty.base (params[k]).ty.name ++ [nm1 (params[k]).name] := fun hk => by
          rw [comma_take (by simpa using hk), h3]
          by_cases h0 : 0 < k <;> simp [h0, paramT]
        have hlen : ∀ (hk : k < params.length), (acc' ++ (if 0 < k then [sg [44]] else []) ++ typT (params[k]).ty.dim (params[k]).ty.base (params[k]).ty.name ++ [nm1 (params[k]).name]).length ≤ 800000000 := fun hk => by
          rw [← hct hk]
          have := comma_len (params.map paramT) true (k + 1)
          simp only [List.length_append, List.length_cons, List.length_nil]
          clear hB
          omega
        simp only [go_sem, ↓imp_tf, ↓imp_ft, ↓reduceIte, Mc.cs]
        refine ⟨fun hlt => ?_, fun hge => ?_⟩
        · have hk : k < params.length := by clear hB; omega
          have hdk := hpd _ (List.getElem_mem hk)
          refine ⟨⟨by clear hB; omega, hlt, (hy hk).2⟩, (params[k]).cs, ⟨(hy hk).1, rfl⟩, ?_⟩
          have hct2 := hct hk
          have hlen2 := hlen hk
          clear hct hlen hy
          simp only [go_sem, ↓imp_tf, ↓imp_ft, ↓reduceIte, Mc.cs, Pc.cs]
          refine ⟨fun h0 => ?_, fun h0 => ?_⟩
          · have h0k : 0 < k := by clear hB; omega
            rw [if_pos h0k] at hct2 hlen2
            simp only [List.length_append, List.length_cons, List.length_nil] at hlen2
            refine ⟨by kernel_rfl, fun a6 c6 w6 hw6 hc6 rr6 => FnV_of ((sign1 [44] a6 c6 w6 (u5 + v) acc' rr6 (by clear hB; omega)).mono ?_)⟩
            rintro r H' m6 hm6 ⟨l6, rfl, u6, hu6, rfl⟩
            have k6 := leM_tr (leM_tr h1 (.inr hw6)) l6
            simp only [go_sem, ↓imp_tf, ↓imp_ft, ↓reduceIte, Mc.cs, Pc.cs]
            refine ⟨hu6, by kernel_rfl, FnV_of ((FnH_den (typ_spec (params[k]).ty.dim (params[k]).ty.base (params[k]).ty.name m6 (u6) (acc' ++ [sg [44]]) hdk (by clear hB; first | omega | (simp only [List.length_append, List.length_cons, List.length_nil]; omega))) (fun V => rfl)).mono ?_)⟩
            rintro r H' m7 hm7 ⟨l7, rfl, u7, hu7, rfl⟩
            have k7 := leM_tr k6 l7
            simp only [go_sem, ↓imp_tf, ↓imp_ft, ↓reduceIte, Mc.cs, Pc.cs]
            refine ⟨hu7, by kernel_rfl, FnV_of ((name_spec (params[k]).name m7 u7 (acc' ++ [sg [44]] ++ typT (params[k]).ty.dim (params[k]).ty.base (params[k]).ty.name) (by clear hB; simp only [room1, List.length_append, List.length_cons, List.length_nil]; omega)).mono ?_)⟩
            rintro r H' m8 hm8 ⟨l8, rfl, u8, hu8, rfl⟩
            simp only [go_sem, ↓imp_tf, ↓imp_ft, ↓reduceIte, Mc.cs, Pc.cs]
            refine ⟨hu8, by clear hB; unfold I64; simp only [big] at hpb; omega, (k + 1, u8 - u5, acc' ++ [sg [44]] ++ typT (params[k]).ty.dim (params[k]).ty.base (params[k]).ty.name ++ [nm1 (params[k]).name], m8), ⟨by simp, by rw [show u5 + (u8 - u5) = u8 by omega], ⟨by simp only; omega, rfl, rfl⟩, .inl rfl⟩, ⟨leM_tr k7 l8, by simp only; omega, ?_⟩, by simp only; omega⟩
            simp only
            rw [hct2]
          · have h0k : ¬ 0 < k := by clear hB; omega
            rw [if_neg h0k, List.append_nil] at hct2 hlen2
            simp only [List.length_append, List.length_cons, List.length_nil] at hlen2
            refine ⟨by kernel_rfl, FnV_of ((FnH_den (typ_spec (params[k]).ty.dim (params[k]).ty.base (params[k]).ty.name mm (u5 + v) (acc') hdk (by clear hB; first | omega | (simp only [List.length_append, List.length_cons, List.length_nil]; omega))) (fun V => rfl)).mono ?_)⟩
            rintro r H' m7 hm7 ⟨l7, rfl, u7, hu7, rfl⟩
            have k7 := leM_tr h1 l7
            simp only [go_sem, ↓imp_tf, ↓imp_ft, ↓reduceIte, Mc.cs, Pc.cs]
            refine ⟨hu7, by kernel_rfl, FnV_of ((name_spec (params[k]).name m7 u7 (acc' ++ typT (params[k]).ty.dim (params[k]).ty.base (params[k]).ty.name) (by clear hB; simp only [room1, List.length_append, List.length_cons, List.length_nil]; omega)).mono ?_)⟩
            rintro r H' m8 hm8 ⟨l8, rfl, u8, hu8, rfl⟩
            simp only [go_sem, ↓imp_tf, ↓imp_ft, ↓reduceIte, Mc.cs, Pc.cs]
            refine ⟨hu8, by clear hB; unfold I64; simp only [big] at hpb; omega, (k + 1, u8 - u5, acc' ++ typT (params[k]).ty.dim (params[k]).ty.base (params[k]).ty.name ++ [nm1 (params[k]).name], m8), ⟨by simp, by rw [show u5 + (u8 - u5) = u8 by omega], ⟨by simp only; omega, rfl, rfl⟩, .inl rfl⟩, ⟨leM_tr k7 l8, by simp only; omega, ?_⟩, by simp only; omega⟩
            simp only
            rw [hct2]
        · clear hy hct hlen
          rw [List.take_of_length_le (by clear hB; simp; omega)] at h3 hal hcl
          refine ⟨by kernel_rfl, fun a9 c9 w9 hw9 hc9 rr9 => FnV_of ((sign1 [41] a9 c9 w9 (u5 + v) acc' rr9 (by clear hB; omega)).mono ?_)⟩
          rintro r H' m9 hm9 ⟨l9, rfl, u9, hu9, rfl⟩
          have k9 := leM_tr (leM_tr (leM_tr k5 h1) (.inr hw9)) l9
          simp only [go_sem, ↓imp_tf, ↓imp_ft, ↓reduceIte, Mc.cs]
          have fin : acc' ++ [sg [41]] ++ mbodyT (brT (stmtsT body)) ⟨x.fl, x.res, x.name, params, x.hb, body⟩ = acc ++ (mheadT ⟨x.fl, x.res, x.name, params, x.hb, body⟩ ++ [sg [40]] ++ commaT true (params.map paramT) ++ [sg [41]] ++ mbodyT (brT (stmtsT body)) ⟨x.fl, x.res, x.name, params, x.hb, body⟩) := by
            rw [h3, hH]
            simp only [List.append_assoc, List.cons_append, List.nil_append]
          refine ⟨hu9, fun hh => ?_, fun hh => ?_⟩
          · have hmb : mbodyT (brT (stmtsT body)) ⟨x.fl, x.res, x.name, params, x.hb, body⟩ = brT (stmtsT body) := by rw [mbodyT]; simp only; rw [if_pos hh]
            have hmbl := congrArg List.length hmb
            refine ⟨by kernel_rfl, FnV_of ((hB m9 u9 (acc' ++ [sg [41]]) k9 (by clear hB; simp only [List.length_append, List.length_cons, List.length_nil, cap]; omega)).mono ?_)⟩
            clear hB
            rintro r H' ma hma ⟨la, rfl, ua, hua, rfl⟩
            simp only [go_sem, ↓imp_tf, ↓imp_ft, ↓reduceIte, Mc.cs]
            refine ⟨hua, leM_tr k9 la, ua, by omega, ?_⟩
            rw [← fin, hmb]
          · have hmb : mbodyT (brT (stmtsT body)) ⟨x.fl, x.res, x.name, params, x.hb, body⟩ = [sg [59]] := by rw [mbodyT]; simp only; rw [if_neg (by rw [hh]; decide)]
            have hmbl := congrArg List.length hmb
            clear hB
            refine ⟨by kernel_rfl, fun ab cb wb hwb hcb rrb => FnV_of ((sign1 [59] ab cb wb u9 (acc' ++ [sg [41]]) rrb (by simp only [List.length_append, List.length_cons, List.length_nil]; omega)).mono ?_)⟩
            rintro r H' ma hma ⟨la, rfl, ua, hua, rfl⟩
            simp only [go_sem, ↓imp_tf, ↓imp_ft, ↓reduceIte, Mc.cs]
            refine ⟨hua, leM_tr (leM_tr k9 (.inr hwb)) la, ua, by omega, ?_⟩
            rw [← fin, hmb]
theorem wrOk_of {d : Cd} {m : Mem} (hv : classL d = true) (hok : CdOk d) : WrOk d m := by
  simp only [classL, Bool.and_eq_true] at hv
  obtain ⟨_, ⟨⟨⟨_, hF⟩, hM⟩, hI⟩⟩ := hv
  have hF' : ∀ f ∈ d.fields, fieldL f = true := fun f hf => by
    rw [Bool.not_eq_true', List.any_eq_false] at hF
    simpa using hF f hf
  have hM' : ∀ f ∈ d.methods, methodL f = true := fun f hf => by
    rw [Bool.not_eq_true', List.any_eq_false] at hM
    simpa using hM f hf
  refine ⟨fun f hf => ?_, fun _ a n c xs m' u acc hle hn hr hs hb => ?_, fun e he cs m' u acc hle hrep hb => ?_⟩
  · have := hF' f hf
    simp only [fieldL, Bool.and_eq_true] at this
    have := value_dim this.1.1.1
    omega
  · simp only [blockL, Bool.and_eq_true] at hI
    exact blockW_spec d.init a n c xs m' u acc hn.symm (by rw [hn]; exact hok.l) hr hs (fun e he => stmtW_all _ e m' (Nat.le_refl _) (validSs_mem hI.2 e he)) hb
  · have hv := hM' e he
    simp only [methodL, Bool.and_eq_true] at hv
    obtain ⟨⟨⟨h1, h2⟩, h3⟩, h4⟩ := hv
    have hP : ∀ p ∈ e.params, paramL p = true := fun p hp => by
      rw [Bool.not_eq_true', List.any_eq_false] at h3
      simpa using h3 p hp
    simp only [blockL, Bool.and_eq_true] at h4
    have hl := hrep
    obtain ⟨X, _, ⟨_, _, _, _⟩, hmo, _⟩ := hl
    refine methodW_spec e cs m' u acc hrep ?_ (fun p hp => ?_) (fun a n c xs m2 u acc hle2 hn hr hs hb => blockW_spec e.body a n c xs m2 u acc hn.symm (by rw [hn]; exact hmo.l) hr hs (fun s hs => stmtW_all _ s m2 (Nat.le_refl _) (validSs_mem h4.2 s hs)) hb) hb
    · simp only [mHead] at h1
      split at h1
      · simp only [Bool.and_eq_true, voidTy, decide_eq_true_eq] at h1
        omega
      · simp only [Bool.and_eq_true, Bool.or_eq_true, voidTy, decide_eq_true_eq] at h1
        rcases h1.2 with g | g
        · omega
        · have := value_dim g; omega
    · have := hP p hp
      simp only [paramL, Bool.and_eq_true] at this
      have := value_dim this.1
      omega
end Go.Proofs.YtalalcpefggniaaGreatDoor.E

namespace Go.Proofs.YtalalcpefggniaaGreatDoor.E
open Go

/-! What lies in memory is of bounded size. -/
mutual
def wfS : St → Prop
  | .mk _ nm ty tg ex body alt => nm.length ≤ big ∧ TyOk ty ∧ wfE tg ∧ wfE ex ∧ wfSs body ∧ wfSs alt
def wfSs : List St → Prop
  | [] => True
  | e :: r => wfS e ∧ wfSs r
end
mutual
theorem wfS_rep {m : Mem} : ∀ (e : St) (cs : List Value), stRep m e cs → wfS e
  | .mk k nm ty tg ex body alt, cs, h => by
    obtain ⟨x, _, _, _, _, h5, h6, _, _, _, _, h11, xs, ys, _, _, h14, h15⟩ := st_parts h
    simp only [wfS]
    exact ⟨h11.nm, h11.ty, wfE_rep _ _ h5, wfE_rep _ _ h6, wfSs_rep _ _ h14, wfSs_rep _ _ h15⟩
theorem wfSs_rep {m : Mem} : ∀ (l : List St) (xs : List Value), stsRep m l xs → wfSs l
  | [], _, _ => by simp only [wfSs]
  | e :: r, xs, h => by
    simp only [stsRep] at h
    simp only [wfSs]
    exact ⟨wfS_rep e _ h.1, wfSs_rep r _ h.2⟩
end
def wfC (d : Cd) : Prop := CdOk d ∧ wfSs d.init ∧ ∀ e ∈ d.methods, MdOk e ∧ wfSs e.body
theorem ls_mem {α : Type} {R : α → List Value → Prop} {sz : Nat} : ∀ {l : List α} {xs : List Value}, lsRep R sz l xs → ∀ e ∈ l, ∃ cs, R e cs
  | [], _, _, e, he => by cases he
  | x :: r, xs, h, e, he => by
    rcases List.mem_cons.1 he with rfl | he
    · exact ⟨_, h.1⟩
    · exact ls_mem h.2 e he
theorem wfC_rep {m : Mem} {d : Cd} {cs : List Value} (h : cdRep m d cs) : wfC d := by
  obtain ⟨x, _, _, hok, _, _, xs, ys, _, s3, _, s4⟩ := h
  refine ⟨hok, wfSs_rep _ _ s4, fun e he => ?_⟩
  obtain ⟨cs, x, _, _, h1, _, zs, _, h2⟩ := ls_mem s3 e he
  exact ⟨h1, wfSs_rep _ _ h2⟩
theorem wfP_rep {m : Mem} {l : List Cd} {a : Option Addr} {n c : Nat} (h : prRep m l a n c) : ∀ d ∈ l, wfC d := fun d hd => by
  obtain ⟨_, _, _, xs, _, s⟩ := h
  obtain ⟨cs, h⟩ := ls_mem s d hd
  exact wfC_rep h
/-- What is asked of signs and words. -/
structure SsOk (p : Tk → Prop) : Prop where
  b : SgOk p
  lc : p (sg [123])
  rc : p (sg [125])
  semi : p (sg [59])
  eq : p (sg [61])
  kif : p (kw [105, 102])
  kelse : p (kw [101, 108, 115, 101])
  kwhile : p (kw [119, 104, 105, 108, 101])
  ktry : p (kw [116, 114, 121])
  kcatch : p (kw [99, 97, 116, 99, 104])
  ksync : p (kw [115, 121, 110, 99])
  kret : p (kw [114, 101, 116, 117, 114, 110])
  kthrow : p (kw [116, 104, 114, 111, 119])
  kstat : p (kw [115, 116, 97, 116, 105, 99])
  kclass : p (kw [99, 108, 97, 115, 115])
  kiface : p (kw [105, 110, 116, 101, 114, 102, 97, 99, 101])
  kext : p (kw [101, 120, 116, 101, 110, 100, 115])
  kimpl : p (kw [105, 109, 112, 108, 101, 109, 101, 110, 116, 115])
  mods : ∀ x ∈ modsL, p (kw x.2)
/-- .. and of names and literals. -/
structure TkP (p : Tk → Prop) : Prop where
  s : SsOk p
  nm : ∀ s, (identL s = true ∨ isCls s = true) → s.length ≤ big → p (nm1 s)
  int : ∀ n : Int, 0 ≤ n → n ≤ 2147483647 → p ⟨3, [], n, 0⟩
  long : ∀ n : Int, 0 ≤ n → I64 n → p ⟨4, [], n, 0⟩
  str : ∀ s, printL s = true → p ⟨5, s, 0, 0⟩
  op : ∀ s ∈ opsL, p (sg s)
  neg : p (sg [45])
  not : p (sg [33])
theorem tkP_ok : TkP TkOk where
  s := by
    refine ⟨sgOk_ok, ok_sg (by decide), ok_sg (by decide), ok_sg (by decide), ok_sg (by decide), ok_kw (by decide), ok_kw (by decide), ok_kw (by decide), ok_kw (by decide), ok_kw (by decide), ok_kw (by decide), ok_kw (by decide), ok_kw (by decide), ok_kw (by decide), ok_kw (by decide), ok_kw (by decide), ok_kw (by decide), ok_kw (by decide), fun x hx => ok_kw ?_⟩
    have : modsL.all fun x => decide (x.2.length ≤ 2000000) := by decide
    simpa using List.all_eq_true.1 this x hx
  nm := fun s _ h => ok_nm h
  int := fun n h1 h2 => ⟨Nat.zero_le _, by unfold I64; simp only; omega⟩
  long := fun n _ h => ⟨Nat.zero_le _, h⟩
  str := fun s h => by
    simp only [printL, Bool.and_eq_true, decide_eq_true_eq] at h
    exact ⟨by simp only; omega, (by unfold I64; decide : I64 0)⟩
  op := fun s h => by
    have : opsL.all fun x => decide (x.length ≤ 2000000) := by decide
    exact ok_sg (by simpa using List.all_eq_true.1 this s h)
  neg := ok_sg (by decide)
  not := ok_sg (by decide)
theorem typ_p {p : Tk → Prop} (hp : TkP p) {t : Ty} (hw : TyOk t) (h : valueTy t.dim t.base t.name = true) : AllT p (typT t.dim t.base t.name) := by
  refine allT_typ hp.s.b _ _ fun h1 h2 h3 => hp.nm _ (.inr ?_) hw.2.2
  simp only [valueTy, Bool.and_eq_true, decide_eq_true_eq, Bool.or_eq_true] at h
  rcases h.2 with g | g
  · have hv := h.1.1
    exfalso
    simp [validTy, h1, h2, h3, g] at hv
  · exact g
mutual
theorem tks_p {p : Tk → Prop} (hp : TkP p) : ∀ (e : Ex), wfE e → validE e = true → AllT p (exprT e)
  | .mk k n s c ty args, h, hv => by
    simp only [wfE] at h
    obtain ⟨⟨h1, h2, h3, h4, h5, h6⟩, h7⟩ := h
    simp only [validE, Bool.and_eq_true] at hv
    obtain ⟨hn, hvs⟩ := hv
    simp only [exprT]
    have hn2 := hn
    simp only [nodeL, Bool.and_eq_true, decide_eq_true_eq] at hn
    obtain ⟨⟨⟨⟨⟨_, _⟩, _⟩, hi⟩, hc⟩, ht⟩ := hn
    refine node_all hp.s.b (tkss_p hp args h7 hvs) (fun hk => ?_) (fun hk => ?_) (fun hk => ?_) (fun hk => ?_) (fun hk => ?_) (fun hk => ?_) (fun hk g1 g2 g3 => ?_)
    · subst hk
      have hi : litL 1 n s = true := hi
      simp only [litL, if_true, Bool.and_eq_true, decide_eq_true_eq] at hi
      exact hp.int n hi.1.1 hi.1.2
    · subst hk
      have hi : litL 2 n s = true := hi
      have hi : (decide (0 ≤ n) && decide (s = [])) = true := hi
      simp only [Bool.and_eq_true, decide_eq_true_eq] at hi
      exact hp.long n hi.1 h2
    · subst hk
      have hi : (decide (n = 0) && printL s) = true := hi
      simp only [Bool.and_eq_true, decide_eq_true_eq] at hi
      exact hp.str s hi.2
    · rw [if_pos hk] at hi
      simp only [Bool.and_eq_true] at hi
      exact hp.nm s (.inl hi.1) h3
    · rw [if_pos hk] at hc
      exact hp.nm c (.inr hc) h4
    · rcases hk with rfl | rfl
      · have hi : (decide (n = 0) && (decide (s = [45]) || decide (s = [33]))) = true := hi
        simp only [Bool.and_eq_true, Bool.or_eq_true, decide_eq_true_eq] at hi
        rcases hi.2 with rfl | rfl
        · exact hp.neg
        · exact hp.not
      · have hi : (decide (n = 0) && opsL.contains s) = true := hi
        simp only [Bool.and_eq_true, decide_eq_true_eq, List.contains_iff_mem] at hi
        exact hp.op s hi.2
    · rw [if_pos hk] at ht
      simp only [Bool.and_eq_true] at ht
      have := typ_p hp (t := ty) h5 ht.1
      have h0 := this (baseT ty.base ty.name) (List.mem_cons_self ..)
      unfold baseT at h0
      rwa [if_neg g1, if_neg g2, if_neg g3] at h0
theorem tkss_p {p : Tk → Prop} (hp : TkP p) : ∀ (l : List Ex), wfEs l → validEs l = true → ∀ x ∈ exprTs l, AllT p x.2
  | [], _, _ => fun x hx => by simp only [exprTs] at hx; cases hx
  | e :: r, h, hv => by
    simp only [wfEs] at h
    simp only [validEs, Bool.and_eq_true] at hv
    intro x hx
    simp only [exprTs] at hx
    rcases List.mem_cons.1 hx with rfl | hx
    · exact tks_p hp e h.1 hv.1
    · exact tkss_p hp r h.2 hv.2 x hx
end
theorem wfEs_mem : ∀ {l : List Ex}, wfEs l → ∀ e ∈ l, wfE e
  | [], _, e, he => by cases he
  | x :: r, h, e, he => by
    simp only [wfEs] at h
    rcases List.mem_cons.1 he with rfl | he
    · exact h.1
    · exact wfEs_mem h.2 e he
theorem wfSs_mem : ∀ {l : List St}, wfSs l → ∀ e ∈ l, wfS e
  | [], _, e, he => by cases he
  | x :: r, h, e, he => by
    simp only [wfSs] at h
    rcases List.mem_cons.1 he with rfl | he
    · exact h.1
    · exact wfSs_mem h.2 e he
theorem wfE_args {e : Ex} (h : wfE e) : wfEs e.args := by
  cases e with
  | mk k n s c ty args => simp only [wfE] at h; exact h.2
theorem br_p {p : Tk → Prop} (hp : SsOk p) {t : List Tk} (h : AllT p t) : AllT p (brT t) := allT_cons hp.lc (allT_app h (allT_one hp.rc))
theorem args_p {p : Tk → Prop} (hp : TkP p) {l : List Ex} (h : wfEs l) (hv : validEs l = true) : AllT p (listT (l.map exprT)) :=
  allT_list hp.s.b fun t ht => by
    obtain ⟨e, he, rfl⟩ := List.mem_map.1 ht
    exact tks_p hp e (wfEs_mem h e he) (validEs_mem hv e he)
theorem rnd_p {p : Tk → Prop} (hp : TkP p) {e : Ex} (h : wfE e) (hv : validE e = true) : AllT p (listT [exprT e]) :=
  allT_list hp.s.b fun t ht => by rw [List.mem_singleton.1 ht]; exact tks_p hp e h hv
mutual
theorem stm_p {p : Tk → Prop} (hp : TkP p) : ∀ (s : St), wfS s → validS s = true → AllT p (stmtT s)
  | .mk k nm ty tg ex body alt, h, hv => by
    simp only [wfS] at h
    obtain ⟨w1, w2, w3, w4, w5, w6⟩ := h
    simp only [validS, Bool.and_eq_true] at hv
    have hv1 := hv.1
    clear hv
    have one := fun {t : Tk} (h : p t) => allT_one h
    have hB : ∀ {q : Bool}, (decide (body.length ≤ 32) && validSs false body && q) = true → AllT p (brT (stmtsT body)) := fun hvb => by
      simp only [Bool.and_eq_true] at hvb
      exact br_p hp.s (stms_p hp false body w5 hvb.1.2)
    have hA : ∀ {q : Bool}, (q && (decide (alt.length ≤ 32) && validSs false alt)) = true → AllT p (brT (stmtsT alt)) := fun hvb => by
      simp only [Bool.and_eq_true] at hvb
      exact br_p hp.s (stms_p hp false alt w6 hvb.2.2)
    rcases okStm_kind hv1 with rfl | rfl | rfl | rfl | rfl | rfl | rfl | rfl | rfl | rfl | rfl
    · have hv2 : (identL nm && valueTy ty.dim ty.base ty.name && validE ex) = true := hv1
      simp only [Bool.and_eq_true] at hv2
      exact allT_app (allT_app (allT_app (allT_app (typ_p hp w2 hv2.1.2) (one (hp.nm nm (.inl hv2.1.1) w1))) (one hp.s.eq)) (tks_p hp ex w4 hv2.2)) (one hp.s.semi)
    · have hv2 : (targetE tg && validE ex) = true := hv1
      simp only [Bool.and_eq_true] at hv2
      exact allT_app (allT_app (allT_app (tks_p hp tg w3 (target_valid hv2.1)) (one hp.s.eq)) (tks_p hp ex w4 hv2.2)) (one hp.s.semi)
    · have hv2 : callE ex = true := hv1
      exact allT_app (tks_p hp ex w4 (call_valid hv2)) (one hp.s.semi)
    · have hv2 : ((decide (body.length ≤ 32) && validSs false body && (decide (alt.length ≤ 32) && validSs false alt)) && validE ex) = true := hv1
      rw [Bool.and_eq_true] at hv2
      refine allT_app (allT_app (allT_app (one hp.s.kif) (rnd_p hp w4 hv2.2)) (hB hv2.1)) ?_
      split
      · exact allT_app (one hp.s.kelse) (hA hv2.1)
      · exact allT_nil
    · have hv2 : ((decide (body.length ≤ 32) && validSs false body && (decide (alt.length ≤ 32) && validSs false alt)) && validE ex) = true := hv1
      rw [Bool.and_eq_true] at hv2
      exact allT_app (allT_app (one hp.s.kwhile) (rnd_p hp w4 hv2.2)) (hB hv2.1)
    · have hv2 : (emptyE ex || validE ex) = true := hv1
      refine allT_app (allT_app (one hp.s.kret) ?_) (one hp.s.semi)
      split
      · rename_i h0
        rw [Bool.or_eq_true] at hv2
        rcases hv2 with g | g
        · exact absurd (empty_k g) h0
        · exact tks_p hp ex w4 g
      · exact allT_nil
    · have hv2 : validE ex = true := hv1
      exact allT_app (allT_app (one hp.s.kthrow) (tks_p hp ex w4 hv2)) (one hp.s.semi)
    · have hv2 : ((decide (body.length ≤ 32) && validSs false body && (decide (alt.length ≤ 32) && validSs false alt)) && identL nm && valueTy ty.dim ty.base ty.name) = true := hv1
      rw [Bool.and_eq_true, Bool.and_eq_true] at hv2
      exact allT_app (allT_app (allT_app (allT_app (allT_app (allT_app (allT_app (one hp.s.ktry) (hB hv2.1.1)) (one hp.s.kcatch)) (one hp.s.b.lp)) (typ_p hp w2 hv2.2)) (one (hp.nm nm (.inl hv2.1.2) w1))) (one hp.s.b.rp)) (hA hv2.1.1)
    · have hv2 : ((decide (body.length ≤ 32) && validSs false body && (decide (alt.length ≤ 32) && validSs false alt)) && validE ex) = true := hv1
      rw [Bool.and_eq_true] at hv2
      exact allT_app (allT_app (one hp.s.ksync) (rnd_p hp w4 hv2.2)) (hB hv2.1)
    · have hv2 : (decide (body.length ≤ 32) && validSs false body && (decide (alt.length ≤ 32) && validSs false alt)) = true := hv1
      exact hB hv2
    · have hv2 : superE ex = true := hv1
      exact allT_app (allT_app (one hp.s.b.ksuper) (args_p hp (wfE_args w4) (super_args hv2))) (one hp.s.semi)
theorem stms_p {p : Tk → Prop} (hp : TkP p) : ∀ (sup : Bool) (l : List St), wfSs l → validSs sup l = true → AllT p (stmtsT l)
  | _, [], _, _ => by simp only [stmtsT]; exact allT_nil
  | sup, e :: r, h, hv => by
    simp only [wfSs] at h
    simp only [validSs, Bool.and_eq_true] at hv
    simp only [stmtsT]
    exact allT_app (stm_p hp e h.1 hv.1.2) (stms_p hp false r h.2 hv.2)
end
theorem mod_p {p : Tk → Prop} (hp : SsOk p) (fl : Int) : AllT p (modT fl) := fun t ht => by
  simp only [modT, List.mem_map, List.mem_filter] at ht
  obtain ⟨x, ⟨hx, _⟩, rfl⟩ := ht
  exact hp.mods x hx
theorem ifs_p {p : Tk → Prop} (hp : TkP p) {w : List UInt8} (hw : p (kw w)) : ∀ {l : List (List UInt8)}, (∀ s ∈ l, isCls s = true ∧ s.length ≤ big) → AllT p (ifsT w l)
  | [], _ => allT_nil
  | s :: r, h => by
    refine allT_cons hw (allT_cons (hp.nm s (.inr (h s (List.mem_cons_self ..)).1) (h s (List.mem_cons_self ..)).2) fun t ht => ?_)
    obtain ⟨l, hl, ht⟩ := List.mem_flatten.1 ht
    obtain ⟨x, hx, rfl⟩ := List.mem_map.1 hl
    have := h x (List.mem_cons_of_mem _ hx)
    rcases List.mem_cons.1 ht with rfl | ht
    · exact hp.s.b.comma
    · rw [List.mem_singleton.1 ht]; exact hp.nm x (.inr this.1) this.2
theorem void_p {p : Tk → Prop} (hp : TkP p) {t : Ty} (h : voidTy t = true) : AllT p (typT t.dim t.base t.name) := by
  simp only [voidTy, Bool.and_eq_true, decide_eq_true_eq] at h
  exact allT_typ hp.s.b _ _ fun _ _ h3 => absurd h.2.1 h3
theorem method_p {p : Tk → Prop} (hp : TkP p) {d : Md} (hw : MdOk d) (hs : wfSs d.body) (hv : methodL d = true) : AllT p (methodT d) := by
  simp only [methodL, Bool.and_eq_true] at hv
  obtain ⟨⟨⟨h1, h2⟩, h3⟩, h4⟩ := hv
  have hP : ∀ q ∈ d.params, paramL q = true := fun q hq => by
    rw [Bool.not_eq_true', List.any_eq_false] at h3
    simpa using h3 q hq
  simp only [blockL, Bool.and_eq_true] at h4
  refine allT_app (allT_app (allT_app (mod_p hp.s _) ?_) (allT_list hp.s.b fun t ht => ?_)) ?_
  · split
    · exact allT_one hp.s.b.knew
    · rename_i h0
      rw [mHead, if_neg h0] at h1
      simp only [Bool.and_eq_true, Bool.or_eq_true] at h1
      refine allT_app ?_ (allT_one (hp.nm _ (.inl h1.1) hw.name))
      rcases h1.2 with g | g
      · exact void_p hp g
      · exact typ_p hp hw.res g
  · obtain ⟨q, hq, rfl⟩ := List.mem_map.1 ht
    have := hP q hq
    simp only [paramL, Bool.and_eq_true] at this
    exact allT_app (typ_p hp (hw.ps q hq).ty this.1) (allT_one (hp.nm _ (.inl this.2) (hw.ps q hq).name))
  · split
    · exact br_p hp.s (stms_p hp _ _ hs h4.2)
    · exact allT_one hp.s.semi
theorem class_p {p : Tk → Prop} (hp : TkP p) {d : Cd} (hw : wfC d) (hv : classL d = true) : AllT p (clsT d) := by
  obtain ⟨hok, hi, hm⟩ := hw
  simp only [classL, Bool.and_eq_true] at hv
  obtain ⟨_, ⟨⟨⟨⟨⟨hn, hif⟩, _⟩, hF⟩, hM⟩, hI⟩⟩ := hv
  simp only [cNames, Bool.and_eq_true] at hn
  have hif' : ∀ s ∈ d.ifs, isCls s = true ∧ s.length ≤ big := fun s hs => by
    rw [Bool.not_eq_true', List.any_eq_false] at hif
    exact ⟨by simpa using hif s hs, hok.ifs s hs⟩
  have hF' : ∀ f ∈ d.fields, fieldL f = true := fun f hf => by
    rw [Bool.not_eq_true', List.any_eq_false] at hF
    simpa using hF f hf
  have hM' : ∀ f ∈ d.methods, methodL f = true := fun f hf => by
    rw [Bool.not_eq_true', List.any_eq_false] at hM
    simpa using hM f hf
  simp only [blockL, Bool.and_eq_true] at hI
  refine allT_app (allT_app (allT_app (allT_app (allT_app ?_ (allT_one hp.s.lc)) fun t ht => ?_) ?_) fun t ht => ?_) (allT_one hp.s.rc)
  · unfold headT
    split
    · exact allT_app (allT_app (allT_app (mod_p hp.s _) (allT_one hp.s.kiface)) (allT_one (hp.nm _ (.inr hn.1.1) hok.name))) (ifs_p hp hp.s.kext hif')
    · exact allT_app (allT_app (allT_app (allT_app (allT_app (mod_p hp.s _) (allT_one hp.s.kclass)) (allT_one (hp.nm _ (.inr hn.1.1) hok.name))) (allT_one hp.s.kext)) (allT_one (hp.nm _ (.inr hn.1.2) hok.super))) (ifs_p hp hp.s.kimpl hif')
  · obtain ⟨l, hl, ht⟩ := List.mem_flatten.1 ht
    obtain ⟨f, hf, rfl⟩ := List.mem_map.1 hl
    have hv := hF' f hf
    simp only [fieldL, Bool.and_eq_true] at hv
    exact (allT_app (allT_app (allT_app (mod_p hp.s _) (typ_p hp (hok.fs f hf).ty hv.1.1.1)) (allT_one (hp.nm _ (.inl hv.1.1.2) (hok.fs f hf).name))) (allT_one hp.s.semi)) t ht
  · split
    · exact allT_app (allT_one hp.s.kstat) (br_p hp.s (stms_p hp _ _ hi hI.2))
    · exact allT_nil
  · obtain ⟨l, hl, ht⟩ := List.mem_flatten.1 ht
    obtain ⟨f, hf, rfl⟩ := List.mem_map.1 hl
    exact method_p hp (hm f hf).1 (hm f hf).2 (hM' f hf) t ht
theorem prog_p {p : Tk → Prop} (hp : TkP p) {l : List Cd} (hw : ∀ d ∈ l, wfC d) (hv : ∀ d ∈ l, classL d = true) : AllT p (progT l) := fun t ht => by
  obtain ⟨x, hx, ht⟩ := List.mem_flatten.1 ht
  obtain ⟨d, hd, rfl⟩ := List.mem_map.1 hx
  exact class_p hp (hw d hd) (hv d hd) t ht
theorem check_ok : ∀ {l : List Cd} {seen : List (List UInt8)}, (checkL seen l).2 = 0 → ∀ d ∈ l, classL d = true ∧ deepL d = false ∧ dupL d = false
  | [], _, _, d, hd => by cases hd
  | x :: r, seen, h, d, hd => by
    rw [checkL] at h
    split at h
    · rename_i h1
      split at h
      · cases h
      · rename_i h2
        split at h
        · cases h
        · rename_i h3
          rcases List.mem_cons.1 hd with rfl | hd
          · rw [Bool.not_eq_true, Bool.or_eq_false_iff] at h3
            exact ⟨h1, by simpa using h2, h3.2⟩
          · exact check_ok h d hd
    · cases h
/-! How many tokens. -/
theorem comma_le {K : Nat} : ∀ {l : List (List Tk)} {f : Bool}, (∀ t ∈ l, t.length ≤ K) → (commaT f l).length ≤ (K + 1) * l.length
  | [], _, _ => by simp [commaT]
  | t :: r, f, h => by
    have h1 := h t (List.mem_cons_self ..)
    have h2 := comma_le (l := r) (f := false) fun x hx => h x (List.mem_cons_of_mem _ hx)
    simp only [commaT, List.length_append, List.length_cons, Nat.mul_add, Nat.mul_one]
    cases f
    · simp only [Bool.false_eq_true, if_false, List.length_cons]; omega
    · simp only [if_true]; omega
theorem len_args {l : List Ex} (hv : validEs l = true) : (listT (l.map exprT)).length ≤ 28 * sizeL l + 2 := by
  have h1 := list_sum (exprTs l)
  rw [ts_map] at h1
  have h2 := lens_size l hv
  omega
theorem len_br (t : List Tk) : (brT t).length = t.length + 2 := by simp [brT]
theorem sizeE_args (e : Ex) : sizeE e = sizeL e.args + 1 := by cases e; simp [sizeE, Ex.args]
mutual
theorem len_S : ∀ (s : St), validS s = true → (stmtT s).length ≤ 30 * sizeS s
  | .mk k nm ty tg ex body alt, hv => by
    simp only [validS, Bool.and_eq_true] at hv
    have hv1 := hv.1
    clear hv
    have hB : ∀ {q : Bool}, (decide (body.length ≤ 32) && validSs false body && q) = true → (brT (stmtsT body)).length ≤ 30 * sizeSs body + 2 := fun hvb => by
      simp only [Bool.and_eq_true] at hvb
      have := len_Ss false body hvb.1.2
      rw [len_br]; omega
    have hA : ∀ {q : Bool}, (q && (decide (alt.length ≤ 32) && validSs false alt)) = true → (brT (stmtsT alt)).length ≤ 30 * sizeSs alt + 2 := fun hvb => by
      simp only [Bool.and_eq_true] at hvb
      have := len_Ss false alt hvb.2.2
      rw [len_br]; omega
    have hs1 := sizeE_args ex
    have hs2 := sizeE_args tg
    have hX : validE ex = true → (exprT ex).length + 3 ≤ 28 * sizeE ex := len_size ex
    have hR : validE ex = true → (listT [exprT ex]).length + 1 ≤ 28 * sizeE ex := fun h => by have := len_size ex h; rw [one_len]; omega
    simp only [sizeS]
    rcases okStm_kind hv1 with rfl | rfl | rfl | rfl | rfl | rfl | rfl | rfl | rfl | rfl | rfl
    · have hv2 : (identL nm && valueTy ty.dim ty.base ty.name && validE ex) = true := hv1
      simp only [Bool.and_eq_true] at hv2
      have h1 := typ_len ty.dim ty.base ty.name (value_dim hv2.1.2)
      have h2 := hX hv2.2
      show ((typT ty.dim ty.base ty.name ++ [nm1 nm] ++ [sg [61]] ++ exprT ex) ++ [sg [59]]).length ≤ _
      simp only [List.length_append, List.length_cons, List.length_nil]
      omega
    · have hv2 : (targetE tg && validE ex) = true := hv1
      simp only [Bool.and_eq_true] at hv2
      have h1 := len_size tg (target_valid hv2.1)
      have h2 := hX hv2.2
      show ((exprT tg ++ [sg [61]] ++ exprT ex) ++ [sg [59]]).length ≤ _
      simp only [List.length_append, List.length_cons, List.length_nil]
      omega
    · have hv2 : callE ex = true := hv1
      have h2 := hX (call_valid hv2)
      show ((exprT ex) ++ [sg [59]]).length ≤ _
      simp only [List.length_append, List.length_cons, List.length_nil]
      omega
    · have hv2 : ((decide (body.length ≤ 32) && validSs false body && (decide (alt.length ≤ 32) && validSs false alt)) && validE ex) = true := hv1
      rw [Bool.and_eq_true] at hv2
      have h1 := hR hv2.2
      have h2 := hB hv2.1
      have h3 := hA hv2.1
      have h4 : (if 0 < alt.length then [kw [101, 108, 115, 101]] ++ brT (stmtsT alt) else []).length ≤ 30 * sizeSs alt + 3 := by
        split
        · simp only [List.length_append, List.length_cons, List.length_nil]; omega
        · simp
      show ([kw [105, 102]] ++ listT [exprT ex] ++ brT (stmtsT body) ++ (if 0 < alt.length then [kw [101, 108, 115, 101]] ++ brT (stmtsT alt) else [])).length ≤ _
      rw [List.length_append]
      simp only [List.length_append, List.length_cons, List.length_nil] at h4 ⊢
      omega
    · have hv2 : ((decide (body.length ≤ 32) && validSs false body && (decide (alt.length ≤ 32) && validSs false alt)) && validE ex) = true := hv1
      rw [Bool.and_eq_true] at hv2
      have h1 := hR hv2.2
      have h2 := hB hv2.1
      show ([kw [119, 104, 105, 108, 101]] ++ listT [exprT ex] ++ brT (stmtsT body)).length ≤ _
      simp only [List.length_append, List.length_cons, List.length_nil]
      omega
    · have hv2 : (emptyE ex || validE ex) = true := hv1
      have h4 : (if ex.k ≠ 0 then exprT ex else []).length ≤ 28 * sizeE ex := by
        split
        · rename_i h0
          rw [Bool.or_eq_true] at hv2
          rcases hv2 with g | g
          · exact absurd (empty_k g) h0
          · have := hX g; omega
        · simp
      show (([kw [114, 101, 116, 117, 114, 110]] ++ (if ex.k ≠ 0 then exprT ex else [])) ++ [sg [59]]).length ≤ _
      simp only [List.length_append, List.length_cons, List.length_nil] at h4 ⊢
      omega
    · have hv2 : validE ex = true := hv1
      have h2 := hX hv2
      show (([kw [116, 104, 114, 111, 119]] ++ exprT ex) ++ [sg [59]]).length ≤ _
      simp only [List.length_append, List.length_cons, List.length_nil]
      omega
    · have hv2 : ((decide (body.length ≤ 32) && validSs false body && (decide (alt.length ≤ 32) && validSs false alt)) && identL nm && valueTy ty.dim ty.base ty.name) = true := hv1
      rw [Bool.and_eq_true, Bool.and_eq_true] at hv2
      have h1 := typ_len ty.dim ty.base ty.name (value_dim hv2.2)
      have h2 := hB hv2.1.1
      have h3 := hA hv2.1.1
      show ([kw [116, 114, 121]] ++ brT (stmtsT body) ++ [kw [99, 97, 116, 99, 104]] ++ [sg [40]] ++ typT ty.dim ty.base ty.name ++ [nm1 nm] ++ [sg [41]] ++ brT (stmtsT alt)).length ≤ _
      simp only [List.length_append, List.length_cons, List.length_nil]
      omega
    · have hv2 : ((decide (body.length ≤ 32) && validSs false body && (decide (alt.length ≤ 32) && validSs false alt)) && validE ex) = true := hv1
      rw [Bool.and_eq_true] at hv2
      have h1 := hR hv2.2
      have h2 := hB hv2.1
      show ([kw [115, 121, 110, 99]] ++ listT [exprT ex] ++ brT (stmtsT body)).length ≤ _
      simp only [List.length_append, List.length_cons, List.length_nil]
      omega
    · have hv2 : (decide (body.length ≤ 32) && validSs false body && (decide (alt.length ≤ 32) && validSs false alt)) = true := hv1
      have h2 := hB hv2
      show (brT (stmtsT body)).length ≤ _
      omega
    · have hv2 : superE ex = true := hv1
      have h2 := len_args (super_args hv2)
      show (([kw [115, 117, 112, 101, 114]] ++ listT (ex.args.map exprT)) ++ [sg [59]]).length ≤ _
      simp only [List.length_append, List.length_cons, List.length_nil]
      omega
theorem len_Ss : ∀ (sup : Bool) (l : List St), validSs sup l = true → (stmtsT l).length ≤ 30 * sizeSs l
  | _, [], _ => by simp [stmtsT, sizeSs]
  | sup, e :: r, hv => by
    simp only [validSs, Bool.and_eq_true] at hv
    have h1 := len_S e hv.1.2
    have h2 := len_Ss false r hv.2
    simp only [stmtsT, sizeSs, List.length_append]
    omega
end
theorem res_dim {d : Md} (h1 : mHead d = true) : d.res.dim ≤ 8 := by
  simp only [mHead] at h1
  split at h1
  · simp only [Bool.and_eq_true, voidTy, decide_eq_true_eq] at h1
    omega
  · simp only [Bool.and_eq_true, Bool.or_eq_true, voidTy, decide_eq_true_eq] at h1
    rcases h1.2 with g | g
    · omega
    · exact value_dim g
theorem len_M {d : Md} (hv : methodL d = true) : (methodT d).length ≤ 60 * sizeM d := by
  simp only [methodL, Bool.and_eq_true] at hv
  obtain ⟨⟨⟨h1, h2⟩, h3⟩, h4⟩ := hv
  simp only [blockL, Bool.and_eq_true] at h4
  have hb := len_Ss _ _ h4.2
  have hm := modT_len d.fl
  have ht := typ_len d.res.dim d.res.base d.res.name (res_dim h1)
  have hp : (commaT true (d.params.map paramT)).length ≤ (18 + 1) * (d.params.map paramT).length := comma_le fun t ht => by
    obtain ⟨q, hq, rfl⟩ := List.mem_map.1 ht
    rw [Bool.not_eq_true', List.any_eq_false] at h3
    have hq2 : paramL q = true := by simpa using h3 q hq
    simp only [paramL, Bool.and_eq_true] at hq2
    have := typ_len q.ty.dim q.ty.base q.ty.name (value_dim hq2.1)
    simp only [paramT, List.length_append, List.length_cons, List.length_nil]
    omega
  rw [List.length_map] at hp
  have e1 : (if d.name = initS then [kw [110, 101, 119]] else typT d.res.dim d.res.base d.res.name ++ [nm1 d.name]).length ≤ 18 := by
    split
    · simp
    · simp only [List.length_append, List.length_cons, List.length_nil]; omega
  have e2 : (if d.hb = true then brT (stmtsT d.body) else [sg [59]]).length ≤ 30 * sizeSs d.body + 2 := by
    split
    · rw [len_br]; omega
    · simp
  simp only [methodT, listT, sizeM]
  rw [List.length_append, List.length_append, List.length_append]
  simp only [List.length_append, List.length_cons, List.length_nil] at e1 e2 ⊢
  omega
theorem sum_le {α : Type} {f : α → List Tk} {g : α → Nat} {K : Nat} : ∀ {l : List α}, (∀ x ∈ l, (f x).length ≤ K * g x) → ((l.map f).flatten).length ≤ K * (l.map g).sum
  | [], _ => by simp
  | x :: r, h => by
    have h1 := h x (List.mem_cons_self ..)
    have h2 := sum_le (l := r) (K := K) (g := g) fun y hy => h y (List.mem_cons_of_mem _ hy)
    simp only [List.map_cons, List.flatten_cons, List.length_append, List.sum_cons, Nat.mul_add]
    omega
theorem len_C {d : Cd} (hv : classL d = true) : (clsT d).length ≤ 60 * sizeC d := by
  simp only [classL, Bool.and_eq_true] at hv
  obtain ⟨_, ⟨⟨⟨⟨⟨hn, hif⟩, _⟩, hF⟩, hM⟩, hI⟩⟩ := hv
  simp only [blockL, Bool.and_eq_true] at hI
  have hb := len_Ss _ _ hI.2
  have hm := modT_len d.fl
  have hm2 := modT_len (bits .andNot .i64 d.fl 1024)
  have hM' : ((d.methods.map methodT).flatten).length ≤ 60 * (d.methods.map sizeM).sum := sum_le fun f hf => by
    rw [Bool.not_eq_true', List.any_eq_false] at hM
    exact len_M (by simpa using hM f hf)
  have hF' : ((d.fields.map fieldT).flatten).length ≤ 26 * (d.fields.map fun _ => 1).sum := sum_le fun f hf => by
    rw [Bool.not_eq_true', List.any_eq_false] at hF
    have hv : fieldL f = true := by simpa using hF f hf
    simp only [fieldL, Bool.and_eq_true] at hv
    have h1 := typ_len f.ty.dim f.ty.base f.ty.name (value_dim hv.1.1.1)
    have h2 := modT_len f.fl
    simp only [fieldT, List.length_append, List.length_cons, List.length_nil]
    omega
  have hs : ∀ (l : List Fc), (l.map fun _ => 1).sum = l.length := fun l => by
    induction l with
    | nil => rfl
    | cons a r ih => simp only [List.map_cons, List.sum_cons, List.length_cons, ih]; omega
  rw [hs] at hF'
  have hH : (headT d).length ≤ 11 + d.ifs.length * 2 := by
    unfold headT
    split
    · simp only [List.length_append, List.length_cons, List.length_nil, ifs_len]; omega
    · simp only [List.length_append, List.length_cons, List.length_nil, ifs_len]; omega
  have e2 : (if 0 < d.init.length then [kw [115, 116, 97, 116, 105, 99]] ++ brT (stmtsT d.init) else []).length ≤ 30 * sizeSs d.init + 3 := by
    split
    · rw [List.length_append, len_br]; simp only [List.length_cons, List.length_nil]; omega
    · simp
  simp only [clsT, classT, sizeC]
  rw [List.length_append, List.length_append, List.length_append, List.length_append]
  simp only [List.length_append, List.length_cons, List.length_nil] at e2 ⊢
  omega
theorem len_P {l : List Cd} (hv : ∀ d ∈ l, classL d = true) : (progT l).length ≤ 60 * (l.map sizeC).sum := sum_le fun d hd => len_C (hv d hd)
theorem prog_tk {l : List Cd} {seen : List (List UInt8)} (hw : ∀ d ∈ l, wfC d) (hs : (l.map sizeC).sum ≤ 1048576) (h0 : (checkL seen l).2 = 0) : (progT l).length ≤ cap ∧ AllT TkOk (progT l) := by
  have hv := fun d hd => (check_ok h0 d hd).1
  have := len_P hv
  exact ⟨by simp only [cap]; omega, prog_p tkP_ok hw hv⟩
end Go.Proofs.YtalalcpefggniaaGreatDoor.E

namespace Go.Proofs.YtalalcpefggniaaGreatDoor.E
open Go

/-- Brackets still open, the innermost last; none where one is closed that is not open. -/
def balR : List UInt8 → List Tk → Option (List UInt8)
  | st, [] => some st
  | st, t :: r =>
    if t.k = 6 then
      (if t.s = [40] then balR (st ++ [41]) r
      else if t.s = [91] then balR (st ++ [93]) r
      else if t.s = [123] then balR (st ++ [125]) r
      else if t.s = [41] ∨ t.s = [93] ∨ t.s = [125] then (if st ≠ [] ∧ st.drop (st.length - 1) = t.s then balR (st.take (st.length - 1)) r else none)
      else balR st r)
    else balR st r
def balL (l : List Tk) : Bool := decide (balR [] l = some [])
theorem balR_app : ∀ (a b : List Tk) (st : List UInt8), balR st (a ++ b) = (balR st a).bind fun s => balR s b
  | [], _, _ => rfl
  | t :: r, b, st => by
    have ih := fun s => balR_app r b s
    simp only [List.cons_append, balR, ih]
    repeat' split
    all_goals rfl
/-- Every bracket that is opened here is closed here. -/
def Neu (T : List Tk) : Prop := ∀ st, balR st T = some st
theorem neu_nil : Neu [] := fun _ => rfl
theorem neu_app {a b : List Tk} (ha : Neu a) (hb : Neu b) : Neu (a ++ b) := fun st => by rw [balR_app, ha st]; exact hb st
theorem neu_tk {t : Tk} (h : t.k ≠ 6) : Neu [t] := fun st => by simp [balR, h]
theorem neu_r {t : Tk} (h : (t.k == 6) = false) : Neu [t] := neu_tk (beq_eq_false_iff_ne.1 h)
theorem neu_flat : ∀ {l : List (List Tk)}, (∀ t ∈ l, Neu t) → Neu l.flatten
  | [], _ => neu_nil
  | t :: r, h => neu_app (h t (List.mem_cons_self ..)) (neu_flat fun x hx => h x (List.mem_cons_of_mem _ hx))
/-- No bracket. -/
def noBr (s : List UInt8) : Bool := !([[40], [91], [123], [41], [93], [125]].contains s)
theorem neu_sg {s : List UInt8} (h : noBr s = true) : Neu [sg s] := fun st => by
  simp only [noBr, List.contains_cons, List.contains_nil, Bool.or_false, Bool.not_eq_true', Bool.or_eq_false_iff, beq_eq_false_iff_ne, ne_eq] at h
  obtain ⟨h1, h2, h3, h4, h5, h6⟩ := h
  simp [balR, sg, h1, h2, h3, h4, h5, h6]
theorem close_ok (st : List UInt8) (c : UInt8) : (st ++ [c] ≠ [] ∧ (st ++ [c]).drop ((st ++ [c]).length - 1) = [c]) ∧ (st ++ [c]).take ((st ++ [c]).length - 1) = st := by
  have : (st ++ [c]).length - 1 = st.length := by simp
  rw [this]
  simp
theorem neu_par {T : List Tk} (h : Neu T) : Neu (sg [40] :: (T ++ [sg [41]])) := fun st => by
  show balR (st ++ [41]) (T ++ [sg [41]]) = _
  rw [balR_app, h]
  show (if st ++ [41] ≠ [] ∧ _ then balR _ [] else none) = _
  rw [if_pos (show _ ∧ _ = (sg [41]).s from (close_ok st 41).1), (close_ok st 41).2]
  rfl
theorem neu_sq {T : List Tk} (h : Neu T) : Neu ([sg [91]] ++ (T ++ [sg [93]])) := fun st => by
  show balR (st ++ [93]) (T ++ [sg [93]]) = _
  rw [balR_app, h]
  show (if st ++ [93] ≠ [] ∧ _ then balR _ [] else none) = _
  rw [if_pos (show _ ∧ _ = (sg [93]).s from (close_ok st 93).1), (close_ok st 93).2]
  rfl
theorem neu_br {T : List Tk} (h : Neu T) : Neu (brT T) := fun st => by
  show balR (st ++ [125]) (T ++ [sg [125]]) = _
  rw [balR_app, h]
  show (if st ++ [125] ≠ [] ∧ _ then balR _ [] else none) = _
  rw [if_pos (show _ ∧ _ = (sg [125]).s from (close_ok st 125).1), (close_ok st 125).2]
  rfl
theorem neu_dot : Neu [sg [46]] := neu_sg (by decide)
theorem neu_comma : ∀ {l : List (List Tk)} {f : Bool}, (∀ t ∈ l, Neu t) → Neu (commaT f l)
  | [], _, _ => neu_nil
  | t :: r, f, h => by
    simp only [commaT]
    refine neu_app ?_ (neu_comma fun x hx => h x (List.mem_cons_of_mem _ hx))
    cases f
    · exact neu_app (a := [sg [44]]) (neu_sg (by decide)) (h t List.mem_cons_self)
    · exact h t List.mem_cons_self
theorem neu_list {l : List (List Tk)} (h : ∀ t ∈ l, Neu t) : Neu (listT l) := neu_par (neu_comma h)
theorem neu_typ (d b : Int) (nm : List UInt8) : Neu (typT d b nm) := by
  refine neu_app (a := [baseT b nm]) (neu_r ?_) (neu_flat fun t ht => ?_)
  · unfold baseT
    repeat' split
    all_goals rfl
  · rw [(List.mem_replicate.1 ht).2]
    exact neu_sq (T := []) neu_nil
theorem opd_neu {b : Bool} {t : List Tk} (h : Neu t) : Neu (opdT b t) := by
  cases b
  · exact h
  · exact neu_list fun x hx => by rw [List.mem_singleton.1 hx]; exact h
theorem tAt_neu {ts : List (Bool × List Tk)} (h : ∀ x ∈ ts, Neu x.2) (i : Nat) : Neu (tAt ts i) := by
  unfold tAt
  rw [List.getD_eq_getElem?_getD]
  cases hx : ts[i]? with
  | none => exact neu_nil
  | some x => exact h x (List.mem_of_getElem? hx)
theorem oAt_neu {ts : List (Bool × List Tk)} (h : ∀ x ∈ ts, Neu x.2) (i : Nat) : Neu (oAt ts i) := opd_neu (tAt_neu h i)
theorem node_neu {k n : Int} {s c : List UInt8} {ty : Ty} {ts : List (Bool × List Tk)} (h : ∀ x ∈ ts, Neu x.2) (ho : k = 15 ∨ k = 16 → noBr s = true) : Neu (nodeT k n s c ty ts) := by
  have hl : ∀ (l : List (Bool × List Tk)), (∀ x ∈ l, x ∈ ts) → Neu (listT (l.map (·.2))) := fun l hl => neu_list fun t ht => by
    obtain ⟨x, hx, rfl⟩ := List.mem_map.1 ht
    exact h x (hl x hx)
  have hl1 : ∀ i, Neu (listT [tAt ts i]) := fun i => neu_list fun x hx => by rw [List.mem_singleton.1 hx]; exact tAt_neu h i
  by_cases hk : isKind k = true
  · rcases kinds hk with h' | h' | h' | h' | h' | h' | h' | h' | h' | h' | h' | h' | h' | h' | h' | h' | h' | h' | h' | h' | h' <;> subst h'
    · exact neu_r rfl
    · exact neu_r rfl
    · exact neu_r rfl
    · exact neu_r rfl
    · exact neu_r rfl
    · exact neu_r rfl
    · exact neu_app (neu_app (oAt_neu h 0) neu_dot) (neu_r rfl)
    · exact neu_app (neu_app (neu_r rfl) neu_dot) (neu_r rfl)
    · show Neu (oAt ts 0 ++ [sg [91]] ++ tAt ts 1 ++ [sg [93]])
      rw [List.append_assoc, List.append_assoc]
      exact neu_app (oAt_neu h 0) (neu_sq (tAt_neu h 1))
    · exact neu_app (neu_app (neu_app (oAt_neu h 0) neu_dot) (neu_r rfl)) (hl _ fun x hx => List.mem_of_mem_drop hx)
    · exact neu_app (neu_app (neu_app (neu_r rfl) neu_dot) (neu_r rfl)) (hl _ fun x hx => hx)
    · exact neu_app (neu_app (neu_app (neu_r rfl) neu_dot) (neu_r rfl)) (hl _ fun x hx => hx)
    · exact neu_app (neu_app (neu_r rfl) (neu_r rfl)) (hl _ fun x hx => hx)
    · show Neu ([kw [110, 101, 119]] ++ typT ty.dim ty.base ty.name ++ [sg [91]] ++ tAt ts 0 ++ [sg [93]])
      rw [List.append_assoc, List.append_assoc]
      exact neu_app (neu_app (neu_r rfl) (neu_typ _ _ _)) (neu_sq (tAt_neu h 0))
    · exact neu_app (neu_sg (ho (.inl rfl))) (oAt_neu h 0)
    · exact neu_app (neu_app (oAt_neu h 0) (neu_sg (ho (.inr rfl)))) (oAt_neu h 1)
    · exact neu_app (neu_app (oAt_neu h 0) (neu_r rfl)) (neu_typ _ _ _)
    · exact neu_app (neu_app (oAt_neu h 0) (neu_r rfl)) (neu_typ _ _ _)
    · exact neu_app (neu_r rfl) (hl1 0)
    · exact neu_app (neu_r rfl) (hl1 0)
    · exact neu_app (neu_r rfl) (hl1 0)
  · have e : ∀ j : Int, 1 ≤ j → j ≤ 21 → k ≠ j := fun j h1 h2 h' => hk (by subst h'; simp [isKind, h1, h2])
    have : nodeT k n s c ty ts = [] := by
      unfold nodeT
      rw [if_neg (e 1 (by decide) (by decide)), if_neg (e 2 (by decide) (by decide)), if_neg (e 3 (by decide) (by decide)), if_neg (e 4 (by decide) (by decide)), if_neg (e 5 (by decide) (by decide)), if_neg (e 6 (by decide) (by decide)), if_neg (e 7 (by decide) (by decide)), if_neg (e 8 (by decide) (by decide)), if_neg (e 9 (by decide) (by decide)), if_neg (e 10 (by decide) (by decide)), if_neg (e 11 (by decide) (by decide)), if_neg (e 12 (by decide) (by decide)), if_neg (e 13 (by decide) (by decide)), if_neg (e 14 (by decide) (by decide)), if_neg (e 15 (by decide) (by decide)), if_neg (e 16 (by decide) (by decide)), if_neg (e 17 (by decide) (by decide)), if_neg (e 18 (by decide) (by decide)), if_neg (e 19 (by decide) (by decide)), if_neg (e 20 (by decide) (by decide)), if_neg (e 21 (by decide) (by decide))]
    rw [this]; exact neu_nil
mutual
theorem exp_neu : ∀ (e : Ex), validE e = true → Neu (exprT e)
  | .mk k n s c ty args, hv => by
    simp only [validE, Bool.and_eq_true] at hv
    obtain ⟨hn, hvs⟩ := hv
    simp only [exprT]
    simp only [nodeL, Bool.and_eq_true, decide_eq_true_eq] at hn
    obtain ⟨⟨⟨⟨⟨_, _⟩, _⟩, hi⟩, hc⟩, ht⟩ := hn
    refine node_neu (exps_neu args hvs) fun hk => ?_
    rcases hk with rfl | rfl
    · have hi : (decide (n = 0) && (decide (s = [45]) || decide (s = [33]))) = true := hi
      simp only [Bool.and_eq_true, Bool.or_eq_true, decide_eq_true_eq] at hi
      rcases hi.2 with rfl | rfl <;> decide
    · have hi : (decide (n = 0) && opsL.contains s) = true := hi
      simp only [Bool.and_eq_true, decide_eq_true_eq, List.contains_iff_mem] at hi
      have : opsL.all noBr = true := by decide
      exact List.all_eq_true.1 this s hi.2
theorem exps_neu : ∀ (l : List Ex), validEs l = true → ∀ x ∈ exprTs l, Neu x.2
  | [], _ => fun x hx => by simp only [exprTs] at hx; cases hx
  | e :: r, hv => by
    simp only [validEs, Bool.and_eq_true] at hv
    intro x hx
    simp only [exprTs] at hx
    rcases List.mem_cons.1 hx with rfl | hx
    · exact exp_neu e hv.1
    · exact exps_neu r hv.2 x hx
end
theorem args_neu {l : List Ex} (hv : validEs l = true) : Neu (listT (l.map exprT)) :=
  neu_list fun t ht => by
    obtain ⟨e, he, rfl⟩ := List.mem_map.1 ht
    exact exp_neu e (validEs_mem hv e he)
theorem rnd_neu {e : Ex} (hv : validE e = true) : Neu (listT [exprT e]) :=
  neu_list fun t ht => by rw [List.mem_singleton.1 ht]; exact exp_neu e hv
mutual
theorem stm_neu : ∀ (s : St), validS s = true → Neu (stmtT s)
  | .mk k nm ty tg ex body alt, hv => by
    simp only [validS, Bool.and_eq_true] at hv
    have hv1 := hv.1
    clear hv
    have hB : ∀ {q : Bool}, (decide (body.length ≤ 32) && validSs false body && q) = true → Neu (brT (stmtsT body)) := fun hvb => by
      simp only [Bool.and_eq_true] at hvb
      exact neu_br (stms_neu false body hvb.1.2)
    have hA : ∀ {q : Bool}, (q && (decide (alt.length ≤ 32) && validSs false alt)) = true → Neu (brT (stmtsT alt)) := fun hvb => by
      simp only [Bool.and_eq_true] at hvb
      exact neu_br (stms_neu false alt hvb.2.2)
    have semi : Neu [sg [59]] := neu_sg (by decide)
    have eq : Neu [sg [61]] := neu_sg (by decide)
    rcases okStm_kind hv1 with rfl | rfl | rfl | rfl | rfl | rfl | rfl | rfl | rfl | rfl | rfl
    · have hv2 : (identL nm && valueTy ty.dim ty.base ty.name && validE ex) = true := hv1
      simp only [Bool.and_eq_true] at hv2
      exact neu_app (neu_app (neu_app (neu_app (neu_typ _ _ _) (neu_r rfl)) eq) (exp_neu ex hv2.2)) semi
    · have hv2 : (targetE tg && validE ex) = true := hv1
      simp only [Bool.and_eq_true] at hv2
      exact neu_app (neu_app (neu_app (exp_neu tg (target_valid hv2.1)) eq) (exp_neu ex hv2.2)) semi
    · have hv2 : callE ex = true := hv1
      exact neu_app (exp_neu ex (call_valid hv2)) semi
    · have hv2 : ((decide (body.length ≤ 32) && validSs false body && (decide (alt.length ≤ 32) && validSs false alt)) && validE ex) = true := hv1
      rw [Bool.and_eq_true] at hv2
      refine neu_app (neu_app (neu_app (neu_r rfl) (rnd_neu hv2.2)) (hB hv2.1)) ?_
      split
      · exact neu_app (neu_r rfl) (hA hv2.1)
      · exact neu_nil
    · have hv2 : ((decide (body.length ≤ 32) && validSs false body && (decide (alt.length ≤ 32) && validSs false alt)) && validE ex) = true := hv1
      rw [Bool.and_eq_true] at hv2
      exact neu_app (neu_app (neu_r rfl) (rnd_neu hv2.2)) (hB hv2.1)
    · have hv2 : (emptyE ex || validE ex) = true := hv1
      refine neu_app (neu_app (neu_r rfl) ?_) semi
      split
      · rename_i h0
        rw [Bool.or_eq_true] at hv2
        rcases hv2 with g | g
        · exact absurd (empty_k g) h0
        · exact exp_neu ex g
      · exact neu_nil
    · have hv2 : validE ex = true := hv1
      exact neu_app (neu_app (neu_r rfl) (exp_neu ex hv2)) semi
    · have hv2 : ((decide (body.length ≤ 32) && validSs false body && (decide (alt.length ≤ 32) && validSs false alt)) && identL nm && valueTy ty.dim ty.base ty.name) = true := hv1
      rw [Bool.and_eq_true, Bool.and_eq_true] at hv2
      show Neu ([kw [116, 114, 121]] ++ brT (stmtsT body) ++ [kw [99, 97, 116, 99, 104]] ++ [sg [40]] ++ typT ty.dim ty.base ty.name ++ [nm1 nm] ++ [sg [41]] ++ brT (stmtsT alt))
      have e : [kw [116, 114, 121]] ++ brT (stmtsT body) ++ [kw [99, 97, 116, 99, 104]] ++ [sg [40]] ++ typT ty.dim ty.base ty.name ++ [nm1 nm] ++ [sg [41]] ++ brT (stmtsT alt) = [kw [116, 114, 121]] ++ brT (stmtsT body) ++ [kw [99, 97, 116, 99, 104]] ++ (sg [40] :: ((typT ty.dim ty.base ty.name ++ [nm1 nm]) ++ [sg [41]])) ++ brT (stmtsT alt) := by simp only [List.append_assoc, List.cons_append, List.nil_append]
      rw [e]
      exact neu_app (neu_app (neu_app (neu_app (neu_r rfl) (hB hv2.1.1)) (neu_r rfl)) (neu_par (neu_app (neu_typ _ _ _) (neu_r rfl)))) (hA hv2.1.1)
    · have hv2 : ((decide (body.length ≤ 32) && validSs false body && (decide (alt.length ≤ 32) && validSs false alt)) && validE ex) = true := hv1
      rw [Bool.and_eq_true] at hv2
      exact neu_app (neu_app (neu_r rfl) (rnd_neu hv2.2)) (hB hv2.1)
    · have hv2 : (decide (body.length ≤ 32) && validSs false body && (decide (alt.length ≤ 32) && validSs false alt)) = true := hv1
      exact hB hv2
    · have hv2 : superE ex = true := hv1
      exact neu_app (neu_app (neu_r rfl) (args_neu (super_args hv2))) semi
theorem stms_neu : ∀ (sup : Bool) (l : List St), validSs sup l = true → Neu (stmtsT l)
  | _, [], _ => by simp only [stmtsT]; exact neu_nil
  | sup, e :: r, hv => by
    simp only [validSs, Bool.and_eq_true] at hv
    simp only [stmtsT]
    exact neu_app (stm_neu e hv.1.2) (stms_neu false r hv.2)
end
theorem mod_neu (fl : Int) : Neu (modT fl) := by
  unfold modT
  generalize modsL.filter (fun p => hasB fl p.1) = l
  induction l with
  | nil => exact neu_nil
  | cons x r ih => exact neu_app (a := [kw x.2]) (neu_tk (by simp [kw])) ih
theorem ifs_neu (w : List UInt8) : ∀ (l : List (List UInt8)), Neu (ifsT w l)
  | [] => neu_nil
  | s :: r => neu_app (a := [kw w, nm1 s]) (neu_app (a := [kw w]) (neu_tk (by simp [kw])) (neu_tk (by simp [nm1]))) (neu_flat fun t ht => by
    obtain ⟨x, _, rfl⟩ := List.mem_map.1 ht
    exact neu_app (a := [sg [44]]) (neu_sg (by decide)) (neu_tk (by simp [nm1])))
theorem method_neu {d : Md} (hv : methodL d = true) : Neu (methodT d) := by
  simp only [methodL, Bool.and_eq_true] at hv
  obtain ⟨⟨⟨h1, h2⟩, h3⟩, h4⟩ := hv
  simp only [blockL, Bool.and_eq_true] at h4
  refine neu_app (neu_app (neu_app (mod_neu _) ?_) (neu_list fun t ht => ?_)) ?_
  · split
    · exact neu_r rfl
    · exact neu_app (neu_typ _ _ _) (neu_tk (by simp [nm1]))
  · obtain ⟨q, hq, rfl⟩ := List.mem_map.1 ht
    exact neu_app (neu_typ _ _ _) (neu_tk (by simp [nm1]))
  · split
    · exact neu_br (stms_neu _ _ h4.2)
    · exact neu_sg (by decide)
theorem class_neu {d : Cd} (hv : classL d = true) : Neu (clsT d) := by
  simp only [classL, Bool.and_eq_true] at hv
  obtain ⟨_, ⟨⟨⟨⟨⟨hn, hif⟩, _⟩, hF⟩, hM⟩, hI⟩⟩ := hv
  have hM' : ∀ f ∈ d.methods, methodL f = true := fun f hf => by
    rw [Bool.not_eq_true', List.any_eq_false] at hM
    simpa using hM f hf
  simp only [blockL, Bool.and_eq_true] at hI
  have e : clsT d = headT d ++ brT ((d.fields.map fieldT).flatten ++ (if 0 < d.init.length then [kw [115, 116, 97, 116, 105, 99]] ++ brT (stmtsT d.init) else []) ++ (d.methods.map methodT).flatten) := by
    simp only [clsT, classT, brT, List.append_assoc, List.cons_append, List.nil_append]
  rw [e]
  refine neu_app ?_ (neu_br (neu_app (neu_app (neu_flat fun t ht => ?_) ?_) (neu_flat fun t ht => ?_)))
  · unfold headT
    have n1 : ∀ s, Neu [nm1 s] := fun s => neu_tk (by simp [nm1])
    split
    · exact neu_app (neu_app (neu_app (mod_neu _) (neu_r rfl)) (n1 _)) (ifs_neu _ _)
    · exact neu_app (neu_app (neu_app (neu_app (neu_app (mod_neu _) (neu_r rfl)) (n1 _)) (neu_r rfl)) (n1 _)) (ifs_neu _ _)
  · obtain ⟨f, hf, rfl⟩ := List.mem_map.1 ht
    exact neu_app (neu_app (neu_app (mod_neu _) (neu_typ _ _ _)) (neu_tk (by simp [nm1]))) (neu_sg (by decide))
  · split
    · exact neu_app (neu_r rfl) (neu_br (stms_neu _ _ hI.2))
    · exact neu_nil
  · obtain ⟨f, hf, rfl⟩ := List.mem_map.1 ht
    exact method_neu (hM' f hf)
theorem prog_neu {l : List Cd} (hv : ∀ d ∈ l, classL d = true) : Neu (progT l) := neu_flat fun t ht => by
  obtain ⟨d, hd, rfl⟩ := List.mem_map.1 ht
  exact class_neu (hv d hd)
end Go.Proofs.YtalalcpefggniaaGreatDoor.E

namespace Go.Proofs.YtalalcpefggniaaGreatDoor.E
open Go Go.RowKit

def hasPre (a b : List UInt8) : Bool := decide ((b.length : Int) ≤ a.length) && decide (a.take b.length = b)
theorem has_spec (l : List (List UInt8)) (s : List UInt8) (a : Option Addr) (n c : Nat) (m : Mem) (h : Rds m a n 1 (strs l)) (hn : n ≤ 4611686018427387904) :
    FnH Tryz.prog 171 [.v (.slice a n c), .v (.string (bs s))] ⟨[], []⟩ m fun r H' _ => r = .v (.bool (l.contains s)) ∧ H' = ⟨[], []⟩ := by
  have hl : l.length = n := by have := h.1; simpa [strs] using this
  refine enter cf0 pu0 Tryz.func171 rfl rfl (by kernel_rfl) rfl ?_ ?_
  · simp only [go_sem, ↓imp_tf, ↓imp_ft, ↓reduceIte]
  · simp only [go_sem, ↓imp_tf, ↓imp_ft, ↓reduceIte]
    refine WP_loop pu0 (fun k : Nat => ⟨[⟨0, [], .v (.slice a n c)⟩, ⟨1, [], .v (.string (bs s))⟩, ⟨5, [], .v (.int .i64 k)⟩], [], [], [], 0, m⟩)
      (fun k => k ≤ n ∧ (l.take k).contains s = false) (fun k => n - k) 0 (by kernel_rfl) (fun _ _ => Nat.le_refl _) (fun _ _ => .inl rfl) (fun _ => ?_) ?_ ?_ ?_
    · simp only [go_sem, ↓imp_tf, ↓imp_ft, ↓reduceIte]
    · simp only [go_sem, ↓imp_tf, ↓imp_ft, ↓reduceIte]
      rfl
    · simp
    · rintro k ⟨hk, hp⟩
      simp only [go_sem, ↓imp_tf, ↓imp_ft, ↓reduceIte]
      refine ⟨fun hlt => ?_, fun hge => ?_⟩
      · have hkn : k < n := by omega
        obtain ⟨hx, hr, hne⟩ := Rds_one h hkn
        refine ⟨⟨by omega, hlt, hne⟩, _, by simpa using hr, ?_⟩
        have hkl : k < l.length := by omega
        have e : (strs l)[k] = .string (bs l[k]) := by simp [strs]
        have ec := take_has (s := s) hkl
        simp only [e]
        simp only [go_sem, ↓imp_tf, ↓imp_ft, ↓reduceIte]
        refine ⟨fun he => ?_, fun he => ⟨by unfold I64; omega, k + 1, by omega, ⟨by omega, ?_⟩, by omega⟩⟩
        · have : s ∈ l := by rw [← he]; exact List.getElem_mem hkl
          simp [this]
        · rw [ec, hp]; simp; exact fun h => he h.symm
      · have : l.take k = l := List.take_of_length_le (by omega)
        rw [← hp, this]
theorem rkeywords_spec (m : Mem) : FnH Tryz.prog 172 [] ⟨[], []⟩ m fun r H' m' => r = .vec 0 0 ∧ H' = ⟨[], [⟨0, 0, 9, 1, 28, strs keywordsL⟩]⟩ ∧ m' = m := by
  refine enter cfN puN Tryz.func172 rfl rfl (by kernel_rfl) rfl ?_ ?_
  · simp only [go_sem, ↓imp_tf, ↓imp_ft, ↓reduceIte]
  · simp only [go_sem, ↓imp_tf, ↓imp_ft, ↓reduceIte]
    rfl
theorem rsigns_spec (m : Mem) : FnH Tryz.prog 179 [] ⟨[], []⟩ m fun r H' m' => r = .vec 0 0 ∧ H' = ⟨[], [⟨0, 0, 9, 1, 30, strs signsL⟩]⟩ ∧ m' = m := by
  refine enter cfN puN Tryz.func179 rfl rfl (by kernel_rfl) rfl ?_ ?_
  · simp only [go_sem, ↓imp_tf, ↓imp_ft, ↓reduceIte]
  · simp only [go_sem, ↓imp_tf, ↓imp_ft, ↓reduceIte]
    rfl
theorem risCls_spec (s : List UInt8) (m : Mem) (hs : BL s) : FnH Tryz.prog 77 [.v (.string (bs s))] ⟨[], []⟩ m fun r H' _ => r = .v (.bool (isCls s)) ∧ H' = ⟨[], []⟩ := by
  refine enter cf6 pu6 Tryz.func77 rfl rfl (by kernel_rfl) rfl ?_ ?_
  · simp only [go_sem, ↓imp_tf, ↓imp_ft, ↓reduceIte]
  · simp only [go_sem, ↓imp_tf, ↓imp_ft, ↓reduceIte]
    refine ⟨hs, fun h => by simp [isCls, h], fun h => ⟨hs, ⟨by omega, by have := simple_ne h; omega⟩, ?_⟩⟩
    rw [isCls, h, Bool.true_and]
    have e1 : ∀ n : Nat, decide ((65 : Int) ≤ n) = decide (65 ≤ n) := fun n => by rw [decide_eq_decide]; omega
    have e2 : ∀ n : Nat, decide ((n : Int) ≤ 90) = decide (n ≤ 90) := fun n => by rw [decide_eq_decide]; omega
    rw [e1, e2]
theorem hasPre_nil (l : List UInt8) : hasPre l [] = true := by simp [hasPre]
theorem hasPre_nil' (x : UInt8) (o : List UInt8) : hasPre [] (x :: o) = false := by simp [hasPre]
theorem hasPre_cons (y x : UInt8) (l o : List UInt8) : hasPre (y :: l) (x :: o) = (decide (y = x) && hasPre l o) := by
  unfold hasPre
  simp only [List.length_cons, List.take_succ_cons, List.cons.injEq]
  have e : decide (((o.length + 1 : Nat) : Int) ≤ ((l.length + 1 : Nat) : Int)) = decide ((o.length : Int) ≤ l.length) := by rw [decide_eq_decide]; omega
  rw [e, Bool.decide_and]
  cases decide (y = x) <;> simp
theorem colons (l : List UInt8) (h : hasPre l [58, 58] = true) : ∃ r, l = 58 :: 58 :: r := by
  cases l with
  | nil => rw [hasPre_nil'] at h; cases h
  | cons a l =>
    rw [hasPre_cons] at h
    cases l with
    | nil => rw [hasPre_nil'] at h; simp at h
    | cons b l =>
      rw [hasPre_cons, hasPre_nil] at h
      simp only [Bool.and_true, Bool.and_eq_true, decide_eq_true_eq] at h
      exact ⟨l, by rw [h.1, h.2]⟩
/-- A name with two colons for each slash. -/
def spell : List UInt8 → List UInt8
  | [] => []
  | c :: r => if c.toNat = 47 then 58 :: 58 :: spell r else c :: spell r
theorem spell_app : ∀ (a b : List UInt8), spell (a ++ b) = spell a ++ spell b
  | [], _ => rfl
  | c :: a, b => by
    simp only [List.cons_append, spell, spell_app a b]
    split <;> rfl
theorem spell_no : ∀ {a : List UInt8}, (∀ c ∈ a, c ≠ 47) → spell a = a
  | [], _ => rfl
  | c :: a, h => by
    have h1 : ¬ c.toNat = 47 := fun e => h c (List.mem_cons_self ..) (UInt8.toNat_inj.1 e)
    simp only [spell, if_neg h1, spell_no fun d hd => h d (List.mem_cons_of_mem _ hd)]
theorem ix_no : ∀ (A : List UInt8), (∀ c ∈ A, c ≠ 47) → Lib.index A [47] = -1
  | [], _ => rfl
  | a :: A, h => by
    have ih := ix_no A fun c hc => h c (List.mem_cons_of_mem _ hc)
    have ha := h a (List.mem_cons_self ..)
    have hp : List.isPrefixOf [47] (a :: A) = false := by
      simp only [List.isPrefixOf, Bool.and_eq_false_iff]
      left; exact beq_eq_false_iff_ne.2 fun e => ha e.symm
    simp only [Lib.index, hp, ih]
    rfl
theorem ix_at : ∀ (A r : List UInt8), (∀ c ∈ A, c ≠ 47) → Lib.index (A ++ 47 :: r) [47] = A.length
  | [], r, _ => by simp [Lib.index, List.isPrefixOf]
  | a :: A, r, h => by
    have ih := ix_at A r fun c hc => h c (List.mem_cons_of_mem _ hc)
    have ha := h a (List.mem_cons_self ..)
    have hp : List.isPrefixOf [47] (a :: (A ++ 47 :: r)) = false := by
      simp only [List.isPrefixOf, Bool.and_eq_false_iff]
      left; exact beq_eq_false_iff_ne.2 fun e => ha e.symm
    simp only [List.cons_append, Lib.index, hp, ih]
    rw [if_neg (by decide), if_neg (by simp), List.length_cons]
    rfl
def rpF (F : Nat) (s : List UInt8) : List UInt8 := Lib.replaceK [47] [58, 58] (Lib.countFrom [47] F s) s
theorem rpF_no {F : Nat} {A : List UInt8} (h : ∀ c ∈ A, c ≠ 47) : rpF (F + 1) A = A := by
  unfold rpF Lib.countFrom
  rw [ix_no A h]
  rfl
theorem rpF_at {F : Nat} {A r : List UInt8} (h : ∀ c ∈ A, c ≠ 47) : rpF (F + 1) (A ++ 47 :: r) = A ++ 58 :: 58 :: rpF F r := by
  have hi := ix_at A r h
  have hd : (A ++ 47 :: r).drop (A.length + ([47] : List UInt8).length) = r := by
    rw [List.drop_append]
    simp
  unfold rpF
  have hc : Lib.countFrom [47] (F + 1) (A ++ 47 :: r) = Lib.countFrom [47] F r + 1 := by
    simp only [Lib.countFrom]
    rw [hi, if_neg (by simp), Int.toNat_natCast, hd]
    omega
  rw [hc, Lib.replaceK_hit _ _ _ _ _ hi, hd]
  simp
theorem slash_split : ∀ (s : List UInt8), (∀ c ∈ s, c ≠ 47) ∨ ∃ A r, s = A ++ 47 :: r ∧ ∀ c ∈ A, c ≠ 47
  | [] => .inl fun c h => by cases h
  | a :: s => by
    by_cases ha : a = 47
    · exact .inr ⟨[], s, by rw [ha]; rfl, fun c h => by cases h⟩
    · rcases slash_split s with h | ⟨A, r, rfl, h⟩
      · exact .inl fun c hc => by
          rcases List.mem_cons.1 hc with rfl | hc
          · exact ha
          · exact h c hc
      · exact .inr ⟨a :: A, r, rfl, fun c hc => by
          rcases List.mem_cons.1 hc with rfl | hc
          · exact ha
          · exact h c hc⟩
theorem rpF_spell : ∀ (F : Nat) (s : List UInt8), s.length < F → rpF F s = spell s
  | 0, _, h => absurd h (Nat.not_lt_zero _)
  | F + 1, s, h => by
    rcases slash_split s with hs | ⟨A, r, rfl, hA⟩
    · rw [rpF_no hs, spell_no hs]
    · rw [List.length_append, List.length_cons] at h
      rw [rpF_at hA, rpF_spell F r (by omega), spell_app, spell_no hA]
      rfl
theorem rep_one (s : List UInt8) : Lib.replaceAll s [47] [58, 58] = spell s := by
  have e : Lib.replaceAll s [47] [58, 58] = rpF (s.length + 1) s := by
    unfold Lib.replaceAll Lib.replace rpF
    rw [if_neg (by decide)]
    have : Lib.replaceNum s [47] (-1) = Lib.count s [47] := by simp [Lib.replaceNum]
    rw [this]; rfl
  rw [e, rpF_spell _ _ (Nat.lt_succ_self _)]
theorem join_cc (x y : List UInt8) (ys : List (List UInt8)) : Lib.join (x :: y :: ys) [32] = x ++ ([32] ++ Lib.join (y :: ys) [32]) := by simp [Lib.join]
theorem u8_small : ∀ n : Nat, n < 256 → IntKind.u8.wrap (n : Int) = (n : Int) := by decide
theorem spell_len : ∀ (s : List UInt8), (spell s).length ≤ 2 * s.length
  | [] => by simp [spell]
  | c :: s => by
    have := spell_len s
    simp only [spell]
    split <;> simp only [List.length_cons] <;> omega
theorem spell_next {s : List UInt8} {k : Nat} (h : k < s.length) : spell (s.take (k + 1)) = spell (s.take k) ++ if (s.getD k 0).toNat = 47 then [58, 58] else [s.getD k 0] := by
  rw [List.take_succ_eq_append_getElem h, spell_app]
  have e : s.getD k 0 = s[k] := by rw [List.getD_eq_getElem?_getD, List.getElem?_eq_getElem h]; rfl
  rw [e]
  simp only [spell]
theorem one_slice {s : List UInt8} {k : Nat} (h : k < s.length) : (s.take (k + 1)).drop k = [s.getD k 0] := by
  rw [List.take_succ_eq_append_getElem h, List.drop_append_of_le_length (by rw [List.length_take]; omega), List.drop_eq_nil_of_le (by rw [List.length_take]; omega), List.getD_eq_getElem?_getD, List.getElem?_eq_getElem h]
  rfl
theorem spelled_spec (s : List UInt8) (m : Mem) (hs : s.length ≤ 2000000) :
    FnH Tryz.prog 140 [.v (.string (bs s))] ⟨[], []⟩ m fun r H' m' => r = .v (.string (bs (spell s))) ∧ H' = ⟨[], []⟩ ∧ m' = m := by
  refine enter cfN puN Tryz.func140 rfl rfl (by kernel_rfl) rfl ?_ ?_
  · simp only [go_sem, ↓imp_tf, ↓imp_ft, ↓reduceIte]
  · simp only [go_sem, ↓imp_tf, ↓imp_ft, ↓reduceIte]
    refine WP_loop puN (fun k : Nat => ⟨[⟨0, [], .v (.string (bs s))⟩, ⟨3, [], .v (.string (bs (spell (s.take k))))⟩, ⟨4, [], .v (.int .i64 k)⟩], [], [], [], 0, m⟩)
      (fun k => k ≤ s.length) (fun k => s.length - k) 0 (by kernel_rfl) (fun _ _ => Nat.le_refl _) (fun _ _ => .inl rfl) (fun _ => ?_) ?_ (Nat.zero_le _) ?_
    · simp only [go_sem, ↓imp_tf, ↓imp_ft, ↓reduceIte]
    · simp only [go_sem, ↓imp_tf, ↓imp_ft, ↓reduceIte]
      exact ⟨rfl, rfl⟩
    · intro k hk
      have hl : (spell (s.take k)).length ≤ 2 * k := by have := spell_len (s.take k); rw [List.length_take] at this; omega
      simp only [go_sem, ↓imp_tf, ↓imp_ft, ↓reduceIte]
      refine ⟨fun hlt => ?_, fun hge => ?_⟩
      · have hk' : k < s.length := by omega
        have e1 : ((k : Int) + 1).toNat = k + 1 := by omega
        refine ⟨⟨by omega, hlt⟩, fun h47 => ⟨by omega, by unfold I64; omega, k + 1, ⟨?_, rfl⟩, hk', by omega⟩, fun h47 => ⟨by unfold I64; omega, ⟨by omega, by omega, by omega⟩, ?_, by unfold I64; omega, k + 1, ⟨?_, rfl⟩, hk', by omega⟩⟩
        · rw [spell_next hk', if_pos (by omega)]
        · rw [e1, one_slice hk']; simp only [List.length_singleton]; omega
        · rw [e1, one_slice hk', spell_next hk', if_neg (by omega)]
      · rw [List.take_of_length_le (by omega)]
theorem rquoted_spec (s : List UInt8) (m : Mem) (hs : s.length ≤ 2000000) :
    FnH Tryz.prog 139 [.v (.string (bs s))] ⟨[], []⟩ m fun r H' m' => r = .v (.string (bs (escapedL s))) ∧ H' = ⟨[], []⟩ ∧ m' = m := by
  refine enter cfN puN Tryz.func139 rfl rfl (by kernel_rfl) rfl ?_ ?_
  · simp only [go_sem, ↓imp_tf, ↓imp_ft, ↓reduceIte]
  · simp only [go_sem, ↓imp_tf, ↓imp_ft, ↓reduceIte]
    refine WP_loop puN (fun x : Nat × Nat × List UInt8 => ⟨[⟨0, [], .v (.string (bs s))⟩, ⟨3, [], .vec 0 x.2.1⟩, ⟨4, [], .v (.int .i64 x.1)⟩], [], [], [⟨0, x.2.1, 5, 1, x.2.2.length, u8s x.2.2⟩], 1, m⟩)
      (fun x => x.1 ≤ s.length ∧ x.2.2 = 34 :: ((s.take x.1).map escB).flatten) (fun x => s.length - x.1) (0, 0, [34]) (by kernel_rfl) (fun _ _ => Nat.le_refl _) (fun _ _ => .inl rfl) (fun _ => ?_) ?_ ?_ ?_
    · simp only [go_sem, ↓imp_tf, ↓imp_ft, ↓reduceIte]
    · simp only [go_sem, ↓imp_tf, ↓imp_ft, ↓reduceIte]
      exact ⟨rfl, rfl⟩
    · exact ⟨Nat.zero_le _, rfl⟩
    · rintro ⟨k, u, b⟩ ⟨h1, h2⟩
      simp only at h1 h2
      have hbl : b.length ≤ 1 + 4 * k := by
        rw [h2, List.length_cons]
        have := escFlat_len (s.take k)
        rw [List.length_take] at this
        omega
      have hroom : ∀ n, n ≤ 4 → room (b.length + n) 1 := fun n hn => ⟨by omega, by simp only [maxLen]; omega⟩
      have step : k < s.length → ∀ e, escB (s.getD k 0) = e → ∀ ver : Nat, ver = u + 1 → b.length + e.length = (b ++ e).length ∧ u8s b ++ u8s e = u8s (b ++ e) ∧ (k + 1 ≤ s.length ∧ b ++ e = 34 :: ((s.take (k + 1)).map escB).flatten) ∧ s.length - (k + 1) < s.length - k := fun hk e he ver _ => by
        refine ⟨(List.length_append).symm, (u8s_app b e).symm, ⟨hk, ?_⟩, by omega⟩
        rw [List.take_succ_eq_append_getElem hk, List.map_append, List.flatten_append, h2, ← he, List.getD_eq_getElem?_getD, List.getElem?_eq_getElem hk]
        simp
      simp only [go_sem, ↓imp_tf, ↓imp_ft, ↓reduceIte]
      refine ⟨fun hlt => ?_, fun hge => ?_⟩
      · have hk : k < s.length := by omega
        have hI : I64 (k + 1) := by unfold I64; omega
        refine ⟨⟨by omega, hlt⟩, fun c1 => ⟨hroom 2 (by omega), hI, ?_⟩, fun c1 => ⟨fun c2 => ⟨hroom 2 (by omega), hI, ?_⟩, fun c2 => ⟨fun c3 => ⟨hroom 1 (by omega), hI, ?_⟩, fun c3 => ?_⟩⟩⟩
        · have h := step hk [92, s.getD k 0] (by unfold escB; rw [if_pos (by omega)]) _ rfl
          exact ⟨(k + 1, u + 1, b ++ [92, s.getD k 0]), ⟨⟨rfl, rfl⟩, rfl, h.1, h.2.1⟩, h.2.2.1, h.2.2.2⟩
        · have h := step hk [92, 110] (by unfold escB; rw [if_neg (by omega), if_pos (by omega)]) _ rfl
          exact ⟨(k + 1, u + 1, b ++ [92, 110]), ⟨⟨rfl, rfl⟩, rfl, h.1, h.2.1⟩, h.2.2.1, h.2.2.2⟩
        · have h := step hk [s.getD k 0] (by unfold escB; rw [if_neg (by omega), if_neg (by omega), if_neg (by omega)]) _ rfl
          exact ⟨(k + 1, u + 1, b ++ [s.getD k 0]), ⟨⟨rfl, rfl⟩, rfl, h.1, h.2.1⟩, h.2.2.1, h.2.2.2⟩
        · have h := step hk [92, 120, hexL.getD ((s.getD k 0).toNat / 16) 0, hexL.getD ((s.getD k 0).toNat % 16) 0] (by unfold escB; rw [if_neg (by omega), if_neg (by omega), if_pos (by omega)]) _ rfl
          have hc := (s.getD k 0).toNat_lt
          have e1 : (((s.getD k 0).toNat : Nat) : Int).tdiv 16 = ((((s.getD k 0).toNat / 16 : Nat)) : Int) := by rw [Int.tdiv_eq_ediv_of_nonneg (by omega)]; omega
          have e2 : (((s.getD k 0).toNat : Nat) : Int).tmod 16 = ((((s.getD k 0).toNat % 16 : Nat)) : Int) := by rw [Int.tmod_eq_emod_of_nonneg (by omega)]; omega
          have e3 := u8_small ((s.getD k 0).toNat / 16) (by omega)
          refine WP_draw (.hoist 0 (.hoist 1 (.hoist 2 (.hoist 3 (.hoist 4 (.hoist 5 (.hoist 6 (.alt 7 [0] (.alt 8 [] (.hoist 9 .done) .stop) .stop)))))))) puN (by kernel_rfl) (by kernel_rfl) ?_
          simp only [go_sem, ↓imp_tf, ↓imp_ft, ↓reduceIte, e1, e2, e3]
          exact ⟨by omega, by omega, by omega, ⟨by omega, by omega⟩, hroom 4 (by omega), hI, (k + 1, u + 1, b ++ [92, 120, hexL.getD ((s.getD k 0).toNat / 16) 0, hexL.getD ((s.getD k 0).toNat % 16) 0]), ⟨⟨rfl, rfl⟩, rfl, h.1, h.2.1⟩, h.2.2.1, h.2.2.2⟩
      · have ek : k = s.length := by omega
        refine ⟨hroom 1 (by omega), b ++ [34], by rw [u8s_app]; rfl, ?_⟩
        rw [h2, ek, List.take_length]; rfl
/-- The digits that are still to be written. -/
def preD (x : Nat) : List UInt8 := if x = 0 then [] else Lib.decDigits x
theorem preD_next (x : Nat) : Lib.decDigits x = preD (x / 10) ++ [UInt8.ofNat (48 + x % 10)] := by
  unfold preD
  rw [Lib.decDigits]
  by_cases h : x < 10
  · rw [dif_pos h, if_pos (by omega), Nat.mod_eq_of_lt h]; rfl
  · rw [dif_neg h, if_neg (by omega)]
def digsL : List UInt8 := [48, 49, 50, 51, 52, 53, 54, 55, 56, 57]
theorem dig_slice : ∀ d : Nat, d < 10 → (digsL.take (d + 1)).drop d = [UInt8.ofNat (48 + d)] := by decide
theorem digits_spec (N : Nat) (m : Mem) (hN : N ≤ 9223372036854775807) :
    FnH Tryz.prog 138 [.v (.int .i64 N)] ⟨[], []⟩ m fun r H' m' => r = .v (.string (bs (Lib.decDigits N))) ∧ H' = ⟨[], []⟩ ∧ m' = m := by
  have hlen : (Lib.decDigits N).length ≤ 20 := by rw [Lib.decDigits_length]; have := nDigits_le 19 N (by omega); omega
  refine enter cfN puN Tryz.func138 rfl rfl (by kernel_rfl) rfl ?_ ?_
  · simp only [go_sem, ↓imp_tf, ↓imp_ft, ↓reduceIte]
  · simp only [go_sem, ↓imp_tf, ↓imp_ft, ↓reduceIte]
    refine WP_loop puN (fun x : Nat × List UInt8 => ⟨[⟨0, [], .v (.int .i64 x.1)⟩, ⟨3, [], .v (.string (bs x.2))⟩], [], [], [], 0, m⟩)
      (fun x => x.1 ≤ N ∧ ((x.2 = [] ∧ x.1 = N) ∨ (x.2 ≠ [] ∧ Lib.decDigits N = preD x.1 ++ x.2))) (fun x => x.1 + if x.2 = [] then 1 else 0) (N, []) (by kernel_rfl) (fun _ _ => Nat.le_refl _) (fun _ _ => .inl rfl) (fun _ => ?_) ?_ ⟨Nat.le_refl _, .inl ⟨rfl, rfl⟩⟩ ?_
    · simp only [go_sem, ↓imp_tf, ↓imp_ft, ↓reduceIte]
    · simp only [go_sem, ↓imp_tf, ↓imp_ft, ↓reduceIte]
    · rintro ⟨x, b⟩ hx
      simp only at hx
      simp only [go_sem, ↓imp_tf, ↓imp_ft, ↓reduceIte]
      have e1 : (x : Int).tmod 10 = ((x % 10 : Nat) : Int) := by rw [Int.tmod_eq_emod_of_nonneg (by omega)]; omega
      have e2 : (x : Int).tdiv 10 = ((x / 10 : Nat) : Int) := by rw [Int.tdiv_eq_ediv_of_nonneg (by omega)]; omega
      have e3 : (((x % 10 : Nat) : Int)).toNat = x % 10 := Int.toNat_natCast _
      have e4 : (((x % 10 : Nat) : Int) + 1).toNat = x % 10 + 1 := by omega
      rw [e1, e2, e3, e4]
      have e5 := dig_slice (x % 10) (Nat.mod_lt _ (by omega))
      unfold digsL at e5
      rw [e5]
      have hbl : b.length ≤ 20 := by
        rcases hx.2 with h | h
        · rw [h.1]; simp
        · have := congrArg List.length h.2
          rw [List.length_append] at this
          omega
      have hxN := hx.1
      refine ⟨fun hc => ⟨by omega, by omega, by unfold I64; omega, ⟨by omega, by omega, by omega⟩, by simp only [List.length_singleton]; omega, by omega, by unfold I64; omega, (x / 10, [UInt8.ofNat (48 + x % 10)] ++ b), ⟨rfl, rfl⟩, ⟨by simp only; omega, .inr ⟨by simp, ?_⟩⟩, ?_⟩, fun hc => ?_⟩
      · simp only
        rcases hx.2 with h | h
        · rw [h.1, ← h.2, List.append_nil]; exact preD_next x
        · have h0 : ¬ x = 0 := by
            rcases hc with hc | hc
            · exact absurd hc h.1
            · omega
          have e : preD x = Lib.decDigits x := if_neg h0
          rw [h.2, e, preD_next x, List.append_assoc]
      · simp only [List.cons_append, List.nil_append, if_neg (List.cons_ne_nil _ _)]
        by_cases hb : b = []
        · rw [if_pos hb]; omega
        · rw [if_neg hb]
          rcases hc with hc | hc
          · exact absurd hc hb
          · omega
      · rcases hx.2 with h | h
        · exact absurd h.1 hc.1
        · have h0 : x = 0 := by omega
          rw [h.2, h0]; rfl
theorem valid_pre {t : Tk} (h : ((decide (t.k = 3) || decide (t.k = 4)) == (decide (t.s = []) && !decide (t.k = 5))) = false) : fmtL t = none := by
  obtain ⟨k, s, n, q⟩ := t
  simp only at h
  have hn : isName [] = false := rfl
  by_cases hs : s = []
  · subst hs
    simp only [decide_true, Bool.true_and] at h
    by_cases h3 : k = 3
    · subst h3; exact absurd h (by simp)
    · by_cases h4 : k = 4
      · subst h4; exact absurd h (by simp)
      · by_cases h5 : k = 5
        · subst h5; exact absurd h (by simp)
        · simp only [fmtL, h3, h4, h5, if_false, hn]
          have e1 : keywordsL.contains [] = false := by decide
          have e2 : signsL.contains [] = false := by decide
          simp only [e1, e2]
          simp
  · simp only [decide_eq_false hs, Bool.false_and] at h
    by_cases h3 : k = 3
    · subst h3; simp [fmtL, hs]
    · by_cases h4 : k = 4
      · subst h4; simp [fmtL, hs]
      · simp only [decide_eq_false h3, decide_eq_false h4, Bool.or_self] at h
        exact absurd h (by decide)
theorem valid_pos {t : Tk} (h : ((decide (t.k = 3) || decide (t.k = 4)) == (decide (t.s = []) && !decide (t.k = 5))) = true) : t.k = 3 ∨ t.k = 4 → t.s = [] := by
  intro hk
  have e : (decide (t.k = 3) || decide (t.k = 4)) = true := by simpa using hk
  rw [e] at h
  have := beq_iff_eq.1 h
  have := Bool.and_eq_true_iff.1 this.symm
  exact of_decide_eq_true this.1
theorem some_if {p : Prop} [Decidable p] {x : List UInt8} : (if p then some x else none).isSome = decide p := by
  by_cases h : p <;> simp [h]
set_option maxHeartbeats 8000000 in
theorem xvalid_spec (t : Tk) (m : Mem) (ht : TkOk t) :
    FnH Tryz.prog 137 [Tk.sv t] ⟨[], []⟩ m fun r H' m' => leM m m' ∧ H' = ⟨[], []⟩ ∧ r = .v (.bool (fmtL t).isSome) := by
  have hl := ht.1
  refine enter cf6 pu6 Tryz.func137 rfl rfl (by kernel_rfl) rfl ?_ ?_
  · simp only [go_sem, ↓imp_tf, ↓imp_ft, ↓reduceIte, Tk.sv, Tk.cells]
  · simp only [go_sem, ↓imp_tf, ↓imp_ft, ↓reduceIte, Tk.sv, Tk.cells]
    refine ⟨Tryz.underlying4, fun hp => by rw [valid_pre hp]; rfl, fun hp => ?_⟩
    have hs34 := valid_pos hp
    refine ⟨fun k1 => ?_, fun k1 => ⟨fun k2 => ?_, fun k2 => ⟨fun k3 => ?_, fun k3 => ⟨fun k4 => ?_, fun k4 => ⟨fun k5 => ?_, fun k5 => ⟨fun k6 => ?_, fun k6 => ?_⟩⟩⟩⟩⟩⟩
    · have hf : fmtL t = if t.n = 0 ∧ isName t.s = true ∧ keywordsL.contains t.s = false then some (Lib.replaceAll t.s [47] [58, 58]) else none := if_pos k1
      rw [hf, some_if]
      clear hp
      refine WP_draw (.hoist 0 (.hoist 1 (.hoist 2 (.hoist 3 (.hoist 4 (.hoist 5 (.alt 6 [] (.hoist 7 (.hoist 8 (.hoist 10 (.hoist 11 (.alt 9 [11, 10] (.alt 12 [] (.hoist 13 (.hoist 14 (.hoist 15 .done))) .stop) .stop))))) .stop))))))) pu6 (by kernel_rfl) (by kernel_rfl) ?_
      simp only [go_sem, ↓imp_tf, ↓imp_ft, ↓reduceIte]
      refine ⟨fun _ => by unfold BL; omega, fun hh => ⟨by kernel_rfl, FnV_of ((rkeywords_spec m).mono ?_)⟩, fun hh => ?_⟩
      · rintro r H' m1 hm1 ⟨rfl, rfl, rfl⟩
        simp only [go_sem, ↓imp_tf, ↓imp_ft, ↓reduceIte]
        refine ⟨by kernel_rfl, fun ad cp m2 hm2 _ hrd => FnV_of ((has_spec keywordsL t.s ad 28 cp m2 hrd (by decide)).mono ?_)⟩
        rintro r H' m3 hm3 ⟨rfl, rfl⟩
        simp only [go_sem, ↓imp_tf, ↓imp_ft, ↓reduceIte]
        refine ⟨.inr (Mem.le_trans hm2 hm3), ?_⟩
        rw [hh.1, hh.2]
        cases keywordsL.contains t.s <;> rfl
      · rw [eq_comm, decide_eq_false_iff_not]
        rintro ⟨a, b, _⟩
        rcases hh with hh | hh
        · exact hh a
        · rw [b] at hh; cases hh
    · have hf : fmtL t = if t.n = 0 ∧ keywordsL.contains t.s = true then some t.s else none := by unfold fmtL; rw [if_neg k1, if_pos k2]
      rw [hf, some_if]
      clear hp
      refine WP_draw (.hoist 0 (.hoist 1 (.hoist 2 (.hoist 3 (.hoist 5 (.hoist 6 (.alt 4 [6, 5] (.alt 7 [] (.hoist 8 (.hoist 9 .done)) .stop) .stop))))))) pu6 (by kernel_rfl) (by kernel_rfl) ?_
      simp only [go_sem, ↓imp_tf, ↓imp_ft, ↓reduceIte]
      refine ⟨fun hh => ⟨by kernel_rfl, FnV_of ((rkeywords_spec m).mono ?_)⟩, fun hh => ?_⟩
      · rintro r H' m1 hm1 ⟨rfl, rfl, rfl⟩
        simp only [go_sem, ↓imp_tf, ↓imp_ft, ↓reduceIte]
        refine ⟨by kernel_rfl, fun ad cp m2 hm2 _ hrd => FnV_of ((has_spec keywordsL t.s ad 28 cp m2 hrd (by decide)).mono ?_)⟩
        rintro r H' m3 hm3 ⟨rfl, rfl⟩
        simp only [go_sem, ↓imp_tf, ↓imp_ft, ↓reduceIte]
        refine ⟨.inr (Mem.le_trans hm2 hm3), ?_⟩
        rw [hh]
        cases keywordsL.contains t.s <;> rfl
      · rw [eq_comm, decide_eq_false_iff_not]
        rintro ⟨a, b⟩
        exact hh a
    · have hf : fmtL t = if (t.s = [] ∧ 0 ≤ t.n) ∧ t.n < 2147483648 then some (Lib.itoa t.n) else none := by unfold fmtL; rw [if_neg k1, if_neg k2, if_pos k3]
      rw [hf, some_if, ← Bool.decide_and, decide_eq_decide]
      have := hs34 (.inl k3)
      simp only [this, true_and]
      omega
    · have hf : fmtL t = if t.s = [] ∧ 0 ≤ t.n then some (Lib.itoa t.n ++ [76]) else none := by unfold fmtL; rw [if_neg k1, if_neg k2, if_neg k3, if_pos k4]
      rw [hf, some_if, decide_eq_decide]
      simp only [hs34 (.inr k4), true_and]
    · have hf : fmtL t = if t.n = 0 ∧ t.s.length ≤ 1024 then some (escapedL t.s) else none := by unfold fmtL; rw [if_neg k1, if_neg k2, if_neg k3, if_neg k4, if_pos k5]
      rw [hf, some_if, ← Bool.decide_and, decide_eq_decide]
      omega
    · have hf : fmtL t = if t.n = 0 ∧ signsL.contains t.s = true then some t.s else none := by unfold fmtL; rw [if_neg k1, if_neg k2, if_neg k3, if_neg k4, if_neg k5, if_pos k6]
      rw [hf, some_if]
      clear hp
      refine WP_draw (.hoist 0 (.hoist 1 (.hoist 2 (.hoist 3 (.hoist 5 (.hoist 6 (.alt 4 [6, 5] (.alt 7 [] (.hoist 8 (.hoist 9 .done)) .stop) .stop))))))) pu6 (by kernel_rfl) (by kernel_rfl) ?_
      simp only [go_sem, ↓imp_tf, ↓imp_ft, ↓reduceIte]
      refine ⟨fun hh => ⟨by kernel_rfl, FnV_of ((rsigns_spec m).mono ?_)⟩, fun hh => ?_⟩
      · rintro r H' m1 hm1 ⟨rfl, rfl, rfl⟩
        simp only [go_sem, ↓imp_tf, ↓imp_ft, ↓reduceIte]
        refine ⟨by kernel_rfl, fun ad cp m2 hm2 _ hrd => FnV_of ((has_spec signsL t.s ad 30 cp m2 hrd (by decide)).mono ?_)⟩
        rintro r H' m3 hm3 ⟨rfl, rfl⟩
        simp only [go_sem, ↓imp_tf, ↓imp_ft, ↓reduceIte]
        refine ⟨.inr (Mem.le_trans hm2 hm3), ?_⟩
        rw [hh]
        cases signsL.contains t.s <;> rfl
      · rw [eq_comm, decide_eq_false_iff_not]
        rintro ⟨a, b⟩
        exact hh a
    · have hf : fmtL t = none := by unfold fmtL; rw [if_neg k1, if_neg k2, if_neg k3, if_neg k4, if_neg k5, if_neg k6]
      rw [hf]; rfl
theorem fmt_inv {t : Tk} {x : List UInt8} (h : fmtL t = some x) : (t.k = 3 → 0 ≤ t.n ∧ x = Lib.itoa t.n) ∧ (t.k = 4 → 0 ≤ t.n ∧ x = Lib.itoa t.n ++ [76]) ∧ (t.k = 5 → x = escapedL t.s) ∧ (t.k = 1 → x = spell t.s) ∧ (¬ t.k = 3 → ¬ t.k = 4 → ¬ t.k = 5 → ¬ t.k = 1 → x = t.s) := by
  unfold fmtL at h
  split at h
  · rename_i hk
    split at h
    · cases h
      exact ⟨by omega, by omega, by omega, fun _ => rep_one _, fun _ _ _ h => absurd hk h⟩
    · cases h
  · split at h
    · rename_i h1 hk
      split at h
      · cases h
        exact ⟨by omega, by omega, by omega, fun h => absurd h h1, fun _ _ _ _ => rfl⟩
      · cases h
    · split at h
      · rename_i h1 _ hk
        split at h
        · rename_i hc
          cases h
          exact ⟨fun _ => ⟨hc.1.2, rfl⟩, by omega, by omega, fun h => absurd h h1, fun h => absurd hk h⟩
        · cases h
      · split at h
        · rename_i h1 _ h3 hk
          split at h
          · rename_i hc
            cases h
            exact ⟨fun h => absurd h h3, fun _ => ⟨hc.2, rfl⟩, by omega, fun h => absurd h h1, fun _ h => absurd hk h⟩
          · cases h
        · split at h
          · rename_i h1 _ h3 h4 hk
            split at h
            · cases h
              exact ⟨fun h => absurd h h3, fun h => absurd h h4, fun _ => rfl, fun h => absurd h h1, fun _ _ h => absurd hk h⟩
            · cases h
          · split at h
            · rename_i h1 _ h3 h4 h5 hk
              split at h
              · cases h
                exact ⟨fun h => absurd h h3, fun h => absurd h h4, fun h => absurd h h5, fun h => absurd h h1, fun _ _ _ _ => rfl⟩
              · cases h
            · cases h
theorem rdigits (n : Int) (m : Mem) (h0 : 0 ≤ n) (hI : I64 n) : FnH Tryz.prog 138 [.v (.int .i64 n)] ⟨[], []⟩ m fun r H' m' => r = .v (.string (bs (Lib.itoa n))) ∧ H' = ⟨[], []⟩ ∧ m' = m := by
  obtain ⟨u, rfl⟩ : ∃ u : Nat, n = u := ⟨n.toNat, by omega⟩
  rw [Lib.itoa_nonneg]
  exact digits_spec u m (by have := hI.2; omega)
set_option maxHeartbeats 8000000 in
theorem rformat_spec (t : Tk) (m : Mem) (ht : TkOk t) :
    FnH Tryz.prog 63 [Tk.sv t] ⟨[], []⟩ m fun r H' m' => leM m m' ∧ H' = ⟨[], []⟩ ∧ FOut (fmtL t) r := by
  have hl := ht.1
  have hv := xvalid_spec t m ht
  cases hx : fmtL t with
  | none =>
    rw [hx] at hv
    refine enter cf6 pu6 Tryz.func63 rfl rfl (by kernel_rfl) rfl ?_ ?_
    · simp only [go_sem, ↓imp_tf, ↓imp_ft, ↓reduceIte, Tk.sv, Tk.cells]
    · simp only [go_sem, ↓imp_tf, ↓imp_ft, ↓reduceIte, Tk.sv, Tk.cells]
      refine ⟨by kernel_rfl, FnV_of (hv.mono ?_)⟩
      rintro r H' m1 hm1 ⟨hle1, rfl, rfl⟩
      simp only [go_sem, ↓imp_tf, ↓imp_ft, ↓reduceIte, Option.isSome]
      exact ⟨hle1, rfl⟩
  | some x =>
    rw [hx] at hv
    refine enter cf6 pu6 Tryz.func63 rfl rfl (by kernel_rfl) rfl ?_ ?_
    · simp only [go_sem, ↓imp_tf, ↓imp_ft, ↓reduceIte, Tk.sv, Tk.cells]
    · simp only [go_sem, ↓imp_tf, ↓imp_ft, ↓reduceIte, Tk.sv, Tk.cells]
      refine ⟨by kernel_rfl, FnV_of (hv.mono ?_)⟩
      rintro r H' m1 hm1 ⟨hle1, rfl, rfl⟩
      simp only [go_sem, ↓imp_tf, ↓imp_ft, ↓reduceIte, Option.isSome]
      have i3 := (fmt_inv hx).1
      have i4 := (fmt_inv hx).2.1
      have i5 := (fmt_inv hx).2.2.1
      have i1 := (fmt_inv hx).2.2.2.1
      have i6 := (fmt_inv hx).2.2.2.2
      refine ⟨fun k3 => ⟨by kernel_rfl, FnV_of ((rdigits t.n m1 (i3 k3).1 ht.2).mono ?_)⟩, fun k3 => ⟨fun k4 => ⟨by kernel_rfl, FnV_of ((rdigits t.n m1 (i4 k4).1 ht.2).mono ?_)⟩, fun k4 => ⟨fun k5 => ⟨by kernel_rfl, FnV_of ((rquoted_spec t.s m1 hl).mono ?_)⟩, fun k5 => ⟨fun k1 => ⟨by kernel_rfl, FnV_of ((spelled_spec t.s m1 hl).mono ?_)⟩, fun k1 => ⟨hle1, ?_⟩⟩⟩⟩⟩
      · rintro r H' m2 hm2 ⟨rfl, rfl, rfl⟩
        simp only [go_sem, ↓imp_tf, ↓imp_ft, ↓reduceIte]
        refine ⟨hle1, ?_⟩
        rw [(i3 k3).2]; rfl
      · rintro r H' m2 hm2 ⟨rfl, rfl, rfl⟩
        simp only [go_sem, ↓imp_tf, ↓imp_ft, ↓reduceIte]
        refine ⟨by have := itoa_len ht.2; omega, hle1, ?_⟩
        rw [(i4 k4).2]; rfl
      · rintro r H' m2 hm2 ⟨rfl, rfl, rfl⟩
        simp only [go_sem, ↓imp_tf, ↓imp_ft, ↓reduceIte]
        refine ⟨hle1, ?_⟩
        rw [i5 k5]; rfl
      · rintro r H' m2 hm2 ⟨rfl, rfl, rfl⟩
        simp only [go_sem, ↓imp_tf, ↓imp_ft, ↓reduceIte]
        refine ⟨hle1, ?_⟩
        rw [i1 k1]; rfl
      · rw [i6 k3 k4 k5 k1]; rfl
theorem join_snoc : ∀ (acc : List (List UInt8)) (x : List UInt8), Lib.join (acc ++ [x]) [32] = if acc = [] then x else Lib.join acc [32] ++ [32] ++ x
  | [], x => by simp [Lib.join]
  | [y], x => by
    rw [if_neg (List.cons_ne_nil _ _)]
    show Lib.join (y :: x :: []) [32] = _
    rw [join_cc]; simp [Lib.join]
  | y :: z :: acc, x => by
    rw [if_neg (List.cons_ne_nil _ _)]
    show Lib.join (y :: z :: (acc ++ [x])) [32] = _
    have ih := join_snoc (z :: acc) x
    rw [if_neg (List.cons_ne_nil _ _)] at ih
    rw [join_cc, join_cc, show z :: (acc ++ [x]) = z :: acc ++ [x] from rfl, ih]
    simp
theorem leM_trans2 {a b c : Mem} (h : leM a b) (h' : leM b c) : leM a c := by
  rcases h' with rfl | h'
  · exact h
  · exact leM_trans h h'
theorem xRds_upM {m m' : Mem} {a : Option Addr} {n sz : Nat} {xs : List Value} (hle : leM m m') (h : Rds m a n sz xs) : Rds m' a n sz xs := by
  rcases hle with rfl | hle
  · exact h
  · exact Rds_up hle h
set_option maxHeartbeats 8000000 in
theorem rjoin_spec (ts : List Tk) (a : Option Addr) (n c : Nat) (m : Mem) (h : Rds m a n 4 (tkCells ts)) (ht : ∀ t ∈ ts, TkOk t) (hn : n ≤ 4611686018427387904) :
    FnH Tryz.prog 28 [.v (.slice a n c)] ⟨[], []⟩ m fun r H' m' => leM m m' ∧ H' = ⟨[], []⟩ ∧ r = .tup [.v (.string (bs (joinL ts).1)), .v (.int .i64 (joinL ts).2)] := by
  have hl : ts.length = n := by have := h.1; rw [tk_len] at this; omega
  refine enter cf6 pu6 Tryz.func28 rfl rfl (by kernel_rfl) rfl ?_ ?_
  · simp only [go_sem, ↓imp_tf, ↓imp_ft, ↓reduceIte]
  · simp only [go_sem, ↓imp_tf, ↓imp_ft, ↓reduceIte]
    refine ⟨fun hb => ?_, fun hb => ?_⟩
    · have e : joinL ts = ([], 5) := if_pos (by omega)
      rw [e]
    · have hj : joinL ts = match fmtsL ts with | none => ([], 1) | some l => if 20000 < (Lib.join l [32]).length then ([], 8) else (Lib.join l [32], 0) := if_neg (by omega)
      refine WP_loop pu6 (fun x : Nat × List (List UInt8) × Nat × Mem => ⟨[⟨0, [], .v (.slice a n c)⟩, ⟨4, [], .vec 0 x.2.2.1⟩, ⟨5, [], .v (.int .i64 x.1)⟩], [], [], [⟨0, x.2.2.1, 5, 1, (Lib.join x.2.1 [32]).length, u8s (Lib.join x.2.1 [32])⟩], 1, x.2.2.2⟩)
        (fun x => leM m x.2.2.2 ∧ Rds x.2.2.2 a n 4 (tkCells ts) ∧ x.1 ≤ n ∧ x.2.1.length = x.1 ∧ (∀ y ∈ x.2.1, y.length ≤ 10000000) ∧ fmtsL ts = preL x.2.1 (fmtsL (ts.drop x.1))) (fun x => n - x.1) (0, [], 0, m) (by kernel_rfl) (fun _ _ => Nat.le_refl _) (fun x hx => hx.1) (fun _ => ?_) ?_ ?_ ?_
      · simp only [go_sem, ↓imp_tf, ↓imp_ft, ↓reduceIte]
      · simp only [go_sem, ↓imp_tf, ↓imp_ft, ↓reduceIte]
        exact ⟨rfl, rfl, rfl⟩
      · refine ⟨.inl rfl, h, Nat.zero_le _, rfl, (fun y hy => by cases hy), ?_⟩
        simp [preL]
      · rintro ⟨k, acc, u, mm⟩ ⟨h1, h3, h4, h5, h7, h6⟩
        simp only at h1 h3 h4 h5 h6 h7
        have hr : ∀ (hkl : k < ts.length), Rd mm (ptrAt a (k * 4)) (tkC ts[k]) ∧ a ≠ none := fun hkl => by
          have := Rds_cells h3 (i := k) (by omega)
          rwa [tk_at hkl] at this
        have hfs : ∀ (hkl : k < ts.length), _ := fun hkl => (rformat_spec ts[k] mm (ht _ (List.getElem_mem hkl))).mono fun r H' m' _ h => And.intro h.1 (And.intro h.2.1 (FOut_two h.2.2))
        have hjs := fun hkl : k = n => show fmtsL ts = some acc by rw [h6, List.drop_eq_nil_of_le (by omega)]; simp [fmtsL, preL]
        have hjl := join_len [32] 10000000 acc h7
        simp only [List.length_singleton] at hjl
        simp only [go_sem, ↓imp_tf, ↓imp_ft, ↓reduceIte]
        refine ⟨fun hlt => ?_, fun hge => ?_⟩
        · have hkl : k < ts.length := by clear hr hfs; omega
          refine ⟨⟨by clear hr hfs; omega, hlt, (hr hkl).2⟩, tkC ts[k], ⟨(hr hkl).1, rfl⟩, ?_⟩
          simp only [go_sem, ↓imp_tf, ↓imp_ft, ↓reduceIte, tkC]
          refine ⟨by kernel_rfl, FnV_of ((hfs hkl).mono ?_)⟩
          clear hfs
          rintro r H' m' hm ⟨hle, rfl, x, e, rfl, hx⟩
          have hm' : leM m m' := leM_trans2 h1 hle
          simp only [go_sem, ↓imp_tf, ↓imp_ft, ↓reduceIte]
          refine ⟨fun he => ⟨hm', ?_⟩, fun he => ?_⟩
          · rcases hx with ⟨h8, _⟩ | ⟨rfl, rfl, h8⟩
            · exact absurd h8 he
            · rw [hj, h6, fmts_no hkl h8]
              rfl
          · have hfx : fmtL ts[k] = some x := by
              rcases hx with ⟨_, h8⟩ | ⟨h8, _⟩
              · exact h8
              · rw [he] at h8; cases h8
            have hxl := fmtL_len (ht _ (List.getElem_mem hkl)) hfx
            have hsn := join_snoc acc x
            have hall : ∀ y ∈ acc ++ [x], y.length ≤ 10000000 := fun y hy => by
              rcases List.mem_append.1 hy with hy | hy
              · exact h7 y hy
              · rw [List.mem_singleton.1 hy]; exact hxl
            have hf' : fmtsL ts = preL (acc ++ [x]) (fmtsL (ts.drop (k + 1))) := by
              rw [h6, fmts_yes hkl hfx]
              cases fmtsL (ts.drop (k + 1)) <;> simp [preL]
            have hlen : (acc ++ [x]).length = k + 1 := by rw [List.length_append, h5]; rfl
            refine ⟨fun h0 => ?_, fun h0 => ?_⟩
            · have hne : acc ≠ [] := by
                rintro rfl
                simp only [List.length_nil] at h5
                omega
              rw [if_neg hne] at hsn
              refine ⟨⟨by omega, by simp only [maxLen]; omega⟩, ⟨by omega, by simp only [maxLen]; omega⟩, by unfold I64; omega, (k + 1, acc ++ [x], u + 1 + 1, m'), ⟨⟨rfl, rfl⟩, ⟨rfl, ?_, ?_⟩, .inl rfl⟩, ⟨hm', xRds_upM hle h3, by simp only; omega, hlen, hall, hf'⟩, by simp only; omega⟩
              · simp only [hsn, List.length_append, List.length_singleton]
              · simp only [hsn, u8s_app]; rfl
            · have he0 : acc = [] := List.eq_nil_of_length_eq_zero (by omega)
              rw [if_pos he0] at hsn
              subst he0
              refine ⟨⟨by simp only [Lib.join_nil, List.length_nil]; omega, by simp only [maxLen, Lib.join_nil, List.length_nil]; omega⟩, by unfold I64; omega, (k + 1, [] ++ [x], u + 1, m'), ⟨⟨rfl, rfl⟩, ⟨rfl, ?_, ?_⟩, .inl rfl⟩, ⟨hm', xRds_upM hle h3, by simp only; omega, hlen, hall, hf'⟩, by simp only; omega⟩
              · simp only [hsn, Lib.join_nil, List.length_nil, Nat.zero_add]
              · simp only [hsn, Lib.join_nil]; rfl
        · have hacc : fmtsL ts = some acc := hjs (by clear hfs; omega)
          refine ⟨fun hx => ⟨h1, ?_⟩, fun hx => ⟨_, rfl, h1, ?_⟩⟩
          · rw [hj, hacc]
            simp only [if_pos (show 20000 < (Lib.join acc [32]).length by clear hfs; omega)]
          · rw [hj, hacc]
            simp only [if_neg (show ¬ 20000 < (Lib.join acc [32]).length by clear hfs; omega)]
end Go.Proofs.YtalalcpefggniaaGreatDoor.E

namespace Go.Proofs.YtalalcpefggniaaGreatDoor.E
open Go Go.RowKit

def partL (first : Bool) : List UInt8 → Nat
  | [] => 0
  | c :: r => if isStartB c.toNat || (!first && isDigitB c.toNat) then 1 + partL false r else 0
def isAt (s : List UInt8) (i : Int) (b : List UInt8) : Bool := decide ((b.length : Int) ≤ s.length - i) && decide (((s.take (i + b.length).toNat).drop i.toNat) = b)
/-- What ParseInt answers: the number, and is there no error. -/
def parseN (s : List UInt8) : Int × Bool :=
  match Lib.parseIntB 64 s with
  | .ok v => (v, true)
  | .range => (Lib.intSat 64 s, false)
  | _ => (0, false)
/-- How many bytes are skipped ('true': inside of a comment). -/
def skipW : Bool → List UInt8 → Nat
  | _, [] => 0
  | true, c :: r => if c.toNat = 10 then 1 + skipW false r else 1 + skipW true r
  | false, c :: r => if c.toNat = 9 ∨ c.toNat = 10 ∨ c.toNat = 13 ∨ c.toNat = 32 then 1 + skipW false r else if c.toNat = 47 ∧ r.head?.map UInt8.toNat = some 47 then 1 + skipW true r else 0
theorem skip_le : ∀ (b : Bool) (l : List UInt8), skipW b l ≤ l.length
  | _, [] => by simp [skipW]
  | true, c :: r => by
    have h1 := skip_le false r; have h2 := skip_le true r
    simp only [skipW, List.length_cons]; split <;> omega
  | false, c :: r => by
    have h1 := skip_le false r; have h2 := skip_le true r
    simp only [skipW, List.length_cons]; split
    · omega
    · split <;> omega
theorem hasPre_iff {a b : List UInt8} : hasPre a b = true ↔ ∃ r, a = b ++ r := by
  simp only [hasPre, Bool.and_eq_true, decide_eq_true_eq]
  constructor
  · rintro ⟨_, h⟩
    exact ⟨a.drop b.length, by conv => lhs; rw [← List.take_append_drop b.length a, h]⟩
  · rintro ⟨r, rfl⟩
    exact ⟨by rw [List.length_append]; omega, by simp⟩
theorem u8_eq {c : UInt8} {n : Nat} (h : c.toNat = n) : c = UInt8.ofNat n := by rw [← h]; simp
theorem hasPre_two {c : UInt8} {r : List UInt8} : hasPre (c :: r) [47, 47] = true ↔ c.toNat = 47 ∧ r.head?.map UInt8.toNat = some 47 := by
  rw [hasPre_iff]
  constructor
  · rintro ⟨t, h⟩
    simp only [List.cons_append, List.nil_append, List.cons.injEq] at h
    rw [h.1, h.2]
    simp
  · rintro ⟨h1, h2⟩
    cases r with
    | nil => simp at h2
    | cons d r =>
      simp only [List.head?_cons, Option.map_some, Option.some.injEq] at h2
      exact ⟨r, by rw [u8_eq h1, u8_eq h2]; rfl⟩
theorem idx_lt (c : UInt8) : ∀ (l : List UInt8), Lib.indexByte l c < l.length
  | [] => by simp [Lib.indexByte]
  | d :: r => by
    have := idx_lt c r
    simp only [Lib.indexByte, List.length_cons]
    split
    · omega
    · split <;> omega
abbrev Tk0 : Tk := ⟨0, [], 0, 0⟩
/-- The first operator with which the text begins. -/
def signAt (l : List UInt8) : Option (List UInt8) := signsL.find? fun o => hasPre l o
def hexI (c : UInt8) : Int := Lib.indexByte hexL c
/-- An escape: how long, which byte, is it one. -/
def escL : List UInt8 → Nat × Int × Bool
  | [] => (0, 0, false)
  | c :: r => if c.toNat = 34 ∨ c.toNat = 92 then (1, c.toNat, true) else if c.toNat = 110 then (1, 10, true) else if c.toNat = 120 then
      (match r with
        | h :: l :: _ => (3, IntKind.u8.wrap (16 * hexI h + hexI l), decide (0 ≤ hexI h) && decide (0 ≤ hexI l))
        | _ => (0, 0, false)) else (0, 0, false)
/-- What stands in a string, behind its first quote: the bytes, and how long the text is. -/
def qScanF : Nat → List UInt8 → Option (List UInt8 × Nat)
  | 0, _ => none
  | _ + 1, [] => none
  | f + 1, c :: r => if c.toNat = 34 then some ([], 1) else if c.toNat < 32 ∨ 126 < c.toNat then none else
      if c.toNat = 92 then (if (escL r).2.2 = true then (qScanF f (r.drop (escL r).1)).map fun x => (UInt8.ofNat (escL r).2.1.toNat :: x.1, 1 + (escL r).1 + x.2) else none)
      else (qScanF f r).map fun x => (c :: x.1, 1 + x.2)
def qScan (l : List UInt8) : Option (List UInt8 × Nat) := qScanF (l.length + 1) l
theorem wrap_u8 (n : Int) : ∃ x : UInt8, IntKind.u8.wrap n = x.toNat := by
  have h : 0 ≤ IntKind.u8.wrap n ∧ IntKind.u8.wrap n < 256 := by
    have e : IntKind.u8.wrap n = n % 256 := by simp [IntKind.wrap, IntKind.bits, IntKind.signed]
    rw [e]
    omega
  exact ⟨UInt8.ofNat (IntKind.u8.wrap n).toNat, by rw [UInt8.toNat_ofNat']; omega⟩
theorem escL_byte (l : List UInt8) : ∃ x : UInt8, (escL l).2.1 = x.toNat := by
  unfold escL
  split
  · exact ⟨0, rfl⟩
  · rename_i c r
    split
    · exact ⟨c, rfl⟩
    · split
      · exact ⟨10, rfl⟩
      · split
        · split
          · exact wrap_u8 _
          · exact ⟨0, rfl⟩
        · exact ⟨0, rfl⟩
theorem escL_len (l : List UInt8) : (escL l).1 ≤ l.length ∧ ((escL l).2.2 = true → 1 ≤ (escL l).1) := by
  unfold escL
  split
  · simp
  · rename_i c r
    split
    · simp
    · split
      · simp
      · split
        · split
          · simp
          · simp
        · simp
/-- The digits with which a text begins. -/
def digL : List UInt8 → Nat
  | [] => 0
  | c :: r => if isDigitB c.toNat then 1 + digL r else 0
theorem dig_le : ∀ l, digL l ≤ l.length
  | [] => by simp [digL]
  | c :: r => by
    have := dig_le r
    simp only [digL, List.length_cons]
    split <;> omega
/-- A number: is it long, its value, how long its text is, is it right. -/
def numL (l : List UInt8) : Bool × Int × Nat × Bool :=
  let d := digL l
  let big := decide ((l.drop d).head?.map UInt8.toNat = some 76)
  let v := parseN (l.take d)
  (big, v.1, if big = true then d + 1 else d, v.2 && decide (v.1 ≤ if big = true then 9223372036854775807 else 2147483647) && (decide ((l.head?.map UInt8.toNat) ≠ some 48) || decide (d = 1)))
def numT (s : List UInt8) (p : Nat) : List UInt8 := (s.drop p).take (digL (s.drop p))
theorem num_at {s : List UInt8} {p k : Nat} (hp : p < s.length) (hk : k ≤ s.length) (hk0 : k = p + digL (s.drop p)) (hpos : p < k) :
    (s.take k).drop p = numT s p ∧ (numT s p).length = k - p ∧ numL (s.drop p) = (decide ((k : Int) < s.length ∧ (((s.getD k 0).toNat : Nat) : Int) = 76), (parseN (numT s p)).1, (if ((k : Int) < s.length ∧ (((s.getD k 0).toNat : Nat) : Int) = 76) then k - p + 1 else k - p),
      (parseN (numT s p)).2 && decide ((parseN (numT s p)).1 ≤ if ((k : Int) < s.length ∧ (((s.getD k 0).toNat : Nat) : Int) = 76) then 9223372036854775807 else 2147483647) && (decide (((numT s p).getD 0 0).toNat ≠ 48) || decide ((numT s p).length = 1))) := by
  have hdt : (s.take k).drop p = (s.drop p).take (digL (s.drop p)) := by
    rw [List.drop_take]; congr 1; omega
  have hdn : (s.drop p).drop (digL (s.drop p)) = s.drop k := by rw [List.drop_drop, hk0]
  have hdl : ((s.drop p).take (digL (s.drop p))).length = k - p := by rw [List.length_take]; have := dig_le (s.drop p); omega
  have hd0 : ((s.drop p).take (digL (s.drop p))).getD 0 0 = (s.drop p).getD 0 0 := by
    rw [List.getD_eq_getElem?_getD, List.getElem?_take, if_pos (by omega), List.getD_eq_getElem?_getD]
  have hdg : digL (s.drop p) = k - p := by omega
  have hh0 : (s.drop p).head?.map UInt8.toNat = some ((s.drop p).getD 0 0).toNat := by
    rw [drop_at hp]; rfl
  have hh1 : ((s.drop k).head?.map UInt8.toNat = some 76) = ((k : Int) < s.length ∧ (((s.getD k 0).toNat : Nat) : Int) = 76) := by
    rw [eq_iff_iff]
    rcases Nat.lt_or_ge k s.length with h' | h'
    · rw [drop_at h']
      simp only [List.head?_cons, Option.map_some, Option.some.injEq]
      omega
    · rw [List.drop_of_length_le h']
      simp only [List.head?_nil, Option.map_none]
      constructor
      · intro h; cases h
      · intro h; omega
  refine ⟨hdt, hdl, ?_⟩
  unfold numT
  have hN : numL (s.drop p) = (decide (((s.drop p).drop (digL (s.drop p))).head?.map UInt8.toNat = some 76), (parseN ((s.drop p).take (digL (s.drop p)))).1,
    (if decide (((s.drop p).drop (digL (s.drop p))).head?.map UInt8.toNat = some 76) = true then digL (s.drop p) + 1 else digL (s.drop p)),
    (parseN ((s.drop p).take (digL (s.drop p)))).2 && decide ((parseN ((s.drop p).take (digL (s.drop p)))).1 ≤ if decide (((s.drop p).drop (digL (s.drop p))).head?.map UInt8.toNat = some 76) = true then 9223372036854775807 else 2147483647) && (decide (((s.drop p).head?.map UInt8.toNat) ≠ some 48) || decide (digL (s.drop p) = 1))) := rfl
  rw [hN, hdn, hdl, hd0, hh0]
  generalize (s.drop p).take (digL (s.drop p)) = t
  rw [hdg]
  simp only [hh1, decide_eq_true_eq, ne_eq, Option.some.injEq]
/-- How far the further parts of an identifier reach. -/
def idRF : Nat → List UInt8 → Nat
  | 0, _ => 0
  | f + 1, l => if hasPre l [58, 58] = true ∧ partL true (l.drop 2) ≠ 0 then 2 + partL true (l.drop 2) + idRF f (l.drop (2 + partL true (l.drop 2))) else 0
def idN (l : List UInt8) : Nat := partL true l + idRF (l.length + 1) (l.drop (partL true l))
def idS (l : List UInt8) : List UInt8 := Lib.replaceAll (l.take (idN l)) [58, 58] [47]
theorem part_le : ∀ (b : Bool) (l : List UInt8), partL b l ≤ l.length
  | _, [] => by simp [partL]
  | b, c :: r => by
    have := part_le false r
    simp only [partL, List.length_cons]
    split <;> omega
theorem pre_len {a b : List UInt8} (h : hasPre a b = true) : b.length ≤ a.length := by
  obtain ⟨r, rfl⟩ := hasPre_iff.1 h
  rw [List.length_append]; omega
/-- The token with which a text begins: kind, text, number, length. -/
def tokL (l : List UInt8) : Option (Int × List UInt8 × Int × Nat) :=
  match l with
  | [] => none
  | c :: r =>
    if isStartB c.toNat = true then (if isName (idS l) = true then some (if keywordsL.contains (idS l) = true then 2 else 1, idS l, 0, idN l) else none)
    else if isDigitB c.toNat = true then (if (numL l).2.2.2 = true then some (if (numL l).1 = true then 4 else 3, [], (numL l).2.1, (numL l).2.2.1) else none)
    else if c.toNat = 34 then (match qScan r with
      | some (b, n) => if b.length ≤ 1024 then some (5, b, 0, 1 + n) else none
      | none => none)
    else (signAt l).map fun o => (6, o, 0, o.length)
theorem idRF_le : ∀ (f : Nat) (l : List UInt8), idRF f l ≤ l.length
  | 0, _ => Nat.zero_le _
  | f + 1, l => by
    simp only [idRF]
    split
    · rename_i h
      have h1 := part_le true (l.drop 2)
      have h2 := idRF_le f (l.drop (2 + partL true (l.drop 2)))
      have h3 := pre_len h.1
      simp only [List.length_drop, List.length_cons, List.length_nil] at h1 h2 h3
      omega
    · exact Nat.zero_le _
theorem idN_le (l : List UInt8) : idN l ≤ l.length := by
  have h1 := part_le true l
  have h2 := idRF_le (l.length + 1) (l.drop (partL true l))
  rw [List.length_drop] at h2
  unfold idN; omega
theorem qScanF_len : ∀ (f : Nat) (l : List UInt8) (b : List UInt8) (n : Nat), qScanF f l = some (b, n) → 1 ≤ n ∧ n ≤ l.length
  | 0, l, b, n, h => by cases h
  | f + 1, [], b, n, h => by cases h
  | f + 1, c :: r, b, n, h => by
    simp only [qScanF] at h
    split at h
    · cases h; simp
    · split at h
      · cases h
      · split at h
        · split at h
          · obtain ⟨⟨b', n'⟩, h', e⟩ := Option.map_eq_some_iff.1 h
            cases e
            have h1 := qScanF_len f _ _ _ h'
            have h2 := (escL_len r).1
            rw [List.length_drop] at h1
            simp only [List.length_cons]
            omega
          · cases h
        · obtain ⟨⟨b', n'⟩, h', e⟩ := Option.map_eq_some_iff.1 h
          cases e
          have h1 := qScanF_len f _ _ _ h'
          simp only [List.length_cons]
          omega
theorem signAt_len {l o : List UInt8} (h : signAt l = some o) : 1 ≤ o.length ∧ o.length ≤ l.length := by
  have h1 := List.find?_some h
  have h2 := List.mem_of_find?_eq_some h
  exact ⟨(by decide : ∀ o ∈ signsL, 1 ≤ o.length) o h2, pre_len h1⟩
theorem tokL_len {l : List UInt8} {k : Int} {t : List UInt8} {n : Int} {len : Nat} (h : tokL l = some (k, t, n, len)) : 1 ≤ len ∧ len ≤ l.length := by
  cases l with
  | nil => cases h
  | cons c r =>
    simp only [tokL] at h
    split at h
    · rename_i hs
      split at h
      · cases h
        refine ⟨?_, idN_le _⟩
        have : 1 ≤ partL true (c :: r) := by
          simp only [partL]; rw [if_pos (by rw [hs]; rfl)]; omega
        unfold idN; omega
      · cases h
    · split at h
      · rename_i hd
        split at h
        · cases h
          have h1 := dig_le (c :: r)
          have h2 : 1 ≤ digL (c :: r) := by simp only [digL]; rw [if_pos hd]; omega
          simp only [numL]
          split
          · rename_i hb
            refine ⟨by omega, ?_⟩
            rcases Nat.lt_or_ge (digL (c :: r)) (c :: r).length with h3 | h3
            · omega
            · rw [List.drop_of_length_le h3] at hb
              simp at hb
          · exact ⟨h2, h1⟩
        · cases h
      · split at h
        · split at h
          · rename_i b n' hq
            split at h
            · cases h
              have := qScanF_len _ _ _ _ hq
              simp only [List.length_cons]
              omega
            · cases h
          · cases h
        · obtain ⟨o, ho, e⟩ := Option.map_eq_some_iff.1 h
          cases e
          exact signAt_len ho
/-- The tokens of a text, from an offset on. -/
def lexF (s : List UInt8) : Nat → Nat → List Tk → List Tk × Int × Int
  | 0, _, acc => (acc, 0, 0)
  | f + 1, p, acc =>
    let q := p + skipW false (s.drop p)
    if s.length ≤ q then (acc, 0, 0) else if 5000 ≤ acc.length then ([], 0, 5) else
      match tokL (s.drop q) with
      | none => ([], q, 70)
      | some (k, t, n, len) => lexF s f (q + len) (acc ++ [⟨k, t, n, q⟩])
def tokenizeL (s : List UInt8) : List Tk × Int × Int := if 20000 < s.length then ([], 0, 8) else lexF s (s.length + 1) 0 []
theorem xtkCells_app (a : List Tk) (t : Tk) : tkCells a ++ [Value.int .i64 t.k, .string (bs t.s), .int .i64 t.n, .int .i64 t.at_] = tkCells (a ++ [t]) := by simp [tkCells]
/-- A list of tokens, as a call hands it back. -/
def ROut (x : List Tk × Int × Int) (r : SV) (H' : Hp) : Prop :=
  (x.2.2 = 0 ∧ ∃ k u, r = .tup [.vec k u, .v (.int .i64 x.2.1), .v (.int .i64 x.2.2)] ∧ H' = ⟨[], [⟨k, u, 79, 4, x.1.length, tkCells x.1⟩]⟩) ∨
  (x.2.2 ≠ 0 ∧ x.1 = [] ∧ r = .tup [.v (.slice none 0 0), .v (.int .i64 x.2.1), .v (.int .i64 x.2.2)] ∧ H' = ⟨[], []⟩)
/-- Hexadecimal digits, as the reference reckons them. -/
def hexR (c : Int) : Int := if isDigitB c then c - 48 else if 97 ≤ c ∧ c ≤ 102 then c - 97 + 10 else -1
theorem hexR_eq (c : UInt8) : hexR c.toNat = hexI c := by
  have h : ∀ n : Nat, n < 256 → hexR (n : Int) = hexI (UInt8.ofNat n) := by decide
  have := h c.toNat c.toNat_lt
  simpa using this
theorem wrap_u8_eq (n : Int) : IntKind.u8.wrap n = n % 256 := by simp [IntKind.wrap, IntKind.bits, IntKind.signed]
theorem wrap_i64_eq {n : Int} (h : 0 ≤ n ∧ n < 1000) : IntKind.i64.wrap n = n := by
  simp [IntKind.wrap, IntKind.bits, IntKind.signed]
  omega
theorem dig_iff (c : Int) : isDigitB c = true ↔ 48 ≤ c ∧ c ≤ 57 := by simp [isDigitB]
def pI8U (F : Int → Value) : List Value → Option (Prop × Value)
  | [.int .u8 c] => some (0 ≤ c ∧ c ≤ 255, F c)
  | _ => none
attribute [go_sem] pI8U.eq_1
theorem pureU8 {P : Program} {f : FuncId} {F : Int → Value} (h : ∀ c m, 0 ≤ c ∧ c ≤ 255 → FnH P f [.v (.int .u8 c)] ⟨[], []⟩ m fun r H' _ => r = .v (F c) ∧ H' = ⟨[], []⟩) : Pure0 P f (pI8U F) := fun vals y hy hB m => by
  unfold pI8U at hy
  split at hy
  · cases hy; exact h _ m hB
  · cases hy
/-- The next character of a string: its byte, how long it is (0: none). -/
def charL : List UInt8 → Int × Nat
  | [] => (0, 0)
  | c :: r => if (c.toNat < 32 ∨ 126 < c.toNat) ∨ c.toNat = 34 then (0, 0) else if c.toNat ≠ 92 then (c.toNat, 1) else if (escL r).2.2 = true then ((escL r).2.1, 1 + (escL r).1) else (0, 0)
theorem escL_end {s : List UInt8} {q : Nat} (h : s.length ≤ q) : escL (s.drop q) = (0, 0, false) := by
  rw [List.drop_of_length_le h]; rfl
theorem escL_self {s : List UInt8} {q : Nat} (h : q < s.length) (hc : (s.getD q 0).toNat = 34 ∨ (s.getD q 0).toNat = 92) : escL (s.drop q) = (1, ((s.getD q 0).toNat : Int), true) := by
  rw [drop_at h]; simp only [escL]; rw [if_pos hc]
theorem escL_n {s : List UInt8} {q : Nat} (h : q < s.length) (hc : (s.getD q 0).toNat = 110) : escL (s.drop q) = (1, 10, true) := by
  rw [drop_at h]; simp only [escL]; rw [if_neg (by omega), if_pos hc]
theorem escL_x {s : List UInt8} {q : Nat} (h : q + 2 < s.length) (hc : (s.getD q 0).toNat = 120) :
    escL (s.drop q) = (3, IntKind.u8.wrap (16 * hexI (s.getD (q + 1) 0) + hexI (s.getD (q + 2) 0)), decide (0 ≤ hexI (s.getD (q + 1) 0)) && decide (0 ≤ hexI (s.getD (q + 2) 0))) := by
  rw [drop_at (by omega), drop_at (k := q + 1) (by omega), drop_at (k := q + 1 + 1) (by omega)]; simp only [escL]; rw [if_neg (by omega), if_neg (by omega), if_pos hc]
theorem escL_short {s : List UInt8} {q : Nat} (h : q < s.length) (hs : s.length ≤ q + 2) (hc : (s.getD q 0).toNat = 120) : escL (s.drop q) = (0, 0, false) := by
  rw [drop_at h]; simp only [escL]; rw [if_neg (by omega), if_neg (by omega), if_pos hc]
  have hl : (s.drop (q + 1)).length ≤ 1 := by rw [List.length_drop]; omega
  split
  · rename_i h l t e
    rw [e] at hl
    simp at hl
  · rfl
theorem escL_no {s : List UInt8} {q : Nat} (h : q < s.length) (h1 : ¬ ((s.getD q 0).toNat = 34 ∨ (s.getD q 0).toNat = 92)) (h2 : ¬ (s.getD q 0).toNat = 110) (h3 : ¬ (s.getD q 0).toNat = 120) : escL (s.drop q) = (0, 0, false) := by
  rw [drop_at h]; simp only [escL]; rw [if_neg h1, if_neg h2, if_neg h3]
theorem charL_bad {s : List UInt8} {p : Nat} (h : p < s.length) (hc : ((s.getD p 0).toNat < 32 ∨ 126 < (s.getD p 0).toNat) ∨ (s.getD p 0).toNat = 34) : charL (s.drop p) = (0, 0) := by
  rw [drop_at h]; simp only [charL]; rw [if_pos hc]
theorem charL_plain {s : List UInt8} {p : Nat} (h : p < s.length) (hc : ¬ (((s.getD p 0).toNat < 32 ∨ 126 < (s.getD p 0).toNat) ∨ (s.getD p 0).toNat = 34)) (h2 : (s.getD p 0).toNat ≠ 92) : charL (s.drop p) = (((s.getD p 0).toNat : Int), 1) := by
  rw [drop_at h]; simp only [charL]; rw [if_neg hc, if_pos h2]
theorem charL_esc {s : List UInt8} {p : Nat} (h : p < s.length) (h2 : (s.getD p 0).toNat = 92) {x : Nat × Int × Bool} (he : escL (s.drop (p + 1)) = x) : charL (s.drop p) = if x.2.2 = true then (x.2.1, 1 + x.1) else (0, 0) := by
  rw [drop_at h]; simp only [charL]; rw [if_neg (by omega), if_neg (by omega), he]
/-- What the reference's scanners answer. -/
def RN (p : Nat) (o : Option (Int × List UInt8 × Int × Nat)) (r : SV) : Prop :=
  ∃ (t : Tk) (e : Int) (b : Bool), r = .tup [Tk.sv t, .v (.int .i64 e), .v (.bool b)] ∧
    match o with
    | some (k, tt, n, len) => b = true ∧ t = ⟨k, tt, n, p⟩ ∧ e = (p + len : Nat)
    | none => b = false
theorem charL_len (l : List UInt8) : (charL l).2 ≤ l.length := by
  cases l with
  | nil => simp [charL]
  | cons c r =>
    have := (escL_len r).1
    simp only [charL, List.length_cons]
    split
    · omega
    · split
      · omega
      · split <;> simp only <;> omega
theorem charL_byte (l : List UInt8) : ∃ x : UInt8, (charL l).1 = x.toNat := by
  cases l with
  | nil => exact ⟨0, rfl⟩
  | cons c r =>
    simp only [charL]
    split
    · exact ⟨0, rfl⟩
    · split
      · exact ⟨c, rfl⟩
      · split
        · exact escL_byte r
        · exact ⟨0, rfl⟩
theorem qScan_step {f : Nat} {c : UInt8} {r : List UInt8} {x : UInt8} (hc : c.toNat ≠ 34) (hx : (charL (c :: r)).1 = x.toNat) :
    qScanF (f + 1) (c :: r) = if (charL (c :: r)).2 = 0 then none else (qScanF f ((c :: r).drop (charL (c :: r)).2)).map fun y => (x :: y.1, (charL (c :: r)).2 + y.2) := by
  simp only [qScanF]
  rw [if_neg hc]
  by_cases h1 : c.toNat < 32 ∨ 126 < c.toNat
  · have hch : charL (c :: r) = (0, 0) := by simp only [charL]; rw [if_pos (.inl h1)]
    rw [if_pos h1, hch]; rfl
  · rw [if_neg h1]
    by_cases h2 : c.toNat = 92
    · rw [if_pos h2]
      by_cases h3 : (escL r).2.2 = true
      · have h4 := (escL_len r).2 h3
        have hch : charL (c :: r) = ((escL r).2.1, 1 + (escL r).1) := by simp only [charL]; rw [if_neg (by omega), if_neg (by omega), if_pos h3]
        rw [hch] at hx ⊢
        have hx : (escL r).2.1 = x.toNat := hx
        rw [if_pos h3, hx]
        have e1 : UInt8.ofNat ((x.toNat : Nat) : Int).toNat = x := by simp
        have e2 : (c :: r).drop (1 + (escL r).1) = r.drop (escL r).1 := by rw [Nat.add_comm, List.drop_succ_cons]
        show _ = if 1 + (escL r).1 = 0 then none else (qScanF f ((c :: r).drop (1 + (escL r).1))).map fun y => (x :: y.1, 1 + (escL r).1 + y.2)
        rw [if_neg (by omega), e1, e2]
      · have hch : charL (c :: r) = (0, 0) := by simp only [charL]; rw [if_neg (by omega), if_neg (by omega), if_neg h3]
        rw [if_neg h3, hch]; rfl
    · rw [if_neg h2]
      have hch : charL (c :: r) = ((c.toNat : Int), 1) := by simp only [charL]; rw [if_neg (by omega), if_pos h2]
      rw [hch] at hx ⊢
      have hx : (c.toNat : Int) = x.toNat := hx
      have e1 : c = x := UInt8.toNat_inj.1 (by omega)
      show _ = if 1 = 0 then none else (qScanF f ((c :: r).drop 1)).map fun y => (x :: y.1, 1 + y.2)
      rw [if_neg (by decide), List.drop_succ_cons, List.drop_zero, e1]
def pIs (B : List UInt8 → Int → List UInt8 → Prop) (F : List UInt8 → Int → List UInt8 → Value) : List Value → Option (Prop × Value)
  | [.string a, .int .i64 c, .string b] => some (B (tl a) c (tl b), F (tl a) c (tl b))
  | _ => none
theorem pureIs {P : Program} {f : FuncId} {B : List UInt8 → Int → List UInt8 → Prop} {F : List UInt8 → Int → List UInt8 → Value}
    (h : ∀ a c b m, B a c b → FnH P f [.v (.string (bs a)), .v (.int .i64 c), .v (.string (bs b))] ⟨[], []⟩ m fun r H' _ => r = .v (F a c b) ∧ H' = ⟨[], []⟩) :
    Pure0 P f (pIs B F) := fun vals y hy hB m => by
  unfold pIs at hy
  split at hy
  · rename_i a c b
    cases hy
    have := h (tl a) c (tl b) m hB
    rwa [bs_tl, bs_tl] at this
  · cases hy
attribute [go_sem] pIs.eq_1
abbrev isB (s : List UInt8) (i : Int) (b : List UInt8) : Prop := 0 ≤ i ∧ i ≤ s.length ∧ s.length ≤ 4611686018427387904 ∧ b.length ≤ 1000
theorem isAt_pre {s b : List UInt8} {q : Nat} (h : q ≤ s.length) : isAt s q b = hasPre (s.drop q) b := by
  unfold isAt hasPre
  have e1 : decide ((b.length : Int) ≤ s.length - q) = decide ((b.length : Int) ≤ (s.drop q).length) := by rw [decide_eq_decide, List.length_drop]; omega
  have e2 : ((q : Int) + b.length).toNat = q + b.length := by omega
  rw [e1, e2, Int.toNat_natCast, List.drop_take]
  have e3 : q + b.length - q = b.length := by omega
  rw [e3]
/-- Decimal digits that spell an int64. -/
def refDig : Nat → List UInt8 → Option Nat
  | n, [] => some n
  | n, c :: r => if n ≤ (9223372036854775807 - (c.toNat - 48)) / 10 then refDig (n * 10 + (c.toNat - 48)) r else none
theorem uintM_ge {M : Nat} : ∀ (l : List UInt8) (acc u : Nat), Lib.parseUintM M acc l = .ok u → acc ≤ u
  | [], acc, u, h => by simp only [Lib.parseUintM, Lib.NumEnd.ok.injEq] at h; omega
  | c :: r, acc, u, h => by
    simp only [Lib.parseUintM] at h
    split at h
    · split at h
      · cases h
      · split at h
        · cases h
        · have := uintM_ge r _ u h
          omega
    · cases h
theorem refDig_uint : ∀ (l : List UInt8) (n : Nat), n ≤ 9223372036854775807 → (∀ c ∈ l, isDigitB c.toNat = true) →
    match refDig n l with
    | some v => Lib.parseUintM 18446744073709551615 n l = .ok v ∧ v ≤ 9223372036854775807
    | none => ∀ u, Lib.parseUintM 18446744073709551615 n l = .ok u → 9223372036854775808 ≤ u
  | [], n, hn, _ => ⟨rfl, hn⟩
  | c :: r, n, hn, hd => by
    have hc := (dig_iff _).1 (hd c (List.mem_cons_self ..))
    have hr := fun x hx => hd x (List.mem_cons_of_mem _ hx)
    simp only [refDig]
    by_cases h : n ≤ (9223372036854775807 - (c.toNat - 48)) / 10
    · rw [if_pos h]
      have ih := refDig_uint r (n * 10 + (c.toNat - 48)) (by omega) hr
      have e : Lib.parseUintM 18446744073709551615 n (c :: r) = Lib.parseUintM 18446744073709551615 (n * 10 + (c.toNat - 48)) r := by
        simp only [Lib.parseUintM]
        rw [if_pos (by omega), if_neg (by omega), if_neg (by omega)]
      rw [e]
      exact ih
    · rw [if_neg h]
      intro u hu
      simp only [Lib.parseUintM] at hu
      rw [if_pos (by omega)] at hu
      split at hu
      · cases hu
      · split at hu
        · cases hu
        · have := uintM_ge r _ u hu
          omega
theorem parseN_ref {l : List UInt8} (hne : l ≠ []) (hd : ∀ c ∈ l, isDigitB c.toNat = true) :
    match refDig 0 l with
    | some v => parseN l = ((v : Int), true) ∧ v ≤ 9223372036854775807
    | none => (parseN l).2 = false := by
  have h := refDig_uint l 0 (by omega) hd
  cases l with
  | nil => exact absurd rfl hne
  | cons c r =>
    have hc := (dig_iff _).1 (hd c (List.mem_cons_self ..))
    have e : parseN (c :: r) = match Lib.parseUintM 18446744073709551615 0 (c :: r) with
      | .ok u => if 9223372036854775808 ≤ u then (Lib.intSat 64 (c :: r), false) else ((u : Int), true)
      | .range => (Lib.intSat 64 (c :: r), false)
      | _ => (0, false) := by
      unfold parseN Lib.parseIntB
      simp only [Lib.parseUintB]
      have h43 : ¬ (c.toNat = 43 ∨ c.toNat = 45) := by omega
      have h45 : ¬ c.toNat = 45 := by omega
      rw [if_neg h43, if_neg (List.cons_ne_nil _ _)]
      cases Lib.parseUintM (2 ^ 64 - 1) 0 (c :: r) with
      | ok u =>
        by_cases hu : 9223372036854775808 ≤ u
        · simp [h45, hu]
        · simp [h45, hu]
      | range => rfl
      | _ => rfl
    rw [e]
    cases hr : refDig 0 (c :: r) with
    | some v =>
      rw [hr] at h
      rw [h.1]
      simp only
      rw [if_neg (by omega)]
      exact ⟨rfl, h.2⟩
    | none =>
      rw [hr] at h
      cases hm : Lib.parseUintM 18446744073709551615 0 (c :: r) with
      | ok u =>
        have := h u hm
        simp only
        rw [if_pos this]
      | range => rfl
      | _ => rfl
theorem dig_all : ∀ (l : List UInt8), ∀ c ∈ l.take (digL l), isDigitB c.toNat = true
  | [], c, h => by simp at h
  | d :: r, c, h => by
    simp only [digL] at h
    split at h
    · rename_i hd
      rw [Nat.add_comm, List.take_succ_cons] at h
      rcases List.mem_cons.1 h with rfl | h
      · exact hd
      · exact dig_all r c h
    · simp at h
theorem part_no58 : ∀ (b : Bool) (l : List UInt8), ∀ c ∈ l.take (partL b l), c ≠ 58
  | _, [], c, h => by simp at h
  | b, d :: r, c, h => by
    simp only [partL] at h
    split at h
    · rename_i hd
      rw [Nat.add_comm, List.take_succ_cons] at h
      rcases List.mem_cons.1 h with rfl | h
      · rintro rfl
        revert hd
        cases b <;> decide
      · exact part_no58 false r c h
    · simp at h
theorem index_no : ∀ (A : List UInt8), (∀ c ∈ A, c ≠ 58) → Lib.index A [58, 58] = -1
  | [], _ => rfl
  | a :: A, h => by
    have ih := index_no A fun c hc => h c (List.mem_cons_of_mem _ hc)
    have ha := h a (List.mem_cons_self ..)
    have hp : List.isPrefixOf [58, 58] (a :: A) = false := by
      simp only [List.isPrefixOf, Bool.and_eq_false_iff]
      left; exact beq_eq_false_iff_ne.2 fun e => ha e.symm
    simp only [Lib.index, hp, ih]
    rfl
theorem index_at : ∀ (A r : List UInt8), (∀ c ∈ A, c ≠ 58) → Lib.index (A ++ 58 :: 58 :: r) [58, 58] = A.length
  | [], r, _ => by simp [Lib.index, List.isPrefixOf]
  | a :: A, r, h => by
    have ih := index_at A r fun c hc => h c (List.mem_cons_of_mem _ hc)
    have ha := h a (List.mem_cons_self ..)
    have hp : List.isPrefixOf [58, 58] (a :: (A ++ 58 :: 58 :: r)) = false := by
      simp only [List.isPrefixOf, Bool.and_eq_false_iff]
      left; exact beq_eq_false_iff_ne.2 fun e => ha e.symm
    simp only [List.cons_append, Lib.index, hp, ih]
    rw [if_neg (by decide), if_neg (by simp), List.length_cons]
    rfl
def repF (F : Nat) (s : List UInt8) : List UInt8 := Lib.replaceK [58, 58] [47] (Lib.countFrom [58, 58] F s) s
theorem repF_no {F : Nat} {A : List UInt8} (h : ∀ c ∈ A, c ≠ 58) : repF (F + 1) A = A := by
  unfold repF Lib.countFrom
  rw [index_no A h]
  rfl
theorem repF_at {F : Nat} {A r : List UInt8} (h : ∀ c ∈ A, c ≠ 58) : repF (F + 1) (A ++ 58 :: 58 :: r) = A ++ 47 :: repF F r := by
  have hi := index_at A r h
  have hd : (A ++ 58 :: 58 :: r).drop (A.length + ([58, 58] : List UInt8).length) = r := by
    rw [List.drop_append]
    simp
  unfold repF
  have hc : Lib.countFrom [58, 58] (F + 1) (A ++ 58 :: 58 :: r) = Lib.countFrom [58, 58] F r + 1 := by
    simp only [Lib.countFrom]
    rw [hi, if_neg (by simp), Int.toNat_natCast, hd]
    omega
  rw [hc, Lib.replaceK_hit _ _ _ _ _ hi, hd]
  simp
/-- The further parts of a name. -/
def idTF : Nat → List UInt8 → List UInt8
  | 0, _ => []
  | f + 1, l => if hasPre l [58, 58] = true ∧ partL true (l.drop 2) ≠ 0 then 47 :: ((l.drop 2).take (partL true (l.drop 2)) ++ idTF f (l.drop (2 + partL true (l.drop 2)))) else []
theorem rep_id : ∀ (f : Nat) (l A : List UInt8) (F : Nat), (∀ c ∈ A, c ≠ 58) → (A ++ l.take (idRF f l)).length < F → repF F (A ++ l.take (idRF f l)) = A ++ idTF f l
  | 0, l, A, F, hA, hF => by
    obtain ⟨F, rfl⟩ : ∃ g, F = g + 1 := ⟨F - 1, by omega⟩
    simp only [idRF, idTF, List.take_zero, List.append_nil]
    exact repF_no hA
  | f + 1, l, A, F, hA, hF => by
    obtain ⟨F, rfl⟩ : ∃ g, F = g + 1 := ⟨F - 1, by omega⟩
    simp only [idRF] at hF
    simp only [idRF, idTF]
    by_cases h : hasPre l [58, 58] = true ∧ partL true (l.drop 2) ≠ 0
    · rw [if_pos h] at hF
      rw [if_pos h, if_pos h]
      obtain ⟨r, hr⟩ := hasPre_iff.1 h.1
      subst hr
      have e2 : ([58, 58] ++ r).drop 2 = r := rfl
      have e3 : ([58, 58] ++ r).drop (2 + partL true r) = r.drop (partL true r) := by
        rw [← List.drop_drop, e2]
      rw [e2, e3] at hF
      rw [e2, e3]
      have e4 : ([58, 58] ++ r).take (2 + partL true r + idRF f (r.drop (partL true r))) = 58 :: 58 :: (r.take (partL true r) ++ (r.drop (partL true r)).take (idRF f (r.drop (partL true r)))) := by
        rw [Nat.add_assoc, Nat.add_comm 2]
        show 58 :: 58 :: r.take (partL true r + idRF f (r.drop (partL true r))) = _
        rw [List.take_add]
      rw [e4] at hF
      have ih := rep_id f (r.drop (partL true r)) (r.take (partL true r)) F (part_no58 true r) (by rw [List.length_append, List.length_cons, List.length_cons] at hF; omega)
      rw [e4, repF_at hA, ih]
    · rw [if_neg h, if_neg h, List.take_zero, List.append_nil]
      exact repF_no hA
theorem idS_eq (l : List UInt8) : idS l = l.take (partL true l) ++ idTF (l.length + 1) (l.drop (partL true l)) := by
  have e : ∀ s, Lib.replaceAll s [58, 58] [47] = repF (s.length + 1) s := fun s => by
    unfold Lib.replaceAll Lib.replace repF
    rw [if_neg (by decide)]
    have : Lib.replaceNum s [58, 58] (-1) = Lib.count s [58, 58] := by simp [Lib.replaceNum]
    rw [this]; rfl
  have h1 : l.take (idN l) = l.take (partL true l) ++ (l.drop (partL true l)).take (idRF (l.length + 1) (l.drop (partL true l))) := by
    unfold idN; rw [List.take_add]
  unfold idS
  rw [e, h1]
  exact rep_id _ _ _ _ (part_no58 true l) (Nat.lt_succ_self _)
theorem kw_name {s : List UInt8} (h : keywordsL.contains s = true) : isName s = true :=
  (by decide : ∀ k ∈ keywordsL, isName k = true) s (by simpa using h)
theorem start_nodig {c : Int} (h : isStartB c = true) : isDigitB c = false := by
  cases hd : isDigitB c with
  | false => rfl
  | true =>
    have := (dig_iff _).1 hd
    simp only [isStartB, Bool.or_eq_true, Bool.and_eq_true, decide_eq_true_eq] at h
    omega
theorem part_zero {c : UInt8} {r : List UInt8} : partL true (c :: r) ≠ 0 ↔ isStartB c.toNat = true := by
  simp only [partL]
  cases h : isStartB c.toNat
  · simp
  · simp
theorem tokL_id {s : List UInt8} {p : Nat} (hp : p < s.length) (h1 : isStartB (s.getD p 0).toNat = true) :
    tokL (s.drop p) = if isName (idS (s.drop p)) = true then some (if keywordsL.contains (idS (s.drop p)) = true then 2 else 1, idS (s.drop p), 0, idN (s.drop p)) else none := by
  rw [drop_at hp]
  show (if isStartB (s.getD p 0).toNat = true then _ else _) = _
  rw [if_pos h1]
theorem tokL_num {s : List UInt8} {p : Nat} (hp : p < s.length) (h1 : isStartB (s.getD p 0).toNat = false) (h2 : isDigitB (s.getD p 0).toNat = true) :
    tokL (s.drop p) = if (numL (s.drop p)).2.2.2 = true then some (if (numL (s.drop p)).1 = true then 4 else 3, [], (numL (s.drop p)).2.1, (numL (s.drop p)).2.2.1) else none := by
  rw [drop_at hp]
  show (if isStartB (s.getD p 0).toNat = true then _ else if isDigitB (s.getD p 0).toNat = true then _ else _) = _
  rw [if_neg (by rw [h1]; exact Bool.false_ne_true), if_pos h2]
theorem tokL_quo {s : List UInt8} {p : Nat} (hp : p < s.length) (h1 : isStartB (s.getD p 0).toNat = false) (h2 : isDigitB (s.getD p 0).toNat = false) (h3 : (((s.getD p 0).toNat : Nat) : Int) = 34) :
    tokL (s.drop p) = match qScan (s.drop (p + 1)) with
      | some (b, n) => if b.length ≤ 1024 then some (5, b, 0, 1 + n) else none
      | none => none := by
  rw [drop_at hp]
  show (if isStartB (s.getD p 0).toNat = true then _ else if isDigitB (s.getD p 0).toNat = true then _ else if (s.getD p 0).toNat = 34 then _ else _) = _
  rw [if_neg (by rw [h1]; exact Bool.false_ne_true), if_neg (by rw [h2]; exact Bool.false_ne_true), if_pos (by omega)]
  first | done | rfl
theorem tokL_op {s : List UInt8} {p : Nat} (hp : p < s.length) (h1 : isStartB (s.getD p 0).toNat = false) (h2 : isDigitB (s.getD p 0).toNat = false) (h3 : ¬ (((s.getD p 0).toNat : Nat) : Int) = 34) :
    tokL (s.drop p) = (signAt (s.drop p)).map fun o => (6, o, 0, o.length) := by
  rw [drop_at hp]
  show (if isStartB (s.getD p 0).toNat = true then _ else if isDigitB (s.getD p 0).toNat = true then _ else if (s.getD p 0).toNat = 34 then _ else _) = _
  rw [if_neg (by rw [h1]; exact Bool.false_ne_true), if_neg (by rw [h2]; exact Bool.false_ne_true), if_neg (by omega)]
def lenOf : Option (Int × List UInt8 × Int × Nat) → Nat
  | some x => x.2.2.2
  | none => 0
theorem RN_yes {o : Option (Int × List UInt8 × Int × Nat)} {t : Tk} {e : Int} {b : Bool} {q : Nat}
    (h : match o with
      | some (k, tt, n, len) => b = true ∧ t = ⟨k, tt, n, q⟩ ∧ e = (q + len : Nat)
      | none => b = false) (hb : b = true) : o = some (t.k, t.s, t.n, lenOf o) ∧ t.at_ = q ∧ e = (q + lenOf o : Nat) := by
  cases o with
  | none => rw [hb] at h; cases h
  | some x =>
    obtain ⟨k, tt, n, len⟩ := x
    obtain ⟨_, rfl, rfl⟩ := h
    exact ⟨rfl, rfl, rfl⟩
def sameL : List Tk → List Tk → Bool
  | [], [] => true
  | x :: a, y :: b => decide (x.k = y.k) && decide (x.s = y.s) && decide (x.n = y.n) && sameL a b
  | _, _ => false
def consR (t : Tk) (x : List Tk × Int × Int) : List Tk × Int × Int := if x.2.2 = 0 then (t :: x.1, x.2.1, 0) else ([], x.2.1, x.2.2)
def lexG : Nat → Nat → Nat → List UInt8 → List Tk × Int × Int
  | 0, _, _, _ => ([], 0, 0)
  | f + 1, cnt, pos, l =>
    if l.drop (skipW false l) = [] then ([], 0, 0) else if 5000 ≤ cnt then ([], 0, 5) else
      match tokL (l.drop (skipW false l)) with
      | none => ([], (pos + skipW false l : Nat), 70)
      | some (k, t, n, len) => consR ⟨k, t, n, (pos + skipW false l : Nat)⟩ (lexG f (cnt + 1) (pos + skipW false l + len) (l.drop (skipW false l + len)))
def putR (acc : List Tk) (x : List Tk × Int × Int) : List Tk × Int × Int := if x.2.2 = 0 then (acc ++ x.1, x.2.1, 0) else ([], x.2.1, x.2.2)
theorem putR_cons (acc : List Tk) (t : Tk) (x : List Tk × Int × Int) : putR acc (consR t x) = putR (acc ++ [t]) x := by
  unfold putR consR
  by_cases h : x.2.2 = 0
  · simp [h]
  · simp [h]
theorem lexF_eq (s : List UInt8) : ∀ (f p : Nat) (acc : List Tk), lexF s f p acc = putR acc (lexG f acc.length p (s.drop p))
  | 0, p, acc => by simp [lexF, lexG, putR]
  | f + 1, p, acc => by
    simp only [lexF, lexG]
    have e1 : (s.drop p).drop (skipW false (s.drop p)) = s.drop (p + skipW false (s.drop p)) := List.drop_drop
    rw [e1]
    by_cases h1 : s.length ≤ p + skipW false (s.drop p)
    · rw [if_pos h1, if_pos (List.drop_eq_nil_of_le h1)]; simp [putR]
    · rw [if_neg h1, if_neg (fun h => h1 (List.drop_eq_nil_iff.1 h))]
      by_cases h2 : 5000 ≤ acc.length
      · rw [if_pos h2, if_pos h2]; simp [putR]
      · rw [if_neg h2, if_neg h2]
        cases ht : tokL (s.drop (p + skipW false (s.drop p))) with
        | none => simp [putR]
        | some y =>
          obtain ⟨k, t, n, len⟩ := y
          simp only
          rw [lexF_eq s f, putR_cons]
          simp only [List.length_append, List.length_singleton, List.drop_drop, Nat.add_assoc]
theorem consR_norm {t : Tk} {x : List Tk × Int × Int} (h : (x.2.2 = 0 → x.2.1 = 0) ∧ (x.2.2 ≠ 0 → x.1 = [])) : ((consR t x).2.2 = 0 → (consR t x).2.1 = 0) ∧ ((consR t x).2.2 ≠ 0 → (consR t x).1 = []) := by
  unfold consR
  by_cases e : x.2.2 = 0
  · simp only [if_pos e]; exact ⟨fun _ => h.1 e, fun h => absurd rfl h⟩
  · simp only [if_neg e]; exact ⟨fun h => absurd h e, fun _ => trivial⟩
theorem lexG_norm : ∀ (f cnt pos : Nat) (l : List UInt8), ((lexG f cnt pos l).2.2 = 0 → (lexG f cnt pos l).2.1 = 0) ∧ ((lexG f cnt pos l).2.2 ≠ 0 → (lexG f cnt pos l).1 = [])
  | 0, _, _, _ => ⟨fun _ => rfl, fun _ => rfl⟩
  | f + 1, cnt, pos, l => by
    simp only [lexG]
    split
    · exact ⟨fun _ => rfl, fun _ => rfl⟩
    · split
      · exact ⟨fun _ => rfl, fun _ => rfl⟩
      · split
        · exact ⟨fun h => absurd h (by simp), fun _ => rfl⟩
        · exact consR_norm (lexG_norm f _ _ _)
theorem putR_nil {x : List Tk × Int × Int} (h : x.2.2 ≠ 0 → x.1 = []) : putR [] x = x := by
  obtain ⟨a, b, c⟩ := x
  unfold putR
  by_cases e : c = 0
  · subst e; rfl
  · simp only [if_neg e]; have h1 : a = [] := h e; rw [h1]
theorem tokenize_eq {s : List UInt8} (h : s.length ≤ 20000) : tokenizeL s = lexG (s.length + 1) 0 0 s := by
  have e : tokenizeL s = lexF s (s.length + 1) 0 [] := if_neg (by omega)
  rw [e, lexF_eq, putR_nil (lexG_norm _ _ _ _).2]; rfl
/-- White space, or the text's end. -/
def Stop (rest : List UInt8) : Prop := rest = [] ∨ ∃ c r, rest = c :: r ∧ (c = 10 ∨ c = 32)
theorem part_stop {rest : List UInt8} (h : Stop rest) : ∀ (b : Bool) (l : List UInt8), partL b (l ++ rest) = partL b l
  | b, [] => by
    rcases h with rfl | ⟨c, r, rfl, rfl | rfl⟩
    · rfl
    · cases b <;> rfl
    · cases b <;> rfl
  | b, c :: l => by simp only [List.cons_append, partL, part_stop h false l]
theorem dig_stop {rest : List UInt8} (h : Stop rest) : ∀ (l : List UInt8), digL (l ++ rest) = digL l
  | [] => by
    rcases h with rfl | ⟨c, r, rfl, rfl | rfl⟩
    · rfl
    · rfl
    · rfl
  | c :: l => by simp only [List.cons_append, digL, dig_stop h l]
theorem hasPre_stop {rest : List UInt8} (h : Stop rest) : ∀ (o l : List UInt8), (∀ c ∈ o, c ≠ 10 ∧ c ≠ 32) → hasPre (l ++ rest) o = hasPre l o
  | [], l, _ => by rw [hasPre_nil, hasPre_nil]
  | x :: o, [], ho => by
    rw [hasPre_nil', List.nil_append]
    rcases h with rfl | ⟨c, r, rfl, hc⟩
    · rw [hasPre_nil']
    · rw [hasPre_cons]
      have := ho x (List.mem_cons_self ..)
      have hne : c ≠ x := by rcases hc with rfl | rfl; exact fun e => this.1 e.symm; exact fun e => this.2 e.symm
      simp [hne]
  | x :: o, y :: l, ho => by
    rw [List.cons_append, hasPre_cons, hasPre_cons, hasPre_stop h o l fun c hc => ho c (List.mem_cons_of_mem _ hc)]
theorem find_congr {α : Type} {p q : α → Bool} : ∀ (l : List α), (∀ a ∈ l, p a = q a) → l.find? p = l.find? q
  | [], _ => rfl
  | a :: l, h => by
    simp only [List.find?_cons, h a (List.mem_cons_self ..)]
    rw [find_congr l fun b hb => h b (List.mem_cons_of_mem _ hb)]
theorem signs_white : ∀ o ∈ signsL, ∀ c ∈ o, c ≠ 10 ∧ c ≠ 32 := by decide
theorem sign_stop {rest : List UInt8} (h : Stop rest) (l : List UInt8) : signAt (l ++ rest) = signAt l :=
  find_congr _ fun o ho => hasPre_stop h o l (signs_white o ho)
theorem idRF_fuel : ∀ (f f' : Nat) (l : List UInt8), l.length < f → l.length < f' → idRF f l = idRF f' l
  | 0, _, _, h, _ => absurd h (Nat.not_lt_zero _)
  | _ + 1, 0, _, _, h => absurd h (Nat.not_lt_zero _)
  | f + 1, f' + 1, l, h, h' => by
    simp only [idRF]
    split
    · rename_i hc
      have := pre_len hc.1
      simp only [List.length_cons, List.length_nil] at this
      rw [idRF_fuel f f' _ (by rw [List.length_drop]; omega) (by rw [List.length_drop]; omega)]
    · rfl
theorem idRF_stop {rest : List UInt8} (h : Stop rest) : ∀ (f : Nat) (l : List UInt8), idRF f (l ++ rest) = idRF f l
  | 0, _ => rfl
  | f + 1, l => by
    simp only [idRF, hasPre_stop h [58, 58] l (by decide)]
    by_cases hp : hasPre l [58, 58] = true
    · obtain ⟨r, rfl⟩ := colons l hp
      have e1 : (58 :: 58 :: r ++ rest).drop 2 = r ++ rest := rfl
      have e2 : (58 :: 58 :: r).drop 2 = r := rfl
      have e3 : ∀ k, k ≤ r.length → (58 :: 58 :: r ++ rest).drop (2 + k) = (58 :: 58 :: r).drop (2 + k) ++ rest := fun k hk => by
        rw [Nat.add_comm, List.drop_append_of_le_length (by simp only [List.length_cons]; omega)]
      rw [e1, e2, part_stop h, e3 _ (part_le _ _), idRF_stop h f]
    · rw [if_neg (fun hc => hp hc.1), if_neg (fun hc => hp hc.1)]
theorem idN_stop {rest : List UInt8} (h : Stop rest) (l : List UInt8) : idN (l ++ rest) = idN l := by
  unfold idN
  rw [part_stop h, List.drop_append_of_le_length (part_le _ _), idRF_stop h]
  rw [idRF_fuel ((l ++ rest).length + 1) (l.length + 1) _ (by rw [List.length_drop, List.length_append]; omega) (by rw [List.length_drop]; omega)]
theorem idS_stop {rest : List UInt8} (h : Stop rest) (l : List UInt8) : idS (l ++ rest) = idS l := by
  unfold idS
  rw [idN_stop h, List.take_append_of_le_length (idN_le l)]
theorem num_stop {rest : List UInt8} (h : Stop rest) {l : List UInt8} (hl : l ≠ []) : numL (l ++ rest) = numL l := by
  have e2 : ((l.drop (digL l) ++ rest).head?.map UInt8.toNat = some 76) = ((l.drop (digL l)).head?.map UInt8.toNat = some 76) := by
    cases l.drop (digL l) with
    | nil =>
      rcases h with rfl | ⟨c, r, rfl, rfl | rfl⟩
      · rfl
      · simp
      · simp
    | cons => rfl
  have e3 : (l ++ rest).head? = l.head? := by
    cases l with
    | nil => exact absurd rfl hl
    | cons => rfl
  simp only [numL, dig_stop h, List.drop_append_of_le_length (dig_le l), List.take_append_of_le_length (dig_le l), e3, e2]
theorem esc_some {r : List UInt8} (h : (escL r).2.2 = true) (rest : List UInt8) : escL (r ++ rest) = escL r := by
  match r, h with
  | [], h => cases h
  | c :: r, h =>
    simp only [List.cons_append, escL] at h ⊢
    by_cases h1 : c.toNat = 34 ∨ c.toNat = 92
    · rw [if_pos h1, if_pos h1]
    · rw [if_neg h1, if_neg h1]
      rw [if_neg h1] at h
      by_cases h2 : c.toNat = 110
      · rw [if_pos h2, if_pos h2]
      · rw [if_neg h2, if_neg h2]
        rw [if_neg h2] at h
        by_cases h3 : c.toNat = 120
        · rw [if_pos h3, if_pos h3]
          rw [if_pos h3] at h
          match r, h with
          | [], h => cases h
          | [_], h => cases h
          | _ :: _ :: _, _ => rfl
        · rw [if_neg h3] at h; cases h
theorem esc_none {r rest : List UInt8} (h : (escL r).2.2 = false) : (escL (r ++ 10 :: rest)).2.2 = false := by
  match r, h with
  | [], _ => rfl
  | c :: r, h =>
    simp only [List.cons_append, escL] at h ⊢
    by_cases h1 : c.toNat = 34 ∨ c.toNat = 92
    · rw [if_pos h1] at h; cases h
    · rw [if_neg h1]
      rw [if_neg h1] at h
      by_cases h2 : c.toNat = 110
      · rw [if_pos h2] at h; cases h
      · rw [if_neg h2]
        rw [if_neg h2] at h
        by_cases h3 : c.toNat = 120
        · rw [if_pos h3]
          rw [if_pos h3] at h
          match r, h with
          | [], _ =>
            have e : hexI 10 = -1 := by decide
            cases rest with
            | nil => rfl
            | cons a b => simp [e]
          | [x], _ =>
            have e : hexI 10 = -1 := by decide
            simp [e]
          | _ :: _ :: _, h => exact h
        · rw [if_neg h3]
theorem qScanF_fuel : ∀ (f f' : Nat) (l : List UInt8), l.length < f → l.length < f' → qScanF f l = qScanF f' l
  | 0, _, _, h, _ => absurd h (Nat.not_lt_zero _)
  | _ + 1, 0, _, _, h => absurd h (Nat.not_lt_zero _)
  | f + 1, f' + 1, [], _, _ => rfl
  | f + 1, f' + 1, c :: r, h, h' => by
    simp only [List.length_cons] at h h'
    simp only [qScanF]
    rw [qScanF_fuel f f' r (by omega) (by omega), qScanF_fuel f f' (r.drop (escL r).1) (by rw [List.length_drop]; omega) (by rw [List.length_drop]; omega)]
theorem qScanF_some : ∀ (f : Nat) (l rest : List UInt8) (y : List UInt8 × Nat), qScanF f l = some y → qScanF f (l ++ rest) = some y
  | 0, _, _, _, h => by cases h
  | f + 1, [], _, _, h => by cases h
  | f + 1, c :: r, rest, y, h => by
    simp only [List.cons_append, qScanF] at h ⊢
    by_cases h1 : c.toNat = 34
    · rw [if_pos h1] at h ⊢; exact h
    · rw [if_neg h1] at h ⊢
      by_cases h2 : c.toNat < 32 ∨ 126 < c.toNat
      · rw [if_pos h2] at h; cases h
      · rw [if_neg h2] at h ⊢
        by_cases h3 : c.toNat = 92
        · rw [if_pos h3] at h ⊢
          by_cases h4 : (escL r).2.2 = true
          · rw [if_pos h4] at h
            rw [esc_some h4, if_pos h4, List.drop_append_of_le_length (escL_len r).1]
            obtain ⟨y', h', e⟩ := Option.map_eq_some_iff.1 h
            rw [qScanF_some f _ rest y' h', ← e]; rfl
          · rw [if_neg h4] at h; cases h
        · rw [if_neg h3] at h ⊢
          obtain ⟨y', h', e⟩ := Option.map_eq_some_iff.1 h
          rw [qScanF_some f _ rest y' h', ← e]; rfl
theorem qScanF_none : ∀ (f : Nat) (l rest : List UInt8), l.length < f → qScanF f l = none → qScanF f (l ++ 10 :: rest) = none
  | 0, _, _, h, _ => absurd h (Nat.not_lt_zero _)
  | f + 1, [], rest, _, _ => rfl
  | f + 1, c :: r, rest, hf, h => by
    simp only [List.length_cons] at hf
    simp only [List.cons_append, qScanF] at h ⊢
    by_cases h1 : c.toNat = 34
    · rw [if_pos h1] at h; cases h
    · rw [if_neg h1] at h ⊢
      by_cases h2 : c.toNat < 32 ∨ 126 < c.toNat
      · rw [if_pos h2]
      · rw [if_neg h2] at h ⊢
        by_cases h3 : c.toNat = 92
        · rw [if_pos h3] at h ⊢
          by_cases h4 : (escL r).2.2 = true
          · rw [if_pos h4] at h
            rw [esc_some h4, if_pos h4, List.drop_append_of_le_length (escL_len r).1]
            rw [qScanF_none f _ rest (by rw [List.length_drop]; omega) (Option.map_eq_none_iff.1 h)]; rfl
          · rw [if_neg (by rw [esc_none (by simpa using h4)]; exact Bool.false_ne_true)]
        · rw [if_neg h3] at h ⊢
          rw [qScanF_none f _ rest (by omega) (Option.map_eq_none_iff.1 h)]; rfl
theorem qScan_some {l : List UInt8} {y : List UInt8 × Nat} (h : qScan l = some y) (rest : List UInt8) : qScan (l ++ rest) = some y := by
  unfold qScan at h ⊢
  rw [qScanF_fuel _ ((l ++ rest).length + 1) l (by omega) (by rw [List.length_append]; omega)] at h
  exact qScanF_some _ _ _ _ h
theorem qScan_none {l : List UInt8} (h : qScan l = none) (rest : List UInt8) : qScan (l ++ 10 :: rest) = none := by
  unfold qScan at h ⊢
  rw [qScanF_fuel _ ((l ++ 10 :: rest).length + 1) l (by omega) (by rw [List.length_append]; omega)] at h
  exact qScanF_none _ _ _ (by rw [List.length_append]; omega) h
/-- A token that is one stays what it is; behind a line's end what is none stays none. -/
theorem tok_stop {l rest : List UInt8} (hl : l ≠ []) (h : Stop rest) (hy : tokL l ≠ none ∨ ∃ r, rest = 10 :: r) : tokL (l ++ rest) = tokL l := by
  cases l with
  | nil => exact absurd rfl hl
  | cons c r =>
    have e1 := idS_stop h (c :: r)
    have e2 := idN_stop h (c :: r)
    have e3 := num_stop h hl
    have e4 := sign_stop h (c :: r)
    simp only [List.cons_append] at e1 e2 e3 e4
    simp only [List.cons_append, tokL, e1, e2, e3, e4] at hy ⊢
    by_cases h1 : isStartB c.toNat = true
    · rw [if_pos h1, if_pos h1]
    · rw [if_neg h1, if_neg h1]
      by_cases h2 : isDigitB c.toNat = true
      · rw [if_pos h2, if_pos h2]
      · rw [if_neg h2, if_neg h2]
        by_cases h3 : c.toNat = 34
        · rw [if_pos h3, if_pos h3]
          rw [if_neg h1, if_neg h2, if_pos h3] at hy
          cases hq : qScan r with
          | some y => rw [qScan_some hq]
          | none =>
            rw [hq] at hy
            rcases hy with hy | ⟨r', rfl⟩
            · exact absurd rfl hy
            · rw [qScan_none hq]
        · rw [if_neg h3, if_neg h3]
/-- A name: its first part begins with a letter. -/
theorem nm_start {r : List UInt8} (h : nmScan true r = true) : ∃ c s, r = c :: s ∧ c.toNat ≠ 47 ∧ isStartB c.toNat = true ∧ nmScan false s = true := by
  cases r with
  | nil => cases h
  | cons c s =>
    have h47 : c.toNat ≠ 47 := fun e => by
      have hc : c = 47 := UInt8.toNat_inj.1 e
      subst hc
      have : nmScan true (47 :: s) = false := rfl
      rw [this] at h; cases h
    simp only [nmScan] at h
    rw [if_neg (fun hh => Bool.noConfusion hh.2)] at h
    split at h
    · rename_i hc
      rcases hc with hc | hc
      · exact ⟨c, s, rfl, h47, hc, h⟩
      · exact Bool.noConfusion hc.2
    · cases h
theorem nm_next {c : UInt8} {s : List UInt8} (h : nmScan false (c :: s) = true) : (c = 47 ∧ nmScan true s = true) ∨ (c.toNat ≠ 47 ∧ (isStartB c.toNat = true ∨ isDigitB c.toNat = true) ∧ nmScan false s = true) := by
  simp only [nmScan] at h
  split at h
  · rename_i hc
    exact .inl ⟨UInt8.toNat_inj.1 hc.1, h⟩
  · rename_i hn
    split at h
    · rename_i hc
      exact .inr ⟨fun e => hn ⟨e, trivial⟩, hc.imp id (·.1), h⟩
    · cases h
theorem part_spell {r : List UInt8} (h : nmScan true r = true) : partL true (spell r) ≠ 0 := by
  obtain ⟨c, s, rfl, h47, hc, _⟩ := nm_start h
  simp only [spell, if_neg h47]
  exact part_zero.2 hc
theorem colon_part (l : List UInt8) : partL false (58 :: l) = 0 := by
  have h : (isStartB ((58 : UInt8).toNat : Int) || (!false && isDigitB ((58 : UInt8).toNat : Int))) = false := by decide
  simp only [partL, h]
  rfl
theorem id_len : ∀ (s : List UInt8) (b : Bool) (f : Nat), nmScan b s = true → (spell s).length < f → partL b (spell s) + idRF f ((spell s).drop (partL b (spell s))) = (spell s).length
  | [], true, f, h, _ => by cases h
  | [], false, f, _, hf => by
    cases f with
    | zero => exact absurd hf (Nat.not_lt_zero _)
    | succ f => rfl
  | c :: s, b, f, h, hf => by
    have key : (c.toNat ≠ 47 ∧ (isStartB c.toNat = true ∨ (b = false ∧ isDigitB c.toNat = true)) ∧ nmScan false s = true) ∨ (b = false ∧ c = 47 ∧ nmScan true s = true) := by
      cases b with
      | true => obtain ⟨c', s', e, h1, h2, h3⟩ := nm_start h; cases e; exact .inl ⟨h1, .inl h2, h3⟩
      | false =>
        rcases nm_next h with ⟨h1, h2⟩ | ⟨h1, h2, h3⟩
        · exact .inr ⟨rfl, h1, h2⟩
        · exact .inl ⟨h1, h2.imp id fun h => ⟨rfl, h⟩, h3⟩
    rcases key with ⟨h1, h2, h3⟩ | ⟨rfl, rfl, h3⟩
    · simp only [spell, if_neg h1] at hf ⊢
      have e : partL b (c :: spell s) = 1 + partL false (spell s) := by
        simp only [partL]
        rw [if_pos (by rcases h2 with h2 | ⟨rfl, h2⟩ <;> simp [h2])]
      have ih := id_len s false f h3 (by simp only [List.length_cons] at hf; omega)
      rw [e, show 1 + partL false (spell s) = partL false (spell s) + 1 by omega, List.drop_succ_cons, List.length_cons]
      omega
    · have hsp : spell (47 :: s) = 58 :: 58 :: spell s := rfl
      rw [hsp] at hf ⊢
      rw [colon_part, List.drop_zero]
      cases f with
      | zero => exact absurd hf (Nat.not_lt_zero _)
      | succ f =>
        simp only [List.length_cons] at hf ⊢
        have ih := id_len s true f h3 (by omega)
        have e2 : (58 :: 58 :: spell s).drop 2 = spell s := rfl
        have e3 : (58 :: 58 :: spell s).drop (2 + partL true (spell s)) = (spell s).drop (partL true (spell s)) := by rw [← List.drop_drop, e2]
        simp only [idRF, e2, e3]
        rw [if_pos ⟨by rw [hasPre_cons, hasPre_cons, hasPre_nil]; rfl, part_spell h3⟩]
        omega
theorem id_text : ∀ (s : List UInt8) (b : Bool) (f : Nat), nmScan b s = true → (spell s).length < f → (spell s).take (partL b (spell s)) ++ idTF f ((spell s).drop (partL b (spell s))) = s
  | [], true, f, h, _ => by cases h
  | [], false, f, _, hf => by
    cases f with
    | zero => exact absurd hf (Nat.not_lt_zero _)
    | succ f => rfl
  | c :: s, b, f, h, hf => by
    have key : (c.toNat ≠ 47 ∧ (isStartB c.toNat = true ∨ (b = false ∧ isDigitB c.toNat = true)) ∧ nmScan false s = true) ∨ (b = false ∧ c = 47 ∧ nmScan true s = true) := by
      cases b with
      | true => obtain ⟨c', s', e, h1, h2, h3⟩ := nm_start h; cases e; exact .inl ⟨h1, .inl h2, h3⟩
      | false =>
        rcases nm_next h with ⟨h1, h2⟩ | ⟨h1, h2, h3⟩
        · exact .inr ⟨rfl, h1, h2⟩
        · exact .inl ⟨h1, h2.imp id fun h => ⟨rfl, h⟩, h3⟩
    rcases key with ⟨h1, h2, h3⟩ | ⟨rfl, rfl, h3⟩
    · simp only [spell, if_neg h1] at hf ⊢
      have e : partL b (c :: spell s) = 1 + partL false (spell s) := by
        simp only [partL]
        rw [if_pos (by rcases h2 with h2 | ⟨rfl, h2⟩ <;> simp [h2])]
      have ih := id_text s false f h3 (by simp only [List.length_cons] at hf; omega)
      rw [e, show 1 + partL false (spell s) = partL false (spell s) + 1 by omega, List.drop_succ_cons, List.take_succ_cons, List.cons_append, ih]
    · have hsp : spell (47 :: s) = 58 :: 58 :: spell s := rfl
      rw [hsp] at hf ⊢
      rw [colon_part, List.drop_zero, List.take_zero, List.nil_append]
      cases f with
      | zero => exact absurd hf (Nat.not_lt_zero _)
      | succ f =>
        simp only [List.length_cons] at hf
        have ih := id_text s true f h3 (by omega)
        have e2 : (58 :: 58 :: spell s).drop 2 = spell s := rfl
        have e3 : (58 :: 58 :: spell s).drop (2 + partL true (spell s)) = (spell s).drop (partL true (spell s)) := by rw [← List.drop_drop, e2]
        simp only [idTF, e2, e3]
        rw [if_pos ⟨by rw [hasPre_cons, hasPre_cons, hasPre_nil]; rfl, part_spell h3⟩, ih]
theorem tok_name {s : List UInt8} (h : isName s = true) : spell s ≠ [] ∧ tokL (spell s) = some (if keywordsL.contains s = true then 2 else 1, s, 0, (spell s).length) := by
  have h1 : nmScan true s = true := by unfold isName at h; exact (Bool.and_eq_true_iff.1 h).2
  obtain ⟨c, r, e, h47, hc, _⟩ := nm_start h1
  have hsp : spell s = c :: spell r := by rw [e]; simp only [spell, if_neg h47]
  have e1 : idN (spell s) = (spell s).length := by
    have hlen := id_len s true ((spell s).length + 1) h1 (Nat.lt_succ_self _)
    exact hlen
  have e2 : idS (spell s) = s := by
    rw [idS_eq]; exact id_text s true _ h1 (Nat.lt_succ_self _)
  refine ⟨by rw [hsp]; exact List.cons_ne_nil _ _, ?_⟩
  have e3 : tokL (spell s) = if isName (idS (spell s)) = true then some (if keywordsL.contains (idS (spell s)) = true then 2 else 1, idS (spell s), 0, idN (spell s)) else none := by
    rw [hsp]
    show (if isStartB c.toNat = true then _ else _) = _
    rw [if_pos hc]
  rw [e3, e2, if_pos h, e1]
theorem kw_spell : ∀ s ∈ keywordsL, spell s = s := by decide

/-! Numbers. -/
theorem refDig_app : ∀ (a b : List UInt8) (n : Nat), refDig n (a ++ b) = (refDig n a).bind fun m => refDig m b
  | [], b, n => rfl
  | c :: a, b, n => by
    simp only [List.cons_append, refDig]
    split
    · exact refDig_app a b _
    · rfl
theorem dgc (k : Nat) (h : k < 10) : (UInt8.ofNat (48 + k)).toNat = 48 + k := by
  rw [UInt8.toNat_ofNat']; omega
theorem dec_digit : ∀ (u : Nat), ∀ c ∈ Lib.decDigits u, isDigitB c.toNat = true := by
  intro u
  induction u using Nat.strongRecOn with
  | _ u ih =>
    intro c hc
    rw [Lib.decDigits] at hc
    split at hc
    · rename_i h
      rw [List.mem_singleton.1 hc, dgc u h]
      simp only [isDigitB, Bool.and_eq_true, decide_eq_true_eq]; omega
    · rename_i h
      rcases List.mem_append.1 hc with hc | hc
      · exact ih (u / 10) (by omega) c hc
      · rw [List.mem_singleton.1 hc, dgc _ (Nat.mod_lt _ (by omega))]
        simp only [isDigitB, Bool.and_eq_true, decide_eq_true_eq]; omega
theorem dec_ref : ∀ (u : Nat), u ≤ 9223372036854775807 → refDig 0 (Lib.decDigits u) = some u := by
  intro u
  induction u using Nat.strongRecOn with
  | _ u ih =>
    intro hu
    rw [Lib.decDigits]
    split
    · rename_i h
      simp only [refDig, dgc u h]
      rw [if_pos (by omega)]
      congr 1; omega
    · rename_i h
      rw [refDig_app, ih (u / 10) (by omega) (by omega)]
      simp only [Option.bind, refDig, dgc _ (Nat.mod_lt u (by omega : 10 > 0))]
      rw [if_pos (by omega)]
      congr 1; omega
theorem dec_ne (u : Nat) : Lib.decDigits u ≠ [] := by
  rw [Lib.decDigits]
  split <;> simp
theorem dec_head : ∀ (u : Nat), 1 ≤ u → (Lib.decDigits u).head?.map UInt8.toNat ≠ some 48 := by
  intro u
  induction u using Nat.strongRecOn with
  | _ u ih =>
    intro hu
    rw [Lib.decDigits]
    split
    · rename_i h
      simp only [List.head?_cons, Option.map_some, dgc u h]
      intro e; injection e with e; omega
    · rename_i h
      have := ih (u / 10) (by omega) (by omega)
      cases hd : Lib.decDigits (u / 10) with
      | nil => exact absurd hd (dec_ne _)
      | cons a b => rw [hd] at this; exact this
theorem dig_app : ∀ (l r : List UInt8), (∀ c ∈ l, isDigitB c.toNat = true) → digL (l ++ r) = l.length + digL r
  | [], r, _ => by simp
  | c :: l, r, h => by
    simp only [List.cons_append, digL, List.length_cons]
    rw [if_pos (h c (List.mem_cons_self ..)), dig_app l r fun d hd => h d (List.mem_cons_of_mem _ hd)]
    omega
theorem num_dec {u : Nat} (hu : u ≤ 9223372036854775807) (big : Bool) (hb : big = false → u ≤ 2147483647) :
    numL (Lib.decDigits u ++ if big = true then [76] else []) = (big, (u : Int), (Lib.decDigits u ++ if big = true then [76] else []).length, true) := by
  have hd : digL (Lib.decDigits u ++ if big = true then [76] else []) = (Lib.decDigits u).length := by
    rw [dig_app _ _ (dec_digit u)]
    cases big <;> rfl
  have hp := parseN_ref (dec_ne u) (dec_digit u)
  rw [dec_ref u hu] at hp
  obtain ⟨hp, _⟩ := hp
  have ht : (Lib.decDigits u ++ if big = true then [76] else []).take (Lib.decDigits u).length = Lib.decDigits u := List.take_left
  have hdr : (Lib.decDigits u ++ if big = true then [76] else []).drop (Lib.decDigits u).length = if big = true then [76] else [] := List.drop_left
  have hh : (Lib.decDigits u ++ if big = true then [76] else []).head? = (Lib.decDigits u).head? := by
    cases he : Lib.decDigits u with
    | nil => exact absurd he (dec_ne u)
    | cons => rfl
  have hz : (decide ((Lib.decDigits u).head?.map UInt8.toNat ≠ some 48) || decide ((Lib.decDigits u).length = 1)) = true := by
    rcases Nat.eq_zero_or_pos u with rfl | h
    · rw [Lib.decDigits_one (by omega)]; rfl
    · rw [decide_eq_true (dec_head u h)]; rfl
  have hbig : decide (((if big = true then [76] else [] : List UInt8)).head?.map UInt8.toNat = some 76) = big := by cases big <;> rfl
  simp only [numL, hd, ht, hdr, hh, hp, hz, hbig]
  cases big with
  | true => simp; omega
  | false => have := hb rfl; simp; omega
theorem dig_first {c : UInt8} (h : isDigitB c.toNat = true) : isStartB c.toNat = false := by
  cases hs : isStartB c.toNat with
  | false => rfl
  | true => rw [start_nodig hs] at h; cases h
theorem tok_num {u : Nat} (hu : u ≤ 9223372036854775807) (big : Bool) (hb : big = false → u ≤ 2147483647) :
    tokL (Lib.decDigits u ++ if big = true then [76] else []) = some (if big = true then 4 else 3, [], (u : Int), (Lib.decDigits u ++ if big = true then [76] else []).length) := by
  have hn := num_dec hu big hb
  have hd := dec_digit u
  cases he : Lib.decDigits u with
  | nil => exact absurd he (dec_ne u)
  | cons c r =>
    rw [he] at hn hd
    have hc := hd c (List.mem_cons_self ..)
    rw [List.cons_append] at hn ⊢
    simp only [tokL]
    rw [if_neg (by rw [dig_first hc]; exact Bool.false_ne_true), if_pos hc, hn]
    simp

/-! Strings. -/
theorem hex_dig : ∀ n : Nat, n < 256 → hexI (hexL.getD (n / 16) 0) = (n / 16 : Nat) ∧ hexI (hexL.getD (n % 16) 0) = (n % 16 : Nat) := by decide
theorem u8_wrap : ∀ n : Nat, n < 256 → IntKind.u8.wrap (16 * ((n / 16 : Nat) : Int) + ((n % 16 : Nat) : Int)) = (n : Int) := by
  intro n h
  have e : (16 * ((n / 16 : Nat) : Int) + ((n % 16 : Nat) : Int)) = (n : Int) := by omega
  rw [e]
  exact (by decide : ∀ n : Nat, n < 256 → IntKind.u8.wrap (n : Int) = (n : Int)) n h
theorem of_self (c : UInt8) : UInt8.ofNat ((c.toNat : Int)).toNat = c := by
  rw [Int.toNat_natCast]; exact UInt8.ofNat_toNat
theorem step_esc (c : UInt8) (X s : List UInt8) (f : Nat) (hX : X.length < f → qScanF f X = some (s, X.length)) (hf : (escB c ++ X).length < f + 1) :
    qScanF (f + 1) (escB c ++ X) = some (c :: s, (escB c ++ X).length) := by
  have n34 : ¬ (92 : UInt8).toNat = 34 := by decide
  have nrg : ¬ ((92 : UInt8).toNat < 32 ∨ 126 < (92 : UInt8).toNat) := by decide
  have y92 : (92 : UInt8).toNat = 92 := rfl
  have gen : ∀ (Y : List UInt8) (k : Nat) (v : Int), escL (Y ++ X) = (k, v, true) → k = Y.length → UInt8.ofNat v.toNat = c → (92 :: (Y ++ X)).length < f + 1 → qScanF (f + 1) (92 :: (Y ++ X)) = some (c :: s, (92 :: (Y ++ X)).length) := by
    intro Y k v he hk hv hl
    simp only [qScanF]
    rw [if_neg n34, if_neg nrg, if_pos y92, he]
    simp only [if_true]
    rw [hk, List.drop_left, hX (by simp only [List.length_cons, List.length_append] at hl; omega)]
    simp only [Option.map_some, hv, List.length_cons, List.length_append, Option.some.injEq, Prod.mk.injEq, true_and]
    omega
  unfold escB at hf ⊢
  split
  · rename_i h
    rw [if_pos h] at hf
    exact gen [c] 1 c.toNat (by show escL (c :: X) = _; simp only [escL]; rw [if_pos h]) rfl (of_self c) hf
  · rename_i h
    rw [if_neg h] at hf
    split
    · rename_i h1
      rw [if_pos h1] at hf
      exact gen [110] 1 10 rfl rfl (UInt8.toNat_inj.1 (by rw [h1]; rfl)) hf
    · rename_i h1
      rw [if_neg h1] at hf
      split
      · rename_i h2
        rw [if_pos h2] at hf
        obtain ⟨e1, e2⟩ := hex_dig c.toNat c.toNat_lt
        refine gen [120, hexL.getD (c.toNat / 16) 0, hexL.getD (c.toNat % 16) 0] 3 c.toNat ?_ rfl (of_self c) hf
        show escL (120 :: hexL.getD (c.toNat / 16) 0 :: hexL.getD (c.toNat % 16) 0 :: X) = _
        simp only [escL]
        rw [if_neg (by decide), if_neg (by decide), if_pos (by decide), e1, e2, u8_wrap c.toNat c.toNat_lt]
        simp
        omega
      · rename_i h2
        rw [if_neg h2] at hf
        simp only [List.cons_append, List.nil_append, List.length_cons] at hf ⊢
        simp only [qScanF]
        rw [if_neg (fun e => h (.inl e)), if_neg h2, if_neg (fun e => h (.inr e)), hX (by omega)]
        simp only [Option.map_some, Option.some.injEq, Prod.mk.injEq, true_and]
        omega
theorem scan_esc : ∀ (s : List UInt8) (f : Nat), ((s.map escB).flatten ++ [34]).length < f → qScanF f ((s.map escB).flatten ++ [34]) = some (s, ((s.map escB).flatten ++ [34]).length)
  | [], f, hf => by
    cases f with
    | zero => exact absurd hf (Nat.not_lt_zero _)
    | succ f => rfl
  | c :: s, f, hf => by
    cases f with
    | zero => exact absurd hf (Nat.not_lt_zero _)
    | succ f =>
      have e0 : (((c :: s).map escB).flatten ++ [34]) = escB c ++ ((s.map escB).flatten ++ [34]) := by simp
      rw [e0] at hf ⊢
      exact step_esc c _ s f (scan_esc s f) hf
theorem tok_str {s : List UInt8} (h : s.length ≤ 1024) : tokL (escapedL s) = some (5, s, 0, (escapedL s).length) := by
  have e : escapedL s = 34 :: ((s.map escB).flatten ++ [34]) := rfl
  rw [e]
  simp only [tokL]
  rw [if_neg (by decide), if_neg (by decide), if_pos (by decide)]
  unfold qScan
  rw [scan_esc s _ (Nat.lt_succ_self _)]
  simp only [if_pos h, List.length_cons]
  rw [Nat.add_comm]
theorem tok_op : ∀ o ∈ signsL, o ≠ [] ∧ tokL o = some (6, o, 0, o.length) := by decide
/-- The text of a token is that token. -/
theorem fmt_tok {t : Tk} {x : List UInt8} (hI : I64 t.n) (h : fmtL t = some x) : x ≠ [] ∧ tokL x = some (t.k, t.s, t.n, x.length) := by
  obtain ⟨k, s, n, q⟩ := t
  simp only [fmtL] at h ⊢
  have hI : n ≤ 9223372036854775807 := hI.2
  split at h
  · rename_i hk
    split at h
    · rename_i hc
      obtain ⟨rfl, h2, h3⟩ := hc
      cases h
      rw [rep_one]
      have := tok_name h2
      rw [if_neg (by rw [h3]; exact Bool.false_ne_true)] at this
      rw [hk]; exact this
    · cases h
  · split at h
    · rename_i hk
      split at h
      · rename_i hc
        obtain ⟨rfl, h2⟩ := hc
        cases h
        have := tok_name (kw_name h2)
        rw [if_pos h2, kw_spell _ (List.contains_iff_mem.1 h2)] at this
        rw [hk]; exact this
      · cases h
    · split at h
      · rename_i hk
        split at h
        · rename_i hc
          obtain ⟨⟨rfl, h2⟩, h3⟩ := hc
          obtain ⟨u, rfl⟩ : ∃ u : Nat, n = u := ⟨n.toNat, by omega⟩
          cases h
          have := tok_num (u := u) (by omega) false (fun _ => by omega)
          rw [Lib.itoa_nonneg, hk]
          simp only [Bool.false_eq_true, if_false, List.append_nil] at this
          exact ⟨dec_ne u, this⟩
        · cases h
      · split at h
        · rename_i hk
          split at h
          · rename_i hc
            obtain ⟨rfl, h2⟩ := hc
            obtain ⟨u, rfl⟩ : ∃ u : Nat, n = u := ⟨n.toNat, by omega⟩
            cases h
            have := tok_num (u := u) (by omega) true (fun e => by cases e)
            rw [Lib.itoa_nonneg, hk]
            simp only [if_true] at this
            exact ⟨by simp, this⟩
          · cases h
        · split at h
          · rename_i hk
            split at h
            · rename_i hc
              obtain ⟨rfl, h2⟩ := hc
              cases h
              rw [hk]; exact ⟨by simp [escapedL], tok_str h2⟩
            · cases h
          · split at h
            · rename_i hk
              split at h
              · rename_i hc
                obtain ⟨rfl, h2⟩ := hc
                cases h
                rw [hk]; exact tok_op _ (List.contains_iff_mem.1 h2)
              · cases h
            · cases h
theorem signs_head : ∀ o ∈ signsL, ∃ c r, o = c :: r ∧ c.toNat ≠ 9 ∧ c.toNat ≠ 10 ∧ c.toNat ≠ 13 ∧ c.toNat ≠ 32 ∧ (c.toNat = 47 → r = []) := by
  intro o ho
  have h : ∀ o ∈ signsL, (match o with | [] => false | c :: r => decide (c.toNat ≠ 9) && decide (c.toNat ≠ 10) && decide (c.toNat ≠ 13) && decide (c.toNat ≠ 32) && (decide (c.toNat ≠ 47) || decide (r = []))) = true := by decide
  have := h o ho
  cases o with
  | nil => cases this
  | cons c r =>
    simp only [Bool.and_eq_true, decide_eq_true_eq, Bool.or_eq_true] at this
    exact ⟨c, r, rfl, this.1.1.1.1, this.1.1.1.2, this.1.1.2, this.1.2, fun e => this.2.resolve_left fun h => h e⟩
theorem sign_head {c : UInt8} {r o : List UInt8} (h : signAt (c :: r) = some o) : ∃ o', o = c :: o' ∧ c.toNat ≠ 9 ∧ c.toNat ≠ 10 ∧ c.toNat ≠ 13 ∧ c.toNat ≠ 32 ∧ (c.toNat = 47 → o' = []) := by
  have h1 := List.find?_some h
  obtain ⟨d, o', rfl, h2⟩ := signs_head o (List.mem_of_find?_eq_some h)
  rw [hasPre_cons] at h1
  have : c = d := by simpa using (Bool.and_eq_true_iff.1 h1).1
  subst this
  exact ⟨o', rfl, h2⟩
/-- Where a token begins, nothing is skipped. -/
theorem skip_tok {x rest : List UInt8} {k : Int} {s : List UInt8} {n : Int} (hx : x ≠ []) (ht : tokL x = some (k, s, n, x.length)) (h : Stop rest) : skipW false (x ++ rest) = 0 := by
  cases x with
  | nil => exact absurd rfl hx
  | cons c r =>
    simp only [tokL] at ht
    have key : ¬ (c.toNat = 9 ∨ c.toNat = 10 ∨ c.toNat = 13 ∨ c.toNat = 32) ∧ ¬ (c.toNat = 47 ∧ (r ++ rest).head?.map UInt8.toNat = some 47) := by
      by_cases h1 : isStartB c.toNat = true
      · simp only [isStartB, Bool.or_eq_true, Bool.and_eq_true, decide_eq_true_eq] at h1
        exact ⟨by omega, by omega⟩
      · rw [if_neg h1] at ht
        by_cases h2 : isDigitB c.toNat = true
        · simp only [isDigitB, Bool.and_eq_true, decide_eq_true_eq] at h2
          exact ⟨by omega, by omega⟩
        · rw [if_neg h2] at ht
          by_cases h3 : c.toNat = 34
          · exact ⟨by omega, by omega⟩
          · rw [if_neg h3] at ht
            obtain ⟨o, ho, e⟩ := Option.map_eq_some_iff.1 ht
            obtain ⟨o', rfl, a1, a2, a3, a4, a5⟩ := sign_head ho
            refine ⟨by omega, fun hh => ?_⟩
            have h5 := a5 hh.1
            subst h5
            simp only [Prod.mk.injEq, List.length_cons, List.length_nil] at e
            have : r = [] := List.eq_nil_of_length_eq_zero (by omega)
            subst this
            rw [List.nil_append] at hh
            rcases h with rfl | ⟨d, r', rfl, rfl | rfl⟩
            · have := hh.2; simp at this
            · have := hh.2; simp at this
            · have := hh.2; simp at this
    rw [List.cons_append, skipW, if_neg key.1, if_neg key.2]
theorem lexG_join : ∀ (ts : List Tk) (xs : List (List UInt8)) (f cnt pos : Nat) (sep : List UInt8), (sep = [] ∨ sep = [32]) → fmtsL ts = some xs → (∀ t ∈ ts, I64 t.n) → cnt + ts.length ≤ 5000 → ts.length < f →
    (lexG f cnt pos (sep ++ Lib.join xs [32])).2.2 = 0 ∧ sameL (lexG f cnt pos (sep ++ Lib.join xs [32])).1 ts = true
  | _, _, 0, _, _, _, _, _, _, _, hf => absurd hf (Nat.not_lt_zero _)
  | [], xs, f + 1, cnt, pos, sep, hs, hx, _, _, _ => by
    cases hx
    rcases hs with rfl | rfl
    · exact ⟨rfl, rfl⟩
    · exact ⟨rfl, rfl⟩
  | t :: r, xs, f + 1, cnt, pos, sep, hs, hx, hI, hc, hf => by
    simp only [fmtsL] at hx
    cases hxt : fmtL t with
    | none => rw [hxt] at hx; cases hx
    | some x =>
      rw [hxt] at hx
      cases hys : fmtsL r with
      | none => rw [hys] at hx; cases hx
      | some ys =>
        rw [hys] at hx
        cases hx
        obtain ⟨hne, htok⟩ := fmt_tok (hI t (List.mem_cons_self ..)) hxt
        obtain ⟨sep', hs', hj, hst⟩ : ∃ sep', (sep' = [] ∨ sep' = [32]) ∧ Lib.join (x :: ys) [32] = x ++ (sep' ++ Lib.join ys [32]) ∧ Stop (sep' ++ Lib.join ys [32]) := by
          cases ys with
          | nil => exact ⟨[], .inl rfl, by simp [Lib.join], .inl rfl⟩
          | cons y ys => exact ⟨[32], .inr rfl, by simp [Lib.join], .inr ⟨32, _, rfl, .inr rfl⟩⟩
        rw [hj]
        have ih := fun p => lexG_join r ys f (cnt + 1) p sep' hs' hys (fun t ht => hI t (List.mem_cons_of_mem _ ht)) (by simp only [List.length_cons] at hc; omega) (by simp only [List.length_cons] at hf; omega)
        have hk := skip_tok hne htok hst
        have hk2 : skipW false (sep ++ (x ++ (sep' ++ Lib.join ys [32]))) = sep.length := by
          rcases hs with rfl | rfl
          · exact hk
          · show skipW false (32 :: (x ++ (sep' ++ Lib.join ys [32]))) = 1
            rw [skipW, if_pos (by decide), hk]
        have hd : ∀ X : List UInt8, (sep ++ X).drop sep.length = X := fun X => List.drop_left
        have hd2 : (sep ++ (x ++ (sep' ++ Lib.join ys [32]))).drop (sep.length + x.length) = sep' ++ Lib.join ys [32] := by
          rw [← List.drop_drop, hd, List.drop_left]
        simp only [lexG, hk2, hd, hd2]
        rw [if_neg (by intro e; exact hne (List.append_eq_nil_iff.1 e).1), if_neg (by simp only [List.length_cons] at hc; omega), tok_stop hne hst (.inl (by rw [htok]; intro e; cases e)), htok]
        simp only
        rw [hd2]
        obtain ⟨i1, i2⟩ := ih (pos + sep.length + x.length)
        unfold consR
        rw [if_pos i1]
        exact ⟨rfl, by simp [sameL, i2]⟩
theorem join_count {xs : List (List UInt8)} (h : ∀ x ∈ xs, x ≠ []) : xs.length ≤ (Lib.join xs [32]).length := by
  induction xs with
  | nil => simp
  | cons x xs ih =>
    have hx : 1 ≤ x.length := by
      have := h x (List.mem_cons_self ..)
      cases x with
      | nil => exact absurd rfl this
      | cons => simp
    have ih := ih fun y hy => h y (List.mem_cons_of_mem _ hy)
    cases xs with
    | nil => simp [Lib.join]; omega
    | cons y ys =>
      rw [join_cc]
      simp only [List.length_append, List.length_cons, List.length_nil] at ih ⊢
      omega
theorem fmts_ne : ∀ {ts : List Tk} {xs : List (List UInt8)}, (∀ t ∈ ts, I64 t.n) → fmtsL ts = some xs → xs.length = ts.length ∧ ∀ x ∈ xs, x ≠ []
  | [], xs, _, h => by cases h; exact ⟨rfl, fun x hx => by cases hx⟩
  | t :: r, xs, hI, h => by
    simp only [fmtsL] at h
    cases hxt : fmtL t with
    | none => rw [hxt] at h; cases h
    | some x =>
      rw [hxt] at h
      cases hys : fmtsL r with
      | none => rw [hys] at h; cases h
      | some ys =>
        rw [hys] at h
        cases h
        obtain ⟨i1, i2⟩ := fmts_ne (fun t ht => hI t (List.mem_cons_of_mem _ ht)) hys
        refine ⟨by simp [i1], fun y hy => ?_⟩
        rcases List.mem_cons.1 hy with rfl | hy
        · exact (fmt_tok (hI t (List.mem_cons_self ..)) hxt).1
        · exact i2 y hy
/-- Joined tokens are the same tokens again. -/
theorem join_tok {ts : List Tk} (hI : ∀ t ∈ ts, I64 t.n) (h : (joinL ts).2 = 0) : ∃ ts', tokenizeL (joinL ts).1 = (ts', 0, 0) ∧ sameL ts' ts = true := by
  unfold joinL at h ⊢
  split at h
  · cases h
  · rename_i hl
    split at h
    · cases h
    · rename_i xs hx
      split at h
      · cases h
      · rename_i hj
        rw [if_neg hl]
        rw [if_neg hj]
        show ∃ ts', tokenizeL (Lib.join xs [32]) = (ts', 0, 0) ∧ sameL ts' ts = true
        rw [tokenize_eq (by omega)]
        obtain ⟨e1, e2⟩ := fmts_ne hI hx
        have e3 := join_count e2
        have := lexG_join ts xs ((Lib.join xs [32]).length + 1) 0 0 [] (.inl rfl) hx hI (by omega) (by omega)
        rw [List.nil_append] at this
        have hn := (lexG_norm ((Lib.join xs [32]).length + 1) 0 0 (Lib.join xs [32])).1 this.1
        exact ⟨_, Prod.ext rfl (Prod.ext hn this.1), this.2⟩

/-! A comment behind the text. -/
end Go.Proofs.YtalalcpefggniaaGreatDoor.E

namespace Go.Proofs.YtalalcpefggniaaGreatDoor.E
open Go

theorem bal_same : ∀ {a b : List Tk} (st : List UInt8), sameL a b = true → balR st a = balR st b
  | [], [], _, _ => rfl
  | [], _ :: _, _, h => by simp [sameL] at h
  | _ :: _, [], _, h => by simp [sameL] at h
  | x :: a, y :: b, st, h => by
    simp only [sameL, Bool.and_eq_true, decide_eq_true_eq] at h
    have ih := fun s => bal_same (a := a) (b := b) s h.2
    simp only [balR, h.1.1.1, h.1.1.2, ih]
theorem join_err {ts : List Tk} (h : (joinL ts).2 ≠ 0) : (joinL ts).1 = [] := by
  unfold joinL at h ⊢
  split
  · rfl
  · rename_i h1
    rw [if_neg h1] at h
    split
    · rfl
    · rename_i l hl
      rw [hl] at h
      simp only at h
      split
      · rfl
      · rename_i h2
        rw [if_neg h2] at h
        exact absurd rfl h
theorem fmts_same : ∀ {a b : List Tk}, sameL a b = true → fmtsL a = fmtsL b ∧ a.length = b.length
  | [], [], _ => ⟨rfl, rfl⟩
  | [], _ :: _, h => by simp [sameL] at h
  | _ :: _, [], h => by simp [sameL] at h
  | x :: a, y :: b, h => by
    simp only [sameL, Bool.and_eq_true, decide_eq_true_eq] at h
    obtain ⟨h1, h2⟩ := fmts_same h.2
    have e : fmtL x = fmtL y := by simp only [fmtL, h.1.1.1, h.1.1.2, h.1.2]
    exact ⟨by simp only [fmtsL, e, h1], by simp [h2]⟩
theorem join_same {a b : List Tk} (h : sameL a b = true) : joinL a = joinL b := by
  obtain ⟨h1, h2⟩ := fmts_same h
  simp only [joinL, h1, h2]
theorem join_ne {ts : List Tk} (hI : ∀ t ∈ ts, I64 t.n) (h : (joinL ts).2 = 0) : (joinL ts).1 = [] ↔ ts = [] := by
  constructor
  · intro h0
    unfold joinL at h h0
    split at h
    · cases h
    · rename_i h1
      rw [if_neg h1] at h0
      split at h
      · cases h
      · rename_i l hl
        rw [hl] at h0
        simp only at h0
        split at h
        · cases h
        · rename_i h2
          rw [if_neg h2] at h0
          simp only at h0
          obtain ⟨g1, g2⟩ := fmts_ne hI hl
          have := join_count g2
          rw [h0] at this
          simp only [List.length_nil, Nat.le_zero] at this
          exact List.length_eq_zero_iff.1 (by omega)
  · rintro rfl
    rfl
theorem prog_ne {l : List Cd} : progT l = [] ↔ l = [] := by
  constructor
  · intro h
    cases l with
    | nil => rfl
    | cons d r =>
      exfalso
      simp only [progT, List.map_cons, List.flatten_cons, List.append_eq_nil_iff] at h
      have := h.1
      simp [clsT, classT] at this
  · rintro rfl; rfl
theorem tk_rd {ts : List Tk} {a : Option Addr} {n : Nat} {m : Mem} (hr : Rds m a n 4 (tkCells ts)) {k : Nat} (hk : k < ts.length) : Rd m (ptrAt a (k * 4)) (tkC ts[k]) ∧ a ≠ none := by
  have hl : ts.length = n := by have := hr.1; rw [tk_len] at this; omega
  have h := Rds_cells hr (by omega : k < n)
  have e : tkCells ts = flat tkC ts := rfl
  rw [e, flat_at (f := tkC) (sz := 4) (fun _ => rfl) hk] at h
  exact h
theorem Rd_part {m : Mem} {x : Value} {cs : List Value} (h : Rd m x cs) {i : Nat} {v : Value} (hi : cs[i]? = some v) : Rd m (ptrAdd x i) [v] := by
  have hl := (List.getElem?_eq_some_iff.1 hi).1
  have := Rd_sub h i 1 (by omega)
  have e : (cs.drop i).take 1 = [v] := by
    rw [List.drop_eq_getElem_cons hl, List.take_succ_cons, List.take_zero]
    rw [(List.getElem?_eq_some_iff.1 hi).2]
  rwa [e] at this
theorem bal_step {ts : List Tk} {k : Nat} (hk : k < ts.length) (st : List UInt8) : balR st (ts.drop k) = balR st (ts[k] :: ts.drop (k + 1)) := by rw [List.drop_eq_getElem_cons hk]
/-- A call that answers an own slice of tokens and two numbers: the slice may be named anew. -/
theorem FnH_canonT {P : Program} {f : FuncId} {args : List SV} {m : Mem} {x y : Value} {n : Nat} {el : TypeId} {sz : Nat} {xs : List Value}
    (h : FnH P f args ⟨[], []⟩ m fun r H' m' => leM m m' ∧ ∃ k u, r = .tup [.vec k u, .v x, .v y] ∧ H' = ⟨[], [⟨k, u, el, sz, n, xs⟩]⟩) :
    FnH P f args ⟨[], []⟩ m fun r H' m' => leM m m' ∧ r = .tup [.vec 0 0, .v x, .v y] ∧ H' = ⟨[], [⟨0, 0, el, sz, n, xs⟩]⟩ :=
  fun V w D h1 h2 h3 => (h V w D h1 h2 h3).mono fun z w2 ⟨r, V', D', H', m', e1, e2, e3, e4, e5, e6, e7, e8, e9, e10, e11⟩ => by
    obtain ⟨hle, k, u, rfl, rfl⟩ := e11
    refine ⟨.tup [.vec 0 0, .v x, .v y], ⟨V'.β, fun _ _ => V'.γ k u⟩, D', _, m', e1, e2, ⟨fun b hb => (by cases hb), fun b hb => ?_, ?_, ?_⟩, fun b hb => (by cases hb), fun b hb => (by cases hb), e6, ?_, e8, e9, e10, hle, rfl, rfl⟩
    · rw [List.mem_singleton.1 hb]
      exact e3.vc _ (List.mem_singleton.2 rfl)
    · exact e3.apart
    · simp
    · exact e7
theorem same_tk : ∀ {a b : List Tk}, sameL a b = true → AllT TkOk b → AllT TkOk a
  | [], _, _, _ => allT_nil
  | _ :: _, [], h, _ => by simp [sameL] at h
  | x :: a, y :: b, h, hb => by
    simp only [sameL, Bool.and_eq_true, decide_eq_true_eq] at h
    have hy := hb y (List.mem_cons_self ..)
    refine allT_cons ?_ (same_tk h.2 fun t ht => hb t (List.mem_cons_of_mem _ ht))
    unfold TkOk at hy ⊢
    rw [h.1.1.2, h.1.2]
    exact hy
/-- What the law says of a program's text, in plain words. -/
theorem text_bad {l : List Cd} (hx : ¬(checkL [] l).2 = 0 ∨ ¬(fmtP l).2 = 0) : (fmtP l).1 = [] ∧ ((checkL [] l).2 = 0 ∨ (fmtP l).2 = (checkL [] l).2) := by
  unfold fmtP at hx ⊢
  split
  · rename_i h0
    rw [if_pos h0] at hx
    exact ⟨join_err (by rcases hx with g | g; exact absurd h0 g; exact g), .inl h0⟩
  · exact ⟨rfl, .inr rfl⟩
theorem text_len (l : List Cd) : (fmtP l).1.length ≤ 20000 := by
  unfold fmtP joinL
  repeat' split
  all_goals first | exact Nat.zero_le _ | (simp only; omega) | (rename_i h; exact Nat.not_lt.1 h)
/-! Depths against sizes. -/
mutual
theorem depD_size : ∀ (s : St), depthS s ≤ sizeS s ∧ exprD s ≤ sizeS s
  | .mk k nm ty tg ex body alt => by
    have h1 := depDs_size body
    have h2 := depDs_size alt
    have h3 := depth_size tg
    have h4 := depth_size ex
    have h5 : argsD ex ≤ depthE ex := by cases ex; simp [argsD, depthE]
    simp only [depthS, exprD, sizeS]
    constructor
    · omega
    · split <;> omega
theorem depDs_size : ∀ (l : List St), depthSs l ≤ sizeSs l ∧ exprDs l ≤ sizeSs l
  | [] => by simp [depthSs, exprDs]
  | e :: r => by
    have h1 := depD_size e
    have h2 := depDs_size r
    simp only [depthSs, exprDs, sizeSs]
    omega
end
theorem mds_size : ∀ (l : List Md), mdsS l ≤ (l.map sizeM).sum ∧ mdsE l ≤ (l.map sizeM).sum
  | [] => by simp [mdsS, mdsE]
  | e :: r => by
    have h1 := depDs_size e.body
    have h2 := mds_size r
    simp only [mdsS, mdsE, List.map_cons, List.sum_cons, sizeM]
    omega
theorem cdB_size {d : Cd} (h : sizeC d ≤ 1048576) : CdB d := by
  have h1 := depDs_size d.init
  have h2 := mds_size d.methods
  simp only [sizeC] at h
  exact ⟨by simp only [big]; omega, by simp only [big]; omega, by simp only [big]; omega, by simp only [big]; omega⟩
theorem sum_mem {α : Type} {f : α → Nat} : ∀ {l : List α}, ∀ x ∈ l, f x ≤ (l.map f).sum
  | [], x, hx => by cases hx
  | y :: r, x, hx => by
    simp only [List.map_cons, List.sum_cons]
    rcases List.mem_cons.1 hx with rfl | hx
    · omega
    · have := sum_mem (f := f) x hx; omega
theorem prog_cdB {l : List Cd} (h : (l.map sizeC).sum ≤ 1048576) : ∀ d ∈ l, CdB d := fun d hd => cdB_size (Nat.le_trans (sum_mem (f := sizeC) d hd) h)
end Go.Proofs.YtalalcpefggniaaGreatDoor.E

namespace Go.Proofs.YtalalcpefggniaaGreatDoor.E
open Go

abbrev PR (α : Type) := Except (List Tk) (α × List Tk)
def bndP {α β : Type} : PR α → (α → List Tk → PR β) → PR β
  | .ok x, k => k x.1 x.2
  | .error e, _ => .error e
/-- Does the keyword or operator stand here? -/
def isP (s : List UInt8) : List Tk → Bool
  | [] => false
  | t :: _ => (decide (t.k = 2) || decide (t.k = 6)) && decide (t.s = s)
def hdS : List Tk → List UInt8
  | [] => []
  | t :: _ => t.s
def hdK : List Tk → Int
  | [] => 0
  | t :: _ => t.k
def hdN : List Tk → Int
  | [] => 0
  | t :: _ => t.n
def isClsP (l : List Tk) : Bool := decide (hdK l = 1) && isCls (hdS l)
def isIdP (l : List Tk) : Bool := decide (hdK l = 1) && !isCls (hdS l) && !(hdS l).contains 47
def expP {α : Type} (s : List UInt8) (l : List Tk) (k : List Tk → PR α) : PR α := if isP s l = true then k l.tail else .error l
def clsP (l : List Tk) : PR (List UInt8) := if isClsP l = true then .ok (hdS l, l.tail) else .error l
def idP (l : List Tk) : PR (List UInt8) := if isIdP l = true then .ok (hdS l, l.tail) else .error l
def baseP (l : List Tk) : PR Ty :=
  if isP intS l = true then .ok (⟨0, 73, []⟩, l.tail)
  else if isP longS l = true then .ok (⟨0, 74, []⟩, l.tail)
  else bndP (clsP l) fun s r => .ok (⟨0, 76, s⟩, r)
def Ty.up (t : Ty) : Ty := ⟨t.dim + 1, t.base, t.name⟩
def dimsP : Nat → Ty → List Tk → PR Ty
  | 0, t, l => .ok (t, l)
  | f + 1, t, l => if isP [91] l = true then expP [93] l.tail fun r => dimsP f t.up r else .ok (t, l)
def typP (l : List Tk) : PR Ty := bndP (baseP l) fun t r => dimsP r.length t r
def levL (n : Nat) : List (List UInt8) :=
  if n = 0 then [[124, 124]] else if n = 1 then [[38, 38]] else if n = 2 then [[124]] else if n = 3 then [[94]] else if n = 4 then [[38]]
  else if n = 5 then [[61, 61], [33, 61]] else if n = 6 then [[60], [60, 61], [62], [62, 61]] else if n = 7 then [[60, 60], [62, 62], [62, 62, 62]]
  else if n = 8 then [[43], [45]] else [[42], [47], [37]]
def isOpP (n : Nat) (l : List Tk) : Bool := decide (hdK l = 6) && (levL n).contains (hdS l)
/-- The dimensions of a new array. -/
def newP : Nat → Ty → List Tk → PR Ty
  | 0, t, l => .ok (t, l)
  | f + 1, t, l => if isP [93] l = true then expP [91] l.tail fun r => newP f t.up r else .ok (t, l)
mutual
def exprP : Nat → Nat → List Tk → PR Ex
  | 0, _, l => .error l
  | f + 1, n, l => if n = 10 then unaryP f l else bndP (exprP f (n + 1) l) fun e r => loopP f n e r
def loopP : Nat → Nat → Ex → List Tk → PR Ex
  | 0, _, _, l => .error l
  | f + 1, n, e, l =>
    if isOpP n l = true then bndP (exprP f (n + 1) l.tail) fun x r => loopP f n (.mk 16 0 (hdS l) [] zTy [e, x]) r
    else if n = 6 ∧ isP [105, 115] l = true then bndP (typP l.tail) fun t r => loopP f n (.mk 18 0 [] [] t [e]) r
    else if n = 6 ∧ isP [97, 115] l = true then bndP (typP l.tail) fun t r => loopP f n (.mk 17 0 [] [] t [e]) r
    else .ok (e, l)
def unaryP : Nat → List Tk → PR Ex
  | 0, l => .error l
  | f + 1, l =>
    if isP [45] l = true then bndP (unaryP f l.tail) fun x r => .ok (.mk 15 0 [45] [] zTy [x], r)
    else if isP [33] l = true then bndP (unaryP f l.tail) fun x r => .ok (.mk 15 0 [33] [] zTy [x], r)
    else bndP (operandP f l) fun e r => postP f e r
def postP : Nat → Ex → List Tk → PR Ex
  | 0, _, l => .error l
  | f + 1, e, l =>
    if isP [46] l = true then bndP (idP l.tail) fun s r =>
      if isP [40] r = true then bndP (argsP f r) fun es r2 => postP f (.mk 10 0 s [] zTy (e :: es)) r2
      else postP f (.mk 7 0 s [] zTy [e]) r
    else if isP [91] l = true then bndP (exprP f 0 l.tail) fun i r => expP [93] r fun r2 => postP f (.mk 9 0 [] [] zTy [e, i]) r2
    else .ok (e, l)
def argsP : Nat → List Tk → PR (List Ex)
  | 0, l => .error l
  | f + 1, l => expP [40] l fun r => if isP [41] r = true then .ok ([], r.tail) else bndP (exprP f 0 r) fun e r2 => moreP f [e] r2
def moreP : Nat → List Ex → List Tk → PR (List Ex)
  | 0, _, l => .error l
  | f + 1, acc, l => if isP [44] l = true then bndP (exprP f 0 l.tail) fun e r => moreP f (acc ++ [e]) r else expP [41] l fun r => .ok (acc, r)
def parenP : Nat → List Tk → PR Ex
  | 0, l => .error l
  | f + 1, l => expP [40] l fun r => bndP (exprP f 0 r) fun e r2 => expP [41] r2 fun r3 => .ok (e, r3)
def operandP : Nat → List Tk → PR Ex
  | 0, l => .error l
  | f + 1, l =>
    if hdK l = 3 then .ok (.mk 1 (hdN l) [] [] zTy [], l.tail)
    else if hdK l = 4 then .ok (.mk 2 (hdN l) [] [] zTy [], l.tail)
    else if hdK l = 5 then .ok (.mk 3 0 (hdS l) [] zTy [], l.tail)
    else if isIdP l = true then bndP (idP l) fun s r => .ok (.mk 6 0 s [] zTy [], r)
    else if isClsP l = true then bndP (clsP l) fun c r => expP [46] r fun r2 => bndP (idP r2) fun s r3 =>
      if isP [40] r3 = true then bndP (argsP f r3) fun es r4 => .ok (.mk 11 0 s c zTy es, r4) else .ok (.mk 8 0 s c zTy [], r3)
    else if isP [40] l = true then parenP f l
    else keyP f l
def keyP : Nat → List Tk → PR Ex
  | 0, l => .error l
  | f + 1, l =>
    if isP [110, 117, 108, 108] l = true then .ok (.mk 4 0 [] [] zTy [], l.tail)
    else if isP [116, 104, 105, 115] l = true then .ok (.mk 5 0 [] [] zTy [], l.tail)
    else if isP [115, 117, 112, 101, 114] l = true then expP [46] l.tail fun r => bndP (idP r) fun s r2 => bndP (argsP f r2) fun es r3 => .ok (.mk 12 0 s [] zTy es, r3)
    else if isP [110, 101, 119] l = true then bndP (baseP l.tail) fun t r =>
      if t.base = 76 ∧ isP [40] r = true then bndP (argsP f r) fun es r2 => .ok (.mk 13 0 [] t.name zTy es, r2)
      else expP [91] r fun r2 => bndP (newP r2.length t r2) fun t2 r3 => bndP (exprP f 0 r3) fun e r4 => expP [93] r4 fun r5 => .ok (.mk 14 0 [] [] t2 [e], r5)
    else if isP [108, 101, 110] l = true then bndP (parenP f l.tail) fun e r => .ok (.mk 19 0 [] [] zTy [e], r)
    else if isP intS l = true then bndP (parenP f l.tail) fun e r => .ok (.mk 20 0 [] [] zTy [e], r)
    else if isP longS l = true then bndP (parenP f l.tail) fun e r => .ok (.mk 21 0 [] [] zTy [e], r)
    else .error l
end
/-- From some fuel on. -/
def Lim {α : Type} (g : Nat → α) (K : α) : Prop := ∃ F, ∀ f, F ≤ f → g f = K
theorem lim_const {α : Type} (K : α) : Lim (fun _ => K) K := ⟨0, fun _ _ => rfl⟩
theorem lim_succ {α : Type} {g h : Nat → α} {K : α} (e : ∀ f, g (f + 1) = h f) (H : Lim h K) : Lim g K := by
  obtain ⟨F, hF⟩ := H
  refine ⟨F + 1, fun f hf => ?_⟩
  cases f with
  | zero => omega
  | succ f => rw [e]; exact hF f (by omega)
theorem lim_bnd {α β : Type} {g : Nat → PR α} {k : Nat → α → List Tk → PR β} {a : α} {r : List Tk} {K : PR β} (hg : Lim g (.ok (a, r))) (hk : Lim (fun f => k f a r) K) : Lim (fun f => bndP (g f) (k f)) K := by
  obtain ⟨F, hF⟩ := hg
  obtain ⟨G, hG⟩ := hk
  refine ⟨max F G, fun f hf => ?_⟩
  simp only [hF f (by omega), bndP]
  exact hG f (by omega)
theorem lim_eq {α : Type} {g : Nat → α} {K K' : α} (h : Lim g K) (h' : Lim g K') : K = K' := by
  obtain ⟨F, hF⟩ := h
  obtain ⟨G, hG⟩ := h'
  rw [← hF (max F G) (by omega), hG (max F G) (by omega)]
/-- What may follow an expression of level n. -/
structure Fol (n : Nat) (r : List Tk) : Prop where
  dot : isP [46] r = false
  lb : isP [91] r = false
  lp : isP [40] r = false
  op : ∀ m, n ≤ m → m ≤ 9 → isOpP m r = false
  is : n ≤ 6 → isP [105, 115] r = false ∧ isP [97, 115] r = false
theorem Fol.up {n m : Nat} {r : List Tk} (h : Fol n r) (hm : n ≤ m) : Fol m r := ⟨h.dot, h.lb, h.lp, fun q h1 h2 => h.op q (by omega) h2, fun h1 => h.is (by omega)⟩
/-- A check of one token. -/
def folB (n : Nat) (t : Tk) : Bool := !isP [46] [t] && !isP [91] [t] && !isP [40] [t] && ((List.range 10).all fun m => decide (m < n) || !isOpP m [t]) && (decide (6 < n) || (!isP [105, 115] [t] && !isP [97, 115] [t]))
theorem fol_of {n : Nat} {t : Tk} (h : folB n t = true) (r : List Tk) : Fol n (t :: r) := by
  simp only [folB, Bool.and_eq_true, Bool.or_eq_true, Bool.not_eq_true', decide_eq_true_eq, List.all_eq_true, List.mem_range] at h
  obtain ⟨⟨⟨⟨h1, h2⟩, h3⟩, h4⟩, h5⟩ := h
  refine ⟨h1, h2, h3, fun m hm h9 => ?_, fun hn => ?_⟩
  · rcases h4 m (by omega) with g | g
    · omega
    · exact g
  · rcases h5 with g | g
    · omega
    · exact g
theorem fol_nil (n : Nat) : Fol n [] := ⟨rfl, rfl, rfl, fun m _ _ => by simp [isOpP, hdK], fun _ => ⟨rfl, rfl⟩⟩
theorem ops_lev : ∀ s ∈ opsL, ∃ m, m ≤ 9 ∧ s ∈ levL m ∧ folB (m + 1) (sg s) = true := by
  have : opsL.all fun s => (List.range 10).any fun m => (levL m).contains s && folB (m + 1) (sg s) := by decide
  intro s hs
  have h := List.all_eq_true.1 this s hs
  obtain ⟨m, hm, h⟩ := List.any_eq_true.1 h
  simp only [Bool.and_eq_true, List.contains_iff_mem] at h
  exact ⟨m, by have := List.mem_range.1 hm; omega, h.1, h.2⟩
theorem post_end {e : Ex} {r : List Tk} (h1 : isP [46] r = false) (h2 : isP [91] r = false) : Lim (fun f => postP f e r) (.ok (e, r)) :=
  lim_succ (h := fun _ => .ok (e, r)) (fun f => by rw [postP, h1, h2]; rfl) (lim_const _)
theorem loop_end {n : Nat} {e : Ex} {r : List Tk} (hn : n ≤ 9) (h : Fol n r) : Lim (fun f => loopP f n e r) (.ok (e, r)) :=
  lim_succ (h := fun _ => .ok (e, r)) (fun f => by
    rw [loopP, h.op n (Nat.le_refl _) hn]
    by_cases h6 : n = 6
    · subst h6
      rw [(h.is (Nat.le_refl _)).1, (h.is (Nat.le_refl _)).2]; rfl
    · simp [h6]) (lim_const _)
theorem expr_up {n : Nat} {e : Ex} {l r : List Tk} (hn : n ≤ 9) (h : Lim (fun f => exprP f (n + 1) l) (.ok (e, r))) (hf : Fol n r) : Lim (fun f => exprP f n l) (.ok (e, r)) :=
  lim_succ (h := fun f => bndP (exprP f (n + 1) l) fun e r => loopP f n e r) (fun f => by rw [exprP, if_neg (by omega)]) (lim_bnd h (loop_end hn hf))
theorem expr_down {k : Nat} : ∀ {n : Nat} {e : Ex} {l r : List Tk}, n + k ≤ 10 → Lim (fun f => exprP f (n + k) l) (.ok (e, r)) → Fol n r → Lim (fun f => exprP f n l) (.ok (e, r)) := by
  induction k with
  | zero => intro n e l r _ h _; exact h
  | succ k ih =>
    intro n e l r hn h hf
    exact ih (by omega) (expr_up (by omega) h (hf.up (by omega))) hf
theorem expr_unary {e : Ex} {l r : List Tk} (h : Lim (fun f => unaryP f l) (.ok (e, r))) : Lim (fun f => exprP f 10 l) (.ok (e, r)) :=
  lim_succ (h := fun f => unaryP f l) (fun f => by rw [exprP, if_pos rfl]) h
/-! Types. -/
theorem dims_rt : ∀ (k : Nat) (f : Nat) (t : Ty) (r : List Tk), k ≤ f → isP [91] r = false → dimsP f t ((List.replicate k [sg [91], sg [93]]).flatten ++ r) = .ok (⟨t.dim + k, t.base, t.name⟩, r)
  | 0, f, t, r, _, h => by
    cases f with
    | zero => simp [dimsP]
    | succ f => simp [dimsP, h]
  | k + 1, 0, _, _, hk, _ => by omega
  | k + 1, f + 1, t, r, hk, h => by
    have ih := dims_rt k f t.up r (by omega) h
    simp only [List.replicate_succ, List.flatten_cons, List.cons_append, List.nil_append]
    rw [dimsP]
    simp only [isP, sg, List.tail_cons, expP]
    simp only [sg] at ih
    rw [if_pos (by decide), if_pos (by decide), ih]
    simp only [Ty.up]
    congr 2
    simp only [Ty.mk.injEq, and_true]
    omega
theorem value_base {t : Ty} (h : valueTy t.dim t.base t.name = true) : 0 ≤ t.dim ∧ t.dim ≤ 8 ∧ ((t.base = 73 ∧ t.name = []) ∨ (t.base = 74 ∧ t.name = []) ∨ (t.base = 76 ∧ isCls t.name = true)) := by
  simp only [valueTy, Bool.and_eq_true, decide_eq_true_eq, Bool.or_eq_true] at h
  obtain ⟨⟨h1, h2⟩, h3⟩ := h
  unfold validTy at h1
  split at h1
  · cases h1
  · rename_i hd
    refine ⟨by omega, by omega, ?_⟩
    split at h1
    · rename_i hb
      simp only [decide_eq_true_eq] at h1
      rcases hb with hb | hb
      · exact .inl ⟨hb, h1⟩
      · exact .inr (.inl ⟨hb, h1⟩)
    · split at h1
      · rename_i hb
        rcases h3 with g | g
        · exact absurd hb g
        · exact .inr (.inr ⟨hb, g⟩)
      · cases h1
theorem base_rt {t : Ty} (h : valueTy t.dim t.base t.name = true) (r : List Tk) : baseP (baseT t.base t.name :: r) = .ok (⟨0, t.base, t.name⟩, r) := by
  obtain ⟨_, _, h3⟩ := value_base h
  rcases h3 with ⟨h1, h2⟩ | ⟨h1, h2⟩ | ⟨h1, h2⟩
  · rw [h1, h2]; rfl
  · rw [h1, h2]; rfl
  · rw [h1]
    have e : baseT 76 t.name = nm1 t.name := rfl
    rw [e]
    simp [baseP, isP, nm1, clsP, isClsP, hdK, hdS, h2, bndP]
theorem typ_rt {t : Ty} (h : valueTy t.dim t.base t.name = true) (r : List Tk) (hr : isP [91] r = false) : typP (typT t.dim t.base t.name ++ r) = .ok (t, r) := by
  have hv := value_base h
  have e : typT t.dim t.base t.name ++ r = baseT t.base t.name :: (dimT t.dim ++ r) := rfl
  rw [e, typP, base_rt h]
  simp only [bndP]
  rw [dimT, dims_rt _ _ _ _ _ hr]
  · have hd : (0 : Int) + (t.dim.toNat : Int) = t.dim := by omega
    rw [hd]
  · rw [List.length_append]
    have := dimT_len t.dim
    simp only [dimT] at this
    omega
end Go.Proofs.YtalalcpefggniaaGreatDoor.E

namespace Go.Proofs.YtalalcpefggniaaGreatDoor.E
open Go

theorem indexB_no : ∀ {s : List UInt8}, Lib.indexByte s 47 < 0 → s.contains 47 = false
  | [], _ => rfl
  | b :: l, h => by
    unfold Lib.indexByte at h
    have hge := Lib.indexByte_ge l 47
    split at h
    · omega
    · rename_i hb
      split at h
      · rename_i hl
        have hl : Lib.indexByte l 47 = -1 := by simpa using hl
        rw [List.contains_cons, indexB_no (by omega), Bool.or_false]
        cases hc : (47 == b) with
        | false => rfl
        | true => exact absurd (beq_iff_eq.2 (beq_iff_eq.1 hc).symm) hb
      · rename_i hl
        have hl : Lib.indexByte l 47 ≠ -1 := by simpa using hl
        omega
theorem ident_no {s : List UInt8} (h : identL s = true) : isCls s = false ∧ s.contains 47 = false := by
  simp only [identL, isMem, Bool.and_eq_true, Bool.or_eq_true, Bool.not_eq_true', decide_eq_true_eq] at h
  obtain ⟨⟨⟨h1, h2⟩, h3⟩, h4⟩ := h
  refine ⟨h3, ?_⟩
  rcases h1 with (h1 | h1) | h1
  · subst h1; exact absurd rfl h2
  · subst h1; exact absurd rfl h2
  · exact indexB_no h1.2
theorem id_rt {s : List UInt8} (h : identL s = true) (r : List Tk) : isIdP (nm1 s :: r) = true ∧ isClsP (nm1 s :: r) = false ∧ idP (nm1 s :: r) = .ok (s, r) := by
  obtain ⟨h1, h2⟩ := ident_no h
  have e : isIdP (nm1 s :: r) = true := by
    show (decide ((1 : Int) = 1) && !isCls s && !s.contains 47) = true
    rw [h1, h2]; rfl
  refine ⟨e, ?_, by rw [idP, if_pos e]; rfl⟩
  show (decide ((1 : Int) = 1) && isCls s) = false
  rw [h1]; rfl
theorem cls_rt {s : List UInt8} (h : isCls s = true) (r : List Tk) : isClsP (nm1 s :: r) = true ∧ isIdP (nm1 s :: r) = false ∧ clsP (nm1 s :: r) = .ok (s, r) := by
  have e : isClsP (nm1 s :: r) = true := by
    show (decide ((1 : Int) = 1) && isCls s) = true
    rw [h]; rfl
  refine ⟨e, ?_, by rw [clsP, if_pos e]; rfl⟩
  show (decide ((1 : Int) = 1) && !isCls s && !s.contains 47) = false
  rw [h]; rfl
/-- What may begin an expression. -/
def hdE (t : Tk) : Bool := decide (t.k = 3) || decide (t.k = 4) || decide (t.k = 5) || decide (t.k = 1) ||
  (decide (t.k = 2) && [[110, 117, 108, 108], [116, 104, 105, 115], [115, 117, 112, 101, 114], [110, 101, 119], [108, 101, 110], intS, longS].contains t.s) || (decide (t.k = 6) && [[40], [45], [33]].contains t.s)
def HdE (l : List Tk) : Prop := ∃ t r, l = t :: r ∧ hdE t = true
theorem hd_app {a b : List Tk} (h : HdE a) : HdE (a ++ b) := by
  obtain ⟨t, r, rfl, h⟩ := h
  exact ⟨t, r ++ b, rfl, h⟩
theorem hd_is {l : List Tk} {w : List UInt8} (h : HdE l) (hw : ([[110, 117, 108, 108], [116, 104, 105, 115], [115, 117, 112, 101, 114], [110, 101, 119], [108, 101, 110], intS, longS, [40], [45], [33]] : List (List UInt8)).contains w = false) : isP w l = false := by
  obtain ⟨t, r, rfl, h⟩ := h
  cases hb : isP w (t :: r) with
  | false => rfl
  | true =>
    exfalso
    simp only [isP, Bool.and_eq_true, Bool.or_eq_true, decide_eq_true_eq] at hb
    obtain ⟨hk, rfl⟩ := hb
    simp only [hdE, Bool.or_eq_true, Bool.and_eq_true, decide_eq_true_eq] at h
    rcases h with ((((h | h) | h) | h) | h) | h
    · omega
    · omega
    · omega
    · omega
    · simp only [List.contains_cons, List.contains_nil, Bool.or_false, Bool.or_eq_false_iff] at hw
      have := h.2
      simp only [List.contains_cons, List.contains_nil, Bool.or_false, hw, Bool.or_self] at this
      cases this
    · simp only [List.contains_cons, List.contains_nil, Bool.or_false, Bool.or_eq_false_iff] at hw
      have := h.2
      simp only [List.contains_cons, List.contains_nil, Bool.or_false, hw, Bool.or_self] at this
      cases this
theorem list_hd (l : List (List Tk)) : HdE (listT l) := ⟨sg [40], _, rfl, rfl⟩
theorem opd_hd {b : Bool} {t : List Tk} (h : HdE t) : HdE (opdT b t) := by
  cases b
  · exact h
  · exact list_hd _
mutual
theorem expr_hd : ∀ (e : Ex), validE e = true → HdE (exprT e)
  | .mk k n s c ty args, hv => by
    simp only [validE, Bool.and_eq_true] at hv
    obtain ⟨hn, hvs⟩ := hv
    have hx := exprs_hd args hvs
    obtain ⟨hk, har, _⟩ := node_kind hn
    simp only [exprT]
    simp only [nodeL, Bool.and_eq_true, decide_eq_true_eq] at hn
    have hi := hn.1.1.2
    have o0 : 1 ≤ args.length → HdE (oAt (exprTs args) 0) := fun h => by rw [oAt_eq (by omega)]; exact opd_hd (hx _ (List.getElem_mem _))
    rcases kinds hk with h | h | h | h | h | h | h | h | h | h | h | h | h | h | h | h | h | h | h | h | h <;> subst h
    · exact ⟨_, _, rfl, rfl⟩
    · exact ⟨_, _, rfl, rfl⟩
    · exact ⟨_, _, rfl, rfl⟩
    · exact ⟨_, _, rfl, rfl⟩
    · exact ⟨_, _, rfl, rfl⟩
    · exact ⟨_, _, rfl, rfl⟩
    · exact hd_app (hd_app (o0 (by simp [shapeL] at har; omega)))
    · exact ⟨_, _, rfl, rfl⟩
    · exact hd_app (hd_app (hd_app (o0 (by simp [shapeL] at har; omega))))
    · exact hd_app (hd_app (hd_app (o0 (by simp [shapeL] at har; omega))))
    · exact ⟨_, _, rfl, rfl⟩
    · exact ⟨_, _, rfl, rfl⟩
    · exact ⟨_, _, rfl, rfl⟩
    · exact ⟨_, _, rfl, rfl⟩
    · have hi : (decide (n = 0) && (decide (s = [45]) || decide (s = [33]))) = true := hi
      simp only [Bool.and_eq_true, Bool.or_eq_true, decide_eq_true_eq] at hi
      rcases hi.2 with rfl | rfl <;> exact ⟨_, _, rfl, rfl⟩
    · exact hd_app (hd_app (o0 (by simp [shapeL] at har; omega)))
    · exact hd_app (hd_app (o0 (by simp [shapeL] at har; omega)))
    · exact hd_app (hd_app (o0 (by simp [shapeL] at har; omega)))
    · exact ⟨_, _, rfl, rfl⟩
    · exact ⟨_, _, rfl, rfl⟩
    · exact ⟨_, _, rfl, rfl⟩
theorem exprs_hd : ∀ (l : List Ex), validEs l = true → ∀ x ∈ l, HdE (exprT x)
  | [], _, x, hx => by cases hx
  | e :: r, hv, x, hx => by
    simp only [validEs, Bool.and_eq_true] at hv
    rcases List.mem_cons.1 hx with hx | hx
    · rw [hx]; exact expr_hd e hv.1
    · exact exprs_hd r hv.2 x hx
end
/-- Read back. -/
def RT0 (e : Ex) : Prop := ∀ r, Fol 0 r → Lim (fun f => exprP f 0 (exprT e ++ r)) (.ok (e, r))
structure RT (e : Ex) : Prop where
  o : ∀ r K, isP [40] r = false → Lim (fun f => postP f e r) K → Lim (fun f => unaryP f (opdT (isOp e.k) (exprT e) ++ r)) K
  z : RT0 e
theorem un_atom {l r : List Tk} {e : Ex} {K : PR Ex} (h1 : isP [45] l = false) (h2 : isP [33] l = false) (ho : Lim (fun f => operandP f l) (.ok (e, r))) (hp : Lim (fun f => postP f e r) K) : Lim (fun f => unaryP f l) K :=
  lim_succ (h := fun f => bndP (operandP f l) fun e r => postP f e r) (fun f => by rw [unaryP, h1, h2]; rfl) (lim_bnd ho hp)
theorem rt_prim {e : Ex} (hk : isOp e.k = false) (h : ∀ r K, isP [40] r = false → Lim (fun f => postP f e r) K → Lim (fun f => unaryP f (exprT e ++ r)) K) : RT e := by
  refine ⟨fun r K h1 h2 => ?_, fun r hf => ?_⟩
  · rw [hk]; exact h r K h1 h2
  · exact expr_down (k := 10) (n := 0) (by omega) (expr_unary (h r _ hf.lp (post_end hf.dot hf.lb))) hf
theorem paren_rt {e : Ex} (h : RT0 e) (r : List Tk) : Lim (fun f => parenP f (listT [exprT e] ++ r)) (.ok (e, r)) := by
  have e1 : listT [exprT e] ++ r = sg [40] :: (exprT e ++ (sg [41] :: r)) := by simp [listT, commaT]
  rw [e1]
  refine lim_succ (h := fun f => bndP (exprP f 0 (exprT e ++ (sg [41] :: r))) fun e r2 => expP [41] r2 fun r3 => .ok (e, r3)) (fun f => by rw [parenP]; rfl) ?_
  exact lim_bnd (h _ (fol_of (by decide) _)) (lim_const _)
theorem rt_op {e : Ex} (hk : isOp e.k = true) (h : RT0 e) : RT e := by
  refine ⟨fun r K h1 h2 => ?_, h⟩
  rw [hk]
  have e1 : opdT true (exprT e) ++ r = sg [40] :: (exprT e ++ (sg [41] :: r)) := by simp [opdT, listT, commaT]
  refine un_atom (e := e) (r := r) (by rw [e1]; rfl) (by rw [e1]; rfl) ?_ h2
  exact lim_succ (h := fun f => parenP f (opdT true (exprT e) ++ r)) (fun f => by rw [e1, operandP]; rfl) (paren_rt h r)
theorem o_lev {e : Ex} (h : RT e) {n : Nat} (hn : n ≤ 10) {r : List Tk} (hf : Fol n r) : Lim (fun f => exprP f n (opdT (isOp e.k) (exprT e) ++ r)) (.ok (e, r)) := by
  have h1 := expr_unary (h.o r _ hf.lp (post_end hf.dot hf.lb))
  have : n + (10 - n) = 10 := by omega
  exact expr_down (k := 10 - n) (n := n) (by omega) (by rw [this]; exact h1) hf
theorem more_rt : ∀ (l acc : List Ex) (r : List Tk), (∀ e ∈ l, RT0 e) → Lim (fun f => moreP f acc (commaT false (l.map exprT) ++ (sg [41] :: r))) (.ok (acc ++ l, r))
  | [], acc, r, _ => lim_succ (h := fun _ => .ok (acc ++ [], r)) (fun f => by rw [moreP]; simp [commaT, isP, sg, expP]) (lim_const _)
  | e :: l, acc, r, h => by
    have ih := more_rt l (acc ++ [e]) r fun x hx => h x (List.mem_cons_of_mem _ hx)
    have e1 : commaT false ((e :: l).map exprT) ++ (sg [41] :: r) = sg [44] :: (exprT e ++ (commaT false (l.map exprT) ++ (sg [41] :: r))) := by simp [commaT]
    rw [e1]
    refine lim_succ (h := fun f => bndP (exprP f 0 (exprT e ++ (commaT false (l.map exprT) ++ (sg [41] :: r)))) fun e r => moreP f (acc ++ [e]) r) (fun f => by rw [moreP]; rfl) (lim_bnd (h e (List.mem_cons_self ..) _ ?_) ?_)
    · cases l with
      | nil => exact fol_of (by decide) _
      | cons x l => exact fol_of (by decide) _
    · simpa using ih
theorem args_rt {l : List Ex} (h : ∀ e ∈ l, RT0 e) (hv : validEs l = true) (r : List Tk) : Lim (fun f => argsP f (listT (l.map exprT) ++ r)) (.ok (l, r)) := by
  cases l with
  | nil => exact lim_succ (h := fun _ => .ok ([], r)) (fun f => by rw [argsP]; rfl) (lim_const _)
  | cons e l =>
    have hh : HdE (exprT e ++ (commaT false (l.map exprT) ++ (sg [41] :: r))) := hd_app (exprs_hd _ hv e (List.mem_cons_self ..))
    have e1 : listT ((e :: l).map exprT) ++ r = sg [40] :: (exprT e ++ (commaT false (l.map exprT) ++ (sg [41] :: r))) := by simp [listT, commaT]
    rw [e1]
    refine lim_succ (h := fun f => bndP (exprP f 0 (exprT e ++ (commaT false (l.map exprT) ++ (sg [41] :: r)))) fun e r => moreP f [e] r) (fun f => ?_) (lim_bnd (h e (List.mem_cons_self ..) _ ?_) ?_)
    · rw [argsP]
      show (if isP [41] (exprT e ++ (commaT false (l.map exprT) ++ (sg [41] :: r))) = true then _ else _) = _
      rw [hd_is hh (by decide)]; rfl
    · cases l with
      | nil => exact fol_of (by decide) _
      | cons x l => exact fol_of (by decide) _
    · exact more_rt l [e] r fun x hx => h x (List.mem_cons_of_mem _ hx)
theorem op_key {w : List UInt8} {l : List Tk} {K : PR Ex} (hw : w ≠ [40]) (h : Lim (fun f => keyP f (kw w :: l)) K) : Lim (fun f => operandP f (kw w :: l)) K :=
  lim_succ (h := fun f => keyP f (kw w :: l)) (fun f => by
    rw [operandP]
    simp [hdK, kw, isIdP, isClsP, isP, hw]) h
theorem new_rt : ∀ (k f : Nat) (t : Ty) (r : List Tk), k ≤ f → isP [93] r = false → newP f t ((List.replicate k [sg [93], sg [91]]).flatten ++ r) = .ok (⟨t.dim + k, t.base, t.name⟩, r)
  | 0, f, t, r, _, h => by
    cases f with
    | zero => simp [newP]
    | succ f => simp [newP, h]
  | k + 1, 0, _, _, hk, _ => by omega
  | k + 1, f + 1, t, r, hk, h => by
    have ih := new_rt k f t.up r (by omega) h
    simp only [List.replicate_succ, List.flatten_cons, List.cons_append, List.nil_append]
    rw [newP]
    simp only [isP, sg, List.tail_cons, expP]
    simp only [sg] at ih
    rw [if_pos (by decide), if_pos (by decide), ih]
    simp only [Ty.up]
    congr 2
    simp only [Ty.mk.injEq, and_true]
    omega
theorem dim_shift : ∀ (k : Nat) (r : List Tk), (List.replicate k [sg [91], sg [93]]).flatten ++ (sg [91] :: r) = sg [91] :: ((List.replicate k [sg [93], sg [91]]).flatten ++ r)
  | 0, r => rfl
  | k + 1, r => by simp only [List.replicate_succ, List.flatten_cons, List.cons_append, List.nil_append, dim_shift k r]
theorem zty_of {ty : Ty} (h : (decide (ty.dim = 0) && decide (ty.base = 0) && decide (ty.name = [])) = true) : ty = zTy := by
  simp only [Bool.and_eq_true, decide_eq_true_eq] at h
  cases ty
  simp only at h
  obtain ⟨⟨rfl, rfl⟩, rfl⟩ := h
  rfl
theorem single_of {l : List Ex} (h1 : (1 : Int) ≤ l.length) (h2 : (l.length : Int) ≤ 1) : ∃ x, l = [x] := by
  match l, h1, h2 with
  | [x], _, _ => exact ⟨x, rfl⟩
  | _ :: _ :: r, _, h2 => simp at h2; omega
theorem pair_of {l : List Ex} (h1 : (2 : Int) ≤ l.length) (h2 : (l.length : Int) ≤ 2) : ∃ x y, l = [x, y] := by
  match l, h1, h2 with
  | [x, y], _, _ => exact ⟨x, y, rfl⟩
  | _ :: _ :: _ :: r, _, h2 => simp at h2; omega
theorem nil_of {l : List Ex} (h2 : (l.length : Int) ≤ 0) : l = [] := List.length_eq_zero_iff.1 (by omega)
theorem expr_rt : ∀ (h : Nat) (e : Ex), depthE e ≤ h → validE e = true → RT e
  | 0, .mk k n s c ty args, hd, _ => by simp [depthE] at hd
  | h + 1, .mk k n s c ty args, hd, hv => by
    simp only [depthE] at hd
    simp only [validE, Bool.and_eq_true] at hv
    obtain ⟨hn, hvs⟩ := hv
    have ih : ∀ e ∈ args, RT e := fun e he => expr_rt h e (by have := depthL_mem he; omega) (validEs_mem hvs e he)
    have ihz : ∀ e ∈ args, RT0 e := fun e he => (ih e he).z
    have hhd := exprs_hd args hvs
    obtain ⟨hk, har, _⟩ := node_kind hn
    simp only [nodeL, Bool.and_eq_true, decide_eq_true_eq] at hn
    obtain ⟨⟨⟨⟨⟨_, h1⟩, h2⟩, hi⟩, hc⟩, ht⟩ := hn
    rcases kinds hk with h | h | h | h | h | h | h | h | h | h | h | h | h | h | h | h | h | h | h | h | h <;> subst h
    · have hi : (decide (0 ≤ n) && decide (n ≤ 2147483647) && decide (s = [])) = true := hi
      simp only [Bool.and_eq_true, decide_eq_true_eq] at hi
      obtain ⟨hi2, rfl⟩ := hi
      have hc : decide (c = []) = true := hc
      simp only [decide_eq_true_eq] at hc
      subst hc
      obtain rfl := zty_of ht
      obtain rfl := nil_of h2
      refine rt_prim rfl fun r K h1 h2 => un_atom (r := r) rfl rfl ?_ h2
      exact lim_succ (h := fun _ => .ok (.mk 1 n [] [] zTy [], r)) (fun f => by rw [operandP]; rfl) (lim_const _)
    · have hi : (decide (0 ≤ n) && decide (s = [])) = true := hi
      simp only [Bool.and_eq_true, decide_eq_true_eq] at hi
      obtain ⟨hi2, rfl⟩ := hi
      have hc : decide (c = []) = true := hc
      simp only [decide_eq_true_eq] at hc
      subst hc
      obtain rfl := zty_of ht
      obtain rfl := nil_of h2
      refine rt_prim rfl fun r K h1 h2 => un_atom (r := r) rfl rfl ?_ h2
      exact lim_succ (h := fun _ => .ok (.mk 2 n [] [] zTy [], r)) (fun f => by rw [operandP]; rfl) (lim_const _)
    · have hi : (decide (n = 0) && printL s) = true := hi
      simp only [Bool.and_eq_true, decide_eq_true_eq] at hi
      obtain ⟨rfl, hi2⟩ := hi
      have hc : decide (c = []) = true := hc
      simp only [decide_eq_true_eq] at hc
      subst hc
      obtain rfl := zty_of ht
      obtain rfl := nil_of h2
      refine rt_prim rfl fun r K h1 h2 => un_atom (r := r) rfl rfl ?_ h2
      exact lim_succ (h := fun _ => .ok (.mk 3 0 s [] zTy [], r)) (fun f => by rw [operandP]; rfl) (lim_const _)
    · have hi : (decide (n = 0) && decide (s = [])) = true := hi
      simp only [Bool.and_eq_true, decide_eq_true_eq] at hi
      obtain ⟨rfl, rfl⟩ := hi
      have hc : decide (c = []) = true := hc
      simp only [decide_eq_true_eq] at hc
      subst hc
      obtain rfl := zty_of ht
      obtain rfl := nil_of h2
      refine rt_prim rfl fun r K h1 h2 => un_atom (r := r) rfl rfl ?_ h2
      exact op_key (by decide) (lim_succ (h := fun _ => .ok (.mk 4 0 [] [] zTy [], r)) (fun f => by rw [keyP]; rfl) (lim_const _))
    · have hi : (decide (n = 0) && decide (s = [])) = true := hi
      simp only [Bool.and_eq_true, decide_eq_true_eq] at hi
      obtain ⟨rfl, rfl⟩ := hi
      have hc : decide (c = []) = true := hc
      simp only [decide_eq_true_eq] at hc
      subst hc
      obtain rfl := zty_of ht
      obtain rfl := nil_of h2
      refine rt_prim rfl fun r K h1 h2 => un_atom (r := r) rfl rfl ?_ h2
      exact op_key (by decide) (lim_succ (h := fun _ => .ok (.mk 5 0 [] [] zTy [], r)) (fun f => by rw [keyP]; rfl) (lim_const _))
    · have hi : (identL s && decide (n = 0)) = true := hi
      simp only [Bool.and_eq_true, decide_eq_true_eq] at hi
      obtain ⟨hi2, rfl⟩ := hi
      have hc : decide (c = []) = true := hc
      simp only [decide_eq_true_eq] at hc
      subst hc
      obtain rfl := zty_of ht
      obtain rfl := nil_of h2
      refine rt_prim rfl fun r K h1 h2 => un_atom (r := r) rfl rfl ?_ h2
      have hid := id_rt hi2 r
      refine lim_succ (h := fun _ => .ok (.mk 6 0 s [] zTy [], r)) (fun f => ?_) (lim_const _)
      show operandP (f + 1) (nm1 s :: r) = _
      rw [operandP, if_neg (by simp [hdK, nm1]), if_neg (by simp [hdK, nm1]), if_neg (by simp [hdK, nm1]), if_pos hid.1, hid.2.2]
      rfl
    · have hi : (identL s && decide (n = 0)) = true := hi
      simp only [Bool.and_eq_true, decide_eq_true_eq] at hi
      obtain ⟨hi2, rfl⟩ := hi
      have hc : decide (c = []) = true := hc
      simp only [decide_eq_true_eq] at hc
      subst hc
      obtain rfl := zty_of ht
      obtain ⟨x, rfl⟩ := single_of h1 h2
      have hx := ih x (by simp)
      refine rt_prim rfl fun r K h1 h2 => ?_
      have hid := id_rt hi2 r
      have e1 : exprT (.mk 7 0 s [] zTy [x]) ++ r = opdT (isOp x.k) (exprT x) ++ (sg [46] :: nm1 s :: r) := by
        show (oAt (exprTs [x]) 0 ++ [sg [46]] ++ [nm1 s]) ++ r = _
        rw [oAt_eq (by simp)]
        simp
      rw [e1]
      refine hx.o _ K rfl (lim_succ (h := fun f => postP f (.mk 7 0 s [] zTy [x]) r) (fun f => ?_) h2)
      rw [postP]
      show bndP (idP (nm1 s :: r)) _ = _
      rw [hid.2.2]
      simp only [bndP, h1]
      rfl
    · have hi : (identL s && decide (n = 0)) = true := hi
      simp only [Bool.and_eq_true, decide_eq_true_eq] at hi
      obtain ⟨hi2, rfl⟩ := hi
      have hc : isCls c = true := hc
      obtain rfl := zty_of ht
      obtain rfl := nil_of h2
      refine rt_prim rfl fun r K h1 h2 => un_atom (r := r) rfl rfl ?_ h2
      have hid := id_rt hi2 r
      have hcl := cls_rt hc (sg [46] :: nm1 s :: r)
      refine lim_succ (h := fun _ => .ok (.mk 8 0 s c zTy [], r)) (fun f => ?_) (lim_const _)
      show operandP (f + 1) (nm1 c :: sg [46] :: nm1 s :: r) = _
      rw [operandP, if_neg (by simp [hdK, nm1]), if_neg (by simp [hdK, nm1]), if_neg (by simp [hdK, nm1]), if_neg (by rw [hcl.2.1]; decide), if_pos hcl.1, hcl.2.2]
      show bndP (idP (nm1 s :: r)) _ = _
      rw [hid.2.2]
      simp only [bndP, h1]
      rfl
    · have hi : (decide (n = 0) && decide (s = [])) = true := hi
      simp only [Bool.and_eq_true, decide_eq_true_eq] at hi
      obtain ⟨rfl, rfl⟩ := hi
      have hc : decide (c = []) = true := hc
      simp only [decide_eq_true_eq] at hc
      subst hc
      obtain rfl := zty_of ht
      obtain ⟨x, y, rfl⟩ := pair_of h1 h2
      have hx := ih x (by simp)
      have hy := ih y (by simp)
      refine rt_prim rfl fun r K h1 h2 => ?_
      have e1 : exprT (.mk 9 0 [] [] zTy [x, y]) ++ r = opdT (isOp x.k) (exprT x) ++ (sg [91] :: (exprT y ++ (sg [93] :: r))) := by
        show (oAt (exprTs [x, y]) 0 ++ [sg [91]] ++ tAt (exprTs [x, y]) 1 ++ [sg [93]]) ++ r = _
        rw [oAt_eq (by simp), tAt_eq (by simp)]
        simp
      rw [e1]
      refine hx.o _ K rfl (lim_succ (h := fun f => bndP (exprP f 0 (exprT y ++ (sg [93] :: r))) fun i r => expP [93] r fun r2 => postP f (.mk 9 0 [] [] zTy [x, i]) r2) (fun f => by rw [postP]; rfl) (lim_bnd (hy.z _ (fol_of (by decide) _)) h2))
    · have hi : (identL s && decide (n = 0)) = true := hi
      simp only [Bool.and_eq_true, decide_eq_true_eq] at hi
      obtain ⟨hi2, rfl⟩ := hi
      have hc : decide (c = []) = true := hc
      simp only [decide_eq_true_eq] at hc
      subst hc
      obtain rfl := zty_of ht
      have h1 : (1 : Int) ≤ args.length := h1
      cases args with
      | nil => exact absurd h1 (by decide)
      | cons x es =>
        have hx := ih x (by simp)
        have hvs2 : validEs es = true := by simp only [validEs, Bool.and_eq_true] at hvs; exact hvs.2
        refine rt_prim rfl fun r K h1 h2 => ?_
        have hid := id_rt hi2 (listT (es.map exprT) ++ r)
        have e1 : exprT (.mk 10 0 s [] zTy (x :: es)) ++ r = opdT (isOp x.k) (exprT x) ++ (sg [46] :: nm1 s :: (listT (es.map exprT) ++ r)) := by
          show (oAt (exprTs (x :: es)) 0 ++ [sg [46]] ++ [nm1 s] ++ listT (((exprTs (x :: es)).drop 1).map (·.2))) ++ r = _
          rw [oAt_eq (by simp), ts_map1]
          simp
        rw [e1]
        refine hx.o _ K rfl (lim_succ (h := fun f => bndP (argsP f (listT (es.map exprT) ++ r)) fun es r2 => postP f (.mk 10 0 s [] zTy (x :: es)) r2) (fun f => ?_) (lim_bnd (args_rt (fun e he => ihz e (List.mem_cons_of_mem _ he)) hvs2 r) h2))
        rw [postP]
        show bndP (idP (nm1 s :: (listT (es.map exprT) ++ r))) _ = _
        rw [hid.2.2]
        rfl
    · have hi : (identL s && decide (n = 0)) = true := hi
      simp only [Bool.and_eq_true, decide_eq_true_eq] at hi
      obtain ⟨hi2, rfl⟩ := hi
      have hc : isCls c = true := hc
      obtain rfl := zty_of ht
      refine rt_prim rfl fun r K h1 h2 => un_atom (r := r) rfl rfl ?_ h2
      have hid := id_rt hi2 (listT (args.map exprT) ++ r)
      have hcl := cls_rt hc (sg [46] :: nm1 s :: (listT (args.map exprT) ++ r))
      have e1 : exprT (.mk 11 0 s c zTy args) ++ r = nm1 c :: sg [46] :: nm1 s :: (listT (args.map exprT) ++ r) := by
        show ([nm1 c] ++ [sg [46]] ++ [nm1 s] ++ listT ((exprTs args).map (·.2))) ++ r = _
        rw [ts_map]
        simp
      rw [e1]
      refine lim_succ (h := fun f => bndP (argsP f (listT (args.map exprT) ++ r)) fun es r4 => .ok (.mk 11 0 s c zTy es, r4)) (fun f => ?_) (lim_bnd (args_rt ihz hvs r) (lim_const _))
      rw [operandP, if_neg (by simp [hdK, nm1]), if_neg (by simp [hdK, nm1]), if_neg (by simp [hdK, nm1]), if_neg (by rw [hcl.2.1]; decide), if_pos hcl.1, hcl.2.2]
      show bndP (idP (nm1 s :: (listT (args.map exprT) ++ r))) _ = _
      rw [hid.2.2]
      rfl
    · have hi : (identL s && decide (n = 0)) = true := hi
      simp only [Bool.and_eq_true, decide_eq_true_eq] at hi
      obtain ⟨hi2, rfl⟩ := hi
      have hc : decide (c = []) = true := hc
      simp only [decide_eq_true_eq] at hc
      subst hc
      obtain rfl := zty_of ht
      refine rt_prim rfl fun r K h1 h2 => un_atom (r := r) rfl rfl ?_ h2
      have hid := id_rt hi2 (listT (args.map exprT) ++ r)
      have e1 : exprT (.mk 12 0 s [] zTy args) ++ r = kw [115, 117, 112, 101, 114] :: sg [46] :: nm1 s :: (listT (args.map exprT) ++ r) := by
        show ([kw [115, 117, 112, 101, 114]] ++ [sg [46]] ++ [nm1 s] ++ listT ((exprTs args).map (·.2))) ++ r = _
        rw [ts_map]
        simp
      rw [e1]
      refine op_key (by decide) (lim_succ (h := fun f => bndP (argsP f (listT (args.map exprT) ++ r)) fun es r3 => .ok (.mk 12 0 s [] zTy es, r3)) (fun f => ?_) (lim_bnd (args_rt ihz hvs r) (lim_const _)))
      rw [keyP]
      show bndP (idP (nm1 s :: (listT (args.map exprT) ++ r))) _ = _
      rw [hid.2.2]
      rfl
    · have hi : (decide (n = 0) && decide (s = [])) = true := hi
      simp only [Bool.and_eq_true, decide_eq_true_eq] at hi
      obtain ⟨rfl, rfl⟩ := hi
      have hc : isCls c = true := hc
      obtain rfl := zty_of ht
      refine rt_prim rfl fun r K h1 h2 => un_atom (r := r) rfl rfl ?_ h2
      have e1 : exprT (.mk 13 0 [] c zTy args) ++ r = kw [110, 101, 119] :: nm1 c :: (listT (args.map exprT) ++ r) := by
        show ([kw [110, 101, 119]] ++ [nm1 c] ++ listT ((exprTs args).map (·.2))) ++ r = _
        rw [ts_map]
        simp
      rw [e1]
      have hb : baseP (nm1 c :: (listT (args.map exprT) ++ r)) = .ok (⟨0, 76, c⟩, listT (args.map exprT) ++ r) := by
        have hcl := cls_rt hc (listT (args.map exprT) ++ r)
        simp only [baseP, hcl.2.2, bndP]
        rfl
      refine op_key (by decide) (lim_succ (h := fun f => bndP (argsP f (listT (args.map exprT) ++ r)) fun es r2 => .ok (.mk 13 0 [] c zTy es, r2)) (fun f => ?_) (lim_bnd (args_rt ihz hvs r) (lim_const _)))
      rw [keyP]
      show bndP (baseP (nm1 c :: (listT (args.map exprT) ++ r))) _ = _
      rw [hb]
      rfl
    · have hi : (decide (n = 0) && decide (s = [])) = true := hi
      simp only [Bool.and_eq_true, decide_eq_true_eq] at hi
      obtain ⟨rfl, rfl⟩ := hi
      have hc : decide (c = []) = true := hc
      simp only [decide_eq_true_eq] at hc
      subst hc
      have ht : (valueTy ty.dim ty.base ty.name && (decide ((14 : Int) ≠ 14) || decide (ty.dim < 8))) = true := ht
      rw [Bool.and_eq_true] at ht
      obtain ⟨x, rfl⟩ := single_of h1 h2
      have hx := ih x (by simp)
      refine rt_prim rfl fun r K h1 h2 => un_atom (r := r) rfl rfl ?_ h2
      have hd0 := value_base ht.1
      have hdx := hhd x (by simp)
      have e1 : exprT (.mk 14 0 [] [] ty [x]) ++ r = kw [110, 101, 119] :: baseT ty.base ty.name :: (sg [91] :: ((List.replicate ty.dim.toNat [sg [93], sg [91]]).flatten ++ (exprT x ++ (sg [93] :: r)))) := by
        show ([kw [110, 101, 119]] ++ typT ty.dim ty.base ty.name ++ [sg [91]] ++ tAt (exprTs [x]) 0 ++ [sg [93]]) ++ r = _
        rw [tAt_eq (by simp), ← dim_shift]
        simp [typT, dimT]
      rw [e1]
      have hb := base_rt ht.1 (sg [91] :: ((List.replicate ty.dim.toNat [sg [93], sg [91]]).flatten ++ (exprT x ++ (sg [93] :: r))))
      refine op_key (by decide) (lim_succ (h := fun f => bndP (exprP f 0 (exprT x ++ (sg [93] :: r))) fun e r4 => expP [93] r4 fun r5 => .ok (.mk 14 0 [] [] ty [e], r5)) (fun f => ?_) (lim_bnd (hx.z _ (fol_of (by decide) _)) (lim_const _)))
      rw [keyP]
      show bndP (baseP (baseT ty.base ty.name :: (sg [91] :: ((List.replicate ty.dim.toNat [sg [93], sg [91]]).flatten ++ (exprT x ++ (sg [93] :: r)))))) _ = _
      rw [hb]
      have hnw := new_rt ty.dim.toNat ((List.replicate ty.dim.toNat [sg [93], sg [91]]).flatten ++ (exprT x ++ (sg [93] :: r))).length ⟨0, ty.base, ty.name⟩ (exprT x ++ (sg [93] :: r)) (by rw [List.length_append, List.length_flatten]; simp; omega) (hd_is (hd_app hdx) (by decide))
      have hty : (⟨0 + (ty.dim.toNat : Int), ty.base, ty.name⟩ : Ty) = ty := by
        cases ty
        simp only at hd0 ⊢
        simp only [Ty.mk.injEq, and_true]
        omega
      rw [hty] at hnw
      show (if ty.base = 76 ∧ isP [40] (sg [91] :: ((List.replicate ty.dim.toNat [sg [93], sg [91]]).flatten ++ (exprT x ++ (sg [93] :: r)))) = true then _ else _) = _
      rw [if_neg (by simp [isP, sg])]
      show bndP (newP ((List.replicate ty.dim.toNat [sg [93], sg [91]]).flatten ++ (exprT x ++ (sg [93] :: r))).length ⟨0, ty.base, ty.name⟩ ((List.replicate ty.dim.toNat [sg [93], sg [91]]).flatten ++ (exprT x ++ (sg [93] :: r)))) _ = _
      rw [hnw]
      rfl
    · have hi : (decide (n = 0) && (decide (s = [45]) || decide (s = [33]))) = true := hi
      simp only [Bool.and_eq_true, Bool.or_eq_true, decide_eq_true_eq] at hi
      obtain ⟨rfl, hi2⟩ := hi
      have hc : decide (c = []) = true := hc
      simp only [decide_eq_true_eq] at hc
      subst hc
      obtain rfl := zty_of ht
      obtain ⟨x, rfl⟩ := single_of h1 h2
      have hx := ih x (by simp)
      refine rt_op rfl fun r hf => ?_
      have e1 : exprT (.mk 15 0 s [] zTy [x]) ++ r = sg s :: (opdT (isOp x.k) (exprT x) ++ r) := by
        show ([sg s] ++ oAt (exprTs [x]) 0) ++ r = _
        rw [oAt_eq (by simp)]
        simp
      rw [e1]
      refine expr_down (k := 10) (n := 0) (by omega) (expr_unary ?_) hf
      have hu := hx.o r _ hf.lp (post_end hf.dot hf.lb)
      rcases hi2 with rfl | rfl
      · exact lim_succ (h := fun f => bndP (unaryP f (opdT (isOp x.k) (exprT x) ++ r)) fun x r => .ok (.mk 15 0 [45] [] zTy [x], r)) (fun f => by rw [unaryP]; rfl) (lim_bnd hu (lim_const _))
      · exact lim_succ (h := fun f => bndP (unaryP f (opdT (isOp x.k) (exprT x) ++ r)) fun x r => .ok (.mk 15 0 [33] [] zTy [x], r)) (fun f => by rw [unaryP]; rfl) (lim_bnd hu (lim_const _))
    · have hi : (decide (n = 0) && opsL.contains s) = true := hi
      simp only [Bool.and_eq_true, decide_eq_true_eq, List.contains_iff_mem] at hi
      obtain ⟨rfl, hi2⟩ := hi
      have hc : decide (c = []) = true := hc
      simp only [decide_eq_true_eq] at hc
      subst hc
      obtain rfl := zty_of ht
      obtain ⟨x, y, rfl⟩ := pair_of h1 h2
      have hx := ih x (by simp)
      have hy := ih y (by simp)
      refine rt_op rfl fun r hf => ?_
      obtain ⟨m, hm, hs, hfo⟩ := ops_lev s hi2
      have e1 : exprT (.mk 16 0 s [] zTy [x, y]) ++ r = opdT (isOp x.k) (exprT x) ++ (sg s :: (opdT (isOp y.k) (exprT y) ++ r)) := by
        show (oAt (exprTs [x, y]) 0 ++ [sg s] ++ oAt (exprTs [x, y]) 1) ++ r = _
        rw [oAt_eq (by simp), oAt_eq (by simp)]
        simp
      rw [e1]
      refine expr_down (k := m) (n := 0) (by omega) ?_ hf
      rw [Nat.zero_add]
      refine lim_succ (h := fun f => bndP (exprP f (m + 1) (opdT (isOp x.k) (exprT x) ++ (sg s :: (opdT (isOp y.k) (exprT y) ++ r)))) fun e r => loopP f m e r) (fun f => by rw [exprP, if_neg (by omega)]) (lim_bnd (o_lev hx (by omega) (fol_of hfo _)) ?_)
      refine lim_succ (h := fun f => bndP (exprP f (m + 1) (opdT (isOp y.k) (exprT y) ++ r)) fun z r => loopP f m (.mk 16 0 s [] zTy [x, z]) r) (fun f => ?_) (lim_bnd (o_lev hy (by omega) (hf.up (by omega))) (loop_end (by omega) (hf.up (by omega))))
      rw [loopP, if_pos]
      · rfl
      · simp [isOpP, hdK, hdS, sg, hs]
    · have hi : (decide (n = 0) && decide (s = [])) = true := hi
      simp only [Bool.and_eq_true, decide_eq_true_eq] at hi
      obtain ⟨rfl, rfl⟩ := hi
      have hc : decide (c = []) = true := hc
      simp only [decide_eq_true_eq] at hc
      subst hc
      have ht : (valueTy ty.dim ty.base ty.name && (decide ((17 : Int) ≠ 14) || decide (ty.dim < 8))) = true := ht
      rw [Bool.and_eq_true] at ht
      obtain ⟨x, rfl⟩ := single_of h1 h2
      have hx := ih x (by simp)
      refine rt_op rfl fun r hf => ?_
      have e1 : exprT (.mk 17 0 [] [] ty [x]) ++ r = opdT (isOp x.k) (exprT x) ++ (kw [97, 115] :: (typT ty.dim ty.base ty.name ++ r)) := by
        show (oAt (exprTs [x]) 0 ++ [kw [97, 115]] ++ typT ty.dim ty.base ty.name) ++ r = _
        rw [oAt_eq (by simp)]
        simp
      rw [e1]
      refine expr_down (k := 6) (n := 0) (by omega) ?_ hf
      rw [Nat.zero_add]
      refine lim_succ (h := fun f => bndP (exprP f 7 (opdT (isOp x.k) (exprT x) ++ (kw [97, 115] :: (typT ty.dim ty.base ty.name ++ r)))) fun e r => loopP f 6 e r) (fun f => by rw [exprP, if_neg (by omega)]) (lim_bnd (o_lev hx (by omega) (fol_of (by decide) _)) ?_)
      refine lim_succ (h := fun f => loopP f 6 (.mk 17 0 [] [] ty [x]) r) (fun f => ?_) (loop_end (by omega) (hf.up (by omega)))
      rw [loopP]
      show bndP (typP (typT ty.dim ty.base ty.name ++ r)) _ = _
      rw [typ_rt ht.1 r hf.lb]
      rfl
    · have hi : (decide (n = 0) && decide (s = [])) = true := hi
      simp only [Bool.and_eq_true, decide_eq_true_eq] at hi
      obtain ⟨rfl, rfl⟩ := hi
      have hc : decide (c = []) = true := hc
      simp only [decide_eq_true_eq] at hc
      subst hc
      have ht : (valueTy ty.dim ty.base ty.name && (decide ((18 : Int) ≠ 14) || decide (ty.dim < 8))) = true := ht
      rw [Bool.and_eq_true] at ht
      obtain ⟨x, rfl⟩ := single_of h1 h2
      have hx := ih x (by simp)
      refine rt_op rfl fun r hf => ?_
      have e1 : exprT (.mk 18 0 [] [] ty [x]) ++ r = opdT (isOp x.k) (exprT x) ++ (kw [105, 115] :: (typT ty.dim ty.base ty.name ++ r)) := by
        show (oAt (exprTs [x]) 0 ++ [kw [105, 115]] ++ typT ty.dim ty.base ty.name) ++ r = _
        rw [oAt_eq (by simp)]
        simp
      rw [e1]
      refine expr_down (k := 6) (n := 0) (by omega) ?_ hf
      rw [Nat.zero_add]
      refine lim_succ (h := fun f => bndP (exprP f 7 (opdT (isOp x.k) (exprT x) ++ (kw [105, 115] :: (typT ty.dim ty.base ty.name ++ r)))) fun e r => loopP f 6 e r) (fun f => by rw [exprP, if_neg (by omega)]) (lim_bnd (o_lev hx (by omega) (fol_of (by decide) _)) ?_)
      refine lim_succ (h := fun f => loopP f 6 (.mk 18 0 [] [] ty [x]) r) (fun f => ?_) (loop_end (by omega) (hf.up (by omega)))
      rw [loopP]
      show bndP (typP (typT ty.dim ty.base ty.name ++ r)) _ = _
      rw [typ_rt ht.1 r hf.lb]
      rfl
    · have hi : (decide (n = 0) && decide (s = [])) = true := hi
      simp only [Bool.and_eq_true, decide_eq_true_eq] at hi
      obtain ⟨rfl, rfl⟩ := hi
      have hc : decide (c = []) = true := hc
      simp only [decide_eq_true_eq] at hc
      subst hc
      obtain rfl := zty_of ht
      obtain ⟨x, rfl⟩ := single_of h1 h2
      have hx := ih x (by simp)
      refine rt_prim rfl fun r K h1 h2 => un_atom (r := r) rfl rfl ?_ h2
      have e1 : exprT (.mk 19 0 [] [] zTy [x]) ++ r = kw [108, 101, 110] :: (listT [exprT x] ++ r) := by
        show ([kw [108, 101, 110]] ++ listT [tAt (exprTs [x]) 0]) ++ r = _
        rw [tAt_eq (by simp)]
        simp
      rw [e1]
      exact op_key (by decide) (lim_succ (h := fun f => bndP (parenP f (listT [exprT x] ++ r)) fun e r => .ok (.mk 19 0 [] [] zTy [e], r)) (fun f => by rw [keyP]; rfl) (lim_bnd (paren_rt hx.z r) (lim_const _)))
    · have hi : (decide (n = 0) && decide (s = [])) = true := hi
      simp only [Bool.and_eq_true, decide_eq_true_eq] at hi
      obtain ⟨rfl, rfl⟩ := hi
      have hc : decide (c = []) = true := hc
      simp only [decide_eq_true_eq] at hc
      subst hc
      obtain rfl := zty_of ht
      obtain ⟨x, rfl⟩ := single_of h1 h2
      have hx := ih x (by simp)
      refine rt_prim rfl fun r K h1 h2 => un_atom (r := r) rfl rfl ?_ h2
      have e1 : exprT (.mk 20 0 [] [] zTy [x]) ++ r = kw intS :: (listT [exprT x] ++ r) := by
        show ([kw intS] ++ listT [tAt (exprTs [x]) 0]) ++ r = _
        rw [tAt_eq (by simp)]
        simp
      rw [e1]
      exact op_key (by decide) (lim_succ (h := fun f => bndP (parenP f (listT [exprT x] ++ r)) fun e r => .ok (.mk 20 0 [] [] zTy [e], r)) (fun f => by rw [keyP]; rfl) (lim_bnd (paren_rt hx.z r) (lim_const _)))
    · have hi : (decide (n = 0) && decide (s = [])) = true := hi
      simp only [Bool.and_eq_true, decide_eq_true_eq] at hi
      obtain ⟨rfl, rfl⟩ := hi
      have hc : decide (c = []) = true := hc
      simp only [decide_eq_true_eq] at hc
      subst hc
      obtain rfl := zty_of ht
      obtain ⟨x, rfl⟩ := single_of h1 h2
      have hx := ih x (by simp)
      refine rt_prim rfl fun r K h1 h2 => un_atom (r := r) rfl rfl ?_ h2
      have e1 : exprT (.mk 21 0 [] [] zTy [x]) ++ r = kw longS :: (listT [exprT x] ++ r) := by
        show ([kw longS] ++ listT [tAt (exprTs [x]) 0]) ++ r = _
        rw [tAt_eq (by simp)]
        simp
      rw [e1]
      exact op_key (by decide) (lim_succ (h := fun f => bndP (parenP f (listT [exprT x] ++ r)) fun e r => .ok (.mk 21 0 [] [] zTy [e], r)) (fun f => by rw [keyP]; rfl) (lim_bnd (paren_rt hx.z r) (lim_const _)))
end Go.Proofs.YtalalcpefggniaaGreatDoor.E

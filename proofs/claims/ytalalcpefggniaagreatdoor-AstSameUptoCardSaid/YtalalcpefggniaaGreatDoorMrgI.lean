/- Several texts in one: AstX, AstXa, AstXb, AstY. -/
import Derived.Test.YtalalcpefggniaaGreatDoorMrgH
/- ast, part X: the writer: modifiers, interfaces. -/
set_option linter.unusedSimpArgs false
set_option linter.unusedVariables false
namespace Go.Proofs.YtalalcpefggniaaGreatDoor.E
open Go

def modsL : List (Int × List UInt8) := [(1, [112, 117, 98, 108, 105, 99]), (2, [112, 114, 105, 118, 97, 116, 101]), (4, [112, 114, 111, 116, 101, 99, 116, 101, 100]), (8, [115, 116, 97, 116, 105, 99]), (16, [102, 105, 110, 97, 108]), (32, [115, 121, 110, 99]), (1024, [97, 98, 115, 116, 114, 97, 99, 116])]
def modT (fl : Int) : List Tk := (modsL.filter fun p => hasB fl p.1).map fun p => kw p.2
def ifsT (w : List UInt8) : List (List UInt8) → List Tk
  | [] => []
  | s :: r => kw w :: nm1 s :: (r.map fun t => [sg [44], nm1 t]).flatten
theorem aggMo : aggN Tryz.prog 148 = some (some 2) := by kernel_rfl
theorem szMo : szT Tryz.prog 148 = 2 := by kernel_rfl
theorem zeroMo : zeroO Tryz.prog 148 = some [.v (.int .i64 0), .v (.string (bs []))] := by kernel_rfl
theorem bldMo : bldOk Tryz.prog 148 = true := by kernel_rfl
theorem fldMo_0 : fldO Tryz.prog 148 0 = some (0, none, 1) := by kernel_rfl
theorem fldMo_1 : fldO Tryz.prog 148 1 = some (1, none, 1) := by kernel_rfl
theorem elMo : elT Tryz.prog 149 = some 148 := by kernel_rfl
attribute [go_sem] aggMo szMo zeroMo bldMo fldMo_0 fldMo_1 elMo
def modC : List Value := (modsL.map fun p => [.int .i64 p.1, .string (bs p.2)]).flatten
theorem mod_at {k : Nat} (hk : k < 7) : (modC.drop (k * 2)).take 2 = [.int .i64 (modsL[k]'hk).1, .string (bs (modsL[k]'hk).2)] := by
  rcases (by omega : k = 0 ∨ k = 1 ∨ k = 2 ∨ k = 3 ∨ k = 4 ∨ k = 5 ∨ k = 6) with rfl | rfl | rfl | rfl | rfl | rfl | rfl <;> rfl
theorem mod_take (fl : Int) {k : Nat} (hk : k < 7) : ((modsL.take (k + 1)).filter fun p => hasB fl p.1).map (fun p => kw p.2) = ((modsL.take k).filter fun p => hasB fl p.1).map (fun p => kw p.2) ++ (if hasB fl (modsL[k]'hk).1 = true then [kw (modsL[k]'hk).2] else []) := by
  rw [List.take_succ_eq_append_getElem hk, List.filter_append, List.map_append]
  congr 1
  cases h : hasB fl (modsL[k]'hk).1 <;> simp [h]
theorem mod_len (fl : Int) (k : Nat) : (((modsL.take k).filter fun p => hasB fl p.1).map (fun p => kw p.2)).length ≤ 7 := by
  rw [List.length_map]
  refine Nat.le_trans (List.length_filter_le _ _) ?_
  rw [List.length_take]
  exact Nat.min_le_right _ _
set_option maxHeartbeats 4000000 in
set_option maxRecDepth 20000 in
theorem mods_spec (fl : Int) (m : Mem) (u : Nat) (acc : List Tk) (hb : acc.length ≤ cap) : WrT 83 [.v (.int .i64 fl)] m u acc (modT fl) := by
  refine enter cfW puW Tryz.func83 rfl rfl (by kernel_rfl) rfl ?_ ?_
  · simp only [go_sem, ↓imp_tf, ↓imp_ft, ↓reduceIte, Nat.reduceBEq, Nat.reduceAdd, Nat.reduceMul, Nat.reduceSub, Nat.reduceEqDiff, Nat.reduceLT, Nat.reduceLeDiff, Option.map, Option.bind, List.map, List.length, reduceCtorEq, Option.toList, Option.getD, List.set, List.drop, List.take, Int.reduceToNat]
  · simp only [go_sem, ↓imp_tf, ↓imp_ft, ↓reduceIte, Nat.reduceBEq, Nat.reduceAdd, Nat.reduceMul, Nat.reduceSub, Nat.reduceEqDiff, Nat.reduceLT, Nat.reduceLeDiff, Option.map, Option.bind, List.map, List.length, reduceCtorEq, Option.toList, Option.getD, List.set, List.drop, List.take, Int.reduceToNat]
    refine WP_loop puW (fun x : Nat × Nat × List Tk × Mem => ⟨[⟨0, [], .box 0 0⟩, ⟨1, [], .v (.int .i64 fl)⟩, ⟨13, [], .vec 2 0⟩, ⟨14, [], .v (.int .i64 7)⟩, ⟨15, [], .v (.int .i64 x.1)⟩], [], [⟨0, 64, [.vec 1 (u + x.2.1)]⟩], [⟨1, u + x.2.1, 79, 4, x.2.2.1.length, tkCells x.2.2.1⟩, ⟨2, 0, 148, 2, 7, modC⟩], 3, x.2.2.2⟩)
      (fun x => leM m x.2.2.2 ∧ x.1 ≤ 7 ∧ x.2.2.1 = acc ++ ((modsL.take x.1).filter fun p => hasB fl p.1).map (fun p => kw p.2)) (fun x => 7 - x.1) (0, 0, acc, m) (by kernel_rfl) (fun _ _ => Nat.le_refl _) (fun x hx => hx.1) (fun _ => ?_) ?_ ?_ ?_
    · simp only [go_sem, ↓imp_tf, ↓imp_ft, ↓reduceIte, Nat.reduceBEq, Nat.reduceAdd, Nat.reduceMul, Nat.reduceSub, Nat.reduceEqDiff, Nat.reduceLT, Nat.reduceLeDiff, Option.map, Option.bind, List.map, List.length, reduceCtorEq, Option.toList, Option.getD, List.set, List.drop, List.take, Int.reduceToNat]
    · simp only [go_sem, ↓imp_tf, ↓imp_ft, ↓reduceIte, Nat.reduceBEq, Nat.reduceAdd, Nat.reduceMul, Nat.reduceSub, Nat.reduceEqDiff, Nat.reduceLT, Nat.reduceLeDiff, Option.map, Option.bind, List.map, List.length, reduceCtorEq, Option.toList, Option.getD, List.set, List.drop, List.take, Int.reduceToNat]
      exact ⟨⟨rfl, rfl⟩, rfl, rfl, rfl⟩
    · exact ⟨.inl rfl, Nat.zero_le _, by simp⟩
    · rintro ⟨k, v, acc', mm⟩ ⟨h1, h2, h3⟩
      simp only at h1 h2 h3
      have hlen := mod_len fl k
      have hal : acc'.length = acc.length + (((modsL.take k).filter fun p => hasB fl p.1).map (fun p => kw p.2)).length := by rw [h3, List.length_append]
      have hw := fun (s : List UInt8) (a : Option Addr) (c : Nat) (m' : Mem) (hr : Rds m' a 1 1 (strs [s])) => word1 s a c m' (u + v) acc' hr (by simp only [cap] at hb; omega)
      simp only [go_sem, ↓imp_tf, ↓imp_ft, ↓reduceIte, Nat.reduceBEq, Nat.reduceAdd, Nat.reduceMul, Nat.reduceSub, Nat.reduceEqDiff, Nat.reduceLT, Nat.reduceLeDiff, Option.map, Option.bind, List.map, List.length, reduceCtorEq, Option.toList, Option.getD, List.set, List.drop, List.take, Int.reduceToNat]
      refine ⟨fun hlt => ?_, fun hge => ⟨h1, u + v, by clear hw; omega, ?_⟩⟩
      · have hk : k < 7 := by clear hw; omega
        have e := mod_at hk
        have ht := mod_take fl hk
        simp only [go_sem, ↓imp_tf, ↓imp_ft, ↓reduceIte, Nat.reduceBEq, Nat.reduceAdd, Nat.reduceMul, Nat.reduceSub, Nat.reduceEqDiff, Nat.reduceLT, Nat.reduceLeDiff, Option.map, Option.bind, List.map, List.length, reduceCtorEq, Option.toList, Option.getD, List.set, List.drop, List.take, Int.reduceToNat, e]
        refine ⟨⟨by clear hw; omega, by clear hw; omega⟩, by clear hw; show k * 2 + 2 ≤ 14; omega, fun hb => ⟨by kernel_rfl, fun a c m1 hm1 hc hr => FnV_of ((hw _ a c m1 hr).mono ?_)⟩, fun hb => ?_⟩
        · clear hw
          have hbb : hasB fl (modsL[k]'hk).1 = true := by rw [hasB, decide_eq_false hb]; rfl
          rw [if_pos hbb] at ht
          rintro r H' m2 hm2 ⟨l2, rfl, w, hw, rfl⟩
          simp only [go_sem, ↓imp_tf, ↓imp_ft, ↓reduceIte, Nat.reduceBEq, Nat.reduceAdd, Nat.reduceMul, Nat.reduceSub, Nat.reduceEqDiff, Nat.reduceLT, Nat.reduceLeDiff, Option.map, Option.bind, List.map, List.length, reduceCtorEq, Option.toList, Option.getD, List.set, List.drop, List.take, Int.reduceToNat]
          refine ⟨hw, by unfold I64; omega, (k + 1, w - u, acc' ++ [kw (modsL[k]'hk).2], m2), ⟨by simp, by rw [show u + (w - u) = w by omega], ⟨by simp only; omega, rfl, rfl⟩, .inl rfl⟩, ⟨leM_tr h1 (leM_tr (.inr hm1) l2), by simp only; omega, ?_⟩, by simp only; omega⟩
          simp only
          rw [ht, h3, List.append_assoc]
        · clear hw
          have hbb : ¬ hasB fl (modsL[k]'hk).1 = true := by rw [hasB, decide_eq_true hb]; decide
          rw [if_neg hbb, List.append_nil] at ht
          refine ⟨by unfold I64; omega, (k + 1, v, acc', mm), ⟨by simp, rfl, ⟨rfl, rfl, rfl⟩, .inl rfl⟩, ⟨h1, by simp only; omega, ?_⟩, by simp only; omega⟩
          simp only
          rw [ht, h3]
      · clear hw
        have hk : k = 7 := by omega
        subst hk
        have : acc' = acc ++ modT fl := by rw [h3]; rfl
        rw [this]
theorem modT_len (fl : Int) : (modT fl).length ≤ 7 := mod_len fl 7
theorem ifs_take (w : List UInt8) : ∀ {l : List (List UInt8)} {k : Nat} (hk : k < l.length), ifsT w (l.take (k + 1)) = ifsT w (l.take k) ++ (if k = 0 then [kw w] else [sg [44]]) ++ [nm1 l[k]]
  | [], _, hk => absurd hk (Nat.not_lt_zero _)
  | s :: r, 0, _ => by simp [ifsT]
  | s :: r, k + 1, hk => by
    have hk' : k < r.length := by simpa using hk
    simp only [List.take_succ_cons, ifsT, List.getElem_cons_succ, Nat.add_one_ne_zero, if_false]
    rw [List.take_succ_eq_append_getElem hk', List.map_append, List.flatten_append]
    simp only [List.map_cons, List.map_nil, List.flatten_cons, List.flatten_nil, List.append_nil, List.cons_append, List.nil_append, List.append_assoc]
theorem ifs_len (w : List UInt8) : ∀ (l : List (List UInt8)), (ifsT w l).length = l.length * 2
  | [] => rfl
  | s :: r => by
    simp only [ifsT, List.length_cons]
    rw [show ((r.map fun t => [sg [44], nm1 t]).flatten).length = r.length * 2 by
      induction r with
      | nil => rfl
      | cons a r ih => simp only [List.map_cons, List.flatten_cons, List.length_append, List.length_cons, List.length_nil, ih]; omega]
    omega
set_option maxHeartbeats 4000000 in
set_option maxRecDepth 20000 in
theorem ifs_spec (w : List UInt8) (l : List (List UInt8)) (a : Option Addr) (n c : Nat) (m : Mem) (u : Nat) (acc : List Tk) (hl : n = l.length) (hr : Rds m a n 1 (strs l)) (hn : n ≤ big) (hb : acc.length + (ifsT w l).length ≤ cap) :
    WrT 86 [.v (.string (bs w)), .v (.slice a n c)] m u acc (ifsT w l) := by
  rw [ifs_len] at hb
  refine enter cfW puW Tryz.func86 rfl rfl (by kernel_rfl) rfl ?_ ?_
  · simp only [go_sem, ↓imp_tf, ↓imp_ft, ↓reduceIte, Nat.reduceBEq, Nat.reduceAdd, Nat.reduceMul, Nat.reduceSub, Nat.reduceEqDiff, Nat.reduceLT, Nat.reduceLeDiff, Option.map, Option.bind, List.map, List.length, reduceCtorEq, Option.toList, Option.getD, List.set, List.drop, List.take, Int.reduceToNat]
  · simp only [go_sem, ↓imp_tf, ↓imp_ft, ↓reduceIte, Nat.reduceBEq, Nat.reduceAdd, Nat.reduceMul, Nat.reduceSub, Nat.reduceEqDiff, Nat.reduceLT, Nat.reduceLeDiff, Option.map, Option.bind, List.map, List.length, reduceCtorEq, Option.toList, Option.getD, List.set, List.drop, List.take, Int.reduceToNat]
    refine WP_loop puW (fun x : Nat × Nat × List Tk × Mem => ⟨[⟨0, [], .box 0 0⟩, ⟨1, [], .v (.string (bs w))⟩, ⟨8, [], .v (.slice a n c)⟩, ⟨9, [], .v (.int .i64 n)⟩, ⟨10, [], .v (.int .i64 x.1)⟩], [], [⟨0, 64, [.vec 1 (u + x.2.1)]⟩], [⟨1, u + x.2.1, 79, 4, x.2.2.1.length, tkCells x.2.2.1⟩], 2, x.2.2.2⟩)
      (fun x => leM m x.2.2.2 ∧ x.1 ≤ n ∧ x.2.2.1 = acc ++ ifsT w (l.take x.1)) (fun x => n - x.1) (0, 0, acc, m) (by kernel_rfl) (fun _ _ => Nat.le_refl _) (fun x hx => hx.1) (fun _ => ?_) ?_ ?_ ?_
    · simp only [go_sem, ↓imp_tf, ↓imp_ft, ↓reduceIte, Nat.reduceBEq, Nat.reduceAdd, Nat.reduceMul, Nat.reduceSub, Nat.reduceEqDiff, Nat.reduceLT, Nat.reduceLeDiff, Option.map, Option.bind, List.map, List.length, reduceCtorEq, Option.toList, Option.getD, List.set, List.drop, List.take, Int.reduceToNat]
    · simp only [go_sem, ↓imp_tf, ↓imp_ft, ↓reduceIte, Nat.reduceBEq, Nat.reduceAdd, Nat.reduceMul, Nat.reduceSub, Nat.reduceEqDiff, Nat.reduceLT, Nat.reduceLeDiff, Option.map, Option.bind, List.map, List.length, reduceCtorEq, Option.toList, Option.getD, List.set, List.drop, List.take, Int.reduceToNat]
      exact ⟨rfl, rfl, rfl⟩
    · exact ⟨.inl rfl, Nat.zero_le _, by simp [ifsT]⟩
    · rintro ⟨k, v, acc', mm⟩ ⟨h1, h2, h3⟩
      simp only at h1 h2 h3
      have hal : acc'.length = acc.length + k * 2 := by rw [h3, List.length_append, ifs_len, List.length_take]; omega
      have hw := fun (s : List UInt8) (a : Option Addr) (c : Nat) (m' : Mem) (hr : Rds m' a 1 1 (strs [s])) => word1 s a c m' (u + v) acc' hr (by simp only [cap] at hb; omega)
      have hs := fun (s : List UInt8) (a : Option Addr) (c : Nat) (m' : Mem) (hr : Rds m' a 1 1 (strs [s])) => sign1 s a c m' (u + v) acc' hr (by simp only [cap] at hb; omega)
      have hnm := fun (s : List UInt8) (t : Tk) (m' : Mem) (u' : Nat) => name_spec s m' u' (acc' ++ [t]) (by simp only [room1, List.length_append, List.length_singleton]; simp only [cap] at hb; omega)
      have hrd := fun (hk : k < l.length) => strs_rd (Rds_upM h1 hr) hk
      have hct := fun (hk : k < l.length) => ifs_take w hk
      simp only [go_sem, ↓imp_tf, ↓imp_ft, ↓reduceIte, Nat.reduceBEq, Nat.reduceAdd, Nat.reduceMul, Nat.reduceSub, Nat.reduceEqDiff, Nat.reduceLT, Nat.reduceLeDiff, Option.map, Option.bind, List.map, List.length, reduceCtorEq, Option.toList, Option.getD, List.set, List.drop, List.take, Int.reduceToNat]
      refine ⟨fun hlt => ?_, fun hge => ⟨h1, u + v, by clear hw hs hnm; omega, ?_⟩⟩
      · have hk : k < l.length := by clear hw hs hnm; omega
        refine ⟨⟨by clear hw hs hnm; omega, hlt, (hrd hk).2⟩, .string (bs l[k]), (hrd hk).1, ?_⟩
        have hct' := hct hk
        clear hct
        refine ⟨fun h0 => ⟨by kernel_rfl, fun a1 c1 m1 hm1 hc1 hr1 => FnV_of ((hw w a1 c1 m1 hr1).mono ?_)⟩, fun h0 => ⟨by kernel_rfl, fun a1 c1 m1 hm1 hc1 hr1 => FnV_of ((hs [44] a1 c1 m1 hr1).mono ?_)⟩⟩
        · clear hw hs
          rw [if_pos (by clear hnm; omega)] at hct'
          rintro r H' m2 hm2 ⟨l2, rfl, y, hy, rfl⟩
          simp only [go_sem, ↓imp_tf, ↓imp_ft, ↓reduceIte, Nat.reduceBEq, Nat.reduceAdd, Nat.reduceMul, Nat.reduceSub, Nat.reduceEqDiff, Nat.reduceLT, Nat.reduceLeDiff, Option.map, Option.bind, List.map, List.length, reduceCtorEq, Option.toList, Option.getD, List.set, List.drop, List.take, Int.reduceToNat]
          refine ⟨hy, by kernel_rfl, FnV_of ((hnm l[k] (kw w) m2 y).mono ?_)⟩
          clear hnm
          rintro r H' m3 hm3 ⟨l3, rfl, z, hz, rfl⟩
          simp only [go_sem, ↓imp_tf, ↓imp_ft, ↓reduceIte, Nat.reduceBEq, Nat.reduceAdd, Nat.reduceMul, Nat.reduceSub, Nat.reduceEqDiff, Nat.reduceLT, Nat.reduceLeDiff, Option.map, Option.bind, List.map, List.length, reduceCtorEq, Option.toList, Option.getD, List.set, List.drop, List.take, Int.reduceToNat]
          refine ⟨hz, by unfold I64; simp only [big] at hn; omega, (k + 1, z - u, acc' ++ [kw w] ++ [nm1 l[k]], m3), ⟨by simp, by rw [show u + (z - u) = z by omega], ⟨by simp only; omega, rfl, rfl⟩, .inl rfl⟩, ⟨leM_tr h1 (leM_tr (.inr hm1) (leM_tr l2 l3)), by simp only; omega, ?_⟩, by simp only; omega⟩
          simp only
          rw [hct', h3]
          simp only [List.append_assoc]
        · clear hw hs
          rw [if_neg (by clear hnm; omega)] at hct'
          rintro r H' m2 hm2 ⟨l2, rfl, y, hy, rfl⟩
          simp only [go_sem, ↓imp_tf, ↓imp_ft, ↓reduceIte, Nat.reduceBEq, Nat.reduceAdd, Nat.reduceMul, Nat.reduceSub, Nat.reduceEqDiff, Nat.reduceLT, Nat.reduceLeDiff, Option.map, Option.bind, List.map, List.length, reduceCtorEq, Option.toList, Option.getD, List.set, List.drop, List.take, Int.reduceToNat]
          refine ⟨hy, by kernel_rfl, FnV_of ((hnm l[k] (sg [44]) m2 y).mono ?_)⟩
          clear hnm
          rintro r H' m3 hm3 ⟨l3, rfl, z, hz, rfl⟩
          simp only [go_sem, ↓imp_tf, ↓imp_ft, ↓reduceIte, Nat.reduceBEq, Nat.reduceAdd, Nat.reduceMul, Nat.reduceSub, Nat.reduceEqDiff, Nat.reduceLT, Nat.reduceLeDiff, Option.map, Option.bind, List.map, List.length, reduceCtorEq, Option.toList, Option.getD, List.set, List.drop, List.take, Int.reduceToNat]
          refine ⟨hz, by unfold I64; simp only [big] at hn; omega, (k + 1, z - u, acc' ++ [sg [44]] ++ [nm1 l[k]], m3), ⟨by simp, by rw [show u + (z - u) = z by omega], ⟨by simp only; omega, rfl, rfl⟩, .inl rfl⟩, ⟨leM_tr h1 (leM_tr (.inr hm1) (leM_tr l2 l3)), by simp only; omega, ?_⟩, by simp only; omega⟩
          simp only
          rw [hct', h3]
          simp only [List.append_assoc]
      · clear hw hs hnm
        have : acc' = acc ++ ifsT w l := by rw [h3, List.take_of_length_le (by omega)]
        rw [this]
end Go.Proofs.YtalalcpefggniaaGreatDoor.E

/- ast, part Xa: the writer: a class. -/
set_option linter.unusedSimpArgs false
set_option linter.unusedVariables false
namespace Go.Proofs.YtalalcpefggniaaGreatDoor.E
open Go

def fieldT (f : Fc) : List Tk := modT f.fl ++ typT f.ty.dim f.ty.base f.ty.name ++ [nm1 f.name] ++ [sg [59]]
def headT (d : Cd) : List Tk :=
  if hasB d.fl 512 = true then modT (bits .andNot .i64 d.fl 1024) ++ [kw [105, 110, 116, 101, 114, 102, 97, 99, 101]] ++ [nm1 d.name] ++ ifsT [101, 120, 116, 101, 110, 100, 115] d.ifs
  else modT d.fl ++ [kw [99, 108, 97, 115, 115]] ++ [nm1 d.name] ++ [kw [101, 120, 116, 101, 110, 100, 115]] ++ [nm1 d.super] ++ ifsT [105, 109, 112, 108, 101, 109, 101, 110, 116, 115] d.ifs
def classT (IT : List Tk) (MT : Md → List Tk) (d : Cd) : List Tk :=
  headT d ++ [sg [123]] ++ (d.fields.map fieldT).flatten ++ (if 0 < d.init.length then [kw [115, 116, 97, 116, 105, 99]] ++ IT else []) ++ (d.methods.map MT).flatten ++ [sg [125]]
theorem flat_takeT {α : Type} {f : α → List Tk} : ∀ {l : List α} {k : Nat} (hk : k < l.length), ((l.take (k + 1)).map f).flatten = ((l.take k).map f).flatten ++ f l[k] := fun {l k} hk => by
  rw [List.take_succ_eq_append_getElem hk, List.map_append, List.flatten_append]
  simp
theorem flat_le {α : Type} {f : α → List Tk} : ∀ (l : List α) (k : Nat), ((l.take k).map f).flatten.length ≤ ((l.map f).flatten).length
  | [], k => by simp
  | x :: r, 0 => by simp
  | x :: r, k + 1 => by
    have := flat_le (f := f) r k
    simp only [List.take_succ_cons, List.map_cons, List.flatten_cons, List.length_append]
    omega
set_option maxHeartbeats 8000000 in
set_option maxRecDepth 20000 in
theorem classW_spec (IT : List Tk) (MT : Md → List Tk) (d : Cd) (cs : List Value) (m : Mem) (u : Nat) (acc : List Tk) (h : cdRep m d cs) (hdim : ∀ f ∈ d.fields, f.ty.dim ≤ 1000) (hb : acc.length + (classT IT MT d).length ≤ cap)
    (hI : 0 < d.init.length → ∀ a n c xs m' u acc, leM m m' → n = d.init.length → Rds m' a n 23 xs → stsRep m' d.init xs → acc.length + IT.length ≤ cap → WrT 89 [.v (.slice a n c)] m' u acc IT)
    (hM : ∀ e ∈ d.methods, ∀ cs m' u acc, leM m m' → mdRep m' e cs → acc.length + (MT e).length ≤ cap → WrT 90 [.v (.agg ⟨cs⟩)] m' u acc (MT e)) :
    WrT 38 [.v (.agg ⟨cs⟩)] m u acc (classT IT MT d) := by
  obtain ⟨fl, name, super, ifs, fields, methods, init⟩ := d
  obtain ⟨x, ⟨rfl, rfl, rfl, rfl⟩, ⟨hil, hic, hfn, hfc, hml, hmc, hsl, hsc⟩, hok, r1, r2, xs, ys, r3, s3, r4, s4⟩ := h
  simp only at hil hfn hml hsl r1 r2 s3 s4 hdim hI hM
  have hib : x.il ≤ big := by rw [hil]; exact hok.il
  have hfb : x.fn ≤ big := by rw [hfn]; exact hok.fn
  have hmb : x.ml ≤ big := by rw [hml]; exact hok.ml
  have hMd := fun (fl : Int) (m' : Mem) (u' : Nat) (acc' : List Tk) (hc : acc'.length ≤ cap) => mods_spec fl m' u' acc' hc
  have hW := fun (s : List UInt8) (u' : Nat) (acc' : List Tk) (hc : acc'.length ≤ cap) (a : Option Addr) (c : Nat) (m' : Mem) (hr : Rds m' a 1 1 (strs [s])) => word1 s a c m' u' acc' hr (by simp only [cap] at hc; omega)
  have hS := fun (s : List UInt8) (u' : Nat) (acc' : List Tk) (hc : acc'.length ≤ cap) (a : Option Addr) (c : Nat) (m' : Mem) (hr : Rds m' a 1 1 (strs [s])) => sign1 s a c m' u' acc' hr (by simp only [cap] at hc; omega)
  have hN := fun (s : List UInt8) (m' : Mem) (u' : Nat) (acc' : List Tk) (hc : acc'.length ≤ cap) => name_spec s m' u' acc' (by simp only [cap, room1, List.length_singleton] at hc ⊢; omega)
  have hT := fun (t : Ty) (hd : t.dim ≤ 1000) (m' : Mem) (u' : Nat) (acc' : List Tk) (hc : acc'.length ≤ cap) => typ_spec t.dim t.base t.name m' u' acc' hd (by simp only [cap] at hc; omega)
  have hIf := fun (w : List UInt8) (m' : Mem) (hle : leM m m') (u' : Nat) (acc' : List Tk) (hc : acc'.length + (ifsT w ifs).length ≤ cap) => ifs_spec w ifs x.ia x.il x.ic m' u' acc' hil (Rds_upM hle r1) hib hc
  have hlen : (classT IT MT ⟨x.fl, x.name, x.super, ifs, fields, methods, init⟩).length = (headT ⟨x.fl, x.name, x.super, ifs, fields, methods, init⟩).length + 1 + ((fields.map fieldT).flatten).length + (if 0 < init.length then [kw [115, 116, 97, 116, 105, 99]] ++ IT else []).length + ((methods.map MT).flatten).length + 1 := by
    simp only [classT, List.length_append, List.length_singleton]
  rw [hlen] at hb
  refine enter cfW puW Tryz.func38 rfl rfl (by kernel_rfl) rfl ?_ ?_
  · simp only [go_sem, ↓imp_tf, ↓imp_ft, ↓reduceIte, Nat.reduceBEq, Nat.reduceAdd, Nat.reduceMul, Nat.reduceSub, Nat.reduceEqDiff, Nat.reduceLT, Nat.reduceLeDiff, Option.map, Option.bind, List.map, List.length, reduceCtorEq, Option.toList, Option.getD, List.set, List.drop, List.take, Int.reduceToNat, Cc.cs]
  · simp only [go_sem, ↓imp_tf, ↓imp_ft, ↓reduceIte, Nat.reduceBEq, Nat.reduceAdd, Nat.reduceMul, Nat.reduceSub, Nat.reduceEqDiff, Nat.reduceLT, Nat.reduceLeDiff, Option.map, Option.bind, List.map, List.length, reduceCtorEq, Option.toList, Option.getD, List.set, List.drop, List.take, Int.reduceToNat, Cc.cs]
    -- the walk
    refine ⟨fun hbit => ?_, fun hbit => ?_⟩
    · have hB : hasB x.fl 512 = true := by rw [hasB, decide_eq_false hbit]; rfl
      have hH : headT ⟨x.fl, x.name, x.super, ifs, fields, methods, init⟩ = modT (bits .andNot .i64 x.fl 1024) ++ [kw [105, 110, 116, 101, 114, 102, 97, 99, 101]] ++ [nm1 x.name] ++ ifsT [101, 120, 116, 101, 110, 100, 115] ifs := by rw [headT, if_pos hB]
      have hHl := congrArg List.length hH
      simp only [List.length_append, List.length_cons, List.length_nil] at hHl
      refine ⟨by kernel_rfl, FnV_of ((hMd (bits .andNot .i64 x.fl 1024) m u (acc) (by clear hMd hW hS hN hT hIf hI hM; first | omega | (simp only [List.length_append, List.length_cons, List.length_nil]; omega))).mono ?_)⟩
      rintro r H' m1 hm1 ⟨l1, rfl, u1, hu1, rfl⟩
      simp only [go_sem, ↓imp_tf, ↓imp_ft, ↓reduceIte, Nat.reduceBEq, Nat.reduceAdd, Nat.reduceMul, Nat.reduceSub, Nat.reduceEqDiff, Nat.reduceLT, Nat.reduceLeDiff, Option.map, Option.bind, List.map, List.length, reduceCtorEq, Option.toList, Option.getD, List.set, List.drop, List.take, Int.reduceToNat, Cc.cs]
      refine ⟨hu1, by kernel_rfl, fun a2 c2 w2 hw2 hc2 rr2 => FnV_of ((hW [105, 110, 116, 101, 114, 102, 97, 99, 101] u1 (acc ++ modT (bits .andNot .i64 x.fl 1024)) (by clear hMd hW hS hN hT hIf hI hM; first | omega | (simp only [List.length_append, List.length_cons, List.length_nil]; omega)) a2 c2 w2 rr2).mono ?_)⟩
      rintro r H' m2 hm2 ⟨l2, rfl, u2, hu2, rfl⟩
      simp only [go_sem, ↓imp_tf, ↓imp_ft, ↓reduceIte, Nat.reduceBEq, Nat.reduceAdd, Nat.reduceMul, Nat.reduceSub, Nat.reduceEqDiff, Nat.reduceLT, Nat.reduceLeDiff, Option.map, Option.bind, List.map, List.length, reduceCtorEq, Option.toList, Option.getD, List.set, List.drop, List.take, Int.reduceToNat, Cc.cs]
      refine ⟨hu2, by kernel_rfl, FnV_of ((hN x.name m2 u2 (acc ++ modT (bits .andNot .i64 x.fl 1024) ++ [kw [105, 110, 116, 101, 114, 102, 97, 99, 101]]) (by clear hMd hW hS hN hT hIf hI hM; first | omega | (simp only [List.length_append, List.length_cons, List.length_nil]; omega))).mono ?_)⟩
      rintro r H' m3 hm3 ⟨l3, rfl, u3, hu3, rfl⟩
      simp only [go_sem, ↓imp_tf, ↓imp_ft, ↓reduceIte, Nat.reduceBEq, Nat.reduceAdd, Nat.reduceMul, Nat.reduceSub, Nat.reduceEqDiff, Nat.reduceLT, Nat.reduceLeDiff, Option.map, Option.bind, List.map, List.length, reduceCtorEq, Option.toList, Option.getD, List.set, List.drop, List.take, Int.reduceToNat, Cc.cs]
      refine ⟨hu3, by kernel_rfl, FnV_of ((hIf [101, 120, 116, 101, 110, 100, 115] m3 (leM_tr (leM_tr (leM_tr (leM_tr (.inl rfl : leM m m) l1) (.inr hw2)) l2) l3) u3 (acc ++ modT (bits .andNot .i64 x.fl 1024) ++ [kw [105, 110, 116, 101, 114, 102, 97, 99, 101]] ++ [nm1 x.name]) (by clear hMd hW hS hN hT hIf hI hM; first | omega | (simp only [List.length_append, List.length_cons, List.length_nil]; omega))).mono ?_)⟩
      rintro r H' m4 hm4 ⟨l4, rfl, u4, hu4, rfl⟩
      simp only [go_sem, ↓imp_tf, ↓imp_ft, ↓reduceIte, Nat.reduceBEq, Nat.reduceAdd, Nat.reduceMul, Nat.reduceSub, Nat.reduceEqDiff, Nat.reduceLT, Nat.reduceLeDiff, Option.map, Option.bind, List.map, List.length, reduceCtorEq, Option.toList, Option.getD, List.set, List.drop, List.take, Int.reduceToNat, Cc.cs]
      refine ⟨hu4, by kernel_rfl, fun a5 c5 w5 hw5 hc5 rr5 => FnV_of ((hS [123] u4 (acc ++ modT (bits .andNot .i64 x.fl 1024) ++ [kw [105, 110, 116, 101, 114, 102, 97, 99, 101]] ++ [nm1 x.name] ++ ifsT [101, 120, 116, 101, 110, 100, 115] ifs) (by clear hMd hW hS hN hT hIf hI hM; first | omega | (simp only [List.length_append, List.length_cons, List.length_nil]; omega)) a5 c5 w5 rr5).mono ?_)⟩
      rintro r H' m5 hm5 ⟨l5, rfl, u5, hu5, rfl⟩
      simp only [go_sem, ↓imp_tf, ↓imp_ft, ↓reduceIte, Nat.reduceBEq, Nat.reduceAdd, Nat.reduceMul, Nat.reduceSub, Nat.reduceEqDiff, Nat.reduceLT, Nat.reduceLeDiff, Option.map, Option.bind, List.map, List.length, reduceCtorEq, Option.toList, Option.getD, List.set, List.drop, List.take, Int.reduceToNat, Cc.cs]
      refine ⟨hu5, ?_⟩
      have hlf := (leM_tr (leM_tr (leM_tr (leM_tr (leM_tr (leM_tr (leM_tr (.inl rfl : leM m m) l1) (.inr hw2)) l2) l3) l4) (.inr hw5)) l5)
      refine WP_loop puW (fun y : Nat × Nat × List Tk × Mem => ⟨[⟨0, [], .box 0 0⟩, ⟨3, [], .box 2 0⟩, ⟨54, [], .v (.slice x.fa x.fn x.fc)⟩, ⟨55, [], .v (.int .i64 x.fn)⟩, ⟨56, [], .v (.int .i64 y.1)⟩], [], [⟨0, 64, [.vec 1 (u5 + y.2.1)]⟩, ⟨2, 55, x.cs.map .v⟩], [⟨1, u5 + y.2.1, 79, 4, y.2.2.1.length, tkCells y.2.2.1⟩], 100, y.2.2.2⟩)
        (fun y => leM m5 y.2.2.2 ∧ y.1 ≤ x.fn ∧ y.2.2.1 = acc ++ modT (bits .andNot .i64 x.fl 1024) ++ [kw [105, 110, 116, 101, 114, 102, 97, 99, 101]] ++ [nm1 x.name] ++ ifsT [101, 120, 116, 101, 110, 100, 115] ifs ++ [sg [123]] ++ ((fields.take y.1).map fieldT).flatten) (fun y => x.fn - y.1) (0, 0, acc ++ modT (bits .andNot .i64 x.fl 1024) ++ [kw [105, 110, 116, 101, 114, 102, 97, 99, 101]] ++ [nm1 x.name] ++ ifsT [101, 120, 116, 101, 110, 100, 115] ifs ++ [sg [123]], m5) (by kernel_rfl) (fun _ _ => Nat.le_of_ble_eq_true rfl) (fun y hy => hy.1) (fun _ => ?_) ?_ ?_ ?_
      · simp only [go_sem, ↓imp_tf, ↓imp_ft, ↓reduceIte, Nat.reduceBEq, Nat.reduceAdd, Nat.reduceMul, Nat.reduceSub, Nat.reduceEqDiff, Nat.reduceLT, Nat.reduceLeDiff, Option.map, Option.bind, List.map, List.length, reduceCtorEq, Option.toList, Option.getD, List.set, List.drop, List.take, Int.reduceToNat, Cc.cs]
      · simp only [go_sem, ↓imp_tf, ↓imp_ft, ↓reduceIte, Nat.reduceBEq, Nat.reduceAdd, Nat.reduceMul, Nat.reduceSub, Nat.reduceEqDiff, Nat.reduceLT, Nat.reduceLeDiff, Option.map, Option.bind, List.map, List.length, reduceCtorEq, Option.toList, Option.getD, List.set, List.drop, List.take, Int.reduceToNat, Cc.cs]
        exact ⟨rfl, rfl, rfl⟩
      · exact ⟨.inl rfl, Nat.zero_le _, by simp⟩
      · rintro ⟨k, v, accf, mf⟩ ⟨f1, f2, f3⟩
        simp only at f1 f2 f3
        have hal := congrArg List.length f3
        simp only [List.length_append, List.length_cons, List.length_nil] at hal
        have hle := flat_le (f := fieldT) fields k
        have hft := fun (hk : k < fields.length) => And.intro (flat_takeT (f := fieldT) hk) (flat_le (f := fieldT) fields (k + 1))
        have hy : ∀ (hk : k < fields.length), Rd mf (ptrAt x.fa (k * 5)) (fields[k]).cs ∧ x.fa ≠ none := fun hk => by
          have := Rds_cells (Rds_upM (leM_tr hlf f1) r2) (by omega : k < x.fn)
          rw [flat_at (f := Fc.cs) (sz := 5) (fun _ => rfl) hk] at this
          exact this
        simp only [go_sem, ↓imp_tf, ↓imp_ft, ↓reduceIte, Nat.reduceBEq, Nat.reduceAdd, Nat.reduceMul, Nat.reduceSub, Nat.reduceEqDiff, Nat.reduceLT, Nat.reduceLeDiff, Option.map, Option.bind, List.map, List.length, reduceCtorEq, Option.toList, Option.getD, List.set, List.drop, List.take, Int.reduceToNat, Cc.cs]
        refine ⟨fun hlt => ?_, fun hge => ?_⟩
        · have hk : k < fields.length := by clear hMd hW hS hN hT hIf hI hM; omega
          have hft' := hft hk
          clear hft
          have hsz := congrArg List.length hft'.1
          rw [List.length_append] at hsz
          have hsz2 : (fieldT fields[k]).length = (modT fields[k].fl).length + (typT fields[k].ty.dim fields[k].ty.base fields[k].ty.name).length + 1 + 1 := by simp only [fieldT, List.length_append, List.length_cons, List.length_nil]
          have hfm : fields[k] ∈ fields := List.getElem_mem hk
          refine ⟨⟨by clear hMd hW hS hN hT hIf hI hM; omega, hlt, (hy hk).2⟩, (fields[k]).cs, ⟨(hy hk).1, rfl⟩, ?_⟩
          simp only [go_sem, ↓imp_tf, ↓imp_ft, ↓reduceIte, Nat.reduceBEq, Nat.reduceAdd, Nat.reduceMul, Nat.reduceSub, Nat.reduceEqDiff, Nat.reduceLT, Nat.reduceLeDiff, Option.map, Option.bind, List.map, List.length, reduceCtorEq, Option.toList, Option.getD, List.set, List.drop, List.take, Int.reduceToNat, Cc.cs, Fc.cs]
          refine ⟨by kernel_rfl, FnV_of ((hMd fields[k].fl mf (u5 + v) (accf) (by clear hMd hW hS hN hT hIf hI hM; first | omega | (simp only [List.length_append, List.length_cons, List.length_nil]; omega))).mono ?_)⟩
          rintro r H' m7 hm7 ⟨l7, rfl, u7, hu7, rfl⟩
          simp only [go_sem, ↓imp_tf, ↓imp_ft, ↓reduceIte, Nat.reduceBEq, Nat.reduceAdd, Nat.reduceMul, Nat.reduceSub, Nat.reduceEqDiff, Nat.reduceLT, Nat.reduceLeDiff, Option.map, Option.bind, List.map, List.length, reduceCtorEq, Option.toList, Option.getD, List.set, List.drop, List.take, Int.reduceToNat, Cc.cs, Fc.cs]
          refine ⟨hu7, by kernel_rfl, FnV_of ((FnH_den (hT fields[k].ty (hdim _ hfm) m7 u7 (accf ++ modT fields[k].fl) (by clear hMd hW hS hN hT hIf hI hM; first | omega | (simp only [List.length_append, List.length_cons, List.length_nil]; omega))) (fun V => rfl)).mono ?_)⟩
          rintro r H' m8 hm8 ⟨l8, rfl, u8, hu8, rfl⟩
          simp only [go_sem, ↓imp_tf, ↓imp_ft, ↓reduceIte, Nat.reduceBEq, Nat.reduceAdd, Nat.reduceMul, Nat.reduceSub, Nat.reduceEqDiff, Nat.reduceLT, Nat.reduceLeDiff, Option.map, Option.bind, List.map, List.length, reduceCtorEq, Option.toList, Option.getD, List.set, List.drop, List.take, Int.reduceToNat, Cc.cs, Fc.cs]
          refine ⟨hu8, by kernel_rfl, FnV_of ((hN fields[k].name m8 u8 (accf ++ modT fields[k].fl ++ typT fields[k].ty.dim fields[k].ty.base fields[k].ty.name) (by clear hMd hW hS hN hT hIf hI hM; first | omega | (simp only [List.length_append, List.length_cons, List.length_nil]; omega))).mono ?_)⟩
          rintro r H' m9 hm9 ⟨l9, rfl, u9, hu9, rfl⟩
          simp only [go_sem, ↓imp_tf, ↓imp_ft, ↓reduceIte, Nat.reduceBEq, Nat.reduceAdd, Nat.reduceMul, Nat.reduceSub, Nat.reduceEqDiff, Nat.reduceLT, Nat.reduceLeDiff, Option.map, Option.bind, List.map, List.length, reduceCtorEq, Option.toList, Option.getD, List.set, List.drop, List.take, Int.reduceToNat, Cc.cs, Fc.cs]
          refine ⟨hu9, by kernel_rfl, fun a10 c10 w10 hw10 hc10 rr10 => FnV_of ((hS [59] u9 (accf ++ modT fields[k].fl ++ typT fields[k].ty.dim fields[k].ty.base fields[k].ty.name ++ [nm1 fields[k].name]) (by clear hMd hW hS hN hT hIf hI hM; first | omega | (simp only [List.length_append, List.length_cons, List.length_nil]; omega)) a10 c10 w10 rr10).mono ?_)⟩
          rintro r H' m10 hm10 ⟨l10, rfl, u10, hu10, rfl⟩
          simp only [go_sem, ↓imp_tf, ↓imp_ft, ↓reduceIte, Nat.reduceBEq, Nat.reduceAdd, Nat.reduceMul, Nat.reduceSub, Nat.reduceEqDiff, Nat.reduceLT, Nat.reduceLeDiff, Option.map, Option.bind, List.map, List.length, reduceCtorEq, Option.toList, Option.getD, List.set, List.drop, List.take, Int.reduceToNat, Cc.cs, Fc.cs]
          refine ⟨hu10, by clear hMd hW hS hN hT hIf hI hM; unfold I64; simp only [big] at hfb; omega, (k + 1, u10 - u5, accf ++ modT fields[k].fl ++ typT fields[k].ty.dim fields[k].ty.base fields[k].ty.name ++ [nm1 fields[k].name] ++ [sg [59]], m10), ⟨by simp, by rw [show u5 + (u10 - u5) = u10 by clear hMd hW hS hN hT hIf hI hM; omega], ⟨by clear hMd hW hS hN hT hIf hI hM; simp only; omega, rfl, rfl⟩, .inl rfl⟩, ⟨leM_tr f1 (leM_tr (leM_tr (leM_tr (leM_tr (leM_tr (.inl rfl : leM mf mf) l7) l8) l9) (.inr hw10)) l10), by clear hMd hW hS hN hT hIf hI hM; simp only; omega, ?_⟩, by clear hMd hW hS hN hT hIf hI hM; simp only; omega⟩
          simp only
          rw [hft'.1, f3]
          simp only [fieldT, List.append_assoc]
        · clear hy hft
          have hkk : fields.take k = fields := List.take_of_length_le (by clear hMd hW hS hN hT hIf hI hM; omega)
          rw [hkk] at f3 hal
          refine ⟨fun hi => ?_, fun hi => ?_⟩
          · have hi0 : 0 < init.length := by clear hMd hW hS hN hT hIf hI hM; omega
            rw [if_pos hi0] at hb
            simp only [List.length_append, List.length_cons, List.length_nil] at hb
            have hini : (if 0 < init.length then [kw [115, 116, 97, 116, 105, 99]] ++ IT else []) = [kw [115, 116, 97, 116, 105, 99]] ++ IT := if_pos hi0
            refine ⟨by kernel_rfl, fun a11 c11 w11 hw11 hc11 rr11 => FnV_of ((hW [115, 116, 97, 116, 105, 99] (u5 + v) (accf) (by clear hMd hW hS hN hT hIf hI hM; first | omega | (simp only [List.length_append, List.length_cons, List.length_nil]; omega)) a11 c11 w11 rr11).mono ?_)⟩
            rintro r H' m11 hm11 ⟨l11, rfl, u11, hu11, rfl⟩
            simp only [go_sem, ↓imp_tf, ↓imp_ft, ↓reduceIte, Nat.reduceBEq, Nat.reduceAdd, Nat.reduceMul, Nat.reduceSub, Nat.reduceEqDiff, Nat.reduceLT, Nat.reduceLeDiff, Option.map, Option.bind, List.map, List.length, reduceCtorEq, Option.toList, Option.getD, List.set, List.drop, List.take, Int.reduceToNat, Cc.cs]
            refine ⟨hu11, by kernel_rfl, FnV_of ((hI hi0 x.sa x.sl x.sc ys m11 u11 (accf ++ [kw [115, 116, 97, 116, 105, 99]]) (leM_tr (leM_tr (leM_tr hlf f1) (.inr hw11)) l11) hsl (Rds_upM (leM_tr (leM_tr (leM_tr hlf f1) (.inr hw11)) l11) r4) (stsRep_upM (leM_tr (leM_tr (leM_tr hlf f1) (.inr hw11)) l11) s4) (by clear hMd hW hS hN hT hIf hI hM; first | omega | (simp only [List.length_append, List.length_cons, List.length_nil]; omega))).mono ?_)⟩
            rintro r H' m12 hm12 ⟨l12, rfl, u12, hu12, rfl⟩
            simp only [go_sem, ↓imp_tf, ↓imp_ft, ↓reduceIte, Nat.reduceBEq, Nat.reduceAdd, Nat.reduceMul, Nat.reduceSub, Nat.reduceEqDiff, Nat.reduceLT, Nat.reduceLeDiff, Option.map, Option.bind, List.map, List.length, reduceCtorEq, Option.toList, Option.getD, List.set, List.drop, List.take, Int.reduceToNat, Cc.cs]
            refine ⟨hu12, ?_⟩
            have hlm := (leM_tr (leM_tr (leM_tr (leM_tr hlf f1) (.inr hw11)) l11) l12)
            refine WP_loop puW (fun y : Nat × Nat × List Tk × Mem => ⟨[⟨0, [], .box 0 0⟩, ⟨88, [], .v (.slice x.ma x.ml x.mc)⟩, ⟨89, [], .v (.int .i64 x.ml)⟩, ⟨90, [], .v (.int .i64 y.1)⟩], [], [⟨0, 64, [.vec 1 (u12 + y.2.1)]⟩], [⟨1, u12 + y.2.1, 79, 4, y.2.2.1.length, tkCells y.2.2.1⟩], 200, y.2.2.2⟩)
              (fun y => leM m12 y.2.2.2 ∧ y.1 ≤ x.ml ∧ y.2.2.1 = accf ++ [kw [115, 116, 97, 116, 105, 99]] ++ IT ++ ((methods.take y.1).map MT).flatten) (fun y => x.ml - y.1) (0, 0, accf ++ [kw [115, 116, 97, 116, 105, 99]] ++ IT, m12) (by kernel_rfl) (fun _ _ => Nat.le_of_ble_eq_true rfl) (fun y hy => hy.1) (fun _ => ?_) ?_ ?_ ?_
            · simp only [go_sem, ↓imp_tf, ↓imp_ft, ↓reduceIte, Nat.reduceBEq, Nat.reduceAdd, Nat.reduceMul, Nat.reduceSub, Nat.reduceEqDiff, Nat.reduceLT, Nat.reduceLeDiff, Option.map, Option.bind, List.map, List.length, reduceCtorEq, Option.toList, Option.getD, List.set, List.drop, List.take, Int.reduceToNat]
            · simp only [go_sem, ↓imp_tf, ↓imp_ft, ↓reduceIte, Nat.reduceBEq, Nat.reduceAdd, Nat.reduceMul, Nat.reduceSub, Nat.reduceEqDiff, Nat.reduceLT, Nat.reduceLeDiff, Option.map, Option.bind, List.map, List.length, reduceCtorEq, Option.toList, Option.getD, List.set, List.drop, List.take, Int.reduceToNat]
              exact ⟨rfl, rfl, rfl⟩
            · exact ⟨.inl rfl, Nat.zero_le _, by simp⟩
            · rintro ⟨k, vm, acc', mm⟩ ⟨h1, h2, h3⟩
              simp only at h1 h2 h3
              have hal := congrArg List.length h3
              simp only [List.length_append, List.length_cons, List.length_nil] at hal
              have hle := flat_le (f := MT) methods k
              have hy : ∀ (hk : k < methods.length), ∃ X : Mc, (Rd mm (ptrAt x.ma (k * 8)) X.cs ∧ x.ma ≠ none) ∧ WrT 90 [.v (.agg ⟨X.cs⟩)] mm (u12 + vm) acc' (MT methods[k]) := fun hk => by
                have hrep := mdRep_up (leM_tr hlm h1) (ls_at s3 hk)
                have hrd := Rds_cells (Rds_upM (leM_tr hlm h1) r3) (by omega : k < x.ml)
                obtain ⟨X, hX⟩ := mdRep_mc hrep
                rw [hX] at hrep hrd
                have hsz := flat_le (f := MT) methods (k + 1)
                have hst := congrArg List.length (flat_takeT (f := MT) hk)
                rw [List.length_append] at hst
                exact ⟨X, hrd, hM _ (List.getElem_mem hk) X.cs mm _ acc' (leM_tr hlm h1) hrep (by clear hMd hW hS hN hT hIf hI hM; omega)⟩
              have hft := fun (hk : k < methods.length) => flat_takeT (f := MT) hk
              clear hM
              simp only [go_sem, ↓imp_tf, ↓imp_ft, ↓reduceIte, Nat.reduceBEq, Nat.reduceAdd, Nat.reduceMul, Nat.reduceSub, Nat.reduceEqDiff, Nat.reduceLT, Nat.reduceLeDiff, Option.map, Option.bind, List.map, List.length, reduceCtorEq, Option.toList, Option.getD, List.set, List.drop, List.take, Int.reduceToNat]
              refine ⟨fun hlt => ?_, fun hge => ?_⟩
              · have hk : k < methods.length := by clear hMd hW hS hN hT hIf hI hy; omega
                have hft' := hft hk
                clear hft
                refine Exists.elim (hy hk) fun X hy' => ⟨⟨by clear hMd hW hS hN hT hIf hI hy hy'; omega, hlt, hy'.1.2⟩, X.cs, ⟨hy'.1.1, rfl⟩, ?_⟩
                clear hy
                have hD := hy'.2
                clear hy'
                simp only [go_sem, ↓imp_tf, ↓imp_ft, ↓reduceIte, Nat.reduceBEq, Nat.reduceAdd, Nat.reduceMul, Nat.reduceSub, Nat.reduceEqDiff, Nat.reduceLT, Nat.reduceLeDiff, Option.map, Option.bind, List.map, List.length, reduceCtorEq, Option.toList, Option.getD, List.set, List.drop, List.take, Int.reduceToNat, Mc.cs]
                refine ⟨by kernel_rfl, FnV_of ((FnH_den hD (fun V => rfl)).mono ?_)⟩
                clear hD
                rintro r H' mz hmz ⟨lz, rfl, uz, huz, rfl⟩
                simp only [go_sem, ↓imp_tf, ↓imp_ft, ↓reduceIte, Nat.reduceBEq, Nat.reduceAdd, Nat.reduceMul, Nat.reduceSub, Nat.reduceEqDiff, Nat.reduceLT, Nat.reduceLeDiff, Option.map, Option.bind, List.map, List.length, reduceCtorEq, Option.toList, Option.getD, List.set, List.drop, List.take, Int.reduceToNat, Mc.cs]
                refine ⟨huz, by clear hMd hW hS hN hT hIf hI; unfold I64; simp only [big] at hmb; omega, (k + 1, uz - u12, acc' ++ MT methods[k], mz), ⟨by simp, by rw [show u12 + (uz - u12) = uz by omega], ⟨by simp only; omega, rfl, rfl⟩, .inl rfl⟩, ⟨leM_tr h1 lz, by simp only; omega, ?_⟩, by simp only; omega⟩
                simp only
                rw [hft', h3, List.append_assoc]
              · clear hy hft
                have hkk : methods.take k = methods := List.take_of_length_le (by clear hMd hW hS hN hT hIf hI; omega)
                rw [hkk] at h3 hal
                refine ⟨by kernel_rfl, fun az cz wz hwz hcz rz => FnV_of ((hS [125] (u12 + vm) acc' (by clear hMd hW hS hN hT hIf hI; omega) az cz wz rz).mono ?_)⟩
                clear hMd hW hS hN hT hIf hI
                rintro r H' mz hmz ⟨lz, rfl, uz, huz, rfl⟩
                simp only [go_sem, ↓imp_tf, ↓imp_ft, ↓reduceIte, Nat.reduceBEq, Nat.reduceAdd, Nat.reduceMul, Nat.reduceSub, Nat.reduceEqDiff, Nat.reduceLT, Nat.reduceLeDiff, Option.map, Option.bind, List.map, List.length, reduceCtorEq, Option.toList, Option.getD, List.set, List.drop, List.take, Int.reduceToNat]
                refine ⟨huz, leM_tr hlm (leM_tr h1 (leM_tr (.inr hwz) lz)), uz, by omega, ?_⟩
                have hfin : acc' ++ [sg [125]] = acc ++ classT IT MT ⟨x.fl, x.name, x.super, ifs, fields, methods, init⟩ := by
                  rw [h3, f3, classT]
                  dsimp only
                  rw [hH, hini]
                  simp only [List.append_assoc, List.cons_append, List.nil_append, List.append_nil]
                rw [hfin]
          · have hi0 : ¬ 0 < init.length := by clear hMd hW hS hN hT hIf hI hM; omega
            rw [if_neg hi0] at hb
            simp only [List.length_nil] at hb
            have hini : (if 0 < init.length then [kw [115, 116, 97, 116, 105, 99]] ++ IT else []) = [] := if_neg hi0
            have hlm := (leM_tr hlf f1)
            refine WP_loop puW (fun y : Nat × Nat × List Tk × Mem => ⟨[⟨0, [], .box 0 0⟩, ⟨88, [], .v (.slice x.ma x.ml x.mc)⟩, ⟨89, [], .v (.int .i64 x.ml)⟩, ⟨90, [], .v (.int .i64 y.1)⟩], [], [⟨0, 64, [.vec 1 ((u5 + v) + y.2.1)]⟩], [⟨1, (u5 + v) + y.2.1, 79, 4, y.2.2.1.length, tkCells y.2.2.1⟩], 200, y.2.2.2⟩)
              (fun y => leM mf y.2.2.2 ∧ y.1 ≤ x.ml ∧ y.2.2.1 = accf ++ ((methods.take y.1).map MT).flatten) (fun y => x.ml - y.1) (0, 0, accf, mf) (by kernel_rfl) (fun _ _ => Nat.le_of_ble_eq_true rfl) (fun y hy => hy.1) (fun _ => ?_) ?_ ?_ ?_
            · simp only [go_sem, ↓imp_tf, ↓imp_ft, ↓reduceIte, Nat.reduceBEq, Nat.reduceAdd, Nat.reduceMul, Nat.reduceSub, Nat.reduceEqDiff, Nat.reduceLT, Nat.reduceLeDiff, Option.map, Option.bind, List.map, List.length, reduceCtorEq, Option.toList, Option.getD, List.set, List.drop, List.take, Int.reduceToNat]
            · simp only [go_sem, ↓imp_tf, ↓imp_ft, ↓reduceIte, Nat.reduceBEq, Nat.reduceAdd, Nat.reduceMul, Nat.reduceSub, Nat.reduceEqDiff, Nat.reduceLT, Nat.reduceLeDiff, Option.map, Option.bind, List.map, List.length, reduceCtorEq, Option.toList, Option.getD, List.set, List.drop, List.take, Int.reduceToNat]
              exact ⟨rfl, rfl, rfl⟩
            · exact ⟨.inl rfl, Nat.zero_le _, by simp⟩
            · rintro ⟨k, vm, acc', mm⟩ ⟨h1, h2, h3⟩
              simp only at h1 h2 h3
              have hal := congrArg List.length h3
              simp only [List.length_append, List.length_cons, List.length_nil] at hal
              have hle := flat_le (f := MT) methods k
              have hy : ∀ (hk : k < methods.length), ∃ X : Mc, (Rd mm (ptrAt x.ma (k * 8)) X.cs ∧ x.ma ≠ none) ∧ WrT 90 [.v (.agg ⟨X.cs⟩)] mm ((u5 + v) + vm) acc' (MT methods[k]) := fun hk => by
                have hrep := mdRep_up (leM_tr hlm h1) (ls_at s3 hk)
                have hrd := Rds_cells (Rds_upM (leM_tr hlm h1) r3) (by omega : k < x.ml)
                obtain ⟨X, hX⟩ := mdRep_mc hrep
                rw [hX] at hrep hrd
                have hsz := flat_le (f := MT) methods (k + 1)
                have hst := congrArg List.length (flat_takeT (f := MT) hk)
                rw [List.length_append] at hst
                exact ⟨X, hrd, hM _ (List.getElem_mem hk) X.cs mm _ acc' (leM_tr hlm h1) hrep (by clear hMd hW hS hN hT hIf hI hM; omega)⟩
              have hft := fun (hk : k < methods.length) => flat_takeT (f := MT) hk
              clear hM
              simp only [go_sem, ↓imp_tf, ↓imp_ft, ↓reduceIte, Nat.reduceBEq, Nat.reduceAdd, Nat.reduceMul, Nat.reduceSub, Nat.reduceEqDiff, Nat.reduceLT, Nat.reduceLeDiff, Option.map, Option.bind, List.map, List.length, reduceCtorEq, Option.toList, Option.getD, List.set, List.drop, List.take, Int.reduceToNat]
              refine ⟨fun hlt => ?_, fun hge => ?_⟩
              · have hk : k < methods.length := by clear hMd hW hS hN hT hIf hI hy; omega
                have hft' := hft hk
                clear hft
                refine Exists.elim (hy hk) fun X hy' => ⟨⟨by clear hMd hW hS hN hT hIf hI hy hy'; omega, hlt, hy'.1.2⟩, X.cs, ⟨hy'.1.1, rfl⟩, ?_⟩
                clear hy
                have hD := hy'.2
                clear hy'
                simp only [go_sem, ↓imp_tf, ↓imp_ft, ↓reduceIte, Nat.reduceBEq, Nat.reduceAdd, Nat.reduceMul, Nat.reduceSub, Nat.reduceEqDiff, Nat.reduceLT, Nat.reduceLeDiff, Option.map, Option.bind, List.map, List.length, reduceCtorEq, Option.toList, Option.getD, List.set, List.drop, List.take, Int.reduceToNat, Mc.cs]
                refine ⟨by kernel_rfl, FnV_of ((FnH_den hD (fun V => rfl)).mono ?_)⟩
                clear hD
                rintro r H' mz hmz ⟨lz, rfl, uz, huz, rfl⟩
                simp only [go_sem, ↓imp_tf, ↓imp_ft, ↓reduceIte, Nat.reduceBEq, Nat.reduceAdd, Nat.reduceMul, Nat.reduceSub, Nat.reduceEqDiff, Nat.reduceLT, Nat.reduceLeDiff, Option.map, Option.bind, List.map, List.length, reduceCtorEq, Option.toList, Option.getD, List.set, List.drop, List.take, Int.reduceToNat, Mc.cs]
                refine ⟨huz, by clear hMd hW hS hN hT hIf hI; unfold I64; simp only [big] at hmb; omega, (k + 1, uz - (u5 + v), acc' ++ MT methods[k], mz), ⟨by simp, by rw [show (u5 + v) + (uz - (u5 + v)) = uz by omega], ⟨by simp only; omega, rfl, rfl⟩, .inl rfl⟩, ⟨leM_tr h1 lz, by simp only; omega, ?_⟩, by simp only; omega⟩
                simp only
                rw [hft', h3, List.append_assoc]
              · clear hy hft
                have hkk : methods.take k = methods := List.take_of_length_le (by clear hMd hW hS hN hT hIf hI; omega)
                rw [hkk] at h3 hal
                refine ⟨by kernel_rfl, fun az cz wz hwz hcz rz => FnV_of ((hS [125] ((u5 + v) + vm) acc' (by clear hMd hW hS hN hT hIf hI; omega) az cz wz rz).mono ?_)⟩
                clear hMd hW hS hN hT hIf hI
                rintro r H' mz hmz ⟨lz, rfl, uz, huz, rfl⟩
                simp only [go_sem, ↓imp_tf, ↓imp_ft, ↓reduceIte, Nat.reduceBEq, Nat.reduceAdd, Nat.reduceMul, Nat.reduceSub, Nat.reduceEqDiff, Nat.reduceLT, Nat.reduceLeDiff, Option.map, Option.bind, List.map, List.length, reduceCtorEq, Option.toList, Option.getD, List.set, List.drop, List.take, Int.reduceToNat]
                refine ⟨huz, leM_tr hlm (leM_tr h1 (leM_tr (.inr hwz) lz)), uz, by omega, ?_⟩
                have hfin : acc' ++ [sg [125]] = acc ++ classT IT MT ⟨x.fl, x.name, x.super, ifs, fields, methods, init⟩ := by
                  rw [h3, f3, classT]
                  dsimp only
                  rw [hH, hini]
                  simp only [List.append_assoc, List.cons_append, List.nil_append, List.append_nil]
                rw [hfin]
    · have hB : ¬ hasB x.fl 512 = true := by rw [hasB, decide_eq_true hbit]; decide
      have hH : headT ⟨x.fl, x.name, x.super, ifs, fields, methods, init⟩ = modT x.fl ++ [kw [99, 108, 97, 115, 115]] ++ [nm1 x.name] ++ [kw [101, 120, 116, 101, 110, 100, 115]] ++ [nm1 x.super] ++ ifsT [105, 109, 112, 108, 101, 109, 101, 110, 116, 115] ifs := by rw [headT, if_neg hB]
      have hHl := congrArg List.length hH
      simp only [List.length_append, List.length_cons, List.length_nil] at hHl
      refine ⟨by kernel_rfl, FnV_of ((hMd x.fl m u (acc) (by clear hMd hW hS hN hT hIf hI hM; first | omega | (simp only [List.length_append, List.length_cons, List.length_nil]; omega))).mono ?_)⟩
      rintro r H' m15 hm15 ⟨l15, rfl, u15, hu15, rfl⟩
      simp only [go_sem, ↓imp_tf, ↓imp_ft, ↓reduceIte, Nat.reduceBEq, Nat.reduceAdd, Nat.reduceMul, Nat.reduceSub, Nat.reduceEqDiff, Nat.reduceLT, Nat.reduceLeDiff, Option.map, Option.bind, List.map, List.length, reduceCtorEq, Option.toList, Option.getD, List.set, List.drop, List.take, Int.reduceToNat, Cc.cs]
      refine ⟨hu15, by kernel_rfl, fun a16 c16 w16 hw16 hc16 rr16 => FnV_of ((hW [99, 108, 97, 115, 115] u15 (acc ++ modT x.fl) (by clear hMd hW hS hN hT hIf hI hM; first | omega | (simp only [List.length_append, List.length_cons, List.length_nil]; omega)) a16 c16 w16 rr16).mono ?_)⟩
      rintro r H' m16 hm16 ⟨l16, rfl, u16, hu16, rfl⟩
      simp only [go_sem, ↓imp_tf, ↓imp_ft, ↓reduceIte, Nat.reduceBEq, Nat.reduceAdd, Nat.reduceMul, Nat.reduceSub, Nat.reduceEqDiff, Nat.reduceLT, Nat.reduceLeDiff, Option.map, Option.bind, List.map, List.length, reduceCtorEq, Option.toList, Option.getD, List.set, List.drop, List.take, Int.reduceToNat, Cc.cs]
      refine ⟨hu16, by kernel_rfl, FnV_of ((hN x.name m16 u16 (acc ++ modT x.fl ++ [kw [99, 108, 97, 115, 115]]) (by clear hMd hW hS hN hT hIf hI hM; first | omega | (simp only [List.length_append, List.length_cons, List.length_nil]; omega))).mono ?_)⟩
      rintro r H' m17 hm17 ⟨l17, rfl, u17, hu17, rfl⟩
      simp only [go_sem, ↓imp_tf, ↓imp_ft, ↓reduceIte, Nat.reduceBEq, Nat.reduceAdd, Nat.reduceMul, Nat.reduceSub, Nat.reduceEqDiff, Nat.reduceLT, Nat.reduceLeDiff, Option.map, Option.bind, List.map, List.length, reduceCtorEq, Option.toList, Option.getD, List.set, List.drop, List.take, Int.reduceToNat, Cc.cs]
      refine ⟨hu17, by kernel_rfl, fun a18 c18 w18 hw18 hc18 rr18 => FnV_of ((hW [101, 120, 116, 101, 110, 100, 115] u17 (acc ++ modT x.fl ++ [kw [99, 108, 97, 115, 115]] ++ [nm1 x.name]) (by clear hMd hW hS hN hT hIf hI hM; first | omega | (simp only [List.length_append, List.length_cons, List.length_nil]; omega)) a18 c18 w18 rr18).mono ?_)⟩
      rintro r H' m18 hm18 ⟨l18, rfl, u18, hu18, rfl⟩
      simp only [go_sem, ↓imp_tf, ↓imp_ft, ↓reduceIte, Nat.reduceBEq, Nat.reduceAdd, Nat.reduceMul, Nat.reduceSub, Nat.reduceEqDiff, Nat.reduceLT, Nat.reduceLeDiff, Option.map, Option.bind, List.map, List.length, reduceCtorEq, Option.toList, Option.getD, List.set, List.drop, List.take, Int.reduceToNat, Cc.cs]
      refine ⟨hu18, by kernel_rfl, FnV_of ((hN x.super m18 u18 (acc ++ modT x.fl ++ [kw [99, 108, 97, 115, 115]] ++ [nm1 x.name] ++ [kw [101, 120, 116, 101, 110, 100, 115]]) (by clear hMd hW hS hN hT hIf hI hM; first | omega | (simp only [List.length_append, List.length_cons, List.length_nil]; omega))).mono ?_)⟩
      rintro r H' m19 hm19 ⟨l19, rfl, u19, hu19, rfl⟩
      simp only [go_sem, ↓imp_tf, ↓imp_ft, ↓reduceIte, Nat.reduceBEq, Nat.reduceAdd, Nat.reduceMul, Nat.reduceSub, Nat.reduceEqDiff, Nat.reduceLT, Nat.reduceLeDiff, Option.map, Option.bind, List.map, List.length, reduceCtorEq, Option.toList, Option.getD, List.set, List.drop, List.take, Int.reduceToNat, Cc.cs]
      refine ⟨hu19, by kernel_rfl, FnV_of ((hIf [105, 109, 112, 108, 101, 109, 101, 110, 116, 115] m19 (leM_tr (leM_tr (leM_tr (leM_tr (leM_tr (leM_tr (leM_tr (.inl rfl : leM m m) l15) (.inr hw16)) l16) l17) (.inr hw18)) l18) l19) u19 (acc ++ modT x.fl ++ [kw [99, 108, 97, 115, 115]] ++ [nm1 x.name] ++ [kw [101, 120, 116, 101, 110, 100, 115]] ++ [nm1 x.super]) (by clear hMd hW hS hN hT hIf hI hM; first | omega | (simp only [List.length_append, List.length_cons, List.length_nil]; omega))).mono ?_)⟩
      rintro r H' m20 hm20 ⟨l20, rfl, u20, hu20, rfl⟩
      simp only [go_sem, ↓imp_tf, ↓imp_ft, ↓reduceIte, Nat.reduceBEq, Nat.reduceAdd, Nat.reduceMul, Nat.reduceSub, Nat.reduceEqDiff, Nat.reduceLT, Nat.reduceLeDiff, Option.map, Option.bind, List.map, List.length, reduceCtorEq, Option.toList, Option.getD, List.set, List.drop, List.take, Int.reduceToNat, Cc.cs]
      refine ⟨hu20, by kernel_rfl, fun a21 c21 w21 hw21 hc21 rr21 => FnV_of ((hS [123] u20 (acc ++ modT x.fl ++ [kw [99, 108, 97, 115, 115]] ++ [nm1 x.name] ++ [kw [101, 120, 116, 101, 110, 100, 115]] ++ [nm1 x.super] ++ ifsT [105, 109, 112, 108, 101, 109, 101, 110, 116, 115] ifs) (by clear hMd hW hS hN hT hIf hI hM; first | omega | (simp only [List.length_append, List.length_cons, List.length_nil]; omega)) a21 c21 w21 rr21).mono ?_)⟩
      rintro r H' m21 hm21 ⟨l21, rfl, u21, hu21, rfl⟩
      simp only [go_sem, ↓imp_tf, ↓imp_ft, ↓reduceIte, Nat.reduceBEq, Nat.reduceAdd, Nat.reduceMul, Nat.reduceSub, Nat.reduceEqDiff, Nat.reduceLT, Nat.reduceLeDiff, Option.map, Option.bind, List.map, List.length, reduceCtorEq, Option.toList, Option.getD, List.set, List.drop, List.take, Int.reduceToNat, Cc.cs]
      refine ⟨hu21, ?_⟩
      have hlf := (leM_tr (leM_tr (leM_tr (leM_tr (leM_tr (leM_tr (leM_tr (leM_tr (leM_tr (leM_tr (.inl rfl : leM m m) l15) (.inr hw16)) l16) l17) (.inr hw18)) l18) l19) l20) (.inr hw21)) l21)
      refine WP_loop puW (fun y : Nat × Nat × List Tk × Mem => ⟨[⟨0, [], .box 0 0⟩, ⟨3, [], .box 2 0⟩, ⟨54, [], .v (.slice x.fa x.fn x.fc)⟩, ⟨55, [], .v (.int .i64 x.fn)⟩, ⟨56, [], .v (.int .i64 y.1)⟩], [], [⟨0, 64, [.vec 1 (u21 + y.2.1)]⟩, ⟨2, 55, x.cs.map .v⟩], [⟨1, u21 + y.2.1, 79, 4, y.2.2.1.length, tkCells y.2.2.1⟩], 100, y.2.2.2⟩)
        (fun y => leM m21 y.2.2.2 ∧ y.1 ≤ x.fn ∧ y.2.2.1 = acc ++ modT x.fl ++ [kw [99, 108, 97, 115, 115]] ++ [nm1 x.name] ++ [kw [101, 120, 116, 101, 110, 100, 115]] ++ [nm1 x.super] ++ ifsT [105, 109, 112, 108, 101, 109, 101, 110, 116, 115] ifs ++ [sg [123]] ++ ((fields.take y.1).map fieldT).flatten) (fun y => x.fn - y.1) (0, 0, acc ++ modT x.fl ++ [kw [99, 108, 97, 115, 115]] ++ [nm1 x.name] ++ [kw [101, 120, 116, 101, 110, 100, 115]] ++ [nm1 x.super] ++ ifsT [105, 109, 112, 108, 101, 109, 101, 110, 116, 115] ifs ++ [sg [123]], m21) (by kernel_rfl) (fun _ _ => Nat.le_of_ble_eq_true rfl) (fun y hy => hy.1) (fun _ => ?_) ?_ ?_ ?_
      · simp only [go_sem, ↓imp_tf, ↓imp_ft, ↓reduceIte, Nat.reduceBEq, Nat.reduceAdd, Nat.reduceMul, Nat.reduceSub, Nat.reduceEqDiff, Nat.reduceLT, Nat.reduceLeDiff, Option.map, Option.bind, List.map, List.length, reduceCtorEq, Option.toList, Option.getD, List.set, List.drop, List.take, Int.reduceToNat, Cc.cs]
      · simp only [go_sem, ↓imp_tf, ↓imp_ft, ↓reduceIte, Nat.reduceBEq, Nat.reduceAdd, Nat.reduceMul, Nat.reduceSub, Nat.reduceEqDiff, Nat.reduceLT, Nat.reduceLeDiff, Option.map, Option.bind, List.map, List.length, reduceCtorEq, Option.toList, Option.getD, List.set, List.drop, List.take, Int.reduceToNat, Cc.cs]
        exact ⟨rfl, rfl, rfl⟩
      · exact ⟨.inl rfl, Nat.zero_le _, by simp⟩
      · rintro ⟨k, v, accf, mf⟩ ⟨f1, f2, f3⟩
        simp only at f1 f2 f3
        have hal := congrArg List.length f3
        simp only [List.length_append, List.length_cons, List.length_nil] at hal
        have hle := flat_le (f := fieldT) fields k
        have hft := fun (hk : k < fields.length) => And.intro (flat_takeT (f := fieldT) hk) (flat_le (f := fieldT) fields (k + 1))
        have hy : ∀ (hk : k < fields.length), Rd mf (ptrAt x.fa (k * 5)) (fields[k]).cs ∧ x.fa ≠ none := fun hk => by
          have := Rds_cells (Rds_upM (leM_tr hlf f1) r2) (by omega : k < x.fn)
          rw [flat_at (f := Fc.cs) (sz := 5) (fun _ => rfl) hk] at this
          exact this
        simp only [go_sem, ↓imp_tf, ↓imp_ft, ↓reduceIte, Nat.reduceBEq, Nat.reduceAdd, Nat.reduceMul, Nat.reduceSub, Nat.reduceEqDiff, Nat.reduceLT, Nat.reduceLeDiff, Option.map, Option.bind, List.map, List.length, reduceCtorEq, Option.toList, Option.getD, List.set, List.drop, List.take, Int.reduceToNat, Cc.cs]
        refine ⟨fun hlt => ?_, fun hge => ?_⟩
        · have hk : k < fields.length := by clear hMd hW hS hN hT hIf hI hM; omega
          have hft' := hft hk
          clear hft
          have hsz := congrArg List.length hft'.1
          rw [List.length_append] at hsz
          have hsz2 : (fieldT fields[k]).length = (modT fields[k].fl).length + (typT fields[k].ty.dim fields[k].ty.base fields[k].ty.name).length + 1 + 1 := by simp only [fieldT, List.length_append, List.length_cons, List.length_nil]
          have hfm : fields[k] ∈ fields := List.getElem_mem hk
          refine ⟨⟨by clear hMd hW hS hN hT hIf hI hM; omega, hlt, (hy hk).2⟩, (fields[k]).cs, ⟨(hy hk).1, rfl⟩, ?_⟩
          simp only [go_sem, ↓imp_tf, ↓imp_ft, ↓reduceIte, Nat.reduceBEq, Nat.reduceAdd, Nat.reduceMul, Nat.reduceSub, Nat.reduceEqDiff, Nat.reduceLT, Nat.reduceLeDiff, Option.map, Option.bind, List.map, List.length, reduceCtorEq, Option.toList, Option.getD, List.set, List.drop, List.take, Int.reduceToNat, Cc.cs, Fc.cs]
          refine ⟨by kernel_rfl, FnV_of ((hMd fields[k].fl mf (u21 + v) (accf) (by clear hMd hW hS hN hT hIf hI hM; first | omega | (simp only [List.length_append, List.length_cons, List.length_nil]; omega))).mono ?_)⟩
          rintro r H' m23 hm23 ⟨l23, rfl, u23, hu23, rfl⟩
          simp only [go_sem, ↓imp_tf, ↓imp_ft, ↓reduceIte, Nat.reduceBEq, Nat.reduceAdd, Nat.reduceMul, Nat.reduceSub, Nat.reduceEqDiff, Nat.reduceLT, Nat.reduceLeDiff, Option.map, Option.bind, List.map, List.length, reduceCtorEq, Option.toList, Option.getD, List.set, List.drop, List.take, Int.reduceToNat, Cc.cs, Fc.cs]
          refine ⟨hu23, by kernel_rfl, FnV_of ((FnH_den (hT fields[k].ty (hdim _ hfm) m23 u23 (accf ++ modT fields[k].fl) (by clear hMd hW hS hN hT hIf hI hM; first | omega | (simp only [List.length_append, List.length_cons, List.length_nil]; omega))) (fun V => rfl)).mono ?_)⟩
          rintro r H' m24 hm24 ⟨l24, rfl, u24, hu24, rfl⟩
          simp only [go_sem, ↓imp_tf, ↓imp_ft, ↓reduceIte, Nat.reduceBEq, Nat.reduceAdd, Nat.reduceMul, Nat.reduceSub, Nat.reduceEqDiff, Nat.reduceLT, Nat.reduceLeDiff, Option.map, Option.bind, List.map, List.length, reduceCtorEq, Option.toList, Option.getD, List.set, List.drop, List.take, Int.reduceToNat, Cc.cs, Fc.cs]
          refine ⟨hu24, by kernel_rfl, FnV_of ((hN fields[k].name m24 u24 (accf ++ modT fields[k].fl ++ typT fields[k].ty.dim fields[k].ty.base fields[k].ty.name) (by clear hMd hW hS hN hT hIf hI hM; first | omega | (simp only [List.length_append, List.length_cons, List.length_nil]; omega))).mono ?_)⟩
          rintro r H' m25 hm25 ⟨l25, rfl, u25, hu25, rfl⟩
          simp only [go_sem, ↓imp_tf, ↓imp_ft, ↓reduceIte, Nat.reduceBEq, Nat.reduceAdd, Nat.reduceMul, Nat.reduceSub, Nat.reduceEqDiff, Nat.reduceLT, Nat.reduceLeDiff, Option.map, Option.bind, List.map, List.length, reduceCtorEq, Option.toList, Option.getD, List.set, List.drop, List.take, Int.reduceToNat, Cc.cs, Fc.cs]
          refine ⟨hu25, by kernel_rfl, fun a26 c26 w26 hw26 hc26 rr26 => FnV_of ((hS [59] u25 (accf ++ modT fields[k].fl ++ typT fields[k].ty.dim fields[k].ty.base fields[k].ty.name ++ [nm1 fields[k].name]) (by clear hMd hW hS hN hT hIf hI hM; first | omega | (simp only [List.length_append, List.length_cons, List.length_nil]; omega)) a26 c26 w26 rr26).mono ?_)⟩
          rintro r H' m26 hm26 ⟨l26, rfl, u26, hu26, rfl⟩
          simp only [go_sem, ↓imp_tf, ↓imp_ft, ↓reduceIte, Nat.reduceBEq, Nat.reduceAdd, Nat.reduceMul, Nat.reduceSub, Nat.reduceEqDiff, Nat.reduceLT, Nat.reduceLeDiff, Option.map, Option.bind, List.map, List.length, reduceCtorEq, Option.toList, Option.getD, List.set, List.drop, List.take, Int.reduceToNat, Cc.cs, Fc.cs]
          refine ⟨hu26, by clear hMd hW hS hN hT hIf hI hM; unfold I64; simp only [big] at hfb; omega, (k + 1, u26 - u21, accf ++ modT fields[k].fl ++ typT fields[k].ty.dim fields[k].ty.base fields[k].ty.name ++ [nm1 fields[k].name] ++ [sg [59]], m26), ⟨by simp, by rw [show u21 + (u26 - u21) = u26 by clear hMd hW hS hN hT hIf hI hM; omega], ⟨by clear hMd hW hS hN hT hIf hI hM; simp only; omega, rfl, rfl⟩, .inl rfl⟩, ⟨leM_tr f1 (leM_tr (leM_tr (leM_tr (leM_tr (leM_tr (.inl rfl : leM mf mf) l23) l24) l25) (.inr hw26)) l26), by clear hMd hW hS hN hT hIf hI hM; simp only; omega, ?_⟩, by clear hMd hW hS hN hT hIf hI hM; simp only; omega⟩
          simp only
          rw [hft'.1, f3]
          simp only [fieldT, List.append_assoc]
        · clear hy hft
          have hkk : fields.take k = fields := List.take_of_length_le (by clear hMd hW hS hN hT hIf hI hM; omega)
          rw [hkk] at f3 hal
          refine ⟨fun hi => ?_, fun hi => ?_⟩
          · have hi0 : 0 < init.length := by clear hMd hW hS hN hT hIf hI hM; omega
            rw [if_pos hi0] at hb
            simp only [List.length_append, List.length_cons, List.length_nil] at hb
            have hini : (if 0 < init.length then [kw [115, 116, 97, 116, 105, 99]] ++ IT else []) = [kw [115, 116, 97, 116, 105, 99]] ++ IT := if_pos hi0
            refine ⟨by kernel_rfl, fun a27 c27 w27 hw27 hc27 rr27 => FnV_of ((hW [115, 116, 97, 116, 105, 99] (u21 + v) (accf) (by clear hMd hW hS hN hT hIf hI hM; first | omega | (simp only [List.length_append, List.length_cons, List.length_nil]; omega)) a27 c27 w27 rr27).mono ?_)⟩
            rintro r H' m27 hm27 ⟨l27, rfl, u27, hu27, rfl⟩
            simp only [go_sem, ↓imp_tf, ↓imp_ft, ↓reduceIte, Nat.reduceBEq, Nat.reduceAdd, Nat.reduceMul, Nat.reduceSub, Nat.reduceEqDiff, Nat.reduceLT, Nat.reduceLeDiff, Option.map, Option.bind, List.map, List.length, reduceCtorEq, Option.toList, Option.getD, List.set, List.drop, List.take, Int.reduceToNat, Cc.cs]
            refine ⟨hu27, by kernel_rfl, FnV_of ((hI hi0 x.sa x.sl x.sc ys m27 u27 (accf ++ [kw [115, 116, 97, 116, 105, 99]]) (leM_tr (leM_tr (leM_tr hlf f1) (.inr hw27)) l27) hsl (Rds_upM (leM_tr (leM_tr (leM_tr hlf f1) (.inr hw27)) l27) r4) (stsRep_upM (leM_tr (leM_tr (leM_tr hlf f1) (.inr hw27)) l27) s4) (by clear hMd hW hS hN hT hIf hI hM; first | omega | (simp only [List.length_append, List.length_cons, List.length_nil]; omega))).mono ?_)⟩
            rintro r H' m28 hm28 ⟨l28, rfl, u28, hu28, rfl⟩
            simp only [go_sem, ↓imp_tf, ↓imp_ft, ↓reduceIte, Nat.reduceBEq, Nat.reduceAdd, Nat.reduceMul, Nat.reduceSub, Nat.reduceEqDiff, Nat.reduceLT, Nat.reduceLeDiff, Option.map, Option.bind, List.map, List.length, reduceCtorEq, Option.toList, Option.getD, List.set, List.drop, List.take, Int.reduceToNat, Cc.cs]
            refine ⟨hu28, ?_⟩
            have hlm := (leM_tr (leM_tr (leM_tr (leM_tr hlf f1) (.inr hw27)) l27) l28)
            refine WP_loop puW (fun y : Nat × Nat × List Tk × Mem => ⟨[⟨0, [], .box 0 0⟩, ⟨88, [], .v (.slice x.ma x.ml x.mc)⟩, ⟨89, [], .v (.int .i64 x.ml)⟩, ⟨90, [], .v (.int .i64 y.1)⟩], [], [⟨0, 64, [.vec 1 (u28 + y.2.1)]⟩], [⟨1, u28 + y.2.1, 79, 4, y.2.2.1.length, tkCells y.2.2.1⟩], 200, y.2.2.2⟩)
              (fun y => leM m28 y.2.2.2 ∧ y.1 ≤ x.ml ∧ y.2.2.1 = accf ++ [kw [115, 116, 97, 116, 105, 99]] ++ IT ++ ((methods.take y.1).map MT).flatten) (fun y => x.ml - y.1) (0, 0, accf ++ [kw [115, 116, 97, 116, 105, 99]] ++ IT, m28) (by kernel_rfl) (fun _ _ => Nat.le_of_ble_eq_true rfl) (fun y hy => hy.1) (fun _ => ?_) ?_ ?_ ?_
            · simp only [go_sem, ↓imp_tf, ↓imp_ft, ↓reduceIte, Nat.reduceBEq, Nat.reduceAdd, Nat.reduceMul, Nat.reduceSub, Nat.reduceEqDiff, Nat.reduceLT, Nat.reduceLeDiff, Option.map, Option.bind, List.map, List.length, reduceCtorEq, Option.toList, Option.getD, List.set, List.drop, List.take, Int.reduceToNat]
            · simp only [go_sem, ↓imp_tf, ↓imp_ft, ↓reduceIte, Nat.reduceBEq, Nat.reduceAdd, Nat.reduceMul, Nat.reduceSub, Nat.reduceEqDiff, Nat.reduceLT, Nat.reduceLeDiff, Option.map, Option.bind, List.map, List.length, reduceCtorEq, Option.toList, Option.getD, List.set, List.drop, List.take, Int.reduceToNat]
              exact ⟨rfl, rfl, rfl⟩
            · exact ⟨.inl rfl, Nat.zero_le _, by simp⟩
            · rintro ⟨k, vm, acc', mm⟩ ⟨h1, h2, h3⟩
              simp only at h1 h2 h3
              have hal := congrArg List.length h3
              simp only [List.length_append, List.length_cons, List.length_nil] at hal
              have hle := flat_le (f := MT) methods k
              have hy : ∀ (hk : k < methods.length), ∃ X : Mc, (Rd mm (ptrAt x.ma (k * 8)) X.cs ∧ x.ma ≠ none) ∧ WrT 90 [.v (.agg ⟨X.cs⟩)] mm (u28 + vm) acc' (MT methods[k]) := fun hk => by
                have hrep := mdRep_up (leM_tr hlm h1) (ls_at s3 hk)
                have hrd := Rds_cells (Rds_upM (leM_tr hlm h1) r3) (by omega : k < x.ml)
                obtain ⟨X, hX⟩ := mdRep_mc hrep
                rw [hX] at hrep hrd
                have hsz := flat_le (f := MT) methods (k + 1)
                have hst := congrArg List.length (flat_takeT (f := MT) hk)
                rw [List.length_append] at hst
                exact ⟨X, hrd, hM _ (List.getElem_mem hk) X.cs mm _ acc' (leM_tr hlm h1) hrep (by clear hMd hW hS hN hT hIf hI hM; omega)⟩
              have hft := fun (hk : k < methods.length) => flat_takeT (f := MT) hk
              clear hM
              simp only [go_sem, ↓imp_tf, ↓imp_ft, ↓reduceIte, Nat.reduceBEq, Nat.reduceAdd, Nat.reduceMul, Nat.reduceSub, Nat.reduceEqDiff, Nat.reduceLT, Nat.reduceLeDiff, Option.map, Option.bind, List.map, List.length, reduceCtorEq, Option.toList, Option.getD, List.set, List.drop, List.take, Int.reduceToNat]
              refine ⟨fun hlt => ?_, fun hge => ?_⟩
              · have hk : k < methods.length := by clear hMd hW hS hN hT hIf hI hy; omega
                have hft' := hft hk
                clear hft
                refine Exists.elim (hy hk) fun X hy' => ⟨⟨by clear hMd hW hS hN hT hIf hI hy hy'; omega, hlt, hy'.1.2⟩, X.cs, ⟨hy'.1.1, rfl⟩, ?_⟩
                clear hy
                have hD := hy'.2
                clear hy'
                simp only [go_sem, ↓imp_tf, ↓imp_ft, ↓reduceIte, Nat.reduceBEq, Nat.reduceAdd, Nat.reduceMul, Nat.reduceSub, Nat.reduceEqDiff, Nat.reduceLT, Nat.reduceLeDiff, Option.map, Option.bind, List.map, List.length, reduceCtorEq, Option.toList, Option.getD, List.set, List.drop, List.take, Int.reduceToNat, Mc.cs]
                refine ⟨by kernel_rfl, FnV_of ((FnH_den hD (fun V => rfl)).mono ?_)⟩
                clear hD
                rintro r H' mz hmz ⟨lz, rfl, uz, huz, rfl⟩
                simp only [go_sem, ↓imp_tf, ↓imp_ft, ↓reduceIte, Nat.reduceBEq, Nat.reduceAdd, Nat.reduceMul, Nat.reduceSub, Nat.reduceEqDiff, Nat.reduceLT, Nat.reduceLeDiff, Option.map, Option.bind, List.map, List.length, reduceCtorEq, Option.toList, Option.getD, List.set, List.drop, List.take, Int.reduceToNat, Mc.cs]
                refine ⟨huz, by clear hMd hW hS hN hT hIf hI; unfold I64; simp only [big] at hmb; omega, (k + 1, uz - u28, acc' ++ MT methods[k], mz), ⟨by simp, by rw [show u28 + (uz - u28) = uz by omega], ⟨by simp only; omega, rfl, rfl⟩, .inl rfl⟩, ⟨leM_tr h1 lz, by simp only; omega, ?_⟩, by simp only; omega⟩
                simp only
                rw [hft', h3, List.append_assoc]
              · clear hy hft
                have hkk : methods.take k = methods := List.take_of_length_le (by clear hMd hW hS hN hT hIf hI; omega)
                rw [hkk] at h3 hal
                refine ⟨by kernel_rfl, fun az cz wz hwz hcz rz => FnV_of ((hS [125] (u28 + vm) acc' (by clear hMd hW hS hN hT hIf hI; omega) az cz wz rz).mono ?_)⟩
                clear hMd hW hS hN hT hIf hI
                rintro r H' mz hmz ⟨lz, rfl, uz, huz, rfl⟩
                simp only [go_sem, ↓imp_tf, ↓imp_ft, ↓reduceIte, Nat.reduceBEq, Nat.reduceAdd, Nat.reduceMul, Nat.reduceSub, Nat.reduceEqDiff, Nat.reduceLT, Nat.reduceLeDiff, Option.map, Option.bind, List.map, List.length, reduceCtorEq, Option.toList, Option.getD, List.set, List.drop, List.take, Int.reduceToNat]
                refine ⟨huz, leM_tr hlm (leM_tr h1 (leM_tr (.inr hwz) lz)), uz, by omega, ?_⟩
                have hfin : acc' ++ [sg [125]] = acc ++ classT IT MT ⟨x.fl, x.name, x.super, ifs, fields, methods, init⟩ := by
                  rw [h3, f3, classT]
                  dsimp only
                  rw [hH, hini]
                  simp only [List.append_assoc, List.cons_append, List.nil_append, List.append_nil]
                rw [hfin]
          · have hi0 : ¬ 0 < init.length := by clear hMd hW hS hN hT hIf hI hM; omega
            rw [if_neg hi0] at hb
            simp only [List.length_nil] at hb
            have hini : (if 0 < init.length then [kw [115, 116, 97, 116, 105, 99]] ++ IT else []) = [] := if_neg hi0
            have hlm := (leM_tr hlf f1)
            refine WP_loop puW (fun y : Nat × Nat × List Tk × Mem => ⟨[⟨0, [], .box 0 0⟩, ⟨88, [], .v (.slice x.ma x.ml x.mc)⟩, ⟨89, [], .v (.int .i64 x.ml)⟩, ⟨90, [], .v (.int .i64 y.1)⟩], [], [⟨0, 64, [.vec 1 ((u21 + v) + y.2.1)]⟩], [⟨1, (u21 + v) + y.2.1, 79, 4, y.2.2.1.length, tkCells y.2.2.1⟩], 200, y.2.2.2⟩)
              (fun y => leM mf y.2.2.2 ∧ y.1 ≤ x.ml ∧ y.2.2.1 = accf ++ ((methods.take y.1).map MT).flatten) (fun y => x.ml - y.1) (0, 0, accf, mf) (by kernel_rfl) (fun _ _ => Nat.le_of_ble_eq_true rfl) (fun y hy => hy.1) (fun _ => ?_) ?_ ?_ ?_
            · simp only [go_sem, ↓imp_tf, ↓imp_ft, ↓reduceIte, Nat.reduceBEq, Nat.reduceAdd, Nat.reduceMul, Nat.reduceSub, Nat.reduceEqDiff, Nat.reduceLT, Nat.reduceLeDiff, Option.map, Option.bind, List.map, List.length, reduceCtorEq, Option.toList, Option.getD, List.set, List.drop, List.take, Int.reduceToNat]
            · simp only [go_sem, ↓imp_tf, ↓imp_ft, ↓reduceIte, Nat.reduceBEq, Nat.reduceAdd, Nat.reduceMul, Nat.reduceSub, Nat.reduceEqDiff, Nat.reduceLT, Nat.reduceLeDiff, Option.map, Option.bind, List.map, List.length, reduceCtorEq, Option.toList, Option.getD, List.set, List.drop, List.take, Int.reduceToNat]
              exact ⟨rfl, rfl, rfl⟩
            · exact ⟨.inl rfl, Nat.zero_le _, by simp⟩
            · rintro ⟨k, vm, acc', mm⟩ ⟨h1, h2, h3⟩
              simp only at h1 h2 h3
              have hal := congrArg List.length h3
              simp only [List.length_append, List.length_cons, List.length_nil] at hal
              have hle := flat_le (f := MT) methods k
              have hy : ∀ (hk : k < methods.length), ∃ X : Mc, (Rd mm (ptrAt x.ma (k * 8)) X.cs ∧ x.ma ≠ none) ∧ WrT 90 [.v (.agg ⟨X.cs⟩)] mm ((u21 + v) + vm) acc' (MT methods[k]) := fun hk => by
                have hrep := mdRep_up (leM_tr hlm h1) (ls_at s3 hk)
                have hrd := Rds_cells (Rds_upM (leM_tr hlm h1) r3) (by omega : k < x.ml)
                obtain ⟨X, hX⟩ := mdRep_mc hrep
                rw [hX] at hrep hrd
                have hsz := flat_le (f := MT) methods (k + 1)
                have hst := congrArg List.length (flat_takeT (f := MT) hk)
                rw [List.length_append] at hst
                exact ⟨X, hrd, hM _ (List.getElem_mem hk) X.cs mm _ acc' (leM_tr hlm h1) hrep (by clear hMd hW hS hN hT hIf hI hM; omega)⟩
              have hft := fun (hk : k < methods.length) => flat_takeT (f := MT) hk
              clear hM
              simp only [go_sem, ↓imp_tf, ↓imp_ft, ↓reduceIte, Nat.reduceBEq, Nat.reduceAdd, Nat.reduceMul, Nat.reduceSub, Nat.reduceEqDiff, Nat.reduceLT, Nat.reduceLeDiff, Option.map, Option.bind, List.map, List.length, reduceCtorEq, Option.toList, Option.getD, List.set, List.drop, List.take, Int.reduceToNat]
              refine ⟨fun hlt => ?_, fun hge => ?_⟩
              · have hk : k < methods.length := by clear hMd hW hS hN hT hIf hI hy; omega
                have hft' := hft hk
                clear hft
                refine Exists.elim (hy hk) fun X hy' => ⟨⟨by clear hMd hW hS hN hT hIf hI hy hy'; omega, hlt, hy'.1.2⟩, X.cs, ⟨hy'.1.1, rfl⟩, ?_⟩
                clear hy
                have hD := hy'.2
                clear hy'
                simp only [go_sem, ↓imp_tf, ↓imp_ft, ↓reduceIte, Nat.reduceBEq, Nat.reduceAdd, Nat.reduceMul, Nat.reduceSub, Nat.reduceEqDiff, Nat.reduceLT, Nat.reduceLeDiff, Option.map, Option.bind, List.map, List.length, reduceCtorEq, Option.toList, Option.getD, List.set, List.drop, List.take, Int.reduceToNat, Mc.cs]
                refine ⟨by kernel_rfl, FnV_of ((FnH_den hD (fun V => rfl)).mono ?_)⟩
                clear hD
                rintro r H' mz hmz ⟨lz, rfl, uz, huz, rfl⟩
                simp only [go_sem, ↓imp_tf, ↓imp_ft, ↓reduceIte, Nat.reduceBEq, Nat.reduceAdd, Nat.reduceMul, Nat.reduceSub, Nat.reduceEqDiff, Nat.reduceLT, Nat.reduceLeDiff, Option.map, Option.bind, List.map, List.length, reduceCtorEq, Option.toList, Option.getD, List.set, List.drop, List.take, Int.reduceToNat, Mc.cs]
                refine ⟨huz, by clear hMd hW hS hN hT hIf hI; unfold I64; simp only [big] at hmb; omega, (k + 1, uz - (u21 + v), acc' ++ MT methods[k], mz), ⟨by simp, by rw [show (u21 + v) + (uz - (u21 + v)) = uz by omega], ⟨by simp only; omega, rfl, rfl⟩, .inl rfl⟩, ⟨leM_tr h1 lz, by simp only; omega, ?_⟩, by simp only; omega⟩
                simp only
                rw [hft', h3, List.append_assoc]
              · clear hy hft
                have hkk : methods.take k = methods := List.take_of_length_le (by clear hMd hW hS hN hT hIf hI; omega)
                rw [hkk] at h3 hal
                refine ⟨by kernel_rfl, fun az cz wz hwz hcz rz => FnV_of ((hS [125] ((u21 + v) + vm) acc' (by clear hMd hW hS hN hT hIf hI; omega) az cz wz rz).mono ?_)⟩
                clear hMd hW hS hN hT hIf hI
                rintro r H' mz hmz ⟨lz, rfl, uz, huz, rfl⟩
                simp only [go_sem, ↓imp_tf, ↓imp_ft, ↓reduceIte, Nat.reduceBEq, Nat.reduceAdd, Nat.reduceMul, Nat.reduceSub, Nat.reduceEqDiff, Nat.reduceLT, Nat.reduceLeDiff, Option.map, Option.bind, List.map, List.length, reduceCtorEq, Option.toList, Option.getD, List.set, List.drop, List.take, Int.reduceToNat]
                refine ⟨huz, leM_tr hlm (leM_tr h1 (leM_tr (.inr hwz) lz)), uz, by omega, ?_⟩
                have hfin : acc' ++ [sg [125]] = acc ++ classT IT MT ⟨x.fl, x.name, x.super, ifs, fields, methods, init⟩ := by
                  rw [h3, f3, classT]
                  dsimp only
                  rw [hH, hini]
                  simp only [List.append_assoc, List.cons_append, List.nil_append, List.append_nil]
                rw [hfin]
end Go.Proofs.YtalalcpefggniaaGreatDoor.E

/- ast, part Xb: the text of a program; Format. -/
set_option linter.unusedSimpArgs false
set_option linter.unusedVariables false
namespace Go.Proofs.YtalalcpefggniaaGreatDoor.E
open Go

def brT (l : List Tk) : List Tk := sg [123] :: (l ++ [sg [125]])
def Ex.args : Ex → List Ex | .mk _ _ _ _ _ args => args
/-- The tokens of a statement, of those of its blocks. -/
def stT (k : Int) (nm : List UInt8) (ty : Ty) (tg ex : Ex) (B A : List Tk) (al : Nat) : List Tk :=
  if k = 4 then [kw [105, 102]] ++ listT [exprT ex] ++ brT B ++ (if 0 < al then [kw [101, 108, 115, 101]] ++ brT A else [])
  else if k = 5 then [kw [119, 104, 105, 108, 101]] ++ listT [exprT ex] ++ brT B
  else if k = 8 then [kw [116, 114, 121]] ++ brT B ++ [kw [99, 97, 116, 99, 104]] ++ [sg [40]] ++ typT ty.dim ty.base ty.name ++ [nm1 nm] ++ [sg [41]] ++ brT A
  else if k = 9 then [kw [115, 121, 110, 99]] ++ listT [exprT ex] ++ brT B
  else if k = 10 then brT B
  else (if k = 1 then typT ty.dim ty.base ty.name ++ [nm1 nm] ++ [sg [61]] ++ exprT ex
    else if k = 2 then exprT tg ++ [sg [61]] ++ exprT ex
    else if k = 3 then exprT ex
    else if k = 6 then [kw [114, 101, 116, 117, 114, 110]] ++ (if ex.k ≠ 0 then exprT ex else [])
    else if k = 7 then [kw [116, 104, 114, 111, 119]] ++ exprT ex
    else if k = 11 then [kw [115, 117, 112, 101, 114]] ++ listT (ex.args.map exprT)
    else []) ++ [sg [59]]
mutual
def stmtT : St → List Tk
  | .mk k nm ty tg ex body alt => stT k nm ty tg ex (stmtsT body) (stmtsT alt) alt.length
def stmtsT : List St → List Tk
  | [] => []
  | e :: r => stmtT e ++ stmtsT r
end
def paramT (p : Pc) : List Tk := typT p.ty.dim p.ty.base p.ty.name ++ [nm1 p.name]
def methodT (d : Md) : List Tk :=
  modT d.fl ++ (if d.name = initS then [kw [110, 101, 119]] else typT d.res.dim d.res.base d.res.name ++ [nm1 d.name]) ++ listT (d.params.map paramT) ++ (if d.hb = true then brT (stmtsT d.body) else [sg [59]])
def clsT (d : Cd) : List Tk := classT (brT (stmtsT d.init)) methodT d
def progT (l : List Cd) : List Tk := (l.map clsT).flatten
/-- What Format returns. -/
def fmtP (l : List Cd) : List UInt8 × Int := if (checkL [] l).2 = 0 then joinL (progT l) else ([], (checkL [] l).2)
/-- What is asked of a class that is written. -/
structure WrOk (d : Cd) (m : Mem) : Prop where
  dim : ∀ f ∈ d.fields, f.ty.dim ≤ 1000
  blk : 0 < d.init.length → ∀ a n c xs m' u acc, leM m m' → n = d.init.length → Rds m' a n 23 xs → stsRep m' d.init xs → acc.length + (brT (stmtsT d.init)).length ≤ cap → WrT 89 [.v (.slice a n c)] m' u acc (brT (stmtsT d.init))
  mth : ∀ e ∈ d.methods, ∀ cs m' u acc, leM m m' → mdRep m' e cs → acc.length + (methodT e).length ≤ cap → WrT 90 [.v (.agg ⟨cs⟩)] m' u acc (methodT e)
set_option maxHeartbeats 4000000 in
set_option maxRecDepth 20000 in
theorem formatP_spec (l : List Cd) (p : Option Addr) (n c : Nat) (m : Mem) (hg : Glob m) (hC : ∀ d ∈ l, ChkOk d m) (hW : (checkL [] l).2 = 0 → ∀ d ∈ l, WrOk d m) (hT : (checkL [] l).2 = 0 → (progT l).length ≤ cap ∧ AllT TkOk (progT l)) (h : prRep m l p n c) :
    FnH Tryz.prog 13 [.v (.slice p n c)] ⟨[], []⟩ m fun r H' m' => leM m m' ∧ H' = ⟨[], []⟩ ∧ r = .tup [.v (.string (bs (fmtP l).1)), .v (.int .i64 (fmtP l).2)] := by
  have hCk := check_spec l p n c m hg hC h
  obtain ⟨hl, hcp, hn, xs, r1, s1⟩ := h
  have hJ := fun (h0 : (checkL [] l).2 = 0) (m' : Mem) (hle : leM m m') (a : Option Addr) (c : Nat) (hr : Rds m' a (progT l).length 4 (tkCells (progT l))) => joinT_spec (progT l) a _ c m' (hg.upM hle) hr (hT h0).2 (by have := (hT h0).1; simp only [cap] at this; omega)
  have hJ0 := fun (m' : Mem) (hle : leM m m') => joinT_spec [] none 0 0 m' (hg.upM hle) Rds_nil (fun t ht => by cases ht) (by omega)
  have hX : ∀ (h0 : (checkL [] l).2 = 0) (mm : Mem) (hle : leM m mm) (k : Nat) (hk : k < l.length), ∃ X : Cc, (Rd mm (ptrAt p (k * 7)) X.cs ∧ p ≠ none) ∧ ∀ u acc, acc.length + (clsT l[k]).length ≤ cap → WrT 38 [.v (.agg ⟨X.cs⟩)] mm u acc (clsT l[k]) := fun h0 mm hle k hk => by
    have hrep := cdRep_up hle (ls_at s1 hk)
    have hrd := Rds_cells (Rds_upM hle r1) (by omega : k < n)
    obtain ⟨X, hX⟩ := cdRep_cc hrep
    rw [hX] at hrep hrd
    have w := hW h0 _ (List.getElem_mem hk)
    exact ⟨X, hrd, fun u acc hb => classW_spec (brT (stmtsT l[k].init)) methodT l[k] X.cs mm u acc hrep w.dim hb (fun h1 a n c xs m' u acc hle2 => w.blk h1 a n c xs m' u acc (leM_tr hle hle2)) (fun e he cs m' u acc hle2 => w.mth e he cs m' u acc (leM_tr hle hle2))⟩
  clear hC hW
  refine enter cfW puW Tryz.func13 rfl rfl (by kernel_rfl) rfl ?_ ?_
  · simp only [go_sem, ↓imp_tf, ↓imp_ft, ↓reduceIte, Nat.reduceBEq, Nat.reduceAdd, Nat.reduceMul, Nat.reduceSub, Nat.reduceEqDiff, Nat.reduceLT, Nat.reduceLeDiff, Option.map, Option.bind, List.map, List.length, reduceCtorEq, Option.toList, Option.getD, List.set, List.drop, List.take, Int.reduceToNat]
  · simp only [go_sem, ↓imp_tf, ↓imp_ft, ↓reduceIte, Nat.reduceBEq, Nat.reduceAdd, Nat.reduceMul, Nat.reduceSub, Nat.reduceEqDiff, Nat.reduceLT, Nat.reduceLeDiff, Option.map, Option.bind, List.map, List.length, reduceCtorEq, Option.toList, Option.getD, List.set, List.drop, List.take, Int.reduceToNat]
    refine ⟨by kernel_rfl, FnV_of (hCk.mono ?_)⟩
    clear hCk
    rintro r H' m1 hm1 ⟨l1, rfl, rfl⟩
    simp only [go_sem, ↓imp_tf, ↓imp_ft, ↓reduceIte, Nat.reduceBEq, Nat.reduceAdd, Nat.reduceMul, Nat.reduceSub, Nat.reduceEqDiff, Nat.reduceLT, Nat.reduceLeDiff, Option.map, Option.bind, List.map, List.length, reduceCtorEq, Option.toList, Option.getD, List.set, List.drop, List.take, Int.reduceToNat]
    refine ⟨fun hne => ⟨l1, ?_⟩, fun h0 => ?_⟩
    · clear hJ hJ0 hX
      rw [fmtP, if_neg hne]
    · have hf : fmtP l = joinL (progT l) := by rw [fmtP, if_pos h0]
      have hTl := (hT h0).1
      have hJ1 := hJ h0
      have hX1 := hX h0
      clear hJ hX hT
      refine WP_loop puW (fun x : Mem ⊕ (Nat × Nat × List Tk × Mem) => match x with
          | .inl mm => ⟨[⟨6, [], .box 0 0⟩, ⟨19, [], .v (.slice p n c)⟩, ⟨20, [], .v (.int .i64 n)⟩, ⟨21, [], .v (.int .i64 0)⟩], [], [⟨0, 64, [.v (.slice none 0 0)]⟩], [], 50, mm⟩
          | .inr y => ⟨[⟨6, [], .box 0 0⟩, ⟨19, [], .v (.slice p n c)⟩, ⟨20, [], .v (.int .i64 n)⟩, ⟨21, [], .v (.int .i64 y.1)⟩], [], [⟨0, 64, [.vec 52 y.2.1]⟩], [⟨52, y.2.1, 79, 4, y.2.2.1.length, tkCells y.2.2.1⟩], 100, y.2.2.2⟩)
        (fun x => match x with
          | .inl mm => leM m1 mm
          | .inr y => leM m1 y.2.2.2 ∧ 1 ≤ y.1 ∧ y.1 ≤ n ∧ y.2.2.1 = progT (l.take y.1)) (fun x => match x with | .inl _ => n + 1 | .inr y => n - y.1) (.inl m1) (by kernel_rfl) ?_ ?_ (fun x => ?_) ?_ ?_ ?_
      · rintro (mm | y) _ <;> exact Nat.le_of_ble_eq_true rfl
      · rintro (mm | y) h
        · exact h
        · exact h.1
      · cases x
        · simp only [go_sem, ↓imp_tf, ↓imp_ft, ↓reduceIte, Nat.reduceBEq, Nat.reduceAdd, Nat.reduceMul, Nat.reduceSub, Nat.reduceEqDiff, Nat.reduceLT, Nat.reduceLeDiff, Option.map, Option.bind, List.map, List.length, reduceCtorEq, Option.toList, Option.getD, List.set, List.drop, List.take, Int.reduceToNat]
        · simp only [go_sem, ↓imp_tf, ↓imp_ft, ↓reduceIte, Nat.reduceBEq, Nat.reduceAdd, Nat.reduceMul, Nat.reduceSub, Nat.reduceEqDiff, Nat.reduceLT, Nat.reduceLeDiff, Option.map, Option.bind, List.map, List.length, reduceCtorEq, Option.toList, Option.getD, List.set, List.drop, List.take, Int.reduceToNat]
      · simp only [go_sem, ↓imp_tf, ↓imp_ft, ↓reduceIte, Nat.reduceBEq, Nat.reduceAdd, Nat.reduceMul, Nat.reduceSub, Nat.reduceEqDiff, Nat.reduceLT, Nat.reduceLeDiff, Option.map, Option.bind, List.map, List.length, reduceCtorEq, Option.toList, Option.getD, List.set, List.drop, List.take, Int.reduceToNat]
      · exact .inl rfl
      · rintro (mm | ⟨k, v, acc', mm⟩) hI
        · have hI : leM m1 mm := hI
          have hX2 := hX1 mm (leM_tr l1 hI) 0
          rw [Nat.zero_mul] at hX2
          have hJ2 := hJ0 mm (leM_tr l1 hI)
          clear hJ1 hX1 hJ0
          simp only [go_sem, ↓imp_tf, ↓imp_ft, ↓reduceIte, Nat.reduceBEq, Nat.reduceAdd, Nat.reduceMul, Nat.reduceSub, Nat.reduceEqDiff, Nat.reduceLT, Nat.reduceLeDiff, Option.map, Option.bind, List.map, List.length, reduceCtorEq, Option.toList, Option.getD, List.set, List.drop, List.take, Int.reduceToNat]
          refine ⟨fun hlt => ?_, fun hge => ⟨by kernel_rfl, FnV_of (hJ2.mono ?_)⟩⟩
          · clear hJ2
            have hk : 0 < l.length := by clear hX2; omega
            refine Exists.elim (hX2 hk) fun X hX3 => ⟨⟨by clear hX2 hX3; omega, hlt, hX3.1.2⟩, X.cs, ⟨hX3.1.1, rfl⟩, ?_⟩
            clear hX2
            have hD := FnH_adopt (tW := 64) (el := 79) (sz := 4) (by decide) (by decide) (fun V V' h => by simp [den, denB, denA, h]) (hX3.2 0 [] (by
              clear hX3
              have := flat_le (f := clsT) l 1
              rw [flat_takeT hk] at this
              simp only [progT] at hTl
              simp only [List.take_zero, List.map_nil, List.flatten_nil, List.nil_append, List.length_nil] at this ⊢
              omega))
            clear hX3
            simp only [go_sem, ↓imp_tf, ↓imp_ft, ↓reduceIte, Nat.reduceBEq, Nat.reduceAdd, Nat.reduceMul, Nat.reduceSub, Nat.reduceEqDiff, Nat.reduceLT, Nat.reduceLeDiff, Option.map, Option.bind, List.map, List.length, reduceCtorEq, Option.toList, Option.getD, List.set, List.drop, List.take, Int.reduceToNat, Cc.cs]
            refine ⟨by kernel_rfl, FnV_of ((FnH_den hD (fun V => rfl)).mono ?_)⟩
            clear hD
            rintro r H' m2 hm2 ⟨l2, rfl, w, hw, rfl⟩
            simp only [go_sem, ↓imp_tf, ↓imp_ft, ↓reduceIte, Nat.reduceBEq, Nat.reduceAdd, Nat.reduceMul, Nat.reduceSub, Nat.reduceEqDiff, Nat.reduceLT, Nat.reduceLeDiff, Option.map, Option.bind, List.map, List.length, reduceCtorEq, Option.toList, Option.getD, List.set, List.drop, List.take, Int.reduceToNat, Cc.cs]
            refine ⟨by unfold I64; omega, .inr (1, w, clsT l[0], m2), ?_⟩
            simp only [go_sem, ↓imp_tf, ↓imp_ft, ↓reduceIte, Nat.reduceBEq, Nat.reduceAdd, Nat.reduceMul, Nat.reduceSub, Nat.reduceEqDiff, Nat.reduceLT, Nat.reduceLeDiff, Option.map, Option.bind, List.map, List.length, reduceCtorEq, Option.toList, Option.getD, List.set, List.drop, List.take, Int.reduceToNat]
            refine ⟨by simp, ⟨leM_tr hI l2, by omega, ?_⟩, by omega⟩
            have := flat_takeT (f := clsT) hk
            rw [progT, this]
            simp
          · clear hX2
            rintro r H' m2 hm2 ⟨l2, rfl, rfl⟩
            simp only [go_sem, ↓imp_tf, ↓imp_ft, ↓reduceIte, Nat.reduceBEq, Nat.reduceAdd, Nat.reduceMul, Nat.reduceSub, Nat.reduceEqDiff, Nat.reduceLT, Nat.reduceLeDiff, Option.map, Option.bind, List.map, List.length, reduceCtorEq, Option.toList, Option.getD, List.set, List.drop, List.take, Int.reduceToNat]
            have : l = [] := List.length_eq_zero_iff.1 (by omega)
            rw [hf, this]
            exact ⟨leM_tr (leM_tr l1 hI) l2, rfl⟩
        · have hI : leM m1 mm ∧ 1 ≤ k ∧ k ≤ n ∧ acc' = progT (l.take k) := hI
          have q1 := hI.1
          have q2 := hI.2.1
          have q3 := hI.2.2.1
          have q4 := hI.2.2.2
          have hX2 := hX1 mm (leM_tr l1 q1) k
          have hle := fun (hk : k < l.length) => And.intro (flat_le (f := clsT) l (k + 1)) (flat_takeT (f := clsT) hk)
          clear hX1 hJ0
          simp only [go_sem, ↓imp_tf, ↓imp_ft, ↓reduceIte, Nat.reduceBEq, Nat.reduceAdd, Nat.reduceMul, Nat.reduceSub, Nat.reduceEqDiff, Nat.reduceLT, Nat.reduceLeDiff, Option.map, Option.bind, List.map, List.length, reduceCtorEq, Option.toList, Option.getD, List.set, List.drop, List.take, Int.reduceToNat]
          refine ⟨fun hlt => ?_, fun hge => ⟨by kernel_rfl, fun a1 c1 w1 hw1 hc1 rr1 => ?_⟩⟩
          · clear hJ1
            have hk : k < l.length := by clear hX2; omega
            have hle' := hle hk
            clear hle
            refine Exists.elim (hX2 hk) fun X hX3 => ⟨⟨by clear hX2 hX3; omega, hlt, hX3.1.2⟩, X.cs, ⟨hX3.1.1, rfl⟩, ?_⟩
            clear hX2
            have hD := hX3.2 v acc' (by
              clear hX3
              have h1 := hle'.1
              rw [hle'.2] at h1
              simp only [progT] at hTl q4
              rw [q4]
              simp only [List.length_append] at h1
              omega)
            clear hX3
            simp only [go_sem, ↓imp_tf, ↓imp_ft, ↓reduceIte, Nat.reduceBEq, Nat.reduceAdd, Nat.reduceMul, Nat.reduceSub, Nat.reduceEqDiff, Nat.reduceLT, Nat.reduceLeDiff, Option.map, Option.bind, List.map, List.length, reduceCtorEq, Option.toList, Option.getD, List.set, List.drop, List.take, Int.reduceToNat, Cc.cs]
            refine ⟨by kernel_rfl, FnV_of ((FnH_den hD (fun V => rfl)).mono ?_)⟩
            clear hD
            rintro r H' m2 hm2 ⟨l2, rfl, w, hw, rfl⟩
            simp only [go_sem, ↓imp_tf, ↓imp_ft, ↓reduceIte, Nat.reduceBEq, Nat.reduceAdd, Nat.reduceMul, Nat.reduceSub, Nat.reduceEqDiff, Nat.reduceLT, Nat.reduceLeDiff, Option.map, Option.bind, List.map, List.length, reduceCtorEq, Option.toList, Option.getD, List.set, List.drop, List.take, Int.reduceToNat, Cc.cs]
            refine ⟨hw, by unfold I64; simp only [big] at hn; omega, .inr (k + 1, w, acc' ++ clsT l[k], m2), ?_⟩
            simp only [go_sem, ↓imp_tf, ↓imp_ft, ↓reduceIte, Nat.reduceBEq, Nat.reduceAdd, Nat.reduceMul, Nat.reduceSub, Nat.reduceEqDiff, Nat.reduceLT, Nat.reduceLeDiff, Option.map, Option.bind, List.map, List.length, reduceCtorEq, Option.toList, Option.getD, List.set, List.drop, List.take, Int.reduceToNat]
            refine ⟨by simp, ⟨leM_tr q1 l2, by omega, ?_⟩, by omega⟩
            rw [q4, progT, progT, hle'.2]
          · clear hX2
            have hkk : acc' = progT l := by rw [q4, List.take_of_length_le (by clear hJ1; omega)]
            subst hkk
            refine FnV_of ((hJ1 w1 (leM_tr (leM_tr l1 q1) (.inr hw1)) a1 c1 rr1).mono ?_)
            clear hJ1
            rintro r H' m2 hm2 ⟨l2, rfl, rfl⟩
            rw [← hf]
            simp only [go_sem, ↓imp_tf, ↓imp_ft, ↓reduceIte, Nat.reduceBEq, Nat.reduceAdd, Nat.reduceMul, Nat.reduceSub, Nat.reduceEqDiff, Nat.reduceLT, Nat.reduceLeDiff, Option.map, Option.bind, List.map, List.length, reduceCtorEq, Option.toList, Option.getD, List.set, List.drop, List.take, Int.reduceToNat]
            exact leM_tr (leM_tr (leM_tr l1 q1) (.inr hw1)) l2
end Go.Proofs.YtalalcpefggniaaGreatDoor.E

/- ast, part Y: the examples. -/
set_option linter.unusedSimpArgs false
set_option linter.unusedVariables false
namespace Go.Proofs.YtalalcpefggniaaGreatDoor.E
open Go

def smpL : List Cd := [⟨0, [112, 47, 65], objS, [], [⟨0, ⟨0, 74, []⟩, [120]⟩], [], []⟩]
def badL : List Cd := [⟨0, [112, 47, 97], objS, [], [], [], []⟩]
set_option maxHeartbeats 4000000 in
set_option maxRecDepth 20000 in
theorem sample_spec (m : Mem) : FnH Tryz.prog 31 [] ⟨[], []⟩ m fun r H' m' => ∃ (a : Option Addr) (c : Nat), leM m m' ∧ Rds m' a 1 5 [.int .i64 0, .int .i64 0, .int .u8 74, .string (bs []), .string (bs [120])] ∧ 1 ≤ c ∧ r = .vec 1 0 ∧
    H' = ⟨[], [⟨1, 0, 55, 7, 1, [.int .i64 0, .string (bs [112, 47, 65]), .string (bs objS), .slice none 0 0, .slice a 1 c, .slice none 0 0, .slice none 0 0]⟩]⟩ := by
  refine enter cfW puW Tryz.func31 rfl rfl (by kernel_rfl) rfl ?_ ?_
  · simp only [go_sem, ↓imp_tf, ↓imp_ft, ↓reduceIte, Nat.reduceBEq, Nat.reduceAdd, Nat.reduceMul, Nat.reduceSub, Nat.reduceEqDiff, Nat.reduceLT, Nat.reduceLeDiff, Option.map, Option.bind, List.map, List.length, reduceCtorEq, Option.toList, Option.getD, List.set, List.drop, List.take, Int.reduceToNat]
  · simp only [go_sem, ↓imp_tf, ↓imp_ft, ↓reduceIte, Nat.reduceBEq, Nat.reduceAdd, Nat.reduceMul, Nat.reduceSub, Nat.reduceEqDiff, Nat.reduceLT, Nat.reduceLeDiff, Option.map, Option.bind, List.map, List.length, reduceCtorEq, Option.toList, Option.getD, List.set, List.drop, List.take, Int.reduceToNat]
    intro a c m1 hm1 hc hr
    exact ⟨a, c, .inr hm1, hr, hc, rfl⟩
def oneE : Ex := .mk 1 1 [] [] zTy []
def zeroE : Ex := .mk 1 0 [] [] zTy []
def twoE : Ex := .mk 1 2 [] [] zTy []
def aE : Ex := .mk 6 0 [97] [] zTy []
def sumE : Ex := .mk 16 0 [43] [] zTy [oneE, negE aE]
def arrE : Ex := .mk 14 0 [] [] ⟨1, 73, []⟩ [twoE]
def idxE : Ex := .mk 9 0 [] [] zTy [arrE, zeroE]
def blkS : St := .mk 10 [] zTy zE zE [] []
set_option maxRecDepth 100000 in
theorem ex1 : fmtE sumE = ([49, 32, 43, 32, 40, 32, 45, 32, 97, 32, 41], 0) := by decide +kernel
set_option maxRecDepth 100000 in
theorem ex2 : fmtE idxE = ([110, 101, 119, 32, 105, 110, 116, 32, 91, 32, 93, 32, 91, 32, 50, 32, 93, 32, 91, 32, 48, 32, 93], 0) := by decide +kernel
set_option maxRecDepth 100000 in
theorem ex3 : fmtP smpL = ([99, 108, 97, 115, 115, 32, 112, 58, 58, 65, 32, 101, 120, 116, 101, 110, 100, 115, 32, 108, 97, 110, 103, 58, 58, 79, 98, 106, 101, 99, 116, 32, 123, 32, 108, 111, 110, 103, 32, 120, 32, 59, 32, 125], 0) := by decide +kernel
theorem ex4 : (checkL [] badL).2 = 4 := by decide +kernel
theorem ex5 : depthE sumE = 3 := by decide +kernel
theorem ex6 : validE sumE = true := by decide +kernel
theorem ex7 : validS blkS = true := by decide +kernel
theorem ex8 : validE zE = false := by decide +kernel
theorem ex9 : all2 eqC smpL smpL = true := by decide +kernel
theorem ex10 : all2 eqC smpL [] = false := by decide +kernel
theorem ex_mk {m : Mem} {k n : Int} {s c : List UInt8} {ty : Ty} {args : List Ex} {a : Option Addr} {cp : Nat} {xs : List Value} (hcp : args.length ≤ cp) (hr : Rds m a args.length 8 xs) (hok : ExOk k n s c ty args.length) (hes : exsRep m args xs) :
    exRep m (.mk k n s c ty args) (exC k n s c ty (.slice a args.length cp)) := by
  simp only [exRep]
  exact ⟨a, cp, xs, rfl, hcp, hr, hok, hes⟩
theorem exs_nil {m : Mem} {xs : List Value} : exsRep m [] xs := by simp only [exsRep]
theorem exs_cons {m : Mem} {e : Ex} {r : List Ex} {cs xs : List Value} (h : exRep m e cs) (hc : cs.length = 8) (hr : exsRep m r xs) : exsRep m (e :: r) (cs ++ xs) := by
  simp only [exsRep]
  rw [← hc, List.take_left, List.drop_left]
  exact ⟨h, hr⟩
theorem leaf_rep {m : Mem} {k n : Int} {s : List UInt8} (hk : I64 k) (hn : I64 n) (hs : s.length ≤ big) : exRep m (.mk k n s [] zTy []) (exC k n s [] zTy (.slice none 0 0)) :=
  ex_mk (Nat.le_refl _) Rds_nil ⟨hk, hn, hs, Nat.zero_le _, z_ok, Nat.zero_le _⟩ exs_nil
theorem neg_rep {m : Mem} {e : Ex} {cs : List Value} {a : Option Addr} {c : Nat} (hc : 1 ≤ c) (he : exRep m e cs) (hr : Rds m a 1 8 cs) : exRep m (negE e) (exC 15 0 [45] [] zTy (.slice a 1 c)) := by
  have hl : cs.length = 8 := ex_len he
  exact ex_mk (args := [e]) hc hr ⟨by unfold I64; decide, by unfold I64; decide, by decide, by decide, z_ok, Nat.le_of_ble_eq_true rfl⟩ (exs_one he hl)
theorem aE_rep {m : Mem} : exRep m aE (exC 6 0 [97] [] zTy (.slice none 0 0)) := leaf_rep (by unfold I64; decide) (by unfold I64; decide) (by decide)
theorem oneE_rep {m : Mem} : exRep m oneE (exC 1 1 [] [] zTy (.slice none 0 0)) := leaf_rep (by unfold I64; decide) (by unfold I64; decide) (by decide)
theorem zeroE_rep {m : Mem} : exRep m zeroE (exC 1 0 [] [] zTy (.slice none 0 0)) := leaf_rep (by unfold I64; decide) (by unfold I64; decide) (by decide)
theorem twoE_rep {m : Mem} : exRep m twoE (exC 1 2 [] [] zTy (.slice none 0 0)) := leaf_rep (by unfold I64; decide) (by unfold I64; decide) (by decide)
theorem sum_rep {m : Mem} {a a2 : Option Addr} {c c2 : Nat} (hc : 1 ≤ c) (hr : Rds m a 1 8 (exC 6 0 [97] [] zTy (.slice none 0 0))) (hc2 : 2 ≤ c2) (hr2 : Rds m a2 2 8 (exC 1 1 [] [] zTy (.slice none 0 0) ++ exC 15 0 [45] [] zTy (.slice a 1 c))) :
    exRep m sumE (exC 16 0 [43] [] zTy (.slice a2 2 c2)) :=
  ex_mk (args := [oneE, negE aE]) hc2 hr2 ⟨by unfold I64; decide, by unfold I64; decide, by decide, by decide, z_ok, by decide⟩ (exs_cons oneE_rep rfl (exs_one (neg_rep hc aE_rep hr) rfl))
theorem idx_rep {m : Mem} {a a2 : Option Addr} {c c2 : Nat} (hc : 1 ≤ c) (hr : Rds m a 1 8 (exC 1 2 [] [] zTy (.slice none 0 0))) (hc2 : 2 ≤ c2) (hr2 : Rds m a2 2 8 (exC 14 0 [] [] ⟨1, 73, []⟩ (.slice a 1 c) ++ exC 1 0 [] [] zTy (.slice none 0 0))) :
    exRep m idxE (exC 9 0 [] [] zTy (.slice a2 2 c2)) :=
  ex_mk (args := [arrE, zeroE]) hc2 hr2 ⟨by unfold I64; decide, by unfold I64; decide, by decide, by decide, z_ok, by decide⟩
    (exs_cons (ex_mk (args := [twoE]) hc hr ⟨by unfold I64; decide, by unfold I64; decide, by decide, by decide, ⟨by unfold I64; decide, by decide, by decide⟩, by decide⟩ (exs_one twoE_rep rfl)) rfl (exs_one zeroE_rep rfl))
theorem smp_rep {m : Mem} {a a2 : Option Addr} {c c2 : Nat} (hc : 1 ≤ c) (hr : Rds m a 1 5 [.int .i64 0, .int .i64 0, .int .u8 74, .string (bs []), .string (bs [120])]) (hc2 : 1 ≤ c2)
    (hr2 : Rds m a2 1 7 [.int .i64 0, .string (bs [112, 47, 65]), .string (bs objS), .slice none 0 0, .slice a 1 c, .slice none 0 0, .slice none 0 0]) : prRep m smpL a2 1 c2 := by
  refine ⟨rfl, hc2, by decide, _, hr2, ?_, trivial⟩
  refine ⟨⟨0, [112, 47, 65], objS, none, 0, 0, a, 1, c, none, 0, 0, none, 0, 0⟩, ⟨rfl, rfl, rfl, rfl⟩, ⟨rfl, Nat.le_refl _, rfl, hc, rfl, Nat.le_refl _, rfl, Nat.le_refl _⟩, ?_, Rds_nil, hr, [], [], Rds_nil, trivial, Rds_nil, sts_nil⟩
  exact ⟨by unfold I64; decide, by decide, by decide, by decide, (fun s h => by cases h), by decide, (fun s h => by rw [List.mem_singleton.1 h]; exact ⟨by unfold I64; decide, ⟨by unfold I64; decide, by decide, by decide⟩, by decide⟩), by decide, by decide⟩
theorem bad_rep {m : Mem} {a2 : Option Addr} {c2 : Nat} (hc2 : 1 ≤ c2) (hr2 : Rds m a2 1 7 [.int .i64 0, .string (bs [112, 47, 97]), .string (bs objS), .slice none 0 0, .slice none 0 0, .slice none 0 0, .slice none 0 0]) : prRep m badL a2 1 c2 := by
  refine ⟨rfl, hc2, by decide, _, hr2, ?_, trivial⟩
  refine ⟨⟨0, [112, 47, 97], objS, none, 0, 0, none, 0, 0, none, 0, 0, none, 0, 0⟩, ⟨rfl, rfl, rfl, rfl⟩, ⟨rfl, Nat.le_refl _, rfl, Nat.le_refl _, rfl, Nat.le_refl _, rfl, Nat.le_refl _⟩, ?_, Rds_nil, Rds_nil, [], [], Rds_nil, trivial, Rds_nil, sts_nil⟩
  exact ⟨by unfold I64; decide, by decide, by decide, by decide, (fun s h => by cases h), by decide, (fun s h => by cases h), by decide, by decide⟩
theorem nil_rep {m : Mem} : prRep m [] none 0 0 := ⟨rfl, Nat.le_refl _, Nat.zero_le _, [], Rds_nil, trivial⟩
theorem chk0 {d : Cd} {m : Mem} (hm : d.methods = []) (hi : d.init = []) : ChkOk d m := by
  refine ⟨?_, fun cs m' _ h => dup_spec0 d cs m' h hm⟩
  refine ⟨?_, ?_, ?_, ?_⟩ <;> simp [hi, hm, depthSs, exprDs, mdsS, mdsE]
theorem smp_ok {m : Mem} : ∀ d ∈ smpL, ChkOk d m := fun d h => by rw [List.mem_singleton.1 h]; exact chk0 rfl rfl
theorem bad_ok {m : Mem} : ∀ d ∈ badL, ChkOk d m := fun d h => by rw [List.mem_singleton.1 h]; exact chk0 rfl rfl
theorem smp_wr {m : Mem} : ∀ d ∈ smpL, WrOk d m := fun d h => by
  rw [List.mem_singleton.1 h]
  exact ⟨fun f hf => by rw [List.mem_singleton.1 hf]; decide, fun h => absurd h (by decide), fun e he => by cases he⟩
theorem smp_tk : (progT smpL).length ≤ cap ∧ AllT TkOk (progT smpL) := by
  refine ⟨by decide +kernel, ?_⟩
  have : (progT smpL).all fun t => decide (t.s.length ≤ 2000000) && (decide (-9223372036854775808 ≤ t.n) && decide (t.n ≤ 9223372036854775807)) := by decide +kernel
  intro t ht
  have := List.all_eq_true.1 this t ht
  simp only [Bool.and_eq_true, decide_eq_true_eq] at this
  exact ⟨this.1, this.2⟩
theorem blk_rep {m : Mem} : stRep m blkS (Sd.cs ⟨10, [], zTy, zNd, zNd, none, 0, 0, none, 0, 0⟩) :=
  st_mk (⟨10, [], zTy, zNd, zNd, none, 0, 0, none, 0, 0⟩ : Sd) z_rep z_rep rfl (Nat.le_refl _) rfl (Nat.le_refl _) ⟨by unfold I64; decide, by decide, z_ok, by decide, by decide⟩ Rds_nil Rds_nil sts_nil sts_nil
set_option maxHeartbeats 4000000 in
set_option maxRecDepth 20000 in
theorem awake_spec (m : Mem) (hg : Glob m) : Ans 10 [] m (.bool true) := by
  refine enter cfW puW Tryz.func10 rfl rfl (by kernel_rfl) rfl ?_ ?_
  · simp only [go_sem, ↓imp_tf, ↓imp_ft, ↓reduceIte, Nat.reduceBEq, Nat.reduceAdd, Nat.reduceMul, Nat.reduceSub, Nat.reduceEqDiff, Nat.reduceLT, Nat.reduceLeDiff, Option.map, Option.bind, List.map, List.length, reduceCtorEq, Option.toList, Option.getD, List.set, List.drop, List.take, Int.reduceToNat]
  · simp only [go_sem, ↓imp_tf, ↓imp_ft, ↓reduceIte, Nat.reduceBEq, Nat.reduceAdd, Nat.reduceMul, Nat.reduceSub, Nat.reduceEqDiff, Nat.reduceLT, Nat.reduceLeDiff, Option.map, Option.bind, List.map, List.length, reduceCtorEq, Option.toList, Option.getD, List.set, List.drop, List.take, Int.reduceToNat]
    intro a c m1 hm1 hc r1
    have k1 : leM m m1 := .inr hm1
    have hF := fun a2 c2 m2 (hm2 : leM m1 m2) (hc2 : 2 ≤ c2) r2 => fexpr_spec sumE _ m2 (hg.upM (leM_tr k1 hm2)) (sum_rep hc (Rds_upM hm2 r1) (a2 := a2) hc2 r2) (by decide +kernel) (by decide +kernel)
    rw [ex1] at hF
    refine ⟨by kernel_rfl, fun a2 c2 m2 hm2 hc2 r2 => FnV_of ((FnH_den (hF a2 c2 m2 (.inr hm2) hc2 r2) (fun V => rfl)).mono ?_)⟩
    clear hF
    rintro r H' m3 hm3 ⟨l3, rfl, rfl⟩
    have k3 := leM_tr k1 (leM_tr (.inr hm2) l3)
    simp only [go_sem, ↓imp_tf, ↓imp_ft, ↓reduceIte, Nat.reduceBEq, Nat.reduceAdd, Nat.reduceMul, Nat.reduceSub, Nat.reduceEqDiff, Nat.reduceLT, Nat.reduceLeDiff, Option.map, Option.bind, List.map, List.length, reduceCtorEq, Option.toList, Option.getD, List.set, List.drop, List.take, Int.reduceToNat]
    intro a4 c4 m4 hm4 hc4 r4
    have k4 : leM m m4 := leM_tr k3 (.inr hm4)
    have hF := fun a5 c5 m5 (hm5 : leM m4 m5) (hc5 : 2 ≤ c5) r5 => fexpr_spec idxE _ m5 (hg.upM (leM_tr k4 hm5)) (idx_rep hc4 (Rds_upM hm5 r4) (a2 := a5) hc5 r5) (by decide +kernel) (by decide +kernel)
    rw [ex2] at hF
    refine ⟨by kernel_rfl, fun a5 c5 m5 hm5 hc5 r5 => FnV_of ((FnH_den (hF a5 c5 m5 (.inr hm5) hc5 r5) (fun V => rfl)).mono ?_)⟩
    clear hF
    rintro r H' m6 hm6 ⟨l6, rfl, rfl⟩
    have k6 := leM_tr k4 (leM_tr (.inr hm5) l6)
    simp only [go_sem, ↓imp_tf, ↓imp_ft, ↓reduceIte, Nat.reduceBEq, Nat.reduceAdd, Nat.reduceMul, Nat.reduceSub, Nat.reduceEqDiff, Nat.reduceLT, Nat.reduceLeDiff, Option.map, Option.bind, List.map, List.length, reduceCtorEq, Option.toList, Option.getD, List.set, List.drop, List.take, Int.reduceToNat]
    refine ⟨by kernel_rfl, FnV_of ((sample_spec m6).mono ?_)⟩
    rintro r H' m7 hm7 ⟨a7, c7, l7, r7, hc7, rfl, rfl⟩
    have k7 := leM_tr k6 l7
    simp only [go_sem, ↓imp_tf, ↓imp_ft, ↓reduceIte, Nat.reduceBEq, Nat.reduceAdd, Nat.reduceMul, Nat.reduceSub, Nat.reduceEqDiff, Nat.reduceLT, Nat.reduceLeDiff, Option.map, Option.bind, List.map, List.length, reduceCtorEq, Option.toList, Option.getD, List.set, List.drop, List.take, Int.reduceToNat]
    have hF := fun a8 c8 m8 (hm8 : leM m7 m8) (hc8 : 1 ≤ c8) r8 => formatP_spec smpL a8 1 c8 m8 (hg.upM (leM_tr k7 hm8)) smp_ok (fun _ => smp_wr) (fun _ => smp_tk) (smp_rep hc7 (Rds_upM hm8 r7) hc8 r8)
    rw [ex3] at hF
    refine ⟨by kernel_rfl, fun a8 c8 m8 hm8 hc8 r8 => FnV_of ((hF a8 c8 m8 (.inr hm8) hc8 r8).mono ?_)⟩
    clear hF
    rintro r H' m9 hm9 ⟨l9, rfl, rfl⟩
    have k9 := leM_tr k7 (leM_tr (.inr hm8) l9)
    simp only [go_sem, ↓imp_tf, ↓imp_ft, ↓reduceIte, Nat.reduceBEq, Nat.reduceAdd, Nat.reduceMul, Nat.reduceSub, Nat.reduceEqDiff, Nat.reduceLT, Nat.reduceLeDiff, Option.map, Option.bind, List.map, List.length, reduceCtorEq, Option.toList, Option.getD, List.set, List.drop, List.take, Int.reduceToNat]
    have hF := fun aa ca ma (hma : leM m9 ma) (hca : 1 ≤ ca) ra => check_spec badL aa 1 ca ma (hg.upM (leM_tr k9 hma)) bad_ok (bad_rep hca ra)
    rw [ex4] at hF
    refine ⟨by kernel_rfl, fun aa ca ma hma hca ra => FnV_of ((hF aa ca ma (.inr hma) hca ra).mono ?_)⟩
    clear hF
    rintro r H' mb hmb ⟨lb, rfl, rfl⟩
    have kb := leM_tr k9 (leM_tr (.inr hma) lb)
    have r1b : ∀ {mx : Mem}, leM mb mx → Rds mx a 1 8 (exC 6 0 [97] [] zTy (.slice none 0 0)) := fun h => Rds_upM (leM_tr (leM_tr (.inr hm2) (leM_tr l3 (leM_tr (.inr hm4) (leM_tr (.inr hm5) (leM_tr l6 (leM_tr l7 (leM_tr (.inr hm8) (leM_tr l9 (leM_tr (.inr hma) lb))))))))) h) r1
    simp only [go_sem, ↓imp_tf, ↓imp_ft, ↓reduceIte, Nat.reduceBEq, Nat.reduceAdd, Nat.reduceMul, Nat.reduceSub, Nat.reduceEqDiff, Nat.reduceLT, Nat.reduceLeDiff, Option.map, Option.bind, List.map, List.length, reduceCtorEq, Option.toList, Option.getD, List.set, List.drop, List.take, Int.reduceToNat]
    refine ⟨⟨by kernel_rfl, fun ac cc mc hmc hcc rc => ?_⟩, fun h => by simp at h⟩
    have hF := depth_all _ sumE _ mc (Nat.le_refl _) (by decide +kernel) (sum_rep hc (r1b (.inr hmc)) hcc rc)
    rw [ex5] at hF
    refine FnV_of ((FnH_den hF (fun V => rfl)).mono ?_)
    clear hF
    rintro r H' md hmd ⟨ld, rfl, rfl⟩
    have kd := leM_tr (leM_tr kb (.inr hmc)) ld
    have r1d : ∀ {mx : Mem}, leM md mx → Rds mx a 1 8 (exC 6 0 [97] [] zTy (.slice none 0 0)) := fun h => r1b (leM_tr (leM_tr (.inr hmc) ld) h)
    simp only [go_sem, ↓imp_tf, ↓imp_ft, ↓reduceIte, Nat.reduceBEq, Nat.reduceAdd, Nat.reduceMul, Nat.reduceSub, Nat.reduceEqDiff, Nat.reduceLT, Nat.reduceLeDiff, Option.map, Option.bind, List.map, List.length, reduceCtorEq, Option.toList, Option.getD, List.set, List.drop, List.take, Int.reduceToNat]
    refine ⟨fun _ => ⟨by kernel_rfl, fun ae ce me hme hce re => ?_⟩, fun h => absurd rfl h⟩
    have hF := valid_all _ sumE _ me (Nat.le_refl _) (hg.upM (leM_tr kd (.inr hme))) (sum_rep hc (r1d (.inr hme)) hce re)
    rw [ex6] at hF
    refine FnV_of ((FnH_den hF (fun V => rfl)).mono ?_)
    clear hF
    rintro r H' mf hmf ⟨lf, rfl, rfl⟩
    have kf := leM_tr (leM_tr kd (.inr hme)) lf
    clear r1b r1d
    simp only [go_sem, ↓imp_tf, ↓imp_ft, ↓reduceIte, Nat.reduceBEq, Nat.reduceAdd, Nat.reduceMul, Nat.reduceSub, Nat.reduceEqDiff, Nat.reduceLT, Nat.reduceLeDiff, Option.map, Option.bind, List.map, List.length, reduceCtorEq, Option.toList, Option.getD, List.set, List.drop, List.take, Int.reduceToNat]
    have hF := validS_all _ blkS _ mf (Nat.le_refl _) (hg.upM kf) blk_rep
    rw [ex7] at hF
    refine ⟨by kernel_rfl, FnV_of ((FnH_den hF (fun V => rfl)).mono ?_)⟩
    clear hF
    rintro r H' mg hmg ⟨lg, rfl, rfl⟩
    have kg := leM_tr kf lg
    simp only [go_sem, ↓imp_tf, ↓imp_ft, ↓reduceIte, Nat.reduceBEq, Nat.reduceAdd, Nat.reduceMul, Nat.reduceSub, Nat.reduceEqDiff, Nat.reduceLT, Nat.reduceLeDiff, Option.map, Option.bind, List.map, List.length, reduceCtorEq, Option.toList, Option.getD, List.set, List.drop, List.take, Int.reduceToNat]
    have hF := valid_all _ zE _ mg (Nat.le_refl _) (hg.upM kg) z_rep
    rw [ex8] at hF
    refine ⟨by kernel_rfl, FnV_of ((FnH_den hF (fun V => rfl)).mono ?_)⟩
    clear hF
    rintro r H' mh hmh ⟨lh, rfl, rfl⟩
    have kh := leM_tr kg lh
    clear r1 r2 r4 r5 r7
    simp only [go_sem, ↓imp_tf, ↓imp_ft, ↓reduceIte, Nat.reduceBEq, Nat.reduceAdd, Nat.reduceMul, Nat.reduceSub, Nat.reduceEqDiff, Nat.reduceLT, Nat.reduceLeDiff, Option.map, Option.bind, List.map, List.length, reduceCtorEq, Option.toList, Option.getD, List.set, List.drop, List.take, Int.reduceToNat]
    refine ⟨by kernel_rfl, FnV_of ((sample_spec mh).mono ?_)⟩
    rintro r H' mi hmi ⟨ai, ci, li, ri, hci, rfl, rfl⟩
    simp only [go_sem, ↓imp_tf, ↓imp_ft, ↓reduceIte, Nat.reduceBEq, Nat.reduceAdd, Nat.reduceMul, Nat.reduceSub, Nat.reduceEqDiff, Nat.reduceLT, Nat.reduceLeDiff, Option.map, Option.bind, List.map, List.length, reduceCtorEq, Option.toList, Option.getD, List.set, List.drop, List.take, Int.reduceToNat]
    refine ⟨by kernel_rfl, FnV_of ((sample_spec mi).mono ?_)⟩
    rintro r H' mj hmj ⟨aj, cj, lj, rj, hcj, rfl, rfl⟩
    have kj := leM_tr (leM_tr kh li) lj
    simp only [go_sem, ↓imp_tf, ↓imp_ft, ↓reduceIte, Nat.reduceBEq, Nat.reduceAdd, Nat.reduceMul, Nat.reduceSub, Nat.reduceEqDiff, Nat.reduceLT, Nat.reduceLeDiff, Option.map, Option.bind, List.map, List.length, reduceCtorEq, Option.toList, Option.getD, List.set, List.drop, List.take, Int.reduceToNat]
    refine ⟨by kernel_rfl, fun p1 q1 n1 hn1 hq1 s1 p2 q2 n2 hn2 hq2 s2 => ?_⟩
    have hF := equal_spec smpL smpL p1 1 q1 p2 1 q2 n2 (smp_rep hci (Rds_upM (leM_tr lj (leM_tr (.inr hn1) (.inr hn2))) ri) hq1 (Rds_upM (.inr hn2) s1)) (smp_rep hcj (Rds_upM (leM_tr (.inr hn1) (.inr hn2)) rj) hq2 s2)
    rw [ex9] at hF
    refine FnV_of (hF.mono ?_)
    clear hF
    rintro r H' mk hmk ⟨lk, rfl, rfl⟩
    have kk := leM_tr kj (leM_tr (.inr hn1) (leM_tr (.inr hn2) lk))
    clear ri rj s1 s2
    simp only [go_sem, ↓imp_tf, ↓imp_ft, ↓reduceIte, Nat.reduceBEq, Nat.reduceAdd, Nat.reduceMul, Nat.reduceSub, Nat.reduceEqDiff, Nat.reduceLT, Nat.reduceLeDiff, Option.map, Option.bind, List.map, List.length, reduceCtorEq, Option.toList, Option.getD, List.set, List.drop, List.take, Int.reduceToNat]
    refine ⟨by kernel_rfl, FnV_of ((sample_spec mk).mono ?_)⟩
    rintro r H' ml hml ⟨al, cl, ll, rl, hcl, rfl, rfl⟩
    have kl := leM_tr kk ll
    simp only [go_sem, ↓imp_tf, ↓imp_ft, ↓reduceIte, Nat.reduceBEq, Nat.reduceAdd, Nat.reduceMul, Nat.reduceSub, Nat.reduceEqDiff, Nat.reduceLT, Nat.reduceLeDiff, Option.map, Option.bind, List.map, List.length, reduceCtorEq, Option.toList, Option.getD, List.set, List.drop, List.take, Int.reduceToNat]
    refine ⟨by kernel_rfl, fun p3 q3 n3 hn3 hq3 s3 => ?_⟩
    have hF := equal_spec smpL [] p3 1 q3 none 0 0 n3 (smp_rep hcl (Rds_upM (.inr hn3) rl) hq3 s3) nil_rep
    rw [ex10] at hF
    refine FnV_of (hF.mono ?_)
    clear hF
    rintro r H' mo hmo ⟨lo, rfl, rfl⟩
    simp only [go_sem, ↓imp_tf, ↓imp_ft, ↓reduceIte, Nat.reduceBEq, Nat.reduceAdd, Nat.reduceMul, Nat.reduceSub, Nat.reduceEqDiff, Nat.reduceLT, Nat.reduceLeDiff, Option.map, Option.bind, List.map, List.length, reduceCtorEq, Option.toList, Option.getD, List.set, List.drop, List.take, Int.reduceToNat]
    exact leM_tr kl (leM_tr (.inr hn3) lo)
end Go.Proofs.YtalalcpefggniaaGreatDoor.E

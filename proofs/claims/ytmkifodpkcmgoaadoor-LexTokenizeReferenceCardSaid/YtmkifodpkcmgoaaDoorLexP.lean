/- lex, part P: the reference: operators, numbers. -/
import Derived.Test.YtmkifodpkcmgoaaDoorLexO
namespace Go.Proofs.YtmkifodpkcmgoaaDoor.E
open Go

set_option maxHeartbeats 4000000 in
set_option maxRecDepth 20000 in
theorem roperator_spec (s : List UInt8) (p : Nat) (m : Mem) (hp : p ≤ s.length) (hs : s.length ≤ 1000000) :
    FnH Tryd.prog 53 [.v (.string (bs s)), .v (.int .i64 p)] ⟨[], []⟩ m fun r H' m' => m' = m ∧ H' = ⟨[], []⟩ ∧ RN p ((signAt (s.drop p)).map fun o => (6, o, 0, o.length)) r := by
  refine enter cfA puA Tryd.func53 rfl rfl (by kernel_rfl) rfl ?_ ?_
  · simp only [go_sem, ↓reduceIte, or_true, or_false, true_or, false_or, Option.some.injEq, exists_eq_left, exists_eq_left', Nat.reduceBEq, Nat.reduceAdd, Nat.reduceMul, Nat.reduceSub, Nat.reduceEqDiff, Nat.reduceLT, Nat.reduceLeDiff, Option.map, Option.bind, List.map, List.length, true_implies, true_and, and_true, Bool.and_true, Bool.true_and, Bool.or_false, Bool.false_or, Bool.not_true, Bool.not_false, Bool.and_false, Bool.false_and, List.cons_append, List.nil_append, List.append_nil, mk_eq_bs, tl_bs, List.getElem?_cons_zero, List.getElem?_cons_succ, eq_self, reduceCtorEq, implies_true, false_implies, decide_eq_true_eq, decide_eq_false_iff_not, Bool.and_eq_true, Bool.or_eq_true, Bool.not_eq_true', Bool.and_eq_false_iff, Bool.or_eq_false_iff, Bool.not_eq_false', Option.toList, SV.v.injEq, Value.int.injEq, Value.bool.injEq, Value.string.injEq, Option.getD, List.contains_cons, List.contains_nil, beq_self_eq_true, Nat.max_def, List.set, List.drop, List.take, Int.toNat_natCast, Nat.mul_one, Int.toNat_zero, List.drop_zero, Bx.mk.injEq, Vc.mk.injEq, List.cons.injEq, List.take_length, List.getElem?_nil, List.getD_cons_zero, List.getD_cons_succ, Int.reduceToNat, not_false_eq_true, Nat.le_refl]
  · simp only [go_sem, ↓reduceIte, or_true, or_false, true_or, false_or, Option.some.injEq, exists_eq_left, exists_eq_left', Nat.reduceBEq, Nat.reduceAdd, Nat.reduceMul, Nat.reduceSub, Nat.reduceEqDiff, Nat.reduceLT, Nat.reduceLeDiff, Option.map, Option.bind, List.map, List.length, true_implies, true_and, and_true, Bool.and_true, Bool.true_and, Bool.or_false, Bool.false_or, Bool.not_true, Bool.not_false, Bool.and_false, Bool.false_and, List.cons_append, List.nil_append, List.append_nil, mk_eq_bs, tl_bs, List.getElem?_cons_zero, List.getElem?_cons_succ, eq_self, reduceCtorEq, implies_true, false_implies, decide_eq_true_eq, decide_eq_false_iff_not, Bool.and_eq_true, Bool.or_eq_true, Bool.not_eq_true', Bool.and_eq_false_iff, Bool.or_eq_false_iff, Bool.not_eq_false', Option.toList, SV.v.injEq, Value.int.injEq, Value.bool.injEq, Value.string.injEq, Option.getD, List.contains_cons, List.contains_nil, beq_self_eq_true, Nat.max_def, List.set, List.drop, List.take, Int.toNat_natCast, Nat.mul_one, Int.toNat_zero, List.drop_zero, Bx.mk.injEq, Vc.mk.injEq, List.cons.injEq, List.take_length, List.getElem?_nil, List.getD_cons_zero, List.getD_cons_succ, Int.reduceToNat, not_false_eq_true, Nat.le_refl]
    refine ⟨by kernel_rfl, FnV_of ((rsigns_spec m).mono ?_)⟩
    rintro r H' m' hm ⟨rfl, rfl, rfl⟩
    simp only [go_sem, ↓reduceIte, or_true, or_false, true_or, false_or, Option.some.injEq, exists_eq_left, exists_eq_left', Nat.reduceBEq, Nat.reduceAdd, Nat.reduceMul, Nat.reduceSub, Nat.reduceEqDiff, Nat.reduceLT, Nat.reduceLeDiff, Option.map, Option.bind, List.map, List.length, true_implies, true_and, and_true, Bool.and_true, Bool.true_and, Bool.or_false, Bool.false_or, Bool.not_true, Bool.not_false, Bool.and_false, Bool.false_and, List.cons_append, List.nil_append, List.append_nil, mk_eq_bs, tl_bs, List.getElem?_cons_zero, List.getElem?_cons_succ, eq_self, reduceCtorEq, implies_true, false_implies, decide_eq_true_eq, decide_eq_false_iff_not, Bool.and_eq_true, Bool.or_eq_true, Bool.not_eq_true', Bool.and_eq_false_iff, Bool.or_eq_false_iff, Bool.not_eq_false', Option.toList, SV.v.injEq, Value.int.injEq, Value.bool.injEq, Value.string.injEq, Option.getD, List.contains_cons, List.contains_nil, beq_self_eq_true, Nat.max_def, List.set, List.drop, List.take, Int.toNat_natCast, Nat.mul_one, Int.toNat_zero, List.drop_zero, Bx.mk.injEq, Vc.mk.injEq, List.cons.injEq, List.take_length, List.getElem?_nil, List.getD_cons_zero, List.getD_cons_succ, Int.reduceToNat, not_false_eq_true, Nat.le_refl]
    refine WP_loop puA (fun k : Nat => ⟨[⟨0, [], .v (.string (bs s))⟩, ⟨1, [], .v (.int .i64 p)⟩, ⟨4, [], .box 0 0⟩, ⟨7, [], .vec 1 0⟩, ⟨8, [], .v (.int .i64 k)⟩], [], [⟨0, 27, Tk0.cells⟩], [⟨1, 0, 9, 1, 30, strs signsL⟩], 2, m'⟩)
      (fun k => k ≤ 30 ∧ signAt (s.drop p) = (signsL.drop k).find? fun o => hasPre (s.drop p) o) (fun k => 30 - k) 0 (by kernel_rfl) (fun _ _ => Nat.le_refl _) (fun _ _ => .inl rfl) (fun _ => ?_) ?_ ?_ ?_
    · simp only [go_sem, ↓reduceIte, or_true, or_false, true_or, false_or, Option.some.injEq, exists_eq_left, exists_eq_left', Nat.reduceBEq, Nat.reduceAdd, Nat.reduceMul, Nat.reduceSub, Nat.reduceEqDiff, Nat.reduceLT, Nat.reduceLeDiff, Option.map, Option.bind, List.map, List.length, true_implies, true_and, and_true, Bool.and_true, Bool.true_and, Bool.or_false, Bool.false_or, Bool.not_true, Bool.not_false, Bool.and_false, Bool.false_and, List.cons_append, List.nil_append, List.append_nil, mk_eq_bs, tl_bs, List.getElem?_cons_zero, List.getElem?_cons_succ, eq_self, reduceCtorEq, implies_true, false_implies, decide_eq_true_eq, decide_eq_false_iff_not, Bool.and_eq_true, Bool.or_eq_true, Bool.not_eq_true', Bool.and_eq_false_iff, Bool.or_eq_false_iff, Bool.not_eq_false', Option.toList, SV.v.injEq, Value.int.injEq, Value.bool.injEq, Value.string.injEq, Option.getD, List.contains_cons, List.contains_nil, beq_self_eq_true, Nat.max_def, List.set, List.drop, List.take, Int.toNat_natCast, Nat.mul_one, Int.toNat_zero, List.drop_zero, Bx.mk.injEq, Vc.mk.injEq, List.cons.injEq, List.take_length, List.getElem?_nil, List.getD_cons_zero, List.getD_cons_succ, Int.reduceToNat, not_false_eq_true, Nat.le_refl]
    · simp only [go_sem, ↓reduceIte, or_true, or_false, true_or, false_or, Option.some.injEq, exists_eq_left, exists_eq_left', Nat.reduceBEq, Nat.reduceAdd, Nat.reduceMul, Nat.reduceSub, Nat.reduceEqDiff, Nat.reduceLT, Nat.reduceLeDiff, Option.map, Option.bind, List.map, List.length, true_implies, true_and, and_true, Bool.and_true, Bool.true_and, Bool.or_false, Bool.false_or, Bool.not_true, Bool.not_false, Bool.and_false, Bool.false_and, List.cons_append, List.nil_append, List.append_nil, mk_eq_bs, tl_bs, List.getElem?_cons_zero, List.getElem?_cons_succ, eq_self, reduceCtorEq, implies_true, false_implies, decide_eq_true_eq, decide_eq_false_iff_not, Bool.and_eq_true, Bool.or_eq_true, Bool.not_eq_true', Bool.and_eq_false_iff, Bool.or_eq_false_iff, Bool.not_eq_false', Option.toList, SV.v.injEq, Value.int.injEq, Value.bool.injEq, Value.string.injEq, Option.getD, List.contains_cons, List.contains_nil, beq_self_eq_true, Nat.max_def, List.set, List.drop, List.take, Int.toNat_natCast, Nat.mul_one, Int.toNat_zero, List.drop_zero, Bx.mk.injEq, Vc.mk.injEq, List.cons.injEq, List.take_length, List.getElem?_nil, List.getD_cons_zero, List.getD_cons_succ, Int.reduceToNat, not_false_eq_true, Nat.le_refl]
      rfl
    · exact ⟨by omega, rfl⟩
    · rintro k ⟨hk, hf⟩
      have hsl : signsL.length = 30 := rfl
      have hst : (strs signsL).length = 30 := rfl
      refine Classical.byCases (fun hlt : k < 30 => ?_) (fun hge : ¬ k < 30 => ?_)
      · have hk30 : k < signsL.length := hlt
        have e : (strs signsL).getD k undef = .string (bs signsL[k]) := by
          rw [List.getD_eq_getElem?_getD, strs, List.getElem?_map, List.getElem?_eq_getElem hk30]; rfl
        have hol : signsL[k].length ≤ 3 := (by decide : ∀ o ∈ signsL, o.length ≤ 3) _ (List.getElem_mem hk30)
        rw [List.drop_eq_getElem_cons hk30, List.find?_cons] at hf
        simp only [go_sem, ↓reduceIte, or_true, or_false, true_or, false_or, Option.some.injEq, exists_eq_left, exists_eq_left', Nat.reduceBEq, Nat.reduceAdd, Nat.reduceMul, Nat.reduceSub, Nat.reduceEqDiff, Nat.reduceLT, Nat.reduceLeDiff, Option.map, Option.bind, List.map, List.length, true_implies, true_and, and_true, Bool.and_true, Bool.true_and, Bool.or_false, Bool.false_or, Bool.not_true, Bool.not_false, Bool.and_false, Bool.false_and, List.cons_append, List.nil_append, List.append_nil, mk_eq_bs, tl_bs, List.getElem?_cons_zero, List.getElem?_cons_succ, eq_self, reduceCtorEq, implies_true, false_implies, decide_eq_true_eq, decide_eq_false_iff_not, Bool.and_eq_true, Bool.or_eq_true, Bool.not_eq_true', Bool.and_eq_false_iff, Bool.or_eq_false_iff, Bool.not_eq_false', Option.toList, SV.v.injEq, Value.int.injEq, Value.bool.injEq, Value.string.injEq, Option.getD, List.contains_cons, List.contains_nil, beq_self_eq_true, Nat.max_def, List.set, List.drop, List.take, Int.toNat_natCast, Nat.mul_one, Int.toNat_zero, List.drop_zero, Bx.mk.injEq, Vc.mk.injEq, List.cons.injEq, List.take_length, List.getElem?_nil, List.getD_cons_zero, List.getD_cons_succ, Int.reduceToNat, not_false_eq_true, Nat.le_refl, e]
        rw [isAt_pre hp]
        refine ⟨fun h => ⟨by omega, by omega, ⟨by omega, by omega, by omega, by omega⟩, fun hi => ?_, fun hi => ⟨by unfold I64; omega, k + 1, rfl, ⟨by omega, ?_⟩, by omega⟩⟩, fun h => by omega⟩
        · have hf' : signAt (s.drop p) = some signsL[k] := by rw [hf, hi]
          refine WP_draw (.hoist 0 (.hoist 1 (.hoist 2 (.hoist 3 (.hoist 4 (.hoist 5 (.hoist 6 (.hoist 7 (.hoist 8 (.hoist 9 (.hoist 10 (.hoist 11 (.hoist 12 (.alt 13 [12, 11, 10, 9, 8, 7, 6] (.hoist 14 (.hoist 15 .done)) .stop)))))))))))))) puA (by kernel_rfl) (by kernel_rfl) ?_
          simp only [go_sem, ↓reduceIte, or_true, or_false, true_or, false_or, Option.some.injEq, exists_eq_left, exists_eq_left', Nat.reduceBEq, Nat.reduceAdd, Nat.reduceMul, Nat.reduceSub, Nat.reduceEqDiff, Nat.reduceLT, Nat.reduceLeDiff, Option.map, Option.bind, List.map, List.length, true_implies, true_and, and_true, Bool.and_true, Bool.true_and, Bool.or_false, Bool.false_or, Bool.not_true, Bool.not_false, Bool.and_false, Bool.false_and, List.cons_append, List.nil_append, List.append_nil, mk_eq_bs, tl_bs, List.getElem?_cons_zero, List.getElem?_cons_succ, eq_self, reduceCtorEq, implies_true, false_implies, decide_eq_true_eq, decide_eq_false_iff_not, Bool.and_eq_true, Bool.or_eq_true, Bool.not_eq_true', Bool.and_eq_false_iff, Bool.or_eq_false_iff, Bool.not_eq_false', Option.toList, SV.v.injEq, Value.int.injEq, Value.bool.injEq, Value.string.injEq, Option.getD, List.contains_cons, List.contains_nil, beq_self_eq_true, Nat.max_def, List.set, List.drop, List.take, Int.toNat_natCast, Nat.mul_one, Int.toNat_zero, List.drop_zero, Bx.mk.injEq, Vc.mk.injEq, List.cons.injEq, List.take_length, List.getElem?_nil, List.getD_cons_zero, List.getD_cons_succ, Int.reduceToNat, not_false_eq_true, Nat.le_refl, e]
          rw [hf']
          exact ⟨by omega, by omega, by omega, by omega, by unfold I64; omega, ⟨6, signsL[k], 0, p⟩, _, _, rfl, rfl, rfl, rfl⟩
        · rw [hf, hi]
      · simp only [go_sem, ↓reduceIte, or_true, or_false, true_or, false_or, Option.some.injEq, exists_eq_left, exists_eq_left', Nat.reduceBEq, Nat.reduceAdd, Nat.reduceMul, Nat.reduceSub, Nat.reduceEqDiff, Nat.reduceLT, Nat.reduceLeDiff, Option.map, Option.bind, List.map, List.length, true_implies, true_and, and_true, Bool.and_true, Bool.true_and, Bool.or_false, Bool.false_or, Bool.not_true, Bool.not_false, Bool.and_false, Bool.false_and, List.cons_append, List.nil_append, List.append_nil, mk_eq_bs, tl_bs, List.getElem?_cons_zero, List.getElem?_cons_succ, eq_self, reduceCtorEq, implies_true, false_implies, decide_eq_true_eq, decide_eq_false_iff_not, Bool.and_eq_true, Bool.or_eq_true, Bool.not_eq_true', Bool.and_eq_false_iff, Bool.or_eq_false_iff, Bool.not_eq_false', Option.toList, SV.v.injEq, Value.int.injEq, Value.bool.injEq, Value.string.injEq, Option.getD, List.contains_cons, List.contains_nil, beq_self_eq_true, Nat.max_def, List.set, List.drop, List.take, Int.toNat_natCast, Nat.mul_one, Int.toNat_zero, List.drop_zero, Bx.mk.injEq, Vc.mk.injEq, List.cons.injEq, List.take_length, List.getElem?_nil, List.getD_cons_zero, List.getD_cons_succ, Int.reduceToNat, not_false_eq_true, Nat.le_refl]
        refine ⟨fun h => by omega, fun h => ?_⟩
        obtain rfl : k = 30 := by omega
        have e : signsL.drop 30 = [] := rfl
        rw [e] at hf
        have hf : signAt (s.drop p) = none := hf
        rw [hf]
        exact ⟨Tk0, 0, false, rfl, rfl⟩
/-- Decimal digits that spell an int64. -/
def refDig : Nat → List UInt8 → Option Nat
  | n, [] => some n
  | n, c :: r => if n ≤ (9223372036854775807 - (c.toNat - 48)) / 10 then refDig (n * 10 + (c.toNat - 48)) r else none
theorem uintM_ge {M : Nat} : ∀ (l : List UInt8) (acc u : Nat), Lib.parseUintM M acc l = .ok u → acc ≤ u
  | [], acc, u, h => by simp only [Lib.parseUintM, Lib.NumEnd.ok.injEq] at h; omega
  | c :: r, acc, u, h => by
    simp only [Lib.parseUintM] at h
    split at h
    · split at h
      · cases h
      · split at h
        · cases h
        · have := uintM_ge r _ u h
          omega
    · cases h
theorem refDig_uint : ∀ (l : List UInt8) (n : Nat), n ≤ 9223372036854775807 → (∀ c ∈ l, isDigitB c.toNat = true) →
    match refDig n l with
    | some v => Lib.parseUintM 18446744073709551615 n l = .ok v ∧ v ≤ 9223372036854775807
    | none => ∀ u, Lib.parseUintM 18446744073709551615 n l = .ok u → 9223372036854775808 ≤ u
  | [], n, hn, _ => ⟨rfl, hn⟩
  | c :: r, n, hn, hd => by
    have hc := (dig_iff _).1 (hd c (List.mem_cons_self ..))
    have hr := fun x hx => hd x (List.mem_cons_of_mem _ hx)
    simp only [refDig]
    by_cases h : n ≤ (9223372036854775807 - (c.toNat - 48)) / 10
    · rw [if_pos h]
      have ih := refDig_uint r (n * 10 + (c.toNat - 48)) (by omega) hr
      have e : Lib.parseUintM 18446744073709551615 n (c :: r) = Lib.parseUintM 18446744073709551615 (n * 10 + (c.toNat - 48)) r := by
        simp only [Lib.parseUintM]
        rw [if_pos (by omega), if_neg (by omega), if_neg (by omega)]
      rw [e]
      exact ih
    · rw [if_neg h]
      intro u hu
      simp only [Lib.parseUintM] at hu
      rw [if_pos (by omega)] at hu
      split at hu
      · cases hu
      · split at hu
        · cases hu
        · have := uintM_ge r _ u hu
          omega
theorem parseN_ref {l : List UInt8} (hne : l ≠ []) (hd : ∀ c ∈ l, isDigitB c.toNat = true) :
    match refDig 0 l with
    | some v => parseN l = ((v : Int), true) ∧ v ≤ 9223372036854775807
    | none => (parseN l).2 = false := by
  have h := refDig_uint l 0 (by omega) hd
  cases l with
  | nil => exact absurd rfl hne
  | cons c r =>
    have hc := (dig_iff _).1 (hd c (List.mem_cons_self ..))
    have e : Lib.parseIntB 64 (c :: r) = match Lib.parseUintM 18446744073709551615 0 (c :: r) with
      | .«syntax» => .«syntax»
      | .range => .range
      | .ok u => if 9223372036854775808 ≤ u then .range else .ok u := by
      unfold Lib.parseIntB
      simp only [Lib.parseUintB]
      have h43 : ¬ (c.toNat = 43 ∨ c.toNat = 45) := by omega
      have h45 : ¬ c.toNat = 45 := by omega
      rw [if_neg h43, if_neg (List.cons_ne_nil _ _)]
      cases Lib.parseUintM (2 ^ 64 - 1) 0 (c :: r) with
      | ok u => simp [h45]
      | «syntax» => rfl
      | range => rfl
    unfold parseN
    rw [e]
    cases hr : refDig 0 (c :: r) with
    | some v =>
      rw [hr] at h
      rw [h.1]
      simp only
      rw [if_neg (by omega)]
      exact ⟨rfl, h.2⟩
    | none =>
      rw [hr] at h
      cases hm : Lib.parseUintM 18446744073709551615 0 (c :: r) with
      | ok u =>
        have := h u hm
        simp only
        rw [if_pos this]
      | «syntax» => rfl
      | range => rfl
theorem dig_all : ∀ (l : List UInt8), ∀ c ∈ l.take (digL l), isDigitB c.toNat = true
  | [], c, h => by simp at h
  | d :: r, c, h => by
    simp only [digL] at h
    split at h
    · rename_i hd
      rw [Nat.add_comm, List.take_succ_cons] at h
      rcases List.mem_cons.1 h with rfl | h
      · exact hd
      · exact dig_all r c h
    · simp at h
set_option maxHeartbeats 4000000 in
set_option maxRecDepth 20000 in
theorem rnumber_spec (s : List UInt8) (p : Nat) (m : Mem) (hp : p < s.length) (hs : s.length ≤ 1000000) (hd : isDigitB (s.getD p 0).toNat = true) :
    FnH Tryd.prog 51 [.v (.string (bs s)), .v (.int .i64 p)] ⟨[], []⟩ m fun r H' m' => m' = m ∧ H' = ⟨[], []⟩ ∧
      RN p (if (numL (s.drop p)).2.2.2 = true then some (if (numL (s.drop p)).1 = true then 4 else 3, [], (numL (s.drop p)).2.1, (numL (s.drop p)).2.2.1) else none) r := by
  refine enter cf8 pu8 Tryd.func51 rfl rfl (by kernel_rfl) rfl ?_ ?_
  · simp only [go_sem, ↓reduceIte, or_true, or_false, true_or, false_or, Option.some.injEq, exists_eq_left, exists_eq_left', Nat.reduceBEq, Nat.reduceAdd, Nat.reduceMul, Nat.reduceSub, Nat.reduceEqDiff, Nat.reduceLT, Nat.reduceLeDiff, Option.map, Option.bind, List.map, List.length, true_implies, true_and, and_true, Bool.and_true, Bool.true_and, Bool.or_false, Bool.false_or, Bool.not_true, Bool.not_false, Bool.and_false, Bool.false_and, List.cons_append, List.nil_append, List.append_nil, mk_eq_bs, tl_bs, List.getElem?_cons_zero, List.getElem?_cons_succ, eq_self, reduceCtorEq, implies_true, false_implies, decide_eq_true_eq, decide_eq_false_iff_not, Bool.and_eq_true, Bool.or_eq_true, Bool.not_eq_true', Bool.and_eq_false_iff, Bool.or_eq_false_iff, Bool.not_eq_false', Option.toList, SV.v.injEq, Value.int.injEq, Value.bool.injEq, Value.string.injEq, Option.getD, List.contains_cons, List.contains_nil, beq_self_eq_true, Nat.max_def, List.set, List.drop, List.take, Int.toNat_natCast, Nat.mul_one, Int.toNat_zero, List.drop_zero, Bx.mk.injEq, Vc.mk.injEq, List.cons.injEq, List.take_length, List.getElem?_nil, List.getD_cons_zero, List.getD_cons_succ, Int.reduceToNat, not_false_eq_true, Nat.le_refl]
  · simp only [go_sem, ↓reduceIte, or_true, or_false, true_or, false_or, Option.some.injEq, exists_eq_left, exists_eq_left', Nat.reduceBEq, Nat.reduceAdd, Nat.reduceMul, Nat.reduceSub, Nat.reduceEqDiff, Nat.reduceLT, Nat.reduceLeDiff, Option.map, Option.bind, List.map, List.length, true_implies, true_and, and_true, Bool.and_true, Bool.true_and, Bool.or_false, Bool.false_or, Bool.not_true, Bool.not_false, Bool.and_false, Bool.false_and, List.cons_append, List.nil_append, List.append_nil, mk_eq_bs, tl_bs, List.getElem?_cons_zero, List.getElem?_cons_succ, eq_self, reduceCtorEq, implies_true, false_implies, decide_eq_true_eq, decide_eq_false_iff_not, Bool.and_eq_true, Bool.or_eq_true, Bool.not_eq_true', Bool.and_eq_false_iff, Bool.or_eq_false_iff, Bool.not_eq_false', Option.toList, SV.v.injEq, Value.int.injEq, Value.bool.injEq, Value.string.injEq, Option.getD, List.contains_cons, List.contains_nil, beq_self_eq_true, Nat.max_def, List.set, List.drop, List.take, Int.toNat_natCast, Nat.mul_one, Int.toNat_zero, List.drop_zero, Bx.mk.injEq, Vc.mk.injEq, List.cons.injEq, List.take_length, List.getElem?_nil, List.getD_cons_zero, List.getD_cons_succ, Int.reduceToNat, not_false_eq_true, Nat.le_refl]
    refine WP_loop pu8 (fun x : Nat × Nat × Bool => ⟨[⟨0, [], .v (.string (bs s))⟩, ⟨1, [], .v (.int .i64 p)⟩, ⟨4, [], .box 0 0⟩, ⟨7, [], .v (.int .i64 x.1)⟩, ⟨8, [], .v (.int .i64 x.2.1)⟩, ⟨9, [], .v (.bool x.2.2)⟩], [], [⟨0, 27, Tk0.cells⟩], [], 1, m⟩)
      (fun x => p ≤ x.1 ∧ x.1 ≤ s.length ∧ p + digL (s.drop p) = x.1 + digL (s.drop x.1) ∧ x.2.1 ≤ 9223372036854775807 ∧ refDig 0 (numT s p) = if x.2.2 = true then refDig x.2.1 ((s.drop x.1).take (digL (s.drop x.1))) else none) (fun x => s.length - x.1) (p, 0, true) (by kernel_rfl) (fun _ _ => Nat.le_refl _) (fun _ _ => .inl rfl) (fun _ => ?_) ?_ ?_ ?_
    · simp only [go_sem, ↓reduceIte, or_true, or_false, true_or, false_or, Option.some.injEq, exists_eq_left, exists_eq_left', Nat.reduceBEq, Nat.reduceAdd, Nat.reduceMul, Nat.reduceSub, Nat.reduceEqDiff, Nat.reduceLT, Nat.reduceLeDiff, Option.map, Option.bind, List.map, List.length, true_implies, true_and, and_true, Bool.and_true, Bool.true_and, Bool.or_false, Bool.false_or, Bool.not_true, Bool.not_false, Bool.and_false, Bool.false_and, List.cons_append, List.nil_append, List.append_nil, mk_eq_bs, tl_bs, List.getElem?_cons_zero, List.getElem?_cons_succ, eq_self, reduceCtorEq, implies_true, false_implies, decide_eq_true_eq, decide_eq_false_iff_not, Bool.and_eq_true, Bool.or_eq_true, Bool.not_eq_true', Bool.and_eq_false_iff, Bool.or_eq_false_iff, Bool.not_eq_false', Option.toList, SV.v.injEq, Value.int.injEq, Value.bool.injEq, Value.string.injEq, Option.getD, List.contains_cons, List.contains_nil, beq_self_eq_true, Nat.max_def, List.set, List.drop, List.take, Int.toNat_natCast, Nat.mul_one, Int.toNat_zero, List.drop_zero, Bx.mk.injEq, Vc.mk.injEq, List.cons.injEq, List.take_length, List.getElem?_nil, List.getD_cons_zero, List.getD_cons_succ, Int.reduceToNat, not_false_eq_true, Nat.le_refl]
    · simp only [go_sem, ↓reduceIte, or_true, or_false, true_or, false_or, Option.some.injEq, exists_eq_left, exists_eq_left', Nat.reduceBEq, Nat.reduceAdd, Nat.reduceMul, Nat.reduceSub, Nat.reduceEqDiff, Nat.reduceLT, Nat.reduceLeDiff, Option.map, Option.bind, List.map, List.length, true_implies, true_and, and_true, Bool.and_true, Bool.true_and, Bool.or_false, Bool.false_or, Bool.not_true, Bool.not_false, Bool.and_false, Bool.false_and, List.cons_append, List.nil_append, List.append_nil, mk_eq_bs, tl_bs, List.getElem?_cons_zero, List.getElem?_cons_succ, eq_self, reduceCtorEq, implies_true, false_implies, decide_eq_true_eq, decide_eq_false_iff_not, Bool.and_eq_true, Bool.or_eq_true, Bool.not_eq_true', Bool.and_eq_false_iff, Bool.or_eq_false_iff, Bool.not_eq_false', Option.toList, SV.v.injEq, Value.int.injEq, Value.bool.injEq, Value.string.injEq, Option.getD, List.contains_cons, List.contains_nil, beq_self_eq_true, Nat.max_def, List.set, List.drop, List.take, Int.toNat_natCast, Nat.mul_one, Int.toNat_zero, List.drop_zero, Bx.mk.injEq, Vc.mk.injEq, List.cons.injEq, List.take_length, List.getElem?_nil, List.getD_cons_zero, List.getD_cons_succ, Int.reduceToNat, not_false_eq_true, Nat.le_refl]
      rfl
    · exact ⟨Nat.le_refl _, by omega, rfl, by simp, rfl⟩
    · rintro ⟨k, n, ok⟩ ⟨h1, h2, h3, h4, h5⟩
      simp only at h1 h2 h3 h4 h5
      simp only [go_sem, ↓reduceIte, or_true, or_false, true_or, false_or, Option.some.injEq, exists_eq_left, exists_eq_left', Nat.reduceBEq, Nat.reduceAdd, Nat.reduceMul, Nat.reduceSub, Nat.reduceEqDiff, Nat.reduceLT, Nat.reduceLeDiff, Option.map, Option.bind, List.map, List.length, true_implies, true_and, and_true, Bool.and_true, Bool.true_and, Bool.or_false, Bool.false_or, Bool.not_true, Bool.not_false, Bool.and_false, Bool.false_and, List.cons_append, List.nil_append, List.append_nil, mk_eq_bs, tl_bs, List.getElem?_cons_zero, List.getElem?_cons_succ, eq_self, reduceCtorEq, implies_true, false_implies, decide_eq_true_eq, decide_eq_false_iff_not, Bool.and_eq_true, Bool.or_eq_true, Bool.not_eq_true', Bool.and_eq_false_iff, Bool.or_eq_false_iff, Bool.not_eq_false', Option.toList, SV.v.injEq, Value.int.injEq, Value.bool.injEq, Value.string.injEq, Option.getD, List.contains_cons, List.contains_nil, beq_self_eq_true, Nat.max_def, List.set, List.drop, List.take, Int.toNat_natCast, Nat.mul_one, Int.toNat_zero, List.drop_zero, Bx.mk.injEq, Vc.mk.injEq, List.cons.injEq, List.take_length, List.getElem?_nil, List.getD_cons_zero, List.getD_cons_succ, Int.reduceToNat, not_false_eq_true, Nat.le_refl]
      refine ⟨fun h => by omega, fun h => ?_, fun h => ?_⟩
      · have hkl : k < s.length := by omega
        have hdg := (dig_iff _).1 h.2
        have hds : digL (s.drop k) = 1 + digL (s.drop (k + 1)) := by
          rw [drop_at hkl]; simp only [digL]; rw [if_pos h.2]
        have htk : (s.drop k).take (digL (s.drop k)) = s.getD k 0 :: (s.drop (k + 1)).take (digL (s.drop (k + 1))) := by
          rw [hds, drop_at hkl, Nat.add_comm, List.take_succ_cons]
        rw [htk] at h5
        simp only [refDig] at h5
        generalize s.getD k 0 = c at hdg h5 ⊢
        have hW : IntKind.i64.wrap (IntKind.u8.wrap ((c.toNat : Int) - 48)) = ((c.toNat - 48 : Nat) : Int) := by
          rw [wrap_u8_eq, wrap_i64_eq (by omega)]; omega
        have hT : ((9223372036854775807 : Int) - ((c.toNat - 48 : Nat) : Int)).tdiv 10 = (((9223372036854775807 - (c.toNat - 48)) / 10 : Nat) : Int) := by
          rw [Int.tdiv_eq_ediv_of_nonneg (by omega)]; omega
        rw [hW, hT]
        generalize hdd : c.toNat - 48 = d at h5 ⊢
        have hd9 : d ≤ 9 := by omega
        have hle : decide ((n : Int) ≤ (((9223372036854775807 - d) / 10 : Nat) : Int)) = decide (n ≤ (9223372036854775807 - d) / 10) := by rw [decide_eq_decide]; omega
        rw [hle]
        refine ⟨by omega, fun _ => by unfold I64; omega, fun _ => by decide, fun _ => by unfold I64; omega, fun hy => ⟨by unfold I64; omega, by unfold I64; omega, by unfold I64; omega, (k + 1, n * 10 + d, true), ⟨rfl, by simp only; omega, ?_⟩, ⟨by simp only; omega, by simp only; omega, by simp only; omega, by simp only; omega, ?_⟩, by simp only; omega⟩,
          fun hno => ⟨by unfold I64; omega, (k + 1, n, false), ⟨rfl, rfl, ?_⟩, ⟨by simp only; omega, by simp only; omega, by simp only; omega, h4, ?_⟩, by simp only; omega⟩⟩
        · rw [hy.1, decide_eq_true (by omega : n ≤ (9223372036854775807 - d) / 10)]; rfl
        · rw [h5, hy.1, if_pos rfl, if_pos (by omega : n ≤ (9223372036854775807 - d) / 10), if_pos rfl]
        · rcases hno with h' | h'
          · rw [h']; rfl
          · rw [decide_eq_false (by omega : ¬ n ≤ (9223372036854775807 - d) / 10), Bool.and_false]
        · rw [h5]
          rcases hno with h' | h'
          · rw [h']; rfl
          · rw [if_neg (by omega : ¬ n ≤ (9223372036854775807 - d) / 10)]; simp
      · have hend : digL (s.drop k) = 0 := by
          rcases h with h | h
          · rw [List.drop_of_length_le (by omega)]; rfl
          · rcases Nat.lt_or_ge k s.length with h' | h'
            · rw [drop_at h']; simp only [digL]; rw [h]; rfl
            · rw [List.drop_of_length_le h']; rfl
        have hk0 : k = p + digL (s.drop p) := by omega
        have hpos : p < k := by
          have : digL (s.drop p) = 1 + digL (s.drop (p + 1)) := by rw [drop_at hp]; simp only [digL]; rw [if_pos hd]
          omega
        rw [hend, List.take_zero] at h5
        simp only [refDig] at h5
        obtain ⟨hdt, hdl, hnum⟩ := num_at hp h2 hk0 hpos
        have hne : numT s p ≠ [] := fun e => by rw [e] at hdl; simp at hdl; omega
        have hpr := parseN_ref hne (fun c hc => dig_all (s.drop p) c hc)
        have hg0 : (numT s p).getD 0 0 = s.getD p 0 := by
          rw [numT, List.getD_eq_getElem?_getD, List.getElem?_take, if_pos (by omega), drop_at hp]; rfl
        rw [hg0] at hnum
        rw [hdl] at hnum
        have hz : (!decide ((((s.getD p 0).toNat : Nat) : Int) = 48) || decide ((k : Int) = p + 1)) = (decide ((s.getD p 0).toNat ≠ 48) || decide (k - p = 1)) := by
          have e1 : decide ((((s.getD p 0).toNat : Nat) : Int) = 48) = decide ((s.getD p 0).toNat = 48) := by rw [decide_eq_decide]; omega
          have e2 : decide ((k : Int) = p + 1) = decide (k - p = 1) := by rw [decide_eq_decide]; omega
          rw [e1, e2]
          simp
        refine ⟨fun _ => by omega, fun _ => by unfold I64; omega, fun h => by omega, fun h => ⟨by unfold I64; omega, ?_⟩, fun h => ?_⟩
        · rw [hnum]
          simp only [if_pos h, decide_eq_true h]
          rw [hz]
          cases ok with
          | false =>
            have h5 : refDig 0 (numT s p) = none := h5
            rw [h5] at hpr
            rw [hpr]
            exact ⟨⟨4, [], n, p⟩, _, false, rfl, rfl⟩
          | true =>
            have h5 : refDig 0 (numT s p) = some n := h5
            rw [h5] at hpr
            rw [hpr.1]
            simp only [decide_eq_true (by omega : (n : Int) ≤ 9223372036854775807), Bool.true_and]
            refine ⟨⟨4, [], n, p⟩, _, _, rfl, ?_⟩
            by_cases hzz : (decide ((s.getD p 0).toNat ≠ 48) || decide (k - p = 1)) = true
            · rw [if_pos hzz]
              exact ⟨hzz, rfl, by omega⟩
            · rw [if_neg hzz]
              simpa using hzz
        · have h' : ¬ ((k : Int) < s.length ∧ (((s.getD k 0).toNat : Nat) : Int) = 76) := fun x => h.elim (fun y => y x.1) (fun y => y x.2)
          rw [hnum]
          simp only [if_neg h', decide_eq_false h']
          rw [hz]
          cases ok with
          | false =>
            have h5 : refDig 0 (numT s p) = none := h5
            rw [h5] at hpr
            rw [hpr]
            exact ⟨⟨3, [], n, p⟩, _, false, rfl, rfl⟩
          | true =>
            have h5 : refDig 0 (numT s p) = some n := h5
            rw [h5] at hpr
            rw [hpr.1]
            simp only [Bool.true_and]
            refine ⟨⟨3, [], n, p⟩, _, _, rfl, ?_⟩
            by_cases hzz : (decide ((n : Int) ≤ 2147483647) && (decide ((s.getD p 0).toNat ≠ 48) || decide (k - p = 1))) = true
            · rw [if_pos hzz]
              exact ⟨by rw [Bool.and_comm]; exact hzz, rfl, by omega⟩
            · rw [if_neg hzz]
              rw [Bool.and_comm]
              simpa using hzz
end Go.Proofs.YtmkifodpkcmgoaaDoor.E

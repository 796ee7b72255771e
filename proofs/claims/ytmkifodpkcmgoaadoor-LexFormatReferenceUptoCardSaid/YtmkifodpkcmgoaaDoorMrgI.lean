/- Several texts in one: LexZc, LexZd, LexZe, LexZf. -/
import Derived.Test.YtmkifodpkcmgoaaDoorMrgH
/- lex, part Zc: the reference's texts of numbers, names and strings. -/
set_option linter.unusedSimpArgs false
set_option linter.unusedVariables false
namespace Go.Proofs.YtmkifodpkcmgoaaDoor.E
open Go

set_option maxRecDepth 20000 in
theorem u8_small : ∀ n : Nat, n < 256 → IntKind.u8.wrap (n : Int) = (n : Int) := by decide
theorem spell_len : ∀ (s : List UInt8), (spell s).length ≤ 2 * s.length
  | [] => by simp [spell]
  | c :: s => by
    have := spell_len s
    simp only [spell]
    split <;> simp only [List.length_cons] <;> omega
theorem spell_next {s : List UInt8} {k : Nat} (h : k < s.length) : spell (s.take (k + 1)) = spell (s.take k) ++ if (s.getD k 0).toNat = 47 then [58, 58] else [s.getD k 0] := by
  rw [List.take_succ_eq_append_getElem h, spell_app]
  have e : s.getD k 0 = s[k] := by rw [List.getD_eq_getElem?_getD, List.getElem?_eq_getElem h]; rfl
  rw [e]
  simp only [spell]
theorem one_slice {s : List UInt8} {k : Nat} (h : k < s.length) : (s.take (k + 1)).drop k = [s.getD k 0] := by
  rw [List.take_succ_eq_append_getElem h, List.drop_append_of_le_length (by rw [List.length_take]; omega), List.drop_eq_nil_of_le (by rw [List.length_take]; omega), List.getD_eq_getElem?_getD, List.getElem?_eq_getElem h]
  rfl
set_option maxHeartbeats 4000000 in
set_option maxRecDepth 20000 in
theorem spelled_spec (s : List UInt8) (m : Mem) (hs : s.length ≤ 2000000) :
    FnH Tryd.prog 35 [.v (.string (bs s))] ⟨[], []⟩ m fun r H' m' => r = .v (.string (bs (spell s))) ∧ H' = ⟨[], []⟩ ∧ m' = m := by
  refine enter cfN puN Tryd.func35 rfl rfl (by kernel_rfl) rfl ?_ ?_
  · simp only [go_sem, ↓reduceIte, or_true, or_false, true_or, false_or, Option.some.injEq, exists_eq_left, exists_eq_left', Nat.reduceBEq, Nat.reduceAdd, Nat.reduceMul, Nat.reduceSub, Nat.reduceEqDiff, Nat.reduceLT, Nat.reduceLeDiff, Option.map, Option.bind, List.map, List.length, true_implies, true_and, and_true, Bool.and_true, Bool.true_and, Bool.or_false, Bool.false_or, Bool.not_true, Bool.not_false, Bool.and_false, Bool.false_and, List.cons_append, List.nil_append, List.append_nil, mk_eq_bs, tl_bs, List.getElem?_cons_zero, List.getElem?_cons_succ, eq_self, reduceCtorEq, implies_true, false_implies, decide_eq_true_eq, decide_eq_false_iff_not, Bool.and_eq_true, Bool.or_eq_true, Bool.not_eq_true', Bool.and_eq_false_iff, Bool.or_eq_false_iff, Bool.not_eq_false', Option.toList, SV.v.injEq, Value.int.injEq, Value.bool.injEq, Value.string.injEq, Option.getD, List.contains_cons, List.contains_nil, beq_self_eq_true, Nat.max_def, List.set, List.drop, List.take, Int.toNat_natCast, Nat.mul_one, Int.toNat_zero, List.drop_zero, Bx.mk.injEq, Vc.mk.injEq, List.cons.injEq, List.take_length, List.getElem?_nil, List.getD_cons_zero, List.getD_cons_succ, Int.reduceToNat, not_false_eq_true, Nat.le_refl]
  · simp only [go_sem, ↓reduceIte, or_true, or_false, true_or, false_or, Option.some.injEq, exists_eq_left, exists_eq_left', Nat.reduceBEq, Nat.reduceAdd, Nat.reduceMul, Nat.reduceSub, Nat.reduceEqDiff, Nat.reduceLT, Nat.reduceLeDiff, Option.map, Option.bind, List.map, List.length, true_implies, true_and, and_true, Bool.and_true, Bool.true_and, Bool.or_false, Bool.false_or, Bool.not_true, Bool.not_false, Bool.and_false, Bool.false_and, List.cons_append, List.nil_append, List.append_nil, mk_eq_bs, tl_bs, List.getElem?_cons_zero, List.getElem?_cons_succ, eq_self, reduceCtorEq, implies_true, false_implies, decide_eq_true_eq, decide_eq_false_iff_not, Bool.and_eq_true, Bool.or_eq_true, Bool.not_eq_true', Bool.and_eq_false_iff, Bool.or_eq_false_iff, Bool.not_eq_false', Option.toList, SV.v.injEq, Value.int.injEq, Value.bool.injEq, Value.string.injEq, Option.getD, List.contains_cons, List.contains_nil, beq_self_eq_true, Nat.max_def, List.set, List.drop, List.take, Int.toNat_natCast, Nat.mul_one, Int.toNat_zero, List.drop_zero, Bx.mk.injEq, Vc.mk.injEq, List.cons.injEq, List.take_length, List.getElem?_nil, List.getD_cons_zero, List.getD_cons_succ, Int.reduceToNat, not_false_eq_true, Nat.le_refl]
    refine WP_loop puN (fun k : Nat => ⟨[⟨0, [], .v (.string (bs s))⟩, ⟨3, [], .v (.string (bs (spell (s.take k))))⟩, ⟨4, [], .v (.int .i64 k)⟩], [], [], [], 0, m⟩)
      (fun k => k ≤ s.length) (fun k => s.length - k) 0 (by kernel_rfl) (fun _ _ => Nat.le_refl _) (fun _ _ => .inl rfl) (fun _ => ?_) ?_ (Nat.zero_le _) ?_
    · simp only [go_sem, ↓reduceIte, or_true, or_false, true_or, false_or, Option.some.injEq, exists_eq_left, exists_eq_left', Nat.reduceBEq, Nat.reduceAdd, Nat.reduceMul, Nat.reduceSub, Nat.reduceEqDiff, Nat.reduceLT, Nat.reduceLeDiff, Option.map, Option.bind, List.map, List.length, true_implies, true_and, and_true, Bool.and_true, Bool.true_and, Bool.or_false, Bool.false_or, Bool.not_true, Bool.not_false, Bool.and_false, Bool.false_and, List.cons_append, List.nil_append, List.append_nil, mk_eq_bs, tl_bs, List.getElem?_cons_zero, List.getElem?_cons_succ, eq_self, reduceCtorEq, implies_true, false_implies, decide_eq_true_eq, decide_eq_false_iff_not, Bool.and_eq_true, Bool.or_eq_true, Bool.not_eq_true', Bool.and_eq_false_iff, Bool.or_eq_false_iff, Bool.not_eq_false', Option.toList, SV.v.injEq, Value.int.injEq, Value.bool.injEq, Value.string.injEq, Option.getD, List.contains_cons, List.contains_nil, beq_self_eq_true, Nat.max_def, List.set, List.drop, List.take, Int.toNat_natCast, Nat.mul_one, Int.toNat_zero, List.drop_zero, Bx.mk.injEq, Vc.mk.injEq, List.cons.injEq, List.take_length, List.getElem?_nil, List.getD_cons_zero, List.getD_cons_succ, Int.reduceToNat, not_false_eq_true, Nat.le_refl]
    · simp only [go_sem, ↓reduceIte, or_true, or_false, true_or, false_or, Option.some.injEq, exists_eq_left, exists_eq_left', Nat.reduceBEq, Nat.reduceAdd, Nat.reduceMul, Nat.reduceSub, Nat.reduceEqDiff, Nat.reduceLT, Nat.reduceLeDiff, Option.map, Option.bind, List.map, List.length, true_implies, true_and, and_true, Bool.and_true, Bool.true_and, Bool.or_false, Bool.false_or, Bool.not_true, Bool.not_false, Bool.and_false, Bool.false_and, List.cons_append, List.nil_append, List.append_nil, mk_eq_bs, tl_bs, List.getElem?_cons_zero, List.getElem?_cons_succ, eq_self, reduceCtorEq, implies_true, false_implies, decide_eq_true_eq, decide_eq_false_iff_not, Bool.and_eq_true, Bool.or_eq_true, Bool.not_eq_true', Bool.and_eq_false_iff, Bool.or_eq_false_iff, Bool.not_eq_false', Option.toList, SV.v.injEq, Value.int.injEq, Value.bool.injEq, Value.string.injEq, Option.getD, List.contains_cons, List.contains_nil, beq_self_eq_true, Nat.max_def, List.set, List.drop, List.take, Int.toNat_natCast, Nat.mul_one, Int.toNat_zero, List.drop_zero, Bx.mk.injEq, Vc.mk.injEq, List.cons.injEq, List.take_length, List.getElem?_nil, List.getD_cons_zero, List.getD_cons_succ, Int.reduceToNat, not_false_eq_true, Nat.le_refl]
      exact ⟨rfl, rfl⟩
    · intro k hk
      have hl : (spell (s.take k)).length ≤ 2 * k := by have := spell_len (s.take k); rw [List.length_take] at this; omega
      simp only [go_sem, ↓reduceIte, or_true, or_false, true_or, false_or, Option.some.injEq, exists_eq_left, exists_eq_left', Nat.reduceBEq, Nat.reduceAdd, Nat.reduceMul, Nat.reduceSub, Nat.reduceEqDiff, Nat.reduceLT, Nat.reduceLeDiff, Option.map, Option.bind, List.map, List.length, true_implies, true_and, and_true, Bool.and_true, Bool.true_and, Bool.or_false, Bool.false_or, Bool.not_true, Bool.not_false, Bool.and_false, Bool.false_and, List.cons_append, List.nil_append, List.append_nil, mk_eq_bs, tl_bs, List.getElem?_cons_zero, List.getElem?_cons_succ, eq_self, reduceCtorEq, implies_true, false_implies, decide_eq_true_eq, decide_eq_false_iff_not, Bool.and_eq_true, Bool.or_eq_true, Bool.not_eq_true', Bool.and_eq_false_iff, Bool.or_eq_false_iff, Bool.not_eq_false', Option.toList, SV.v.injEq, Value.int.injEq, Value.bool.injEq, Value.string.injEq, Option.getD, List.contains_cons, List.contains_nil, beq_self_eq_true, Nat.max_def, List.set, List.drop, List.take, Int.toNat_natCast, Nat.mul_one, Int.toNat_zero, List.drop_zero, Bx.mk.injEq, Vc.mk.injEq, List.cons.injEq, List.take_length, List.getElem?_nil, List.getD_cons_zero, List.getD_cons_succ, Int.reduceToNat, not_false_eq_true, Nat.le_refl]
      refine ⟨fun hlt => ?_, fun hge => ?_⟩
      · have hk' : k < s.length := by omega
        have e1 : ((k : Int) + 1).toNat = k + 1 := by omega
        refine ⟨⟨by omega, hlt⟩, fun h47 => ⟨by omega, by unfold I64; omega, k + 1, ⟨?_, rfl⟩, hk', by omega⟩, fun h47 => ⟨by unfold I64; omega, ⟨by omega, by omega, by omega⟩, ?_, by unfold I64; omega, k + 1, ⟨?_, rfl⟩, hk', by omega⟩⟩
        · rw [spell_next hk', if_pos (by omega)]
        · rw [e1, one_slice hk']; simp only [List.length_singleton]; omega
        · rw [e1, one_slice hk', spell_next hk', if_neg (by omega)]
      · rw [List.take_of_length_le (by omega)]
set_option maxHeartbeats 4000000 in
set_option maxRecDepth 20000 in
theorem rquoted_spec (s : List UInt8) (m : Mem) (hs : s.length ≤ 2000000) :
    FnH Tryd.prog 34 [.v (.string (bs s))] ⟨[], []⟩ m fun r H' m' => r = .v (.string (bs (escapedL s))) ∧ H' = ⟨[], []⟩ ∧ m' = m := by
  refine enter cfN puN Tryd.func34 rfl rfl (by kernel_rfl) rfl ?_ ?_
  · simp only [go_sem, ↓reduceIte, or_true, or_false, true_or, false_or, Option.some.injEq, exists_eq_left, exists_eq_left', Nat.reduceBEq, Nat.reduceAdd, Nat.reduceMul, Nat.reduceSub, Nat.reduceEqDiff, Nat.reduceLT, Nat.reduceLeDiff, Option.map, Option.bind, List.map, List.length, true_implies, true_and, and_true, Bool.and_true, Bool.true_and, Bool.or_false, Bool.false_or, Bool.not_true, Bool.not_false, Bool.and_false, Bool.false_and, List.cons_append, List.nil_append, List.append_nil, mk_eq_bs, tl_bs, List.getElem?_cons_zero, List.getElem?_cons_succ, eq_self, reduceCtorEq, implies_true, false_implies, decide_eq_true_eq, decide_eq_false_iff_not, Bool.and_eq_true, Bool.or_eq_true, Bool.not_eq_true', Bool.and_eq_false_iff, Bool.or_eq_false_iff, Bool.not_eq_false', Option.toList, SV.v.injEq, Value.int.injEq, Value.bool.injEq, Value.string.injEq, Option.getD, List.contains_cons, List.contains_nil, beq_self_eq_true, Nat.max_def, List.set, List.drop, List.take, Int.toNat_natCast, Nat.mul_one, Int.toNat_zero, List.drop_zero, Bx.mk.injEq, Vc.mk.injEq, List.cons.injEq, List.take_length, List.getElem?_nil, List.getD_cons_zero, List.getD_cons_succ, Int.reduceToNat, not_false_eq_true, Nat.le_refl]
  · simp only [go_sem, ↓reduceIte, or_true, or_false, true_or, false_or, Option.some.injEq, exists_eq_left, exists_eq_left', Nat.reduceBEq, Nat.reduceAdd, Nat.reduceMul, Nat.reduceSub, Nat.reduceEqDiff, Nat.reduceLT, Nat.reduceLeDiff, Option.map, Option.bind, List.map, List.length, true_implies, true_and, and_true, Bool.and_true, Bool.true_and, Bool.or_false, Bool.false_or, Bool.not_true, Bool.not_false, Bool.and_false, Bool.false_and, List.cons_append, List.nil_append, List.append_nil, mk_eq_bs, tl_bs, List.getElem?_cons_zero, List.getElem?_cons_succ, eq_self, reduceCtorEq, implies_true, false_implies, decide_eq_true_eq, decide_eq_false_iff_not, Bool.and_eq_true, Bool.or_eq_true, Bool.not_eq_true', Bool.and_eq_false_iff, Bool.or_eq_false_iff, Bool.not_eq_false', Option.toList, SV.v.injEq, Value.int.injEq, Value.bool.injEq, Value.string.injEq, Option.getD, List.contains_cons, List.contains_nil, beq_self_eq_true, Nat.max_def, List.set, List.drop, List.take, Int.toNat_natCast, Nat.mul_one, Int.toNat_zero, List.drop_zero, Bx.mk.injEq, Vc.mk.injEq, List.cons.injEq, List.take_length, List.getElem?_nil, List.getD_cons_zero, List.getD_cons_succ, Int.reduceToNat, not_false_eq_true, Nat.le_refl]
    refine WP_loop puN (fun x : Nat × Nat × List UInt8 => ⟨[⟨0, [], .v (.string (bs s))⟩, ⟨3, [], .vec 0 x.2.1⟩, ⟨4, [], .v (.int .i64 x.1)⟩], [], [], [⟨0, x.2.1, 5, 1, x.2.2.length, u8s x.2.2⟩], 1, m⟩)
      (fun x => x.1 ≤ s.length ∧ x.2.2 = 34 :: ((s.take x.1).map escB).flatten) (fun x => s.length - x.1) (0, 0, [34]) (by kernel_rfl) (fun _ _ => Nat.le_refl _) (fun _ _ => .inl rfl) (fun _ => ?_) ?_ ?_ ?_
    · simp only [go_sem, ↓reduceIte, or_true, or_false, true_or, false_or, Option.some.injEq, exists_eq_left, exists_eq_left', Nat.reduceBEq, Nat.reduceAdd, Nat.reduceMul, Nat.reduceSub, Nat.reduceEqDiff, Nat.reduceLT, Nat.reduceLeDiff, Option.map, Option.bind, List.map, List.length, true_implies, true_and, and_true, Bool.and_true, Bool.true_and, Bool.or_false, Bool.false_or, Bool.not_true, Bool.not_false, Bool.and_false, Bool.false_and, List.cons_append, List.nil_append, List.append_nil, mk_eq_bs, tl_bs, List.getElem?_cons_zero, List.getElem?_cons_succ, eq_self, reduceCtorEq, implies_true, false_implies, decide_eq_true_eq, decide_eq_false_iff_not, Bool.and_eq_true, Bool.or_eq_true, Bool.not_eq_true', Bool.and_eq_false_iff, Bool.or_eq_false_iff, Bool.not_eq_false', Option.toList, SV.v.injEq, Value.int.injEq, Value.bool.injEq, Value.string.injEq, Option.getD, List.contains_cons, List.contains_nil, beq_self_eq_true, Nat.max_def, List.set, List.drop, List.take, Int.toNat_natCast, Nat.mul_one, Int.toNat_zero, List.drop_zero, Bx.mk.injEq, Vc.mk.injEq, List.cons.injEq, List.take_length, List.getElem?_nil, List.getD_cons_zero, List.getD_cons_succ, Int.reduceToNat, not_false_eq_true, Nat.le_refl]
    · simp only [go_sem, ↓reduceIte, or_true, or_false, true_or, false_or, Option.some.injEq, exists_eq_left, exists_eq_left', Nat.reduceBEq, Nat.reduceAdd, Nat.reduceMul, Nat.reduceSub, Nat.reduceEqDiff, Nat.reduceLT, Nat.reduceLeDiff, Option.map, Option.bind, List.map, List.length, true_implies, true_and, and_true, Bool.and_true, Bool.true_and, Bool.or_false, Bool.false_or, Bool.not_true, Bool.not_false, Bool.and_false, Bool.false_and, List.cons_append, List.nil_append, List.append_nil, mk_eq_bs, tl_bs, List.getElem?_cons_zero, List.getElem?_cons_succ, eq_self, reduceCtorEq, implies_true, false_implies, decide_eq_true_eq, decide_eq_false_iff_not, Bool.and_eq_true, Bool.or_eq_true, Bool.not_eq_true', Bool.and_eq_false_iff, Bool.or_eq_false_iff, Bool.not_eq_false', Option.toList, SV.v.injEq, Value.int.injEq, Value.bool.injEq, Value.string.injEq, Option.getD, List.contains_cons, List.contains_nil, beq_self_eq_true, Nat.max_def, List.set, List.drop, List.take, Int.toNat_natCast, Nat.mul_one, Int.toNat_zero, List.drop_zero, Bx.mk.injEq, Vc.mk.injEq, List.cons.injEq, List.take_length, List.getElem?_nil, List.getD_cons_zero, List.getD_cons_succ, Int.reduceToNat, not_false_eq_true, Nat.le_refl]
      exact ⟨rfl, rfl⟩
    · exact ⟨Nat.zero_le _, rfl⟩
    · rintro ⟨k, u, b⟩ ⟨h1, h2⟩
      simp only at h1 h2
      have hbl : b.length ≤ 1 + 4 * k := by
        rw [h2, List.length_cons]
        have := escFlat_len (s.take k)
        rw [List.length_take] at this
        omega
      have hroom : ∀ n, n ≤ 4 → room (b.length + n) 1 := fun n hn => ⟨by omega, by simp only [maxLen]; omega⟩
      have step : k < s.length → ∀ e, escB (s.getD k 0) = e → ∀ ver : Nat, ver = u + 1 → b.length + e.length = (b ++ e).length ∧ u8s b ++ u8s e = u8s (b ++ e) ∧ (k + 1 ≤ s.length ∧ b ++ e = 34 :: ((s.take (k + 1)).map escB).flatten) ∧ s.length - (k + 1) < s.length - k := fun hk e he ver _ => by
        refine ⟨(List.length_append).symm, (u8s_app b e).symm, ⟨hk, ?_⟩, by omega⟩
        rw [List.take_succ_eq_append_getElem hk, List.map_append, List.flatten_append, h2, ← he, List.getD_eq_getElem?_getD, List.getElem?_eq_getElem hk]
        simp
      simp only [go_sem, ↓reduceIte, or_true, or_false, true_or, false_or, Option.some.injEq, exists_eq_left, exists_eq_left', Nat.reduceBEq, Nat.reduceAdd, Nat.reduceMul, Nat.reduceSub, Nat.reduceEqDiff, Nat.reduceLT, Nat.reduceLeDiff, Option.map, Option.bind, List.map, List.length, true_implies, true_and, and_true, Bool.and_true, Bool.true_and, Bool.or_false, Bool.false_or, Bool.not_true, Bool.not_false, Bool.and_false, Bool.false_and, List.cons_append, List.nil_append, List.append_nil, mk_eq_bs, tl_bs, List.getElem?_cons_zero, List.getElem?_cons_succ, eq_self, reduceCtorEq, implies_true, false_implies, decide_eq_true_eq, decide_eq_false_iff_not, Bool.and_eq_true, Bool.or_eq_true, Bool.not_eq_true', Bool.and_eq_false_iff, Bool.or_eq_false_iff, Bool.not_eq_false', Option.toList, SV.v.injEq, Value.int.injEq, Value.bool.injEq, Value.string.injEq, Option.getD, List.contains_cons, List.contains_nil, beq_self_eq_true, Nat.max_def, List.set, List.drop, List.take, Int.toNat_natCast, Nat.mul_one, Int.toNat_zero, List.drop_zero, Bx.mk.injEq, Vc.mk.injEq, List.cons.injEq, List.take_length, List.getElem?_nil, List.getD_cons_zero, List.getD_cons_succ, Int.reduceToNat, not_false_eq_true, Nat.le_refl]
      refine ⟨fun hlt => ?_, fun hge => ?_⟩
      · have hk : k < s.length := by omega
        have hI : I64 (k + 1) := by unfold I64; omega
        refine ⟨⟨by omega, hlt⟩, fun c1 => ⟨hroom 2 (by omega), hI, ?_⟩, fun c1 => ⟨fun c2 => ⟨hroom 2 (by omega), hI, ?_⟩, fun c2 => ⟨fun c3 => ⟨hroom 1 (by omega), hI, ?_⟩, fun c3 => ?_⟩⟩⟩
        · have h := step hk [92, s.getD k 0] (by unfold escB; rw [if_pos (by omega)]) _ rfl
          exact ⟨(k + 1, u + 1, b ++ [92, s.getD k 0]), ⟨⟨rfl, rfl⟩, rfl, h.1, h.2.1⟩, h.2.2.1, h.2.2.2⟩
        · have h := step hk [92, 110] (by unfold escB; rw [if_neg (by omega), if_pos (by omega)]) _ rfl
          exact ⟨(k + 1, u + 1, b ++ [92, 110]), ⟨⟨rfl, rfl⟩, rfl, h.1, h.2.1⟩, h.2.2.1, h.2.2.2⟩
        · have h := step hk [s.getD k 0] (by unfold escB; rw [if_neg (by omega), if_neg (by omega), if_neg (by omega)]) _ rfl
          exact ⟨(k + 1, u + 1, b ++ [s.getD k 0]), ⟨⟨rfl, rfl⟩, rfl, h.1, h.2.1⟩, h.2.2.1, h.2.2.2⟩
        · have h := step hk [92, 120, hexL.getD ((s.getD k 0).toNat / 16) 0, hexL.getD ((s.getD k 0).toNat % 16) 0] (by unfold escB; rw [if_neg (by omega), if_neg (by omega), if_pos (by omega)]) _ rfl
          have hc := (s.getD k 0).toNat_lt
          have e1 : (((s.getD k 0).toNat : Nat) : Int).tdiv 16 = ((((s.getD k 0).toNat / 16 : Nat)) : Int) := by rw [Int.tdiv_eq_ediv_of_nonneg (by omega)]; omega
          have e2 : (((s.getD k 0).toNat : Nat) : Int).tmod 16 = ((((s.getD k 0).toNat % 16 : Nat)) : Int) := by rw [Int.tmod_eq_emod_of_nonneg (by omega)]; omega
          have e3 := u8_small ((s.getD k 0).toNat / 16) (by omega)
          refine WP_draw (.hoist 0 (.hoist 1 (.hoist 2 (.hoist 3 (.hoist 4 (.hoist 5 (.hoist 6 (.alt 7 [0] (.alt 8 [] (.hoist 9 .done) .stop) .stop)))))))) puN (by kernel_rfl) (by kernel_rfl) ?_
          simp only [go_sem, ↓reduceIte, or_true, or_false, true_or, false_or, Option.some.injEq, exists_eq_left, exists_eq_left', Nat.reduceBEq, Nat.reduceAdd, Nat.reduceMul, Nat.reduceSub, Nat.reduceEqDiff, Nat.reduceLT, Nat.reduceLeDiff, Option.map, Option.bind, List.map, List.length, true_implies, true_and, and_true, Bool.and_true, Bool.true_and, Bool.or_false, Bool.false_or, Bool.not_true, Bool.not_false, Bool.and_false, Bool.false_and, List.cons_append, List.nil_append, List.append_nil, mk_eq_bs, tl_bs, List.getElem?_cons_zero, List.getElem?_cons_succ, eq_self, reduceCtorEq, implies_true, false_implies, decide_eq_true_eq, decide_eq_false_iff_not, Bool.and_eq_true, Bool.or_eq_true, Bool.not_eq_true', Bool.and_eq_false_iff, Bool.or_eq_false_iff, Bool.not_eq_false', Option.toList, SV.v.injEq, Value.int.injEq, Value.bool.injEq, Value.string.injEq, Option.getD, List.contains_cons, List.contains_nil, beq_self_eq_true, Nat.max_def, List.set, List.drop, List.take, Int.toNat_natCast, Nat.mul_one, Int.toNat_zero, List.drop_zero, Bx.mk.injEq, Vc.mk.injEq, List.cons.injEq, List.take_length, List.getElem?_nil, List.getD_cons_zero, List.getD_cons_succ, Int.reduceToNat, not_false_eq_true, Nat.le_refl, e1, e2, e3]
          exact ⟨by omega, by omega, by omega, ⟨by omega, by omega⟩, hroom 4 (by omega), hI, (k + 1, u + 1, b ++ [92, 120, hexL.getD ((s.getD k 0).toNat / 16) 0, hexL.getD ((s.getD k 0).toNat % 16) 0]), ⟨⟨rfl, rfl⟩, rfl, h.1, h.2.1⟩, h.2.2.1, h.2.2.2⟩
      · have ek : k = s.length := by omega
        refine ⟨hroom 1 (by omega), b ++ [34], by rw [u8s_app]; rfl, ?_⟩
        rw [h2, ek, List.take_length]; rfl
/-- The digits that are still to be written. -/
def preD (x : Nat) : List UInt8 := if x = 0 then [] else Lib.decDigits x
theorem preD_next (x : Nat) : Lib.decDigits x = preD (x / 10) ++ [UInt8.ofNat (48 + x % 10)] := by
  unfold preD
  rw [Lib.decDigits]
  by_cases h : x < 10
  · rw [dif_pos h, if_pos (by omega), Nat.mod_eq_of_lt h]; rfl
  · rw [dif_neg h, if_neg (by omega)]
def digsL : List UInt8 := [48, 49, 50, 51, 52, 53, 54, 55, 56, 57]
theorem dig_slice : ∀ d : Nat, d < 10 → (digsL.take (d + 1)).drop d = [UInt8.ofNat (48 + d)] := by decide
set_option maxHeartbeats 4000000 in
set_option maxRecDepth 20000 in
theorem digits_spec (N : Nat) (m : Mem) (hN : N ≤ 9223372036854775807) :
    FnH Tryd.prog 33 [.v (.int .i64 N)] ⟨[], []⟩ m fun r H' m' => r = .v (.string (bs (Lib.decDigits N))) ∧ H' = ⟨[], []⟩ ∧ m' = m := by
  have hlen : (Lib.decDigits N).length ≤ 20 := by rw [Lib.decDigits_length]; have := nDigits_le 19 N (by omega); omega
  refine enter cfN puN Tryd.func33 rfl rfl (by kernel_rfl) rfl ?_ ?_
  · simp only [go_sem, ↓reduceIte, or_true, or_false, true_or, false_or, Option.some.injEq, exists_eq_left, exists_eq_left', Nat.reduceBEq, Nat.reduceAdd, Nat.reduceMul, Nat.reduceSub, Nat.reduceEqDiff, Nat.reduceLT, Nat.reduceLeDiff, Option.map, Option.bind, List.map, List.length, true_implies, true_and, and_true, Bool.and_true, Bool.true_and, Bool.or_false, Bool.false_or, Bool.not_true, Bool.not_false, Bool.and_false, Bool.false_and, List.cons_append, List.nil_append, List.append_nil, mk_eq_bs, tl_bs, List.getElem?_cons_zero, List.getElem?_cons_succ, eq_self, reduceCtorEq, implies_true, false_implies, decide_eq_true_eq, decide_eq_false_iff_not, Bool.and_eq_true, Bool.or_eq_true, Bool.not_eq_true', Bool.and_eq_false_iff, Bool.or_eq_false_iff, Bool.not_eq_false', Option.toList, SV.v.injEq, Value.int.injEq, Value.bool.injEq, Value.string.injEq, Option.getD, List.contains_cons, List.contains_nil, beq_self_eq_true, Nat.max_def, List.set, List.drop, List.take, Int.toNat_natCast, Nat.mul_one, Int.toNat_zero, List.drop_zero, Bx.mk.injEq, Vc.mk.injEq, List.cons.injEq, List.take_length, List.getElem?_nil, List.getD_cons_zero, List.getD_cons_succ, Int.reduceToNat, not_false_eq_true, Nat.le_refl]
  · simp only [go_sem, ↓reduceIte, or_true, or_false, true_or, false_or, Option.some.injEq, exists_eq_left, exists_eq_left', Nat.reduceBEq, Nat.reduceAdd, Nat.reduceMul, Nat.reduceSub, Nat.reduceEqDiff, Nat.reduceLT, Nat.reduceLeDiff, Option.map, Option.bind, List.map, List.length, true_implies, true_and, and_true, Bool.and_true, Bool.true_and, Bool.or_false, Bool.false_or, Bool.not_true, Bool.not_false, Bool.and_false, Bool.false_and, List.cons_append, List.nil_append, List.append_nil, mk_eq_bs, tl_bs, List.getElem?_cons_zero, List.getElem?_cons_succ, eq_self, reduceCtorEq, implies_true, false_implies, decide_eq_true_eq, decide_eq_false_iff_not, Bool.and_eq_true, Bool.or_eq_true, Bool.not_eq_true', Bool.and_eq_false_iff, Bool.or_eq_false_iff, Bool.not_eq_false', Option.toList, SV.v.injEq, Value.int.injEq, Value.bool.injEq, Value.string.injEq, Option.getD, List.contains_cons, List.contains_nil, beq_self_eq_true, Nat.max_def, List.set, List.drop, List.take, Int.toNat_natCast, Nat.mul_one, Int.toNat_zero, List.drop_zero, Bx.mk.injEq, Vc.mk.injEq, List.cons.injEq, List.take_length, List.getElem?_nil, List.getD_cons_zero, List.getD_cons_succ, Int.reduceToNat, not_false_eq_true, Nat.le_refl]
    refine WP_loop puN (fun x : Nat × List UInt8 => ⟨[⟨0, [], .v (.int .i64 x.1)⟩, ⟨3, [], .v (.string (bs x.2))⟩], [], [], [], 0, m⟩)
      (fun x => x.1 ≤ N ∧ ((x.2 = [] ∧ x.1 = N) ∨ (x.2 ≠ [] ∧ Lib.decDigits N = preD x.1 ++ x.2))) (fun x => x.1 + if x.2 = [] then 1 else 0) (N, []) (by kernel_rfl) (fun _ _ => Nat.le_refl _) (fun _ _ => .inl rfl) (fun _ => ?_) ?_ ⟨Nat.le_refl _, .inl ⟨rfl, rfl⟩⟩ ?_
    · simp only [go_sem, ↓reduceIte, or_true, or_false, true_or, false_or, Option.some.injEq, exists_eq_left, exists_eq_left', Nat.reduceBEq, Nat.reduceAdd, Nat.reduceMul, Nat.reduceSub, Nat.reduceEqDiff, Nat.reduceLT, Nat.reduceLeDiff, Option.map, Option.bind, List.map, List.length, true_implies, true_and, and_true, Bool.and_true, Bool.true_and, Bool.or_false, Bool.false_or, Bool.not_true, Bool.not_false, Bool.and_false, Bool.false_and, List.cons_append, List.nil_append, List.append_nil, mk_eq_bs, tl_bs, List.getElem?_cons_zero, List.getElem?_cons_succ, eq_self, reduceCtorEq, implies_true, false_implies, decide_eq_true_eq, decide_eq_false_iff_not, Bool.and_eq_true, Bool.or_eq_true, Bool.not_eq_true', Bool.and_eq_false_iff, Bool.or_eq_false_iff, Bool.not_eq_false', Option.toList, SV.v.injEq, Value.int.injEq, Value.bool.injEq, Value.string.injEq, Option.getD, List.contains_cons, List.contains_nil, beq_self_eq_true, Nat.max_def, List.set, List.drop, List.take, Int.toNat_natCast, Nat.mul_one, Int.toNat_zero, List.drop_zero, Bx.mk.injEq, Vc.mk.injEq, List.cons.injEq, List.take_length, List.getElem?_nil, List.getD_cons_zero, List.getD_cons_succ, Int.reduceToNat, not_false_eq_true, Nat.le_refl]
    · simp only [go_sem, ↓reduceIte, or_true, or_false, true_or, false_or, Option.some.injEq, exists_eq_left, exists_eq_left', Nat.reduceBEq, Nat.reduceAdd, Nat.reduceMul, Nat.reduceSub, Nat.reduceEqDiff, Nat.reduceLT, Nat.reduceLeDiff, Option.map, Option.bind, List.map, List.length, true_implies, true_and, and_true, Bool.and_true, Bool.true_and, Bool.or_false, Bool.false_or, Bool.not_true, Bool.not_false, Bool.and_false, Bool.false_and, List.cons_append, List.nil_append, List.append_nil, mk_eq_bs, tl_bs, List.getElem?_cons_zero, List.getElem?_cons_succ, eq_self, reduceCtorEq, implies_true, false_implies, decide_eq_true_eq, decide_eq_false_iff_not, Bool.and_eq_true, Bool.or_eq_true, Bool.not_eq_true', Bool.and_eq_false_iff, Bool.or_eq_false_iff, Bool.not_eq_false', Option.toList, SV.v.injEq, Value.int.injEq, Value.bool.injEq, Value.string.injEq, Option.getD, List.contains_cons, List.contains_nil, beq_self_eq_true, Nat.max_def, List.set, List.drop, List.take, Int.toNat_natCast, Nat.mul_one, Int.toNat_zero, List.drop_zero, Bx.mk.injEq, Vc.mk.injEq, List.cons.injEq, List.take_length, List.getElem?_nil, List.getD_cons_zero, List.getD_cons_succ, Int.reduceToNat, not_false_eq_true, Nat.le_refl]
    · rintro ⟨x, b⟩ hx
      simp only at hx
      simp only [go_sem, ↓reduceIte, or_true, or_false, true_or, false_or, Option.some.injEq, exists_eq_left, exists_eq_left', Nat.reduceBEq, Nat.reduceAdd, Nat.reduceMul, Nat.reduceSub, Nat.reduceEqDiff, Nat.reduceLT, Nat.reduceLeDiff, Option.map, Option.bind, List.map, List.length, true_implies, true_and, and_true, Bool.and_true, Bool.true_and, Bool.or_false, Bool.false_or, Bool.not_true, Bool.not_false, Bool.and_false, Bool.false_and, List.cons_append, List.nil_append, List.append_nil, mk_eq_bs, tl_bs, List.getElem?_cons_zero, List.getElem?_cons_succ, eq_self, reduceCtorEq, implies_true, false_implies, decide_eq_true_eq, decide_eq_false_iff_not, Bool.and_eq_true, Bool.or_eq_true, Bool.not_eq_true', Bool.and_eq_false_iff, Bool.or_eq_false_iff, Bool.not_eq_false', Option.toList, SV.v.injEq, Value.int.injEq, Value.bool.injEq, Value.string.injEq, Option.getD, List.contains_cons, List.contains_nil, beq_self_eq_true, Nat.max_def, List.set, List.drop, List.take, Int.toNat_natCast, Nat.mul_one, Int.toNat_zero, List.drop_zero, Bx.mk.injEq, Vc.mk.injEq, List.cons.injEq, List.take_length, List.getElem?_nil, List.getD_cons_zero, List.getD_cons_succ, Int.reduceToNat, not_false_eq_true, Nat.le_refl]
      have e1 : (x : Int).tmod 10 = ((x % 10 : Nat) : Int) := by rw [Int.tmod_eq_emod_of_nonneg (by omega)]; omega
      have e2 : (x : Int).tdiv 10 = ((x / 10 : Nat) : Int) := by rw [Int.tdiv_eq_ediv_of_nonneg (by omega)]; omega
      have e3 : (((x % 10 : Nat) : Int)).toNat = x % 10 := Int.toNat_natCast _
      have e4 : (((x % 10 : Nat) : Int) + 1).toNat = x % 10 + 1 := by omega
      rw [e1, e2, e3, e4]
      have e5 := dig_slice (x % 10) (Nat.mod_lt _ (by omega))
      unfold digsL at e5
      rw [e5]
      have hbl : b.length ≤ 20 := by
        rcases hx.2 with h | h
        · rw [h.1]; simp
        · have := congrArg List.length h.2
          rw [List.length_append] at this
          omega
      have hxN := hx.1
      refine ⟨fun hc => ⟨by omega, by omega, by unfold I64; omega, ⟨by omega, by omega, by omega⟩, by simp only [List.length_singleton]; omega, by omega, by unfold I64; omega, (x / 10, [UInt8.ofNat (48 + x % 10)] ++ b), ⟨rfl, rfl⟩, ⟨by simp only; omega, .inr ⟨by simp, ?_⟩⟩, ?_⟩, fun hc => ?_⟩
      · simp only
        rcases hx.2 with h | h
        · rw [h.1, ← h.2, List.append_nil]; exact preD_next x
        · have h0 : ¬ x = 0 := by
            rcases hc with hc | hc
            · exact absurd hc h.1
            · omega
          have e : preD x = Lib.decDigits x := if_neg h0
          rw [h.2, e, preD_next x, List.append_assoc]
      · simp only [List.cons_append, List.nil_append, if_neg (List.cons_ne_nil _ _)]
        by_cases hb : b = []
        · rw [if_pos hb]; omega
        · rw [if_neg hb]
          rcases hc with hc | hc
          · exact absurd hc hb
          · omega
      · rcases hx.2 with h | h
        · exact absurd h.1 hc.1
        · have h0 : x = 0 := by omega
          rw [h.2, h0]; rfl
end Go.Proofs.YtmkifodpkcmgoaaDoor.E

/- lex, part Zd: the reference's FormatToken. -/
set_option linter.unusedSimpArgs false
set_option linter.unusedVariables false
namespace Go.Proofs.YtmkifodpkcmgoaaDoor.E
open Go

theorem valid_pre {t : Tk} (h : ((decide (t.k = 3) || decide (t.k = 4)) == (decide (t.s = []) && !decide (t.k = 5))) = false) : fmtL t = none := by
  obtain ⟨k, s, n, q⟩ := t
  simp only at h
  have hn : isName [] = false := rfl
  by_cases hs : s = []
  · subst hs
    simp only [decide_true, Bool.true_and] at h
    by_cases h3 : k = 3
    · subst h3; exact absurd h (by simp)
    · by_cases h4 : k = 4
      · subst h4; exact absurd h (by simp)
      · by_cases h5 : k = 5
        · subst h5; exact absurd h (by simp)
        · simp only [fmtL, h3, h4, h5, if_false, hn]
          have e1 : keywordsL.contains [] = false := by decide
          have e2 : signsL.contains [] = false := by decide
          simp only [e1, e2]
          simp
  · simp only [decide_eq_false hs, Bool.false_and] at h
    by_cases h3 : k = 3
    · subst h3; simp [fmtL, hs]
    · by_cases h4 : k = 4
      · subst h4; simp [fmtL, hs]
      · simp only [decide_eq_false h3, decide_eq_false h4, Bool.or_self] at h
        exact absurd h (by decide)
theorem valid_pos {t : Tk} (h : ((decide (t.k = 3) || decide (t.k = 4)) == (decide (t.s = []) && !decide (t.k = 5))) = true) : t.k = 3 ∨ t.k = 4 → t.s = [] := by
  intro hk
  have e : (decide (t.k = 3) || decide (t.k = 4)) = true := by simpa using hk
  rw [e] at h
  have := beq_iff_eq.1 h
  have := Bool.and_eq_true_iff.1 this.symm
  exact of_decide_eq_true this.1
theorem some_if {p : Prop} [Decidable p] {x : List UInt8} : (if p then some x else none).isSome = decide p := by
  by_cases h : p <;> simp [h]
set_option maxHeartbeats 8000000 in
set_option maxRecDepth 20000 in
theorem valid_spec (t : Tk) (m : Mem) (ht : TkOk t) :
    FnH Tryd.prog 32 [Tk.sv t] ⟨[], []⟩ m fun r H' m' => leM m m' ∧ H' = ⟨[], []⟩ ∧ r = .v (.bool (fmtL t).isSome) := by
  have hl := ht.1
  refine enter cf6 pu6 Tryd.func32 rfl rfl (by kernel_rfl) rfl ?_ ?_
  · simp only [go_sem, ↓reduceIte, or_true, or_false, true_or, false_or, Option.some.injEq, exists_eq_left, exists_eq_left', Nat.reduceBEq, Nat.reduceAdd, Nat.reduceMul, Nat.reduceSub, Nat.reduceEqDiff, Nat.reduceLT, Nat.reduceLeDiff, Option.map, Option.bind, List.map, List.length, true_implies, true_and, and_true, Bool.and_true, Bool.true_and, Bool.or_false, Bool.false_or, Bool.not_true, Bool.not_false, Bool.and_false, Bool.false_and, List.cons_append, List.nil_append, List.append_nil, mk_eq_bs, tl_bs, List.getElem?_cons_zero, List.getElem?_cons_succ, eq_self, reduceCtorEq, implies_true, false_implies, decide_eq_true_eq, decide_eq_false_iff_not, Bool.and_eq_true, Bool.or_eq_true, Bool.not_eq_true', Bool.and_eq_false_iff, Bool.or_eq_false_iff, Bool.not_eq_false', Option.toList, SV.v.injEq, Value.int.injEq, Value.bool.injEq, Value.string.injEq, Option.getD, List.contains_cons, List.contains_nil, beq_self_eq_true, Nat.max_def, List.set, List.drop, List.take, Int.toNat_natCast, Nat.mul_one, Int.toNat_zero, List.drop_zero, Bx.mk.injEq, Vc.mk.injEq, List.cons.injEq, List.take_length, List.getElem?_nil, List.getD_cons_zero, List.getD_cons_succ, Int.reduceToNat, not_false_eq_true, Nat.le_refl, Tk.sv, Tk.cells]
  · simp only [go_sem, ↓reduceIte, or_true, or_false, true_or, false_or, Option.some.injEq, exists_eq_left, exists_eq_left', Nat.reduceBEq, Nat.reduceAdd, Nat.reduceMul, Nat.reduceSub, Nat.reduceEqDiff, Nat.reduceLT, Nat.reduceLeDiff, Option.map, Option.bind, List.map, List.length, true_implies, true_and, and_true, Bool.and_true, Bool.true_and, Bool.or_false, Bool.false_or, Bool.not_true, Bool.not_false, Bool.and_false, Bool.false_and, List.cons_append, List.nil_append, List.append_nil, mk_eq_bs, tl_bs, List.getElem?_cons_zero, List.getElem?_cons_succ, eq_self, reduceCtorEq, implies_true, false_implies, decide_eq_true_eq, decide_eq_false_iff_not, Bool.and_eq_true, Bool.or_eq_true, Bool.not_eq_true', Bool.and_eq_false_iff, Bool.or_eq_false_iff, Bool.not_eq_false', Option.toList, SV.v.injEq, Value.int.injEq, Value.bool.injEq, Value.string.injEq, Option.getD, List.contains_cons, List.contains_nil, beq_self_eq_true, Nat.max_def, List.set, List.drop, List.take, Int.toNat_natCast, Nat.mul_one, Int.toNat_zero, List.drop_zero, Bx.mk.injEq, Vc.mk.injEq, List.cons.injEq, List.take_length, List.getElem?_nil, List.getD_cons_zero, List.getD_cons_succ, Int.reduceToNat, not_false_eq_true, Nat.le_refl, Tk.sv, Tk.cells]
    refine ⟨Tryd.underlying4, fun hp => by rw [valid_pre hp]; rfl, fun hp => ?_⟩
    have hs34 := valid_pos hp
    refine ⟨fun k1 => ?_, fun k1 => ⟨fun k2 => ?_, fun k2 => ⟨fun k3 => ?_, fun k3 => ⟨fun k4 => ?_, fun k4 => ⟨fun k5 => ?_, fun k5 => ⟨fun k6 => ?_, fun k6 => ?_⟩⟩⟩⟩⟩⟩
    · have hf : fmtL t = if t.n = 0 ∧ isName t.s = true ∧ keywordsL.contains t.s = false then some (Lib.replaceAll t.s [47] [58, 58]) else none := if_pos k1
      rw [hf, some_if]
      clear hp
      refine WP_draw (.hoist 0 (.hoist 1 (.hoist 2 (.hoist 3 (.hoist 4 (.hoist 5 (.alt 6 [] (.hoist 7 (.hoist 8 (.hoist 10 (.hoist 11 (.alt 9 [11, 10] (.alt 12 [] (.hoist 13 (.hoist 14 (.hoist 15 .done))) .stop) .stop))))) .stop))))))) pu6 (by kernel_rfl) (by kernel_rfl) ?_
      simp only [go_sem, ↓reduceIte, or_true, or_false, true_or, false_or, Option.some.injEq, exists_eq_left, exists_eq_left', Nat.reduceBEq, Nat.reduceAdd, Nat.reduceMul, Nat.reduceSub, Nat.reduceEqDiff, Nat.reduceLT, Nat.reduceLeDiff, Option.map, Option.bind, List.map, List.length, true_implies, true_and, and_true, Bool.and_true, Bool.true_and, Bool.or_false, Bool.false_or, Bool.not_true, Bool.not_false, Bool.and_false, Bool.false_and, List.cons_append, List.nil_append, List.append_nil, mk_eq_bs, tl_bs, List.getElem?_cons_zero, List.getElem?_cons_succ, eq_self, reduceCtorEq, implies_true, false_implies, decide_eq_true_eq, decide_eq_false_iff_not, Bool.and_eq_true, Bool.or_eq_true, Bool.not_eq_true', Bool.and_eq_false_iff, Bool.or_eq_false_iff, Bool.not_eq_false', Option.toList, SV.v.injEq, Value.int.injEq, Value.bool.injEq, Value.string.injEq, Option.getD, List.contains_cons, List.contains_nil, beq_self_eq_true, Nat.max_def, List.set, List.drop, List.take, Int.toNat_natCast, Nat.mul_one, Int.toNat_zero, List.drop_zero, Bx.mk.injEq, Vc.mk.injEq, List.cons.injEq, List.take_length, List.getElem?_nil, List.getD_cons_zero, List.getD_cons_succ, Int.reduceToNat, not_false_eq_true, Nat.le_refl]
      refine ⟨fun _ => by unfold BL; omega, fun hh => ⟨by kernel_rfl, FnV_of ((rkeywords_spec m).mono ?_)⟩, fun hh => ?_⟩
      · rintro r H' m1 hm1 ⟨rfl, rfl, rfl⟩
        simp only [go_sem, ↓reduceIte, or_true, or_false, true_or, false_or, Option.some.injEq, exists_eq_left, exists_eq_left', Nat.reduceBEq, Nat.reduceAdd, Nat.reduceMul, Nat.reduceSub, Nat.reduceEqDiff, Nat.reduceLT, Nat.reduceLeDiff, Option.map, Option.bind, List.map, List.length, true_implies, true_and, and_true, Bool.and_true, Bool.true_and, Bool.or_false, Bool.false_or, Bool.not_true, Bool.not_false, Bool.and_false, Bool.false_and, List.cons_append, List.nil_append, List.append_nil, mk_eq_bs, tl_bs, List.getElem?_cons_zero, List.getElem?_cons_succ, eq_self, reduceCtorEq, implies_true, false_implies, decide_eq_true_eq, decide_eq_false_iff_not, Bool.and_eq_true, Bool.or_eq_true, Bool.not_eq_true', Bool.and_eq_false_iff, Bool.or_eq_false_iff, Bool.not_eq_false', Option.toList, SV.v.injEq, Value.int.injEq, Value.bool.injEq, Value.string.injEq, Option.getD, List.contains_cons, List.contains_nil, beq_self_eq_true, Nat.max_def, List.set, List.drop, List.take, Int.toNat_natCast, Nat.mul_one, Int.toNat_zero, List.drop_zero, Bx.mk.injEq, Vc.mk.injEq, List.cons.injEq, List.take_length, List.getElem?_nil, List.getD_cons_zero, List.getD_cons_succ, Int.reduceToNat, not_false_eq_true, Nat.le_refl]
        refine ⟨by kernel_rfl, fun ad cp m2 hm2 _ hrd => FnV_of ((has_spec keywordsL t.s ad 28 cp m2 hrd (by decide)).mono ?_)⟩
        rintro r H' m3 hm3 ⟨rfl, rfl⟩
        simp only [go_sem, ↓reduceIte, or_true, or_false, true_or, false_or, Option.some.injEq, exists_eq_left, exists_eq_left', Nat.reduceBEq, Nat.reduceAdd, Nat.reduceMul, Nat.reduceSub, Nat.reduceEqDiff, Nat.reduceLT, Nat.reduceLeDiff, Option.map, Option.bind, List.map, List.length, true_implies, true_and, and_true, Bool.and_true, Bool.true_and, Bool.or_false, Bool.false_or, Bool.not_true, Bool.not_false, Bool.and_false, Bool.false_and, List.cons_append, List.nil_append, List.append_nil, mk_eq_bs, tl_bs, List.getElem?_cons_zero, List.getElem?_cons_succ, eq_self, reduceCtorEq, implies_true, false_implies, decide_eq_true_eq, decide_eq_false_iff_not, Bool.and_eq_true, Bool.or_eq_true, Bool.not_eq_true', Bool.and_eq_false_iff, Bool.or_eq_false_iff, Bool.not_eq_false', Option.toList, SV.v.injEq, Value.int.injEq, Value.bool.injEq, Value.string.injEq, Option.getD, List.contains_cons, List.contains_nil, beq_self_eq_true, Nat.max_def, List.set, List.drop, List.take, Int.toNat_natCast, Nat.mul_one, Int.toNat_zero, List.drop_zero, Bx.mk.injEq, Vc.mk.injEq, List.cons.injEq, List.take_length, List.getElem?_nil, List.getD_cons_zero, List.getD_cons_succ, Int.reduceToNat, not_false_eq_true, Nat.le_refl]
        refine ⟨.inr (Mem.le_trans hm2 hm3), ?_⟩
        rw [hh.1, hh.2]
        cases keywordsL.contains t.s <;> rfl
      · rw [eq_comm, decide_eq_false_iff_not]
        rintro ⟨a, b, _⟩
        rcases hh with hh | hh
        · exact hh a
        · rw [b] at hh; cases hh
    · have hf : fmtL t = if t.n = 0 ∧ keywordsL.contains t.s = true then some t.s else none := by unfold fmtL; rw [if_neg k1, if_pos k2]
      rw [hf, some_if]
      clear hp
      refine WP_draw (.hoist 0 (.hoist 1 (.hoist 2 (.hoist 3 (.hoist 5 (.hoist 6 (.alt 4 [6, 5] (.alt 7 [] (.hoist 8 (.hoist 9 .done)) .stop) .stop))))))) pu6 (by kernel_rfl) (by kernel_rfl) ?_
      simp only [go_sem, ↓reduceIte, or_true, or_false, true_or, false_or, Option.some.injEq, exists_eq_left, exists_eq_left', Nat.reduceBEq, Nat.reduceAdd, Nat.reduceMul, Nat.reduceSub, Nat.reduceEqDiff, Nat.reduceLT, Nat.reduceLeDiff, Option.map, Option.bind, List.map, List.length, true_implies, true_and, and_true, Bool.and_true, Bool.true_and, Bool.or_false, Bool.false_or, Bool.not_true, Bool.not_false, Bool.and_false, Bool.false_and, List.cons_append, List.nil_append, List.append_nil, mk_eq_bs, tl_bs, List.getElem?_cons_zero, List.getElem?_cons_succ, eq_self, reduceCtorEq, implies_true, false_implies, decide_eq_true_eq, decide_eq_false_iff_not, Bool.and_eq_true, Bool.or_eq_true, Bool.not_eq_true', Bool.and_eq_false_iff, Bool.or_eq_false_iff, Bool.not_eq_false', Option.toList, SV.v.injEq, Value.int.injEq, Value.bool.injEq, Value.string.injEq, Option.getD, List.contains_cons, List.contains_nil, beq_self_eq_true, Nat.max_def, List.set, List.drop, List.take, Int.toNat_natCast, Nat.mul_one, Int.toNat_zero, List.drop_zero, Bx.mk.injEq, Vc.mk.injEq, List.cons.injEq, List.take_length, List.getElem?_nil, List.getD_cons_zero, List.getD_cons_succ, Int.reduceToNat, not_false_eq_true, Nat.le_refl]
      refine ⟨fun hh => ⟨by kernel_rfl, FnV_of ((rkeywords_spec m).mono ?_)⟩, fun hh => ?_⟩
      · rintro r H' m1 hm1 ⟨rfl, rfl, rfl⟩
        simp only [go_sem, ↓reduceIte, or_true, or_false, true_or, false_or, Option.some.injEq, exists_eq_left, exists_eq_left', Nat.reduceBEq, Nat.reduceAdd, Nat.reduceMul, Nat.reduceSub, Nat.reduceEqDiff, Nat.reduceLT, Nat.reduceLeDiff, Option.map, Option.bind, List.map, List.length, true_implies, true_and, and_true, Bool.and_true, Bool.true_and, Bool.or_false, Bool.false_or, Bool.not_true, Bool.not_false, Bool.and_false, Bool.false_and, List.cons_append, List.nil_append, List.append_nil, mk_eq_bs, tl_bs, List.getElem?_cons_zero, List.getElem?_cons_succ, eq_self, reduceCtorEq, implies_true, false_implies, decide_eq_true_eq, decide_eq_false_iff_not, Bool.and_eq_true, Bool.or_eq_true, Bool.not_eq_true', Bool.and_eq_false_iff, Bool.or_eq_false_iff, Bool.not_eq_false', Option.toList, SV.v.injEq, Value.int.injEq, Value.bool.injEq, Value.string.injEq, Option.getD, List.contains_cons, List.contains_nil, beq_self_eq_true, Nat.max_def, List.set, List.drop, List.take, Int.toNat_natCast, Nat.mul_one, Int.toNat_zero, List.drop_zero, Bx.mk.injEq, Vc.mk.injEq, List.cons.injEq, List.take_length, List.getElem?_nil, List.getD_cons_zero, List.getD_cons_succ, Int.reduceToNat, not_false_eq_true, Nat.le_refl]
        refine ⟨by kernel_rfl, fun ad cp m2 hm2 _ hrd => FnV_of ((has_spec keywordsL t.s ad 28 cp m2 hrd (by decide)).mono ?_)⟩
        rintro r H' m3 hm3 ⟨rfl, rfl⟩
        simp only [go_sem, ↓reduceIte, or_true, or_false, true_or, false_or, Option.some.injEq, exists_eq_left, exists_eq_left', Nat.reduceBEq, Nat.reduceAdd, Nat.reduceMul, Nat.reduceSub, Nat.reduceEqDiff, Nat.reduceLT, Nat.reduceLeDiff, Option.map, Option.bind, List.map, List.length, true_implies, true_and, and_true, Bool.and_true, Bool.true_and, Bool.or_false, Bool.false_or, Bool.not_true, Bool.not_false, Bool.and_false, Bool.false_and, List.cons_append, List.nil_append, List.append_nil, mk_eq_bs, tl_bs, List.getElem?_cons_zero, List.getElem?_cons_succ, eq_self, reduceCtorEq, implies_true, false_implies, decide_eq_true_eq, decide_eq_false_iff_not, Bool.and_eq_true, Bool.or_eq_true, Bool.not_eq_true', Bool.and_eq_false_iff, Bool.or_eq_false_iff, Bool.not_eq_false', Option.toList, SV.v.injEq, Value.int.injEq, Value.bool.injEq, Value.string.injEq, Option.getD, List.contains_cons, List.contains_nil, beq_self_eq_true, Nat.max_def, List.set, List.drop, List.take, Int.toNat_natCast, Nat.mul_one, Int.toNat_zero, List.drop_zero, Bx.mk.injEq, Vc.mk.injEq, List.cons.injEq, List.take_length, List.getElem?_nil, List.getD_cons_zero, List.getD_cons_succ, Int.reduceToNat, not_false_eq_true, Nat.le_refl]
        refine ⟨.inr (Mem.le_trans hm2 hm3), ?_⟩
        rw [hh]
        cases keywordsL.contains t.s <;> rfl
      · rw [eq_comm, decide_eq_false_iff_not]
        rintro ⟨a, b⟩
        exact hh a
    · have hf : fmtL t = if (t.s = [] ∧ 0 ≤ t.n) ∧ t.n < 2147483648 then some (Lib.itoa t.n) else none := by unfold fmtL; rw [if_neg k1, if_neg k2, if_pos k3]
      rw [hf, some_if, ← Bool.decide_and, decide_eq_decide]
      have := hs34 (.inl k3)
      simp only [this, true_and]
      omega
    · have hf : fmtL t = if t.s = [] ∧ 0 ≤ t.n then some (Lib.itoa t.n ++ [76]) else none := by unfold fmtL; rw [if_neg k1, if_neg k2, if_neg k3, if_pos k4]
      rw [hf, some_if, decide_eq_decide]
      simp only [hs34 (.inr k4), true_and]
    · have hf : fmtL t = if t.n = 0 ∧ t.s.length ≤ 1024 then some (escapedL t.s) else none := by unfold fmtL; rw [if_neg k1, if_neg k2, if_neg k3, if_neg k4, if_pos k5]
      rw [hf, some_if, ← Bool.decide_and, decide_eq_decide]
      omega
    · have hf : fmtL t = if t.n = 0 ∧ signsL.contains t.s = true then some t.s else none := by unfold fmtL; rw [if_neg k1, if_neg k2, if_neg k3, if_neg k4, if_neg k5, if_pos k6]
      rw [hf, some_if]
      clear hp
      refine WP_draw (.hoist 0 (.hoist 1 (.hoist 2 (.hoist 3 (.hoist 5 (.hoist 6 (.alt 4 [6, 5] (.alt 7 [] (.hoist 8 (.hoist 9 .done)) .stop) .stop))))))) pu6 (by kernel_rfl) (by kernel_rfl) ?_
      simp only [go_sem, ↓reduceIte, or_true, or_false, true_or, false_or, Option.some.injEq, exists_eq_left, exists_eq_left', Nat.reduceBEq, Nat.reduceAdd, Nat.reduceMul, Nat.reduceSub, Nat.reduceEqDiff, Nat.reduceLT, Nat.reduceLeDiff, Option.map, Option.bind, List.map, List.length, true_implies, true_and, and_true, Bool.and_true, Bool.true_and, Bool.or_false, Bool.false_or, Bool.not_true, Bool.not_false, Bool.and_false, Bool.false_and, List.cons_append, List.nil_append, List.append_nil, mk_eq_bs, tl_bs, List.getElem?_cons_zero, List.getElem?_cons_succ, eq_self, reduceCtorEq, implies_true, false_implies, decide_eq_true_eq, decide_eq_false_iff_not, Bool.and_eq_true, Bool.or_eq_true, Bool.not_eq_true', Bool.and_eq_false_iff, Bool.or_eq_false_iff, Bool.not_eq_false', Option.toList, SV.v.injEq, Value.int.injEq, Value.bool.injEq, Value.string.injEq, Option.getD, List.contains_cons, List.contains_nil, beq_self_eq_true, Nat.max_def, List.set, List.drop, List.take, Int.toNat_natCast, Nat.mul_one, Int.toNat_zero, List.drop_zero, Bx.mk.injEq, Vc.mk.injEq, List.cons.injEq, List.take_length, List.getElem?_nil, List.getD_cons_zero, List.getD_cons_succ, Int.reduceToNat, not_false_eq_true, Nat.le_refl]
      refine ⟨fun hh => ⟨by kernel_rfl, FnV_of ((rsigns_spec m).mono ?_)⟩, fun hh => ?_⟩
      · rintro r H' m1 hm1 ⟨rfl, rfl, rfl⟩
        simp only [go_sem, ↓reduceIte, or_true, or_false, true_or, false_or, Option.some.injEq, exists_eq_left, exists_eq_left', Nat.reduceBEq, Nat.reduceAdd, Nat.reduceMul, Nat.reduceSub, Nat.reduceEqDiff, Nat.reduceLT, Nat.reduceLeDiff, Option.map, Option.bind, List.map, List.length, true_implies, true_and, and_true, Bool.and_true, Bool.true_and, Bool.or_false, Bool.false_or, Bool.not_true, Bool.not_false, Bool.and_false, Bool.false_and, List.cons_append, List.nil_append, List.append_nil, mk_eq_bs, tl_bs, List.getElem?_cons_zero, List.getElem?_cons_succ, eq_self, reduceCtorEq, implies_true, false_implies, decide_eq_true_eq, decide_eq_false_iff_not, Bool.and_eq_true, Bool.or_eq_true, Bool.not_eq_true', Bool.and_eq_false_iff, Bool.or_eq_false_iff, Bool.not_eq_false', Option.toList, SV.v.injEq, Value.int.injEq, Value.bool.injEq, Value.string.injEq, Option.getD, List.contains_cons, List.contains_nil, beq_self_eq_true, Nat.max_def, List.set, List.drop, List.take, Int.toNat_natCast, Nat.mul_one, Int.toNat_zero, List.drop_zero, Bx.mk.injEq, Vc.mk.injEq, List.cons.injEq, List.take_length, List.getElem?_nil, List.getD_cons_zero, List.getD_cons_succ, Int.reduceToNat, not_false_eq_true, Nat.le_refl]
        refine ⟨by kernel_rfl, fun ad cp m2 hm2 _ hrd => FnV_of ((has_spec signsL t.s ad 30 cp m2 hrd (by decide)).mono ?_)⟩
        rintro r H' m3 hm3 ⟨rfl, rfl⟩
        simp only [go_sem, ↓reduceIte, or_true, or_false, true_or, false_or, Option.some.injEq, exists_eq_left, exists_eq_left', Nat.reduceBEq, Nat.reduceAdd, Nat.reduceMul, Nat.reduceSub, Nat.reduceEqDiff, Nat.reduceLT, Nat.reduceLeDiff, Option.map, Option.bind, List.map, List.length, true_implies, true_and, and_true, Bool.and_true, Bool.true_and, Bool.or_false, Bool.false_or, Bool.not_true, Bool.not_false, Bool.and_false, Bool.false_and, List.cons_append, List.nil_append, List.append_nil, mk_eq_bs, tl_bs, List.getElem?_cons_zero, List.getElem?_cons_succ, eq_self, reduceCtorEq, implies_true, false_implies, decide_eq_true_eq, decide_eq_false_iff_not, Bool.and_eq_true, Bool.or_eq_true, Bool.not_eq_true', Bool.and_eq_false_iff, Bool.or_eq_false_iff, Bool.not_eq_false', Option.toList, SV.v.injEq, Value.int.injEq, Value.bool.injEq, Value.string.injEq, Option.getD, List.contains_cons, List.contains_nil, beq_self_eq_true, Nat.max_def, List.set, List.drop, List.take, Int.toNat_natCast, Nat.mul_one, Int.toNat_zero, List.drop_zero, Bx.mk.injEq, Vc.mk.injEq, List.cons.injEq, List.take_length, List.getElem?_nil, List.getD_cons_zero, List.getD_cons_succ, Int.reduceToNat, not_false_eq_true, Nat.le_refl]
        refine ⟨.inr (Mem.le_trans hm2 hm3), ?_⟩
        rw [hh]
        cases signsL.contains t.s <;> rfl
      · rw [eq_comm, decide_eq_false_iff_not]
        rintro ⟨a, b⟩
        exact hh a
    · have hf : fmtL t = none := by unfold fmtL; rw [if_neg k1, if_neg k2, if_neg k3, if_neg k4, if_neg k5, if_neg k6]
      rw [hf]; rfl
theorem fmt_inv {t : Tk} {x : List UInt8} (h : fmtL t = some x) : (t.k = 3 → 0 ≤ t.n ∧ x = Lib.itoa t.n) ∧ (t.k = 4 → 0 ≤ t.n ∧ x = Lib.itoa t.n ++ [76]) ∧ (t.k = 5 → x = escapedL t.s) ∧ (t.k = 1 → x = spell t.s) ∧ (¬ t.k = 3 → ¬ t.k = 4 → ¬ t.k = 5 → ¬ t.k = 1 → x = t.s) := by
  unfold fmtL at h
  split at h
  · rename_i hk
    split at h
    · cases h
      exact ⟨by omega, by omega, by omega, fun _ => rep_one _, fun _ _ _ h => absurd hk h⟩
    · cases h
  · split at h
    · rename_i h1 hk
      split at h
      · cases h
        exact ⟨by omega, by omega, by omega, fun h => absurd h h1, fun _ _ _ _ => rfl⟩
      · cases h
    · split at h
      · rename_i h1 _ hk
        split at h
        · rename_i hc
          cases h
          exact ⟨fun _ => ⟨hc.1.2, rfl⟩, by omega, by omega, fun h => absurd h h1, fun h => absurd hk h⟩
        · cases h
      · split at h
        · rename_i h1 _ h3 hk
          split at h
          · rename_i hc
            cases h
            exact ⟨fun h => absurd h h3, fun _ => ⟨hc.2, rfl⟩, by omega, fun h => absurd h h1, fun _ h => absurd hk h⟩
          · cases h
        · split at h
          · rename_i h1 _ h3 h4 hk
            split at h
            · cases h
              exact ⟨fun h => absurd h h3, fun h => absurd h h4, fun _ => rfl, fun h => absurd h h1, fun _ _ h => absurd hk h⟩
            · cases h
          · split at h
            · rename_i h1 _ h3 h4 h5 hk
              split at h
              · cases h
                exact ⟨fun h => absurd h h3, fun h => absurd h h4, fun h => absurd h h5, fun h => absurd h h1, fun _ _ _ _ => rfl⟩
              · cases h
            · cases h
theorem rdigits (n : Int) (m : Mem) (h0 : 0 ≤ n) (hI : I64 n) : FnH Tryd.prog 33 [.v (.int .i64 n)] ⟨[], []⟩ m fun r H' m' => r = .v (.string (bs (Lib.itoa n))) ∧ H' = ⟨[], []⟩ ∧ m' = m := by
  obtain ⟨u, rfl⟩ : ∃ u : Nat, n = u := ⟨n.toNat, by omega⟩
  rw [Lib.itoa_nonneg]
  exact digits_spec u m (by have := hI.2; omega)
set_option maxHeartbeats 8000000 in
set_option maxRecDepth 20000 in
theorem rformat_spec (t : Tk) (m : Mem) (ht : TkOk t) :
    FnH Tryd.prog 15 [Tk.sv t] ⟨[], []⟩ m fun r H' m' => leM m m' ∧ H' = ⟨[], []⟩ ∧ FOut (fmtL t) r := by
  have hl := ht.1
  have hv := valid_spec t m ht
  cases hx : fmtL t with
  | none =>
    rw [hx] at hv
    refine enter cf6 pu6 Tryd.func15 rfl rfl (by kernel_rfl) rfl ?_ ?_
    · simp only [go_sem, ↓reduceIte, or_true, or_false, true_or, false_or, Option.some.injEq, exists_eq_left, exists_eq_left', Nat.reduceBEq, Nat.reduceAdd, Nat.reduceMul, Nat.reduceSub, Nat.reduceEqDiff, Nat.reduceLT, Nat.reduceLeDiff, Option.map, Option.bind, List.map, List.length, true_implies, true_and, and_true, Bool.and_true, Bool.true_and, Bool.or_false, Bool.false_or, Bool.not_true, Bool.not_false, Bool.and_false, Bool.false_and, List.cons_append, List.nil_append, List.append_nil, mk_eq_bs, tl_bs, List.getElem?_cons_zero, List.getElem?_cons_succ, eq_self, reduceCtorEq, implies_true, false_implies, decide_eq_true_eq, decide_eq_false_iff_not, Bool.and_eq_true, Bool.or_eq_true, Bool.not_eq_true', Bool.and_eq_false_iff, Bool.or_eq_false_iff, Bool.not_eq_false', Option.toList, SV.v.injEq, Value.int.injEq, Value.bool.injEq, Value.string.injEq, Option.getD, List.contains_cons, List.contains_nil, beq_self_eq_true, Nat.max_def, List.set, List.drop, List.take, Int.toNat_natCast, Nat.mul_one, Int.toNat_zero, List.drop_zero, Bx.mk.injEq, Vc.mk.injEq, List.cons.injEq, List.take_length, List.getElem?_nil, List.getD_cons_zero, List.getD_cons_succ, Int.reduceToNat, not_false_eq_true, Nat.le_refl, Tk.sv, Tk.cells]
    · simp only [go_sem, ↓reduceIte, or_true, or_false, true_or, false_or, Option.some.injEq, exists_eq_left, exists_eq_left', Nat.reduceBEq, Nat.reduceAdd, Nat.reduceMul, Nat.reduceSub, Nat.reduceEqDiff, Nat.reduceLT, Nat.reduceLeDiff, Option.map, Option.bind, List.map, List.length, true_implies, true_and, and_true, Bool.and_true, Bool.true_and, Bool.or_false, Bool.false_or, Bool.not_true, Bool.not_false, Bool.and_false, Bool.false_and, List.cons_append, List.nil_append, List.append_nil, mk_eq_bs, tl_bs, List.getElem?_cons_zero, List.getElem?_cons_succ, eq_self, reduceCtorEq, implies_true, false_implies, decide_eq_true_eq, decide_eq_false_iff_not, Bool.and_eq_true, Bool.or_eq_true, Bool.not_eq_true', Bool.and_eq_false_iff, Bool.or_eq_false_iff, Bool.not_eq_false', Option.toList, SV.v.injEq, Value.int.injEq, Value.bool.injEq, Value.string.injEq, Option.getD, List.contains_cons, List.contains_nil, beq_self_eq_true, Nat.max_def, List.set, List.drop, List.take, Int.toNat_natCast, Nat.mul_one, Int.toNat_zero, List.drop_zero, Bx.mk.injEq, Vc.mk.injEq, List.cons.injEq, List.take_length, List.getElem?_nil, List.getD_cons_zero, List.getD_cons_succ, Int.reduceToNat, not_false_eq_true, Nat.le_refl, Tk.sv, Tk.cells]
      refine ⟨by kernel_rfl, FnV_of (hv.mono ?_)⟩
      rintro r H' m1 hm1 ⟨hle1, rfl, rfl⟩
      simp only [go_sem, ↓reduceIte, or_true, or_false, true_or, false_or, Option.some.injEq, exists_eq_left, exists_eq_left', Nat.reduceBEq, Nat.reduceAdd, Nat.reduceMul, Nat.reduceSub, Nat.reduceEqDiff, Nat.reduceLT, Nat.reduceLeDiff, Option.map, Option.bind, List.map, List.length, true_implies, true_and, and_true, Bool.and_true, Bool.true_and, Bool.or_false, Bool.false_or, Bool.not_true, Bool.not_false, Bool.and_false, Bool.false_and, List.cons_append, List.nil_append, List.append_nil, mk_eq_bs, tl_bs, List.getElem?_cons_zero, List.getElem?_cons_succ, eq_self, reduceCtorEq, implies_true, false_implies, decide_eq_true_eq, decide_eq_false_iff_not, Bool.and_eq_true, Bool.or_eq_true, Bool.not_eq_true', Bool.and_eq_false_iff, Bool.or_eq_false_iff, Bool.not_eq_false', Option.toList, SV.v.injEq, Value.int.injEq, Value.bool.injEq, Value.string.injEq, Option.getD, List.contains_cons, List.contains_nil, beq_self_eq_true, Nat.max_def, List.set, List.drop, List.take, Int.toNat_natCast, Nat.mul_one, Int.toNat_zero, List.drop_zero, Bx.mk.injEq, Vc.mk.injEq, List.cons.injEq, List.take_length, List.getElem?_nil, List.getD_cons_zero, List.getD_cons_succ, Int.reduceToNat, not_false_eq_true, Nat.le_refl, Option.isSome]
      exact ⟨hle1, rfl⟩
  | some x =>
    rw [hx] at hv
    refine enter cf6 pu6 Tryd.func15 rfl rfl (by kernel_rfl) rfl ?_ ?_
    · simp only [go_sem, ↓reduceIte, or_true, or_false, true_or, false_or, Option.some.injEq, exists_eq_left, exists_eq_left', Nat.reduceBEq, Nat.reduceAdd, Nat.reduceMul, Nat.reduceSub, Nat.reduceEqDiff, Nat.reduceLT, Nat.reduceLeDiff, Option.map, Option.bind, List.map, List.length, true_implies, true_and, and_true, Bool.and_true, Bool.true_and, Bool.or_false, Bool.false_or, Bool.not_true, Bool.not_false, Bool.and_false, Bool.false_and, List.cons_append, List.nil_append, List.append_nil, mk_eq_bs, tl_bs, List.getElem?_cons_zero, List.getElem?_cons_succ, eq_self, reduceCtorEq, implies_true, false_implies, decide_eq_true_eq, decide_eq_false_iff_not, Bool.and_eq_true, Bool.or_eq_true, Bool.not_eq_true', Bool.and_eq_false_iff, Bool.or_eq_false_iff, Bool.not_eq_false', Option.toList, SV.v.injEq, Value.int.injEq, Value.bool.injEq, Value.string.injEq, Option.getD, List.contains_cons, List.contains_nil, beq_self_eq_true, Nat.max_def, List.set, List.drop, List.take, Int.toNat_natCast, Nat.mul_one, Int.toNat_zero, List.drop_zero, Bx.mk.injEq, Vc.mk.injEq, List.cons.injEq, List.take_length, List.getElem?_nil, List.getD_cons_zero, List.getD_cons_succ, Int.reduceToNat, not_false_eq_true, Nat.le_refl, Tk.sv, Tk.cells]
    · simp only [go_sem, ↓reduceIte, or_true, or_false, true_or, false_or, Option.some.injEq, exists_eq_left, exists_eq_left', Nat.reduceBEq, Nat.reduceAdd, Nat.reduceMul, Nat.reduceSub, Nat.reduceEqDiff, Nat.reduceLT, Nat.reduceLeDiff, Option.map, Option.bind, List.map, List.length, true_implies, true_and, and_true, Bool.and_true, Bool.true_and, Bool.or_false, Bool.false_or, Bool.not_true, Bool.not_false, Bool.and_false, Bool.false_and, List.cons_append, List.nil_append, List.append_nil, mk_eq_bs, tl_bs, List.getElem?_cons_zero, List.getElem?_cons_succ, eq_self, reduceCtorEq, implies_true, false_implies, decide_eq_true_eq, decide_eq_false_iff_not, Bool.and_eq_true, Bool.or_eq_true, Bool.not_eq_true', Bool.and_eq_false_iff, Bool.or_eq_false_iff, Bool.not_eq_false', Option.toList, SV.v.injEq, Value.int.injEq, Value.bool.injEq, Value.string.injEq, Option.getD, List.contains_cons, List.contains_nil, beq_self_eq_true, Nat.max_def, List.set, List.drop, List.take, Int.toNat_natCast, Nat.mul_one, Int.toNat_zero, List.drop_zero, Bx.mk.injEq, Vc.mk.injEq, List.cons.injEq, List.take_length, List.getElem?_nil, List.getD_cons_zero, List.getD_cons_succ, Int.reduceToNat, not_false_eq_true, Nat.le_refl, Tk.sv, Tk.cells]
      refine ⟨by kernel_rfl, FnV_of (hv.mono ?_)⟩
      rintro r H' m1 hm1 ⟨hle1, rfl, rfl⟩
      simp only [go_sem, ↓reduceIte, or_true, or_false, true_or, false_or, Option.some.injEq, exists_eq_left, exists_eq_left', Nat.reduceBEq, Nat.reduceAdd, Nat.reduceMul, Nat.reduceSub, Nat.reduceEqDiff, Nat.reduceLT, Nat.reduceLeDiff, Option.map, Option.bind, List.map, List.length, true_implies, true_and, and_true, Bool.and_true, Bool.true_and, Bool.or_false, Bool.false_or, Bool.not_true, Bool.not_false, Bool.and_false, Bool.false_and, List.cons_append, List.nil_append, List.append_nil, mk_eq_bs, tl_bs, List.getElem?_cons_zero, List.getElem?_cons_succ, eq_self, reduceCtorEq, implies_true, false_implies, decide_eq_true_eq, decide_eq_false_iff_not, Bool.and_eq_true, Bool.or_eq_true, Bool.not_eq_true', Bool.and_eq_false_iff, Bool.or_eq_false_iff, Bool.not_eq_false', Option.toList, SV.v.injEq, Value.int.injEq, Value.bool.injEq, Value.string.injEq, Option.getD, List.contains_cons, List.contains_nil, beq_self_eq_true, Nat.max_def, List.set, List.drop, List.take, Int.toNat_natCast, Nat.mul_one, Int.toNat_zero, List.drop_zero, Bx.mk.injEq, Vc.mk.injEq, List.cons.injEq, List.take_length, List.getElem?_nil, List.getD_cons_zero, List.getD_cons_succ, Int.reduceToNat, not_false_eq_true, Nat.le_refl, Option.isSome]
      have i3 := (fmt_inv hx).1
      have i4 := (fmt_inv hx).2.1
      have i5 := (fmt_inv hx).2.2.1
      have i1 := (fmt_inv hx).2.2.2.1
      have i6 := (fmt_inv hx).2.2.2.2
      refine ⟨fun k3 => ⟨by kernel_rfl, FnV_of ((rdigits t.n m1 (i3 k3).1 ht.2).mono ?_)⟩, fun k3 => ⟨fun k4 => ⟨by kernel_rfl, FnV_of ((rdigits t.n m1 (i4 k4).1 ht.2).mono ?_)⟩, fun k4 => ⟨fun k5 => ⟨by kernel_rfl, FnV_of ((rquoted_spec t.s m1 hl).mono ?_)⟩, fun k5 => ⟨fun k1 => ⟨by kernel_rfl, FnV_of ((spelled_spec t.s m1 hl).mono ?_)⟩, fun k1 => ⟨hle1, ?_⟩⟩⟩⟩⟩
      · rintro r H' m2 hm2 ⟨rfl, rfl, rfl⟩
        simp only [go_sem, ↓reduceIte, or_true, or_false, true_or, false_or, Option.some.injEq, exists_eq_left, exists_eq_left', Nat.reduceBEq, Nat.reduceAdd, Nat.reduceMul, Nat.reduceSub, Nat.reduceEqDiff, Nat.reduceLT, Nat.reduceLeDiff, Option.map, Option.bind, List.map, List.length, true_implies, true_and, and_true, Bool.and_true, Bool.true_and, Bool.or_false, Bool.false_or, Bool.not_true, Bool.not_false, Bool.and_false, Bool.false_and, List.cons_append, List.nil_append, List.append_nil, mk_eq_bs, tl_bs, List.getElem?_cons_zero, List.getElem?_cons_succ, eq_self, reduceCtorEq, implies_true, false_implies, decide_eq_true_eq, decide_eq_false_iff_not, Bool.and_eq_true, Bool.or_eq_true, Bool.not_eq_true', Bool.and_eq_false_iff, Bool.or_eq_false_iff, Bool.not_eq_false', Option.toList, SV.v.injEq, Value.int.injEq, Value.bool.injEq, Value.string.injEq, Option.getD, List.contains_cons, List.contains_nil, beq_self_eq_true, Nat.max_def, List.set, List.drop, List.take, Int.toNat_natCast, Nat.mul_one, Int.toNat_zero, List.drop_zero, Bx.mk.injEq, Vc.mk.injEq, List.cons.injEq, List.take_length, List.getElem?_nil, List.getD_cons_zero, List.getD_cons_succ, Int.reduceToNat, not_false_eq_true, Nat.le_refl]
        refine ⟨hle1, ?_⟩
        rw [(i3 k3).2]; rfl
      · rintro r H' m2 hm2 ⟨rfl, rfl, rfl⟩
        simp only [go_sem, ↓reduceIte, or_true, or_false, true_or, false_or, Option.some.injEq, exists_eq_left, exists_eq_left', Nat.reduceBEq, Nat.reduceAdd, Nat.reduceMul, Nat.reduceSub, Nat.reduceEqDiff, Nat.reduceLT, Nat.reduceLeDiff, Option.map, Option.bind, List.map, List.length, true_implies, true_and, and_true, Bool.and_true, Bool.true_and, Bool.or_false, Bool.false_or, Bool.not_true, Bool.not_false, Bool.and_false, Bool.false_and, List.cons_append, List.nil_append, List.append_nil, mk_eq_bs, tl_bs, List.getElem?_cons_zero, List.getElem?_cons_succ, eq_self, reduceCtorEq, implies_true, false_implies, decide_eq_true_eq, decide_eq_false_iff_not, Bool.and_eq_true, Bool.or_eq_true, Bool.not_eq_true', Bool.and_eq_false_iff, Bool.or_eq_false_iff, Bool.not_eq_false', Option.toList, SV.v.injEq, Value.int.injEq, Value.bool.injEq, Value.string.injEq, Option.getD, List.contains_cons, List.contains_nil, beq_self_eq_true, Nat.max_def, List.set, List.drop, List.take, Int.toNat_natCast, Nat.mul_one, Int.toNat_zero, List.drop_zero, Bx.mk.injEq, Vc.mk.injEq, List.cons.injEq, List.take_length, List.getElem?_nil, List.getD_cons_zero, List.getD_cons_succ, Int.reduceToNat, not_false_eq_true, Nat.le_refl]
        refine ⟨by have := itoa_len ht.2; omega, hle1, ?_⟩
        rw [(i4 k4).2]; rfl
      · rintro r H' m2 hm2 ⟨rfl, rfl, rfl⟩
        simp only [go_sem, ↓reduceIte, or_true, or_false, true_or, false_or, Option.some.injEq, exists_eq_left, exists_eq_left', Nat.reduceBEq, Nat.reduceAdd, Nat.reduceMul, Nat.reduceSub, Nat.reduceEqDiff, Nat.reduceLT, Nat.reduceLeDiff, Option.map, Option.bind, List.map, List.length, true_implies, true_and, and_true, Bool.and_true, Bool.true_and, Bool.or_false, Bool.false_or, Bool.not_true, Bool.not_false, Bool.and_false, Bool.false_and, List.cons_append, List.nil_append, List.append_nil, mk_eq_bs, tl_bs, List.getElem?_cons_zero, List.getElem?_cons_succ, eq_self, reduceCtorEq, implies_true, false_implies, decide_eq_true_eq, decide_eq_false_iff_not, Bool.and_eq_true, Bool.or_eq_true, Bool.not_eq_true', Bool.and_eq_false_iff, Bool.or_eq_false_iff, Bool.not_eq_false', Option.toList, SV.v.injEq, Value.int.injEq, Value.bool.injEq, Value.string.injEq, Option.getD, List.contains_cons, List.contains_nil, beq_self_eq_true, Nat.max_def, List.set, List.drop, List.take, Int.toNat_natCast, Nat.mul_one, Int.toNat_zero, List.drop_zero, Bx.mk.injEq, Vc.mk.injEq, List.cons.injEq, List.take_length, List.getElem?_nil, List.getD_cons_zero, List.getD_cons_succ, Int.reduceToNat, not_false_eq_true, Nat.le_refl]
        refine ⟨hle1, ?_⟩
        rw [i5 k5]; rfl
      · rintro r H' m2 hm2 ⟨rfl, rfl, rfl⟩
        simp only [go_sem, ↓reduceIte, or_true, or_false, true_or, false_or, Option.some.injEq, exists_eq_left, exists_eq_left', Nat.reduceBEq, Nat.reduceAdd, Nat.reduceMul, Nat.reduceSub, Nat.reduceEqDiff, Nat.reduceLT, Nat.reduceLeDiff, Option.map, Option.bind, List.map, List.length, true_implies, true_and, and_true, Bool.and_true, Bool.true_and, Bool.or_false, Bool.false_or, Bool.not_true, Bool.not_false, Bool.and_false, Bool.false_and, List.cons_append, List.nil_append, List.append_nil, mk_eq_bs, tl_bs, List.getElem?_cons_zero, List.getElem?_cons_succ, eq_self, reduceCtorEq, implies_true, false_implies, decide_eq_true_eq, decide_eq_false_iff_not, Bool.and_eq_true, Bool.or_eq_true, Bool.not_eq_true', Bool.and_eq_false_iff, Bool.or_eq_false_iff, Bool.not_eq_false', Option.toList, SV.v.injEq, Value.int.injEq, Value.bool.injEq, Value.string.injEq, Option.getD, List.contains_cons, List.contains_nil, beq_self_eq_true, Nat.max_def, List.set, List.drop, List.take, Int.toNat_natCast, Nat.mul_one, Int.toNat_zero, List.drop_zero, Bx.mk.injEq, Vc.mk.injEq, List.cons.injEq, List.take_length, List.getElem?_nil, List.getD_cons_zero, List.getD_cons_succ, Int.reduceToNat, not_false_eq_true, Nat.le_refl]
        refine ⟨hle1, ?_⟩
        rw [i1 k1]; rfl
      · rw [i6 k3 k4 k5 k1]; rfl
end Go.Proofs.YtmkifodpkcmgoaaDoor.E

/- lex, part Ze: the reference's Join. -/
set_option linter.unusedSimpArgs false
set_option linter.unusedVariables false
namespace Go.Proofs.YtmkifodpkcmgoaaDoor.E
open Go

theorem join_snoc : ∀ (acc : List (List UInt8)) (x : List UInt8), Lib.join (acc ++ [x]) [32] = if acc = [] then x else Lib.join acc [32] ++ [32] ++ x
  | [], x => by simp [Lib.join]
  | [y], x => by
    rw [if_neg (List.cons_ne_nil _ _)]
    show Lib.join (y :: x :: []) [32] = _
    rw [join_cc]; simp [Lib.join]
  | y :: z :: acc, x => by
    rw [if_neg (List.cons_ne_nil _ _)]
    show Lib.join (y :: z :: (acc ++ [x])) [32] = _
    have ih := join_snoc (z :: acc) x
    rw [if_neg (List.cons_ne_nil _ _)] at ih
    rw [join_cc, join_cc, show z :: (acc ++ [x]) = z :: acc ++ [x] from rfl, ih]
    simp
theorem leM_trans2 {a b c : Mem} (h : leM a b) (h' : leM b c) : leM a c := by
  rcases h' with rfl | h'
  · exact h
  · exact leM_trans h h'
theorem Rds_upM {m m' : Mem} {a : Option Addr} {n sz : Nat} {xs : List Value} (hle : leM m m') (h : Rds m a n sz xs) : Rds m' a n sz xs := by
  rcases hle with rfl | hle
  · exact h
  · exact Rds_up hle h
set_option maxHeartbeats 8000000 in
set_option maxRecDepth 20000 in
theorem rjoin_spec (ts : List Tk) (a : Option Addr) (n c : Nat) (m : Mem) (h : Rds m a n 4 (tkCells ts)) (ht : ∀ t ∈ ts, TkOk t) (hn : n ≤ 4611686018427387904) :
    FnH Tryd.prog 16 [.v (.slice a n c)] ⟨[], []⟩ m fun r H' m' => leM m m' ∧ H' = ⟨[], []⟩ ∧ r = .tup [.v (.string (bs (joinL ts).1)), .v (.int .i64 (joinL ts).2)] := by
  have hl : ts.length = n := by have := h.1; rw [tk_len] at this; omega
  refine enter cf6 pu6 Tryd.func16 rfl rfl (by kernel_rfl) rfl ?_ ?_
  · simp only [go_sem, ↓reduceIte, or_true, or_false, true_or, false_or, Option.some.injEq, exists_eq_left, exists_eq_left', Nat.reduceBEq, Nat.reduceAdd, Nat.reduceMul, Nat.reduceSub, Nat.reduceEqDiff, Nat.reduceLT, Nat.reduceLeDiff, Option.map, Option.bind, List.map, List.length, true_implies, true_and, and_true, Bool.and_true, Bool.true_and, Bool.or_false, Bool.false_or, Bool.not_true, Bool.not_false, Bool.and_false, Bool.false_and, List.cons_append, List.nil_append, List.append_nil, mk_eq_bs, tl_bs, List.getElem?_cons_zero, List.getElem?_cons_succ, eq_self, reduceCtorEq, implies_true, false_implies, decide_eq_true_eq, decide_eq_false_iff_not, Bool.and_eq_true, Bool.or_eq_true, Bool.not_eq_true', Bool.and_eq_false_iff, Bool.or_eq_false_iff, Bool.not_eq_false', Option.toList, SV.v.injEq, Value.int.injEq, Value.bool.injEq, Value.string.injEq, Option.getD, List.contains_cons, List.contains_nil, beq_self_eq_true, Nat.max_def, List.set, List.drop, List.take, Int.toNat_natCast, Nat.mul_one, Int.toNat_zero, List.drop_zero, Bx.mk.injEq, Vc.mk.injEq, List.cons.injEq, List.take_length, List.getElem?_nil, List.getD_cons_zero, List.getD_cons_succ, Int.reduceToNat, not_false_eq_true, Nat.le_refl]
  · simp only [go_sem, ↓reduceIte, or_true, or_false, true_or, false_or, Option.some.injEq, exists_eq_left, exists_eq_left', Nat.reduceBEq, Nat.reduceAdd, Nat.reduceMul, Nat.reduceSub, Nat.reduceEqDiff, Nat.reduceLT, Nat.reduceLeDiff, Option.map, Option.bind, List.map, List.length, true_implies, true_and, and_true, Bool.and_true, Bool.true_and, Bool.or_false, Bool.false_or, Bool.not_true, Bool.not_false, Bool.and_false, Bool.false_and, List.cons_append, List.nil_append, List.append_nil, mk_eq_bs, tl_bs, List.getElem?_cons_zero, List.getElem?_cons_succ, eq_self, reduceCtorEq, implies_true, false_implies, decide_eq_true_eq, decide_eq_false_iff_not, Bool.and_eq_true, Bool.or_eq_true, Bool.not_eq_true', Bool.and_eq_false_iff, Bool.or_eq_false_iff, Bool.not_eq_false', Option.toList, SV.v.injEq, Value.int.injEq, Value.bool.injEq, Value.string.injEq, Option.getD, List.contains_cons, List.contains_nil, beq_self_eq_true, Nat.max_def, List.set, List.drop, List.take, Int.toNat_natCast, Nat.mul_one, Int.toNat_zero, List.drop_zero, Bx.mk.injEq, Vc.mk.injEq, List.cons.injEq, List.take_length, List.getElem?_nil, List.getD_cons_zero, List.getD_cons_succ, Int.reduceToNat, not_false_eq_true, Nat.le_refl]
    refine ⟨fun hb => ?_, fun hb => ?_⟩
    · have e : joinL ts = ([], 5) := if_pos (by omega)
      rw [e]
    · have hj : joinL ts = match fmtsL ts with | none => ([], 1) | some l => if 20000 < (Lib.join l [32]).length then ([], 8) else (Lib.join l [32], 0) := if_neg (by omega)
      refine WP_loop pu6 (fun x : Nat × List (List UInt8) × Nat × Mem => ⟨[⟨0, [], .v (.slice a n c)⟩, ⟨4, [], .vec 0 x.2.2.1⟩, ⟨5, [], .v (.int .i64 x.1)⟩], [], [], [⟨0, x.2.2.1, 5, 1, (Lib.join x.2.1 [32]).length, u8s (Lib.join x.2.1 [32])⟩], 1, x.2.2.2⟩)
        (fun x => leM m x.2.2.2 ∧ Rds x.2.2.2 a n 4 (tkCells ts) ∧ x.1 ≤ n ∧ x.2.1.length = x.1 ∧ (∀ y ∈ x.2.1, y.length ≤ 10000000) ∧ fmtsL ts = preL x.2.1 (fmtsL (ts.drop x.1))) (fun x => n - x.1) (0, [], 0, m) (by kernel_rfl) (fun _ _ => Nat.le_refl _) (fun x hx => hx.1) (fun _ => ?_) ?_ ?_ ?_
      · simp only [go_sem, ↓reduceIte, or_true, or_false, true_or, false_or, Option.some.injEq, exists_eq_left, exists_eq_left', Nat.reduceBEq, Nat.reduceAdd, Nat.reduceMul, Nat.reduceSub, Nat.reduceEqDiff, Nat.reduceLT, Nat.reduceLeDiff, Option.map, Option.bind, List.map, List.length, true_implies, true_and, and_true, Bool.and_true, Bool.true_and, Bool.or_false, Bool.false_or, Bool.not_true, Bool.not_false, Bool.and_false, Bool.false_and, List.cons_append, List.nil_append, List.append_nil, mk_eq_bs, tl_bs, List.getElem?_cons_zero, List.getElem?_cons_succ, eq_self, reduceCtorEq, implies_true, false_implies, decide_eq_true_eq, decide_eq_false_iff_not, Bool.and_eq_true, Bool.or_eq_true, Bool.not_eq_true', Bool.and_eq_false_iff, Bool.or_eq_false_iff, Bool.not_eq_false', Option.toList, SV.v.injEq, Value.int.injEq, Value.bool.injEq, Value.string.injEq, Option.getD, List.contains_cons, List.contains_nil, beq_self_eq_true, Nat.max_def, List.set, List.drop, List.take, Int.toNat_natCast, Nat.mul_one, Int.toNat_zero, List.drop_zero, Bx.mk.injEq, Vc.mk.injEq, List.cons.injEq, List.take_length, List.getElem?_nil, List.getD_cons_zero, List.getD_cons_succ, Int.reduceToNat, not_false_eq_true, Nat.le_refl]
      · simp only [go_sem, ↓reduceIte, or_true, or_false, true_or, false_or, Option.some.injEq, exists_eq_left, exists_eq_left', Nat.reduceBEq, Nat.reduceAdd, Nat.reduceMul, Nat.reduceSub, Nat.reduceEqDiff, Nat.reduceLT, Nat.reduceLeDiff, Option.map, Option.bind, List.map, List.length, true_implies, true_and, and_true, Bool.and_true, Bool.true_and, Bool.or_false, Bool.false_or, Bool.not_true, Bool.not_false, Bool.and_false, Bool.false_and, List.cons_append, List.nil_append, List.append_nil, mk_eq_bs, tl_bs, List.getElem?_cons_zero, List.getElem?_cons_succ, eq_self, reduceCtorEq, implies_true, false_implies, decide_eq_true_eq, decide_eq_false_iff_not, Bool.and_eq_true, Bool.or_eq_true, Bool.not_eq_true', Bool.and_eq_false_iff, Bool.or_eq_false_iff, Bool.not_eq_false', Option.toList, SV.v.injEq, Value.int.injEq, Value.bool.injEq, Value.string.injEq, Option.getD, List.contains_cons, List.contains_nil, beq_self_eq_true, Nat.max_def, List.set, List.drop, List.take, Int.toNat_natCast, Nat.mul_one, Int.toNat_zero, List.drop_zero, Bx.mk.injEq, Vc.mk.injEq, List.cons.injEq, List.take_length, List.getElem?_nil, List.getD_cons_zero, List.getD_cons_succ, Int.reduceToNat, not_false_eq_true, Nat.le_refl]
        exact ⟨rfl, rfl, rfl⟩
      · refine ⟨.inl rfl, h, Nat.zero_le _, rfl, (fun y hy => by cases hy), ?_⟩
        simp [preL]
      · rintro ⟨k, acc, u, mm⟩ ⟨h1, h3, h4, h5, h7, h6⟩
        simp only at h1 h3 h4 h5 h6 h7
        have hr : ∀ (hkl : k < ts.length), Rd mm (ptrAt a (k * 4)) (tkC ts[k]) ∧ a ≠ none := fun hkl => by
          have := Rds_cells h3 (i := k) (by omega)
          rwa [tk_at hkl] at this
        have hfs : ∀ (hkl : k < ts.length), _ := fun hkl => (rformat_spec ts[k] mm (ht _ (List.getElem_mem hkl))).mono fun r H' m' _ h => And.intro h.1 (And.intro h.2.1 (FOut_two h.2.2))
        have hjs := fun hkl : k = n => show fmtsL ts = some acc by rw [h6, List.drop_eq_nil_of_le (by omega)]; simp [fmtsL, preL]
        have hjl := join_len [32] 10000000 acc h7
        simp only [List.length_singleton] at hjl
        simp only [go_sem, ↓reduceIte, or_true, or_false, true_or, false_or, Option.some.injEq, exists_eq_left, exists_eq_left', Nat.reduceBEq, Nat.reduceAdd, Nat.reduceMul, Nat.reduceSub, Nat.reduceEqDiff, Nat.reduceLT, Nat.reduceLeDiff, Option.map, Option.bind, List.map, List.length, true_implies, true_and, and_true, Bool.and_true, Bool.true_and, Bool.or_false, Bool.false_or, Bool.not_true, Bool.not_false, Bool.and_false, Bool.false_and, List.cons_append, List.nil_append, List.append_nil, mk_eq_bs, tl_bs, List.getElem?_cons_zero, List.getElem?_cons_succ, eq_self, reduceCtorEq, implies_true, false_implies, decide_eq_true_eq, decide_eq_false_iff_not, Bool.and_eq_true, Bool.or_eq_true, Bool.not_eq_true', Bool.and_eq_false_iff, Bool.or_eq_false_iff, Bool.not_eq_false', Option.toList, SV.v.injEq, Value.int.injEq, Value.bool.injEq, Value.string.injEq, Option.getD, List.contains_cons, List.contains_nil, beq_self_eq_true, Nat.max_def, List.set, List.drop, List.take, Int.toNat_natCast, Nat.mul_one, Int.toNat_zero, List.drop_zero, Bx.mk.injEq, Vc.mk.injEq, List.cons.injEq, List.take_length, List.getElem?_nil, List.getD_cons_zero, List.getD_cons_succ, Int.reduceToNat, not_false_eq_true, Nat.le_refl]
        refine ⟨fun hlt => ?_, fun hge => ?_⟩
        · have hkl : k < ts.length := by clear hr hfs; omega
          refine ⟨⟨by clear hr hfs; omega, hlt, (hr hkl).2⟩, tkC ts[k], ⟨(hr hkl).1, rfl⟩, ?_⟩
          simp only [go_sem, ↓reduceIte, or_true, or_false, true_or, false_or, Option.some.injEq, exists_eq_left, exists_eq_left', Nat.reduceBEq, Nat.reduceAdd, Nat.reduceMul, Nat.reduceSub, Nat.reduceEqDiff, Nat.reduceLT, Nat.reduceLeDiff, Option.map, Option.bind, List.map, List.length, true_implies, true_and, and_true, Bool.and_true, Bool.true_and, Bool.or_false, Bool.false_or, Bool.not_true, Bool.not_false, Bool.and_false, Bool.false_and, List.cons_append, List.nil_append, List.append_nil, mk_eq_bs, tl_bs, List.getElem?_cons_zero, List.getElem?_cons_succ, eq_self, reduceCtorEq, implies_true, false_implies, decide_eq_true_eq, decide_eq_false_iff_not, Bool.and_eq_true, Bool.or_eq_true, Bool.not_eq_true', Bool.and_eq_false_iff, Bool.or_eq_false_iff, Bool.not_eq_false', Option.toList, SV.v.injEq, Value.int.injEq, Value.bool.injEq, Value.string.injEq, Option.getD, List.contains_cons, List.contains_nil, beq_self_eq_true, Nat.max_def, List.set, List.drop, List.take, Int.toNat_natCast, Nat.mul_one, Int.toNat_zero, List.drop_zero, Bx.mk.injEq, Vc.mk.injEq, List.cons.injEq, List.take_length, List.getElem?_nil, List.getD_cons_zero, List.getD_cons_succ, Int.reduceToNat, not_false_eq_true, Nat.le_refl, tkC]
          refine ⟨by kernel_rfl, FnV_of ((hfs hkl).mono ?_)⟩
          clear hfs
          rintro r H' m' hm ⟨hle, rfl, x, e, rfl, hx⟩
          have hm' : leM m m' := leM_trans2 h1 hle
          simp only [go_sem, ↓reduceIte, or_true, or_false, true_or, false_or, Option.some.injEq, exists_eq_left, exists_eq_left', Nat.reduceBEq, Nat.reduceAdd, Nat.reduceMul, Nat.reduceSub, Nat.reduceEqDiff, Nat.reduceLT, Nat.reduceLeDiff, Option.map, Option.bind, List.map, List.length, true_implies, true_and, and_true, Bool.and_true, Bool.true_and, Bool.or_false, Bool.false_or, Bool.not_true, Bool.not_false, Bool.and_false, Bool.false_and, List.cons_append, List.nil_append, List.append_nil, mk_eq_bs, tl_bs, List.getElem?_cons_zero, List.getElem?_cons_succ, eq_self, reduceCtorEq, implies_true, false_implies, decide_eq_true_eq, decide_eq_false_iff_not, Bool.and_eq_true, Bool.or_eq_true, Bool.not_eq_true', Bool.and_eq_false_iff, Bool.or_eq_false_iff, Bool.not_eq_false', Option.toList, SV.v.injEq, Value.int.injEq, Value.bool.injEq, Value.string.injEq, Option.getD, List.contains_cons, List.contains_nil, beq_self_eq_true, Nat.max_def, List.set, List.drop, List.take, Int.toNat_natCast, Nat.mul_one, Int.toNat_zero, List.drop_zero, Bx.mk.injEq, Vc.mk.injEq, List.cons.injEq, List.take_length, List.getElem?_nil, List.getD_cons_zero, List.getD_cons_succ, Int.reduceToNat, not_false_eq_true, Nat.le_refl]
          refine ⟨fun he => ⟨hm', ?_⟩, fun he => ?_⟩
          · rcases hx with ⟨h8, _⟩ | ⟨rfl, rfl, h8⟩
            · exact absurd h8 he
            · rw [hj, h6, fmts_no hkl h8]
              rfl
          · have hfx : fmtL ts[k] = some x := by
              rcases hx with ⟨_, h8⟩ | ⟨h8, _⟩
              · exact h8
              · rw [he] at h8; cases h8
            have hxl := fmtL_len (ht _ (List.getElem_mem hkl)) hfx
            have hsn := join_snoc acc x
            have hall : ∀ y ∈ acc ++ [x], y.length ≤ 10000000 := fun y hy => by
              rcases List.mem_append.1 hy with hy | hy
              · exact h7 y hy
              · rw [List.mem_singleton.1 hy]; exact hxl
            have hf' : fmtsL ts = preL (acc ++ [x]) (fmtsL (ts.drop (k + 1))) := by
              rw [h6, fmts_yes hkl hfx]
              cases fmtsL (ts.drop (k + 1)) <;> simp [preL]
            have hlen : (acc ++ [x]).length = k + 1 := by rw [List.length_append, h5]; rfl
            refine ⟨fun h0 => ?_, fun h0 => ?_⟩
            · have hne : acc ≠ [] := by
                rintro rfl
                simp only [List.length_nil] at h5
                omega
              rw [if_neg hne] at hsn
              refine ⟨⟨by omega, by simp only [maxLen]; omega⟩, ⟨by omega, by simp only [maxLen]; omega⟩, by unfold I64; omega, (k + 1, acc ++ [x], u + 1 + 1, m'), ⟨⟨rfl, rfl⟩, ⟨rfl, ?_, ?_⟩, .inl rfl⟩, ⟨hm', Rds_upM hle h3, by simp only; omega, hlen, hall, hf'⟩, by simp only; omega⟩
              · simp only [hsn, List.length_append, List.length_singleton]
              · simp only [hsn, u8s_app]; rfl
            · have he0 : acc = [] := List.eq_nil_of_length_eq_zero (by omega)
              rw [if_pos he0] at hsn
              subst he0
              refine ⟨⟨by simp only [Lib.join_nil, List.length_nil]; omega, by simp only [maxLen, Lib.join_nil, List.length_nil]; omega⟩, by unfold I64; omega, (k + 1, [] ++ [x], u + 1, m'), ⟨⟨rfl, rfl⟩, ⟨rfl, ?_, ?_⟩, .inl rfl⟩, ⟨hm', Rds_upM hle h3, by simp only; omega, hlen, hall, hf'⟩, by simp only; omega⟩
              · simp only [hsn, Lib.join_nil, List.length_nil, Nat.zero_add]
              · simp only [hsn, Lib.join_nil]; rfl
        · have hacc : fmtsL ts = some acc := hjs (by clear hfs; omega)
          refine ⟨fun hx => ⟨h1, ?_⟩, fun hx => ⟨_, rfl, h1, ?_⟩⟩
          · rw [hj, hacc]
            simp only [if_pos (show 20000 < (Lib.join acc [32]).length by clear hfs; omega)]
          · rw [hj, hacc]
            simp only [if_neg (show ¬ 20000 < (Lib.join acc [32]).length by clear hfs; omega)]
end Go.Proofs.YtmkifodpkcmgoaaDoor.E

/- lex, part Zf: the statement on formatted tokens. -/
set_option linter.unusedSimpArgs false
set_option linter.unusedVariables false
namespace Go.Proofs.YtmkifodpkcmgoaaDoor.E
open Go

/-- What FormatToken answers. -/
def fo (o : Option (List UInt8)) : List UInt8 × Int := match o with | some x => (x, 0) | none => ([], 1)
theorem fout_eq {o : Option (List UInt8)} {r : SV} (h : FOut o r) : r = .tup [.v (.string (bs (fo o).1)), .v (.int .i64 (fo o).2)] := by
  cases o with
  | none => exact h
  | some x => exact h
theorem strs_getD {l : List (List UInt8)} {j : Nat} (h : j < l.length) : (strs l).getD j undef = .string (bs l[j]) := by
  unfold strs
  rw [List.getD_eq_getElem?_getD, List.getElem?_map, List.getElem?_eq_getElem h]
  rfl
set_option maxHeartbeats 8000000 in
set_option maxRecDepth 20000 in
theorem law7_spec (t : Tk) (ts : List Tk) (s : List UInt8) (a : Option Addr) (n c : Nat) (m : Mem) (hg : Glob m) (h : Rds m a n 4 (tkCells ts)) (ht0 : TkOk t) (ht : ∀ t ∈ ts, TkOk t) (hn : n ≤ 4611686018427387904) (hs : BL s) :
    FnH Tryd.prog 7 [Tk.sv t, .v (.slice a n c), .v (.string (bs s))] ⟨[], []⟩ m fun r H' m' => r = .v (.bool true) ∧ H' = ⟨[], []⟩ := by
  have h14 : ∀ m, Glob m → FnH Tryd.prog 14 [Tk.sv t] ⟨[], []⟩ m fun r H' m' => leM m m' ∧ H' = ⟨[], []⟩ ∧ r = .tup [.v (.string (bs (fo (fmtL t)).1)), .v (.int .i64 (fo (fmtL t)).2)] := fun m hg => (format_spec t m hg ht0).mono fun r H' m' _ h => ⟨.inr h.1, h.2.1, fout_eq h.2.2⟩
  have h15 : ∀ m, FnH Tryd.prog 15 [Tk.sv t] ⟨[], []⟩ m fun r H' m' => leM m m' ∧ H' = ⟨[], []⟩ ∧ r = .tup [.v (.string (bs (fo (fmtL t)).1)), .v (.int .i64 (fo (fmtL t)).2)] := fun m => (rformat_spec t m ht0).mono fun r H' m' _ h => ⟨h.1, h.2.1, fout_eq h.2.2⟩
  by_cases hbig : (100000 : Int) < (t.s.length : Nat)
  · refine enter cf6 pu6 Tryd.func7 rfl rfl (by kernel_rfl) rfl ?_ ?_
    · simp only [go_sem, ↓reduceIte, or_true, or_false, true_or, false_or, Option.some.injEq, exists_eq_left, exists_eq_left', Nat.reduceBEq, Nat.reduceAdd, Nat.reduceMul, Nat.reduceSub, Nat.reduceEqDiff, Nat.reduceLT, Nat.reduceLeDiff, Option.map, Option.bind, List.map, List.length, true_implies, true_and, and_true, Bool.and_true, Bool.true_and, Bool.or_false, Bool.false_or, Bool.not_true, Bool.not_false, Bool.and_false, Bool.false_and, List.cons_append, List.nil_append, List.append_nil, mk_eq_bs, tl_bs, List.getElem?_cons_zero, List.getElem?_cons_succ, eq_self, reduceCtorEq, implies_true, false_implies, decide_eq_true_eq, decide_eq_false_iff_not, Bool.and_eq_true, Bool.or_eq_true, Bool.not_eq_true', Bool.and_eq_false_iff, Bool.or_eq_false_iff, Bool.not_eq_false', Option.toList, SV.v.injEq, Value.int.injEq, Value.bool.injEq, Value.string.injEq, Option.getD, List.contains_cons, List.contains_nil, beq_self_eq_true, Nat.max_def, List.set, List.drop, List.take, Int.toNat_natCast, Nat.mul_one, Int.toNat_zero, List.drop_zero, Bx.mk.injEq, Vc.mk.injEq, List.cons.injEq, List.take_length, List.getElem?_nil, List.getD_cons_zero, List.getD_cons_succ, Int.reduceToNat, not_false_eq_true, Nat.le_refl, Tk.sv, Tk.cells]
    · simp only [go_sem, ↓reduceIte, or_true, or_false, true_or, false_or, Option.some.injEq, exists_eq_left, exists_eq_left', Nat.reduceBEq, Nat.reduceAdd, Nat.reduceMul, Nat.reduceSub, Nat.reduceEqDiff, Nat.reduceLT, Nat.reduceLeDiff, Option.map, Option.bind, List.map, List.length, true_implies, true_and, and_true, Bool.and_true, Bool.true_and, Bool.or_false, Bool.false_or, Bool.not_true, Bool.not_false, Bool.and_false, Bool.false_and, List.cons_append, List.nil_append, List.append_nil, mk_eq_bs, tl_bs, List.getElem?_cons_zero, List.getElem?_cons_succ, eq_self, reduceCtorEq, implies_true, false_implies, decide_eq_true_eq, decide_eq_false_iff_not, Bool.and_eq_true, Bool.or_eq_true, Bool.not_eq_true', Bool.and_eq_false_iff, Bool.or_eq_false_iff, Bool.not_eq_false', Option.toList, SV.v.injEq, Value.int.injEq, Value.bool.injEq, Value.string.injEq, Option.getD, List.contains_cons, List.contains_nil, beq_self_eq_true, Nat.max_def, List.set, List.drop, List.take, Int.toNat_natCast, Nat.mul_one, Int.toNat_zero, List.drop_zero, Bx.mk.injEq, Vc.mk.injEq, List.cons.injEq, List.take_length, List.getElem?_nil, List.getD_cons_zero, List.getD_cons_succ, Int.reduceToNat, not_false_eq_true, Nat.le_refl, Tk.sv, Tk.cells, hbig]
      refine ⟨fun h => absurd trivial h, by kernel_rfl, FnV_of ((awake_spec m hg).mono ?_)⟩
      rintro r H' m1 hm1 ⟨rfl, rfl⟩
      simp only [go_sem, ↓reduceIte, or_true, or_false, true_or, false_or, Option.some.injEq, exists_eq_left, exists_eq_left', Nat.reduceBEq, Nat.reduceAdd, Nat.reduceMul, Nat.reduceSub, Nat.reduceEqDiff, Nat.reduceLT, Nat.reduceLeDiff, Option.map, Option.bind, List.map, List.length, true_implies, true_and, and_true, Bool.and_true, Bool.true_and, Bool.or_false, Bool.false_or, Bool.not_true, Bool.not_false, Bool.and_false, Bool.false_and, List.cons_append, List.nil_append, List.append_nil, mk_eq_bs, tl_bs, List.getElem?_cons_zero, List.getElem?_cons_succ, eq_self, reduceCtorEq, implies_true, false_implies, decide_eq_true_eq, decide_eq_false_iff_not, Bool.and_eq_true, Bool.or_eq_true, Bool.not_eq_true', Bool.and_eq_false_iff, Bool.or_eq_false_iff, Bool.not_eq_false', Option.toList, SV.v.injEq, Value.int.injEq, Value.bool.injEq, Value.string.injEq, Option.getD, List.contains_cons, List.contains_nil, beq_self_eq_true, Nat.max_def, List.set, List.drop, List.take, Int.toNat_natCast, Nat.mul_one, Int.toNat_zero, List.drop_zero, Bx.mk.injEq, Vc.mk.injEq, List.cons.injEq, List.take_length, List.getElem?_nil, List.getD_cons_zero, List.getD_cons_succ, Int.reduceToNat, not_false_eq_true, Nat.le_refl]
  · have hf := few_spec ts a n c m h hn
    cases hfew : fewL ts with
    | false =>
      rw [hfew] at hf
      refine enter cf6 pu6 Tryd.func7 rfl rfl (by kernel_rfl) rfl ?_ ?_
      · simp only [go_sem, ↓reduceIte, or_true, or_false, true_or, false_or, Option.some.injEq, exists_eq_left, exists_eq_left', Nat.reduceBEq, Nat.reduceAdd, Nat.reduceMul, Nat.reduceSub, Nat.reduceEqDiff, Nat.reduceLT, Nat.reduceLeDiff, Option.map, Option.bind, List.map, List.length, true_implies, true_and, and_true, Bool.and_true, Bool.true_and, Bool.or_false, Bool.false_or, Bool.not_true, Bool.not_false, Bool.and_false, Bool.false_and, List.cons_append, List.nil_append, List.append_nil, mk_eq_bs, tl_bs, List.getElem?_cons_zero, List.getElem?_cons_succ, eq_self, reduceCtorEq, implies_true, false_implies, decide_eq_true_eq, decide_eq_false_iff_not, Bool.and_eq_true, Bool.or_eq_true, Bool.not_eq_true', Bool.and_eq_false_iff, Bool.or_eq_false_iff, Bool.not_eq_false', Option.toList, SV.v.injEq, Value.int.injEq, Value.bool.injEq, Value.string.injEq, Option.getD, List.contains_cons, List.contains_nil, beq_self_eq_true, Nat.max_def, List.set, List.drop, List.take, Int.toNat_natCast, Nat.mul_one, Int.toNat_zero, List.drop_zero, Bx.mk.injEq, Vc.mk.injEq, List.cons.injEq, List.take_length, List.getElem?_nil, List.getD_cons_zero, List.getD_cons_succ, Int.reduceToNat, not_false_eq_true, Nat.le_refl, Tk.sv, Tk.cells]
      · simp only [go_sem, ↓reduceIte, or_true, or_false, true_or, false_or, Option.some.injEq, exists_eq_left, exists_eq_left', Nat.reduceBEq, Nat.reduceAdd, Nat.reduceMul, Nat.reduceSub, Nat.reduceEqDiff, Nat.reduceLT, Nat.reduceLeDiff, Option.map, Option.bind, List.map, List.length, true_implies, true_and, and_true, Bool.and_true, Bool.true_and, Bool.or_false, Bool.false_or, Bool.not_true, Bool.not_false, Bool.and_false, Bool.false_and, List.cons_append, List.nil_append, List.append_nil, mk_eq_bs, tl_bs, List.getElem?_cons_zero, List.getElem?_cons_succ, eq_self, reduceCtorEq, implies_true, false_implies, decide_eq_true_eq, decide_eq_false_iff_not, Bool.and_eq_true, Bool.or_eq_true, Bool.not_eq_true', Bool.and_eq_false_iff, Bool.or_eq_false_iff, Bool.not_eq_false', Option.toList, SV.v.injEq, Value.int.injEq, Value.bool.injEq, Value.string.injEq, Option.getD, List.contains_cons, List.contains_nil, beq_self_eq_true, Nat.max_def, List.set, List.drop, List.take, Int.toNat_natCast, Nat.mul_one, Int.toNat_zero, List.drop_zero, Bx.mk.injEq, Vc.mk.injEq, List.cons.injEq, List.take_length, List.getElem?_nil, List.getD_cons_zero, List.getD_cons_succ, Int.reduceToNat, not_false_eq_true, Nat.le_refl, Tk.sv, Tk.cells, hbig]
        refine ⟨by kernel_rfl, FnV_of (hf.mono ?_)⟩
        rintro r H' m1 hm1 ⟨rfl, rfl⟩
        simp only [go_sem, ↓reduceIte, or_true, or_false, true_or, false_or, Option.some.injEq, exists_eq_left, exists_eq_left', Nat.reduceBEq, Nat.reduceAdd, Nat.reduceMul, Nat.reduceSub, Nat.reduceEqDiff, Nat.reduceLT, Nat.reduceLeDiff, Option.map, Option.bind, List.map, List.length, true_implies, true_and, and_true, Bool.and_true, Bool.true_and, Bool.or_false, Bool.false_or, Bool.not_true, Bool.not_false, Bool.and_false, Bool.false_and, List.cons_append, List.nil_append, List.append_nil, mk_eq_bs, tl_bs, List.getElem?_cons_zero, List.getElem?_cons_succ, eq_self, reduceCtorEq, implies_true, false_implies, decide_eq_true_eq, decide_eq_false_iff_not, Bool.and_eq_true, Bool.or_eq_true, Bool.not_eq_true', Bool.and_eq_false_iff, Bool.or_eq_false_iff, Bool.not_eq_false', Option.toList, SV.v.injEq, Value.int.injEq, Value.bool.injEq, Value.string.injEq, Option.getD, List.contains_cons, List.contains_nil, beq_self_eq_true, Nat.max_def, List.set, List.drop, List.take, Int.toNat_natCast, Nat.mul_one, Int.toNat_zero, List.drop_zero, Bx.mk.injEq, Vc.mk.injEq, List.cons.injEq, List.take_length, List.getElem?_nil, List.getD_cons_zero, List.getD_cons_succ, Int.reduceToNat, not_false_eq_true, Nat.le_refl]
        refine ⟨by kernel_rfl, FnV_of ((awake_spec m1 (hg.up hm1)).mono ?_)⟩
        rintro r H' m2 hm2 ⟨rfl, rfl⟩
        simp only [go_sem, ↓reduceIte, or_true, or_false, true_or, false_or, Option.some.injEq, exists_eq_left, exists_eq_left', Nat.reduceBEq, Nat.reduceAdd, Nat.reduceMul, Nat.reduceSub, Nat.reduceEqDiff, Nat.reduceLT, Nat.reduceLeDiff, Option.map, Option.bind, List.map, List.length, true_implies, true_and, and_true, Bool.and_true, Bool.true_and, Bool.or_false, Bool.false_or, Bool.not_true, Bool.not_false, Bool.and_false, Bool.false_and, List.cons_append, List.nil_append, List.append_nil, mk_eq_bs, tl_bs, List.getElem?_cons_zero, List.getElem?_cons_succ, eq_self, reduceCtorEq, implies_true, false_implies, decide_eq_true_eq, decide_eq_false_iff_not, Bool.and_eq_true, Bool.or_eq_true, Bool.not_eq_true', Bool.and_eq_false_iff, Bool.or_eq_false_iff, Bool.not_eq_false', Option.toList, SV.v.injEq, Value.int.injEq, Value.bool.injEq, Value.string.injEq, Option.getD, List.contains_cons, List.contains_nil, beq_self_eq_true, Nat.max_def, List.set, List.drop, List.take, Int.toNat_natCast, Nat.mul_one, Int.toNat_zero, List.drop_zero, Bx.mk.injEq, Vc.mk.injEq, List.cons.injEq, List.take_length, List.getElem?_nil, List.getD_cons_zero, List.getD_cons_succ, Int.reduceToNat, not_false_eq_true, Nat.le_refl]
    | true =>
      rw [hfew] at hf
      refine enter cf6 pu6 Tryd.func7 rfl rfl (by kernel_rfl) rfl ?_ ?_
      · simp only [go_sem, ↓reduceIte, or_true, or_false, true_or, false_or, Option.some.injEq, exists_eq_left, exists_eq_left', Nat.reduceBEq, Nat.reduceAdd, Nat.reduceMul, Nat.reduceSub, Nat.reduceEqDiff, Nat.reduceLT, Nat.reduceLeDiff, Option.map, Option.bind, List.map, List.length, true_implies, true_and, and_true, Bool.and_true, Bool.true_and, Bool.or_false, Bool.false_or, Bool.not_true, Bool.not_false, Bool.and_false, Bool.false_and, List.cons_append, List.nil_append, List.append_nil, mk_eq_bs, tl_bs, List.getElem?_cons_zero, List.getElem?_cons_succ, eq_self, reduceCtorEq, implies_true, false_implies, decide_eq_true_eq, decide_eq_false_iff_not, Bool.and_eq_true, Bool.or_eq_true, Bool.not_eq_true', Bool.and_eq_false_iff, Bool.or_eq_false_iff, Bool.not_eq_false', Option.toList, SV.v.injEq, Value.int.injEq, Value.bool.injEq, Value.string.injEq, Option.getD, List.contains_cons, List.contains_nil, beq_self_eq_true, Nat.max_def, List.set, List.drop, List.take, Int.toNat_natCast, Nat.mul_one, Int.toNat_zero, List.drop_zero, Bx.mk.injEq, Vc.mk.injEq, List.cons.injEq, List.take_length, List.getElem?_nil, List.getD_cons_zero, List.getD_cons_succ, Int.reduceToNat, not_false_eq_true, Nat.le_refl, Tk.sv, Tk.cells]
      · simp only [go_sem, ↓reduceIte, or_true, or_false, true_or, false_or, Option.some.injEq, exists_eq_left, exists_eq_left', Nat.reduceBEq, Nat.reduceAdd, Nat.reduceMul, Nat.reduceSub, Nat.reduceEqDiff, Nat.reduceLT, Nat.reduceLeDiff, Option.map, Option.bind, List.map, List.length, true_implies, true_and, and_true, Bool.and_true, Bool.true_and, Bool.or_false, Bool.false_or, Bool.not_true, Bool.not_false, Bool.and_false, Bool.false_and, List.cons_append, List.nil_append, List.append_nil, mk_eq_bs, tl_bs, List.getElem?_cons_zero, List.getElem?_cons_succ, eq_self, reduceCtorEq, implies_true, false_implies, decide_eq_true_eq, decide_eq_false_iff_not, Bool.and_eq_true, Bool.or_eq_true, Bool.not_eq_true', Bool.and_eq_false_iff, Bool.or_eq_false_iff, Bool.not_eq_false', Option.toList, SV.v.injEq, Value.int.injEq, Value.bool.injEq, Value.string.injEq, Option.getD, List.contains_cons, List.contains_nil, beq_self_eq_true, Nat.max_def, List.set, List.drop, List.take, Int.toNat_natCast, Nat.mul_one, Int.toNat_zero, List.drop_zero, Bx.mk.injEq, Vc.mk.injEq, List.cons.injEq, List.take_length, List.getElem?_nil, List.getD_cons_zero, List.getD_cons_succ, Int.reduceToNat, not_false_eq_true, Nat.le_refl, Tk.sv, Tk.cells, hbig]
        refine ⟨by kernel_rfl, FnV_of (hf.mono ?_)⟩
        clear hf
        rintro r H' m1 hm1 ⟨rfl, rfl⟩
        have hg1 := hg.up hm1
        have h1 := Rds_up hm1 h
        simp only [go_sem, ↓reduceIte, or_true, or_false, true_or, false_or, Option.some.injEq, exists_eq_left, exists_eq_left', Nat.reduceBEq, Nat.reduceAdd, Nat.reduceMul, Nat.reduceSub, Nat.reduceEqDiff, Nat.reduceLT, Nat.reduceLeDiff, Option.map, Option.bind, List.map, List.length, true_implies, true_and, and_true, Bool.and_true, Bool.true_and, Bool.or_false, Bool.false_or, Bool.not_true, Bool.not_false, Bool.and_false, Bool.false_and, List.cons_append, List.nil_append, List.append_nil, mk_eq_bs, tl_bs, List.getElem?_cons_zero, List.getElem?_cons_succ, eq_self, reduceCtorEq, implies_true, false_implies, decide_eq_true_eq, decide_eq_false_iff_not, Bool.and_eq_true, Bool.or_eq_true, Bool.not_eq_true', Bool.and_eq_false_iff, Bool.or_eq_false_iff, Bool.not_eq_false', Option.toList, SV.v.injEq, Value.int.injEq, Value.bool.injEq, Value.string.injEq, Option.getD, List.contains_cons, List.contains_nil, beq_self_eq_true, Nat.max_def, List.set, List.drop, List.take, Int.toNat_natCast, Nat.mul_one, Int.toNat_zero, List.drop_zero, Bx.mk.injEq, Vc.mk.injEq, List.cons.injEq, List.take_length, List.getElem?_nil, List.getD_cons_zero, List.getD_cons_succ, Int.reduceToNat, not_false_eq_true, Nat.le_refl]
        refine ⟨by kernel_rfl, FnV_of ((h14 m1 hg1).mono ?_)⟩
        clear h14
        rintro r H' m2 hm2 ⟨hle2, rfl, rfl⟩
        simp only [go_sem, ↓reduceIte, or_true, or_false, true_or, false_or, Option.some.injEq, exists_eq_left, exists_eq_left', Nat.reduceBEq, Nat.reduceAdd, Nat.reduceMul, Nat.reduceSub, Nat.reduceEqDiff, Nat.reduceLT, Nat.reduceLeDiff, Option.map, Option.bind, List.map, List.length, true_implies, true_and, and_true, Bool.and_true, Bool.true_and, Bool.or_false, Bool.false_or, Bool.not_true, Bool.not_false, Bool.and_false, Bool.false_and, List.cons_append, List.nil_append, List.append_nil, mk_eq_bs, tl_bs, List.getElem?_cons_zero, List.getElem?_cons_succ, eq_self, reduceCtorEq, implies_true, false_implies, decide_eq_true_eq, decide_eq_false_iff_not, Bool.and_eq_true, Bool.or_eq_true, Bool.not_eq_true', Bool.and_eq_false_iff, Bool.or_eq_false_iff, Bool.not_eq_false', Option.toList, SV.v.injEq, Value.int.injEq, Value.bool.injEq, Value.string.injEq, Option.getD, List.contains_cons, List.contains_nil, beq_self_eq_true, Nat.max_def, List.set, List.drop, List.take, Int.toNat_natCast, Nat.mul_one, Int.toNat_zero, List.drop_zero, Bx.mk.injEq, Vc.mk.injEq, List.cons.injEq, List.take_length, List.getElem?_nil, List.getD_cons_zero, List.getD_cons_succ, Int.reduceToNat, not_false_eq_true, Nat.le_refl]
        refine ⟨by kernel_rfl, FnV_of ((h15 m2).mono ?_)⟩
        clear h15
        rintro r H' m3 hm3 ⟨hle3, rfl, rfl⟩
        have hg3 := (hg1.up hm2).up hm3
        have h3 := Rds_up hm3 (Rds_up hm2 h1)
        simp only [go_sem, ↓reduceIte, or_true, or_false, true_or, false_or, Option.some.injEq, exists_eq_left, exists_eq_left', Nat.reduceBEq, Nat.reduceAdd, Nat.reduceMul, Nat.reduceSub, Nat.reduceEqDiff, Nat.reduceLT, Nat.reduceLeDiff, Option.map, Option.bind, List.map, List.length, true_implies, true_and, and_true, Bool.and_true, Bool.true_and, Bool.or_false, Bool.false_or, Bool.not_true, Bool.not_false, Bool.and_false, Bool.false_and, List.cons_append, List.nil_append, List.append_nil, mk_eq_bs, tl_bs, List.getElem?_cons_zero, List.getElem?_cons_succ, eq_self, reduceCtorEq, implies_true, false_implies, decide_eq_true_eq, decide_eq_false_iff_not, Bool.and_eq_true, Bool.or_eq_true, Bool.not_eq_true', Bool.and_eq_false_iff, Bool.or_eq_false_iff, Bool.not_eq_false', Option.toList, SV.v.injEq, Value.int.injEq, Value.bool.injEq, Value.string.injEq, Option.getD, List.contains_cons, List.contains_nil, beq_self_eq_true, Nat.max_def, List.set, List.drop, List.take, Int.toNat_natCast, Nat.mul_one, Int.toNat_zero, List.drop_zero, Bx.mk.injEq, Vc.mk.injEq, List.cons.injEq, List.take_length, List.getElem?_nil, List.getD_cons_zero, List.getD_cons_succ, Int.reduceToNat, not_false_eq_true, Nat.le_refl]
        refine ⟨by kernel_rfl, FnV_of ((joinT_spec ts a n c m3 hg3 h3 ht hn).mono ?_)⟩
        rintro r H' m4 hm4 ⟨hle4, rfl, rfl⟩
        have h4 := Rds_up hm4 h3
        simp only [go_sem, ↓reduceIte, or_true, or_false, true_or, false_or, Option.some.injEq, exists_eq_left, exists_eq_left', Nat.reduceBEq, Nat.reduceAdd, Nat.reduceMul, Nat.reduceSub, Nat.reduceEqDiff, Nat.reduceLT, Nat.reduceLeDiff, Option.map, Option.bind, List.map, List.length, true_implies, true_and, and_true, Bool.and_true, Bool.true_and, Bool.or_false, Bool.false_or, Bool.not_true, Bool.not_false, Bool.and_false, Bool.false_and, List.cons_append, List.nil_append, List.append_nil, mk_eq_bs, tl_bs, List.getElem?_cons_zero, List.getElem?_cons_succ, eq_self, reduceCtorEq, implies_true, false_implies, decide_eq_true_eq, decide_eq_false_iff_not, Bool.and_eq_true, Bool.or_eq_true, Bool.not_eq_true', Bool.and_eq_false_iff, Bool.or_eq_false_iff, Bool.not_eq_false', Option.toList, SV.v.injEq, Value.int.injEq, Value.bool.injEq, Value.string.injEq, Option.getD, List.contains_cons, List.contains_nil, beq_self_eq_true, Nat.max_def, List.set, List.drop, List.take, Int.toNat_natCast, Nat.mul_one, Int.toNat_zero, List.drop_zero, Bx.mk.injEq, Vc.mk.injEq, List.cons.injEq, List.take_length, List.getElem?_nil, List.getD_cons_zero, List.getD_cons_succ, Int.reduceToNat, not_false_eq_true, Nat.le_refl]
        refine ⟨by kernel_rfl, FnV_of ((rjoin_spec ts a n c m4 h4 ht hn).mono ?_)⟩
        rintro r H' m5 hm5 ⟨hle5, rfl, rfl⟩
        have hg5 := (hg3.up hm4).up hm5
        simp only [go_sem, ↓reduceIte, or_true, or_false, true_or, false_or, Option.some.injEq, exists_eq_left, exists_eq_left', Nat.reduceBEq, Nat.reduceAdd, Nat.reduceMul, Nat.reduceSub, Nat.reduceEqDiff, Nat.reduceLT, Nat.reduceLeDiff, Option.map, Option.bind, List.map, List.length, true_implies, true_and, and_true, Bool.and_true, Bool.true_and, Bool.or_false, Bool.false_or, Bool.not_true, Bool.not_false, Bool.and_false, Bool.false_and, List.cons_append, List.nil_append, List.append_nil, mk_eq_bs, tl_bs, List.getElem?_cons_zero, List.getElem?_cons_succ, eq_self, reduceCtorEq, implies_true, false_implies, decide_eq_true_eq, decide_eq_false_iff_not, Bool.and_eq_true, Bool.or_eq_true, Bool.not_eq_true', Bool.and_eq_false_iff, Bool.or_eq_false_iff, Bool.not_eq_false', Option.toList, SV.v.injEq, Value.int.injEq, Value.bool.injEq, Value.string.injEq, Option.getD, List.contains_cons, List.contains_nil, beq_self_eq_true, Nat.max_def, List.set, List.drop, List.take, Int.toNat_natCast, Nat.mul_one, Int.toNat_zero, List.drop_zero, Bx.mk.injEq, Vc.mk.injEq, List.cons.injEq, List.take_length, List.getElem?_nil, List.getD_cons_zero, List.getD_cons_succ, Int.reduceToNat, not_false_eq_true, Nat.le_refl]
        refine ⟨by kernel_rfl, FnV_of ((keywords_spec m5).mono ?_)⟩
        rintro r H' m6 hm6 ⟨rfl, rfl, rfl⟩
        simp only [go_sem, ↓reduceIte, or_true, or_false, true_or, false_or, Option.some.injEq, exists_eq_left, exists_eq_left', Nat.reduceBEq, Nat.reduceAdd, Nat.reduceMul, Nat.reduceSub, Nat.reduceEqDiff, Nat.reduceLT, Nat.reduceLeDiff, Option.map, Option.bind, List.map, List.length, true_implies, true_and, and_true, Bool.and_true, Bool.true_and, Bool.or_false, Bool.false_or, Bool.not_true, Bool.not_false, Bool.and_false, Bool.false_and, List.cons_append, List.nil_append, List.append_nil, mk_eq_bs, tl_bs, List.getElem?_cons_zero, List.getElem?_cons_succ, eq_self, reduceCtorEq, implies_true, false_implies, decide_eq_true_eq, decide_eq_false_iff_not, Bool.and_eq_true, Bool.or_eq_true, Bool.not_eq_true', Bool.and_eq_false_iff, Bool.or_eq_false_iff, Bool.not_eq_false', Option.toList, SV.v.injEq, Value.int.injEq, Value.bool.injEq, Value.string.injEq, Option.getD, List.contains_cons, List.contains_nil, beq_self_eq_true, Nat.max_def, List.set, List.drop, List.take, Int.toNat_natCast, Nat.mul_one, Int.toNat_zero, List.drop_zero, Bx.mk.injEq, Vc.mk.injEq, List.cons.injEq, List.take_length, List.getElem?_nil, List.getD_cons_zero, List.getD_cons_succ, Int.reduceToNat, not_false_eq_true, Nat.le_refl]
        refine ⟨by kernel_rfl, FnV_of ((rkeywords_spec m6).mono ?_)⟩
        rintro r H' m7 hm7 ⟨rfl, rfl, rfl⟩
        simp only [go_sem, ↓reduceIte, or_true, or_false, true_or, false_or, Option.some.injEq, exists_eq_left, exists_eq_left', Nat.reduceBEq, Nat.reduceAdd, Nat.reduceMul, Nat.reduceSub, Nat.reduceEqDiff, Nat.reduceLT, Nat.reduceLeDiff, Option.map, Option.bind, List.map, List.length, true_implies, true_and, and_true, Bool.and_true, Bool.true_and, Bool.or_false, Bool.false_or, Bool.not_true, Bool.not_false, Bool.and_false, Bool.false_and, List.cons_append, List.nil_append, List.append_nil, mk_eq_bs, tl_bs, List.getElem?_cons_zero, List.getElem?_cons_succ, eq_self, reduceCtorEq, implies_true, false_implies, decide_eq_true_eq, decide_eq_false_iff_not, Bool.and_eq_true, Bool.or_eq_true, Bool.not_eq_true', Bool.and_eq_false_iff, Bool.or_eq_false_iff, Bool.not_eq_false', Option.toList, SV.v.injEq, Value.int.injEq, Value.bool.injEq, Value.string.injEq, Option.getD, List.contains_cons, List.contains_nil, beq_self_eq_true, Nat.max_def, List.set, List.drop, List.take, Int.toNat_natCast, Nat.mul_one, Int.toNat_zero, List.drop_zero, Bx.mk.injEq, Vc.mk.injEq, List.cons.injEq, List.take_length, List.getElem?_nil, List.getD_cons_zero, List.getD_cons_succ, Int.reduceToNat, not_false_eq_true, Nat.le_refl]
        refine ⟨fun h => absurd trivial h, ?_⟩
        refine WP_loop pu6 (fun j : Nat => ⟨[⟨2, [], .v (.string (bs s))⟩, ⟨7, [], .v (.string (bs (fo (fmtL t)).1))⟩, ⟨8, [], .v (.int .i64 (fo (fmtL t)).2)⟩, ⟨9, [], .v (.string (bs (fo (fmtL t)).1))⟩, ⟨10, [], .v (.int .i64 (fo (fmtL t)).2)⟩,
            ⟨11, [], .v (.string (bs (joinL ts).1))⟩, ⟨12, [], .v (.int .i64 (joinL ts).2)⟩, ⟨13, [], .v (.string (bs (joinL ts).1))⟩, ⟨14, [], .v (.int .i64 (joinL ts).2)⟩, ⟨15, [], .vec 1 0⟩, ⟨16, [], .vec 2 0⟩, ⟨17, [], .v (.int .i64 j)⟩], [], [], [⟨2, 0, 9, 1, 28, strs keywordsL⟩, ⟨1, 0, 9, 1, 28, strs keywordsL⟩], 3, m7⟩)
          (fun j => j ≤ 28) (fun j => 28 - j) 0 (by kernel_rfl) (fun _ _ => Nat.le_refl _) (fun _ _ => .inl rfl) (fun j => ?_) ?_ (Nat.zero_le _) ?_
        · simp only [go_sem, ↓reduceIte, or_true, or_false, true_or, false_or, Option.some.injEq, exists_eq_left, exists_eq_left', Nat.reduceBEq, Nat.reduceAdd, Nat.reduceMul, Nat.reduceSub, Nat.reduceEqDiff, Nat.reduceLT, Nat.reduceLeDiff, Option.map, Option.bind, List.map, List.length, true_implies, true_and, and_true, Bool.and_true, Bool.true_and, Bool.or_false, Bool.false_or, Bool.not_true, Bool.not_false, Bool.and_false, Bool.false_and, List.cons_append, List.nil_append, List.append_nil, mk_eq_bs, tl_bs, List.getElem?_cons_zero, List.getElem?_cons_succ, eq_self, reduceCtorEq, implies_true, false_implies, decide_eq_true_eq, decide_eq_false_iff_not, Bool.and_eq_true, Bool.or_eq_true, Bool.not_eq_true', Bool.and_eq_false_iff, Bool.or_eq_false_iff, Bool.not_eq_false', Option.toList, SV.v.injEq, Value.int.injEq, Value.bool.injEq, Value.string.injEq, Option.getD, List.contains_cons, List.contains_nil, beq_self_eq_true, Nat.max_def, List.set, List.drop, List.take, Int.toNat_natCast, Nat.mul_one, Int.toNat_zero, List.drop_zero, Bx.mk.injEq, Vc.mk.injEq, List.cons.injEq, List.take_length, List.getElem?_nil, List.getD_cons_zero, List.getD_cons_succ, Int.reduceToNat, not_false_eq_true, Nat.le_refl]
        · simp only [go_sem, ↓reduceIte, or_true, or_false, true_or, false_or, Option.some.injEq, exists_eq_left, exists_eq_left', Nat.reduceBEq, Nat.reduceAdd, Nat.reduceMul, Nat.reduceSub, Nat.reduceEqDiff, Nat.reduceLT, Nat.reduceLeDiff, Option.map, Option.bind, List.map, List.length, true_implies, true_and, and_true, Bool.and_true, Bool.true_and, Bool.or_false, Bool.false_or, Bool.not_true, Bool.not_false, Bool.and_false, Bool.false_and, List.cons_append, List.nil_append, List.append_nil, mk_eq_bs, tl_bs, List.getElem?_cons_zero, List.getElem?_cons_succ, eq_self, reduceCtorEq, implies_true, false_implies, decide_eq_true_eq, decide_eq_false_iff_not, Bool.and_eq_true, Bool.or_eq_true, Bool.not_eq_true', Bool.and_eq_false_iff, Bool.or_eq_false_iff, Bool.not_eq_false', Option.toList, SV.v.injEq, Value.int.injEq, Value.bool.injEq, Value.string.injEq, Option.getD, List.contains_cons, List.contains_nil, beq_self_eq_true, Nat.max_def, List.set, List.drop, List.take, Int.toNat_natCast, Nat.mul_one, Int.toNat_zero, List.drop_zero, Bx.mk.injEq, Vc.mk.injEq, List.cons.injEq, List.take_length, List.getElem?_nil, List.getD_cons_zero, List.getD_cons_succ, Int.reduceToNat, not_false_eq_true, Nat.le_refl]
          rfl
        · intro j hj
          simp only [go_sem, ↓reduceIte, or_true, or_false, true_or, false_or, Option.some.injEq, exists_eq_left, exists_eq_left', Nat.reduceBEq, Nat.reduceAdd, Nat.reduceMul, Nat.reduceSub, Nat.reduceEqDiff, Nat.reduceLT, Nat.reduceLeDiff, Option.map, Option.bind, List.map, List.length, true_implies, true_and, and_true, Bool.and_true, Bool.true_and, Bool.or_false, Bool.false_or, Bool.not_true, Bool.not_false, Bool.and_false, Bool.false_and, List.cons_append, List.nil_append, List.append_nil, mk_eq_bs, tl_bs, List.getElem?_cons_zero, List.getElem?_cons_succ, eq_self, reduceCtorEq, implies_true, false_implies, decide_eq_true_eq, decide_eq_false_iff_not, Bool.and_eq_true, Bool.or_eq_true, Bool.not_eq_true', Bool.and_eq_false_iff, Bool.or_eq_false_iff, Bool.not_eq_false', Option.toList, SV.v.injEq, Value.int.injEq, Value.bool.injEq, Value.string.injEq, Option.getD, List.contains_cons, List.contains_nil, beq_self_eq_true, Nat.max_def, List.set, List.drop, List.take, Int.toNat_natCast, Nat.mul_one, Int.toNat_zero, List.drop_zero, Bx.mk.injEq, Vc.mk.injEq, List.cons.injEq, List.take_length, List.getElem?_nil, List.getD_cons_zero, List.getD_cons_succ, Int.reduceToNat, not_false_eq_true, Nat.le_refl]
          refine ⟨fun hlt => ?_, fun _ => ?_⟩
          · have hjl : j < keywordsL.length := by show j < 28; omega
            have e0 := strs_getD hjl
            refine WP_draw (.hoist 0 (.hoist 1 (.hoist 2 (.hoist 3 (.hoist 4 (.hoist 5 (.hoist 6 (.hoist 7 (.hoist 8 .done))))))))) pu6 (by kernel_rfl) (by kernel_rfl) ?_
            simp only [go_sem, ↓reduceIte, or_true, or_false, true_or, false_or, Option.some.injEq, exists_eq_left, exists_eq_left', Nat.reduceBEq, Nat.reduceAdd, Nat.reduceMul, Nat.reduceSub, Nat.reduceEqDiff, Nat.reduceLT, Nat.reduceLeDiff, Option.map, Option.bind, List.map, List.length, true_implies, true_and, and_true, Bool.and_true, Bool.true_and, Bool.or_false, Bool.false_or, Bool.not_true, Bool.not_false, Bool.and_false, Bool.false_and, List.cons_append, List.nil_append, List.append_nil, mk_eq_bs, tl_bs, List.getElem?_cons_zero, List.getElem?_cons_succ, eq_self, reduceCtorEq, implies_true, false_implies, decide_eq_true_eq, decide_eq_false_iff_not, Bool.and_eq_true, Bool.or_eq_true, Bool.not_eq_true', Bool.and_eq_false_iff, Bool.or_eq_false_iff, Bool.not_eq_false', Option.toList, SV.v.injEq, Value.int.injEq, Value.bool.injEq, Value.string.injEq, Option.getD, List.contains_cons, List.contains_nil, beq_self_eq_true, Nat.max_def, List.set, List.drop, List.take, Int.toNat_natCast, Nat.mul_one, Int.toNat_zero, List.drop_zero, Bx.mk.injEq, Vc.mk.injEq, List.cons.injEq, List.take_length, List.getElem?_nil, List.getD_cons_zero, List.getD_cons_succ, Int.reduceToNat, not_false_eq_true, Nat.le_refl, e0]
            have i1 : (0 : Int) ≤ (j : Int) ∧ (j : Int) < ((28 : Nat) : Int) := ⟨by omega, hlt⟩
            have b1 : j < (strs keywordsL).length := by unfold strs; rw [List.length_map]; exact hjl
            exact ⟨i1, b1, i1, b1, fun h => absurd trivial h, by unfold I64; omega, j + 1, rfl, hjl, by omega⟩
          · refine ⟨by kernel_rfl, FnV_of ((awake_spec m7 hg5).mono ?_)⟩
            rintro r H' m8 hm8 ⟨rfl, rfl⟩
            simp only [go_sem, ↓reduceIte, or_true, or_false, true_or, false_or, Option.some.injEq, exists_eq_left, exists_eq_left', Nat.reduceBEq, Nat.reduceAdd, Nat.reduceMul, Nat.reduceSub, Nat.reduceEqDiff, Nat.reduceLT, Nat.reduceLeDiff, Option.map, Option.bind, List.map, List.length, true_implies, true_and, and_true, Bool.and_true, Bool.true_and, Bool.or_false, Bool.false_or, Bool.not_true, Bool.not_false, Bool.and_false, Bool.false_and, List.cons_append, List.nil_append, List.append_nil, mk_eq_bs, tl_bs, List.getElem?_cons_zero, List.getElem?_cons_succ, eq_self, reduceCtorEq, implies_true, false_implies, decide_eq_true_eq, decide_eq_false_iff_not, Bool.and_eq_true, Bool.or_eq_true, Bool.not_eq_true', Bool.and_eq_false_iff, Bool.or_eq_false_iff, Bool.not_eq_false', Option.toList, SV.v.injEq, Value.int.injEq, Value.bool.injEq, Value.string.injEq, Option.getD, List.contains_cons, List.contains_nil, beq_self_eq_true, Nat.max_def, List.set, List.drop, List.take, Int.toNat_natCast, Nat.mul_one, Int.toNat_zero, List.drop_zero, Bx.mk.injEq, Vc.mk.injEq, List.cons.injEq, List.take_length, List.getElem?_nil, List.getD_cons_zero, List.getD_cons_succ, Int.reduceToNat, not_false_eq_true, Nat.le_refl]
            refine ⟨⟨by kernel_rfl, FnV_of ((isCls_spec s m8 hs).mono ?_)⟩, fun h => by simp at h⟩
            rintro r H' m9 hm9 ⟨rfl, rfl⟩
            simp only [go_sem, ↓reduceIte, or_true, or_false, true_or, false_or, Option.some.injEq, exists_eq_left, exists_eq_left', Nat.reduceBEq, Nat.reduceAdd, Nat.reduceMul, Nat.reduceSub, Nat.reduceEqDiff, Nat.reduceLT, Nat.reduceLeDiff, Option.map, Option.bind, List.map, List.length, true_implies, true_and, and_true, Bool.and_true, Bool.true_and, Bool.or_false, Bool.false_or, Bool.not_true, Bool.not_false, Bool.and_false, Bool.false_and, List.cons_append, List.nil_append, List.append_nil, mk_eq_bs, tl_bs, List.getElem?_cons_zero, List.getElem?_cons_succ, eq_self, reduceCtorEq, implies_true, false_implies, decide_eq_true_eq, decide_eq_false_iff_not, Bool.and_eq_true, Bool.or_eq_true, Bool.not_eq_true', Bool.and_eq_false_iff, Bool.or_eq_false_iff, Bool.not_eq_false', Option.toList, SV.v.injEq, Value.int.injEq, Value.bool.injEq, Value.string.injEq, Option.getD, List.contains_cons, List.contains_nil, beq_self_eq_true, Nat.max_def, List.set, List.drop, List.take, Int.toNat_natCast, Nat.mul_one, Int.toNat_zero, List.drop_zero, Bx.mk.injEq, Vc.mk.injEq, List.cons.injEq, List.take_length, List.getElem?_nil, List.getD_cons_zero, List.getD_cons_succ, Int.reduceToNat, not_false_eq_true, Nat.le_refl]
            refine ⟨by kernel_rfl, FnV_of ((risCls_spec s m9 hs).mono ?_)⟩
            rintro r H' m10 hm10 ⟨rfl, rfl⟩
            simp only [go_sem, ↓reduceIte, or_true, or_false, true_or, false_or, Option.some.injEq, exists_eq_left, exists_eq_left', Nat.reduceBEq, Nat.reduceAdd, Nat.reduceMul, Nat.reduceSub, Nat.reduceEqDiff, Nat.reduceLT, Nat.reduceLeDiff, Option.map, Option.bind, List.map, List.length, true_implies, true_and, and_true, Bool.and_true, Bool.true_and, Bool.or_false, Bool.false_or, Bool.not_true, Bool.not_false, Bool.and_false, Bool.false_and, List.cons_append, List.nil_append, List.append_nil, mk_eq_bs, tl_bs, List.getElem?_cons_zero, List.getElem?_cons_succ, eq_self, reduceCtorEq, implies_true, false_implies, decide_eq_true_eq, decide_eq_false_iff_not, Bool.and_eq_true, Bool.or_eq_true, Bool.not_eq_true', Bool.and_eq_false_iff, Bool.or_eq_false_iff, Bool.not_eq_false', Option.toList, SV.v.injEq, Value.int.injEq, Value.bool.injEq, Value.string.injEq, Option.getD, List.contains_cons, List.contains_nil, beq_self_eq_true, Nat.max_def, List.set, List.drop, List.take, Int.toNat_natCast, Nat.mul_one, Int.toNat_zero, List.drop_zero, Bx.mk.injEq, Vc.mk.injEq, List.cons.injEq, List.take_length, List.getElem?_nil, List.getD_cons_zero, List.getD_cons_succ, Int.reduceToNat, not_false_eq_true, Nat.le_refl]
            exact Tryd.underlying4
end Go.Proofs.YtmkifodpkcmgoaaDoor.E

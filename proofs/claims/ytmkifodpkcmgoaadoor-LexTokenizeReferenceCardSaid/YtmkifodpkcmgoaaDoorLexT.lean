/- lex, part T: the text of a token; Join. -/
import Derived.Test.YtmkifodpkcmgoaaDoorLexS
namespace Go.Proofs.YtmkifodpkcmgoaaDoor.E
open Go

/-- The text of a token. -/
def fmtL (t : Tk) : Option (List UInt8) :=
  if t.k = 1 then (if t.n = 0 ∧ isName t.s = true ∧ keywordsL.contains t.s = false then some (Lib.replaceAll t.s [47] [58, 58]) else none)
  else if t.k = 2 then (if t.n = 0 ∧ keywordsL.contains t.s = true then some t.s else none)
  else if t.k = 3 then (if (t.s = [] ∧ 0 ≤ t.n) ∧ t.n < 2147483648 then some (Lib.itoa t.n) else none)
  else if t.k = 4 then (if t.s = [] ∧ 0 ≤ t.n then some (Lib.itoa t.n ++ [76]) else none)
  else if t.k = 5 then (if t.n = 0 ∧ t.s.length ≤ 1024 then some (escapedL t.s) else none)
  else if t.k = 6 then (if t.n = 0 ∧ signsL.contains t.s = true then some t.s else none)
  else none
def FOut (o : Option (List UInt8)) (r : SV) : Prop :=
  match o with
  | some x => r = .tup [.v (.string (bs x)), .v (.int .i64 0)]
  | none => r = .tup [.v (.string (bs [])), .v (.int .i64 1)]
def TkOk (t : Tk) : Prop := t.s.length ≤ 1000000 ∧ I64 t.n
theorem FOut_no {o : Option (List UInt8)} {c : Prop} [Decidable c] {x : List UInt8} (ho : o = if c then some x else none) (h : ¬ c) : FOut o (.tup [.v (.string (bs [])), .v (.int .i64 1)]) := by
  rw [ho, if_neg h]; rfl
theorem FOut_yes {o : Option (List UInt8)} {c : Prop} [Decidable c] {x : List UInt8} (ho : o = if c then some x else none) (h : c) : FOut o (.tup [.v (.string (bs x)), .v (.int .i64 0)]) := by
  rw [ho, if_pos h]; rfl
theorem nDigits_le : ∀ (k : Nat) (u : Nat), u < 10 ^ k → Lib.nDigits u ≤ k + 1 := by
  intro k
  induction k with
  | zero => intro u hu; rw [Lib.nDigits_small (by simp at hu; omega)]; omega
  | succ k ih =>
    intro u hu
    by_cases h : u < 10
    · rw [Lib.nDigits_small h]; omega
    · rw [Lib.nDigits_big h]
      have := ih (u / 10) (by rw [Nat.div_lt_iff_lt_mul (by omega)]; rw [Nat.pow_succ] at hu; exact hu)
      omega
theorem itoa_len {n : Int} (h : I64 n) : (Lib.itoa n).length ≤ 21 := by
  unfold Lib.itoa
  have h1 := h.1
  have h2 := h.2
  split
  · rw [List.length_cons, Lib.decDigits_length]
    have := nDigits_le 19 n.natAbs (by omega)
    omega
  · rw [Lib.decDigits_length]
    have := nDigits_le 19 n.toNat (by omega)
    omega
set_option maxHeartbeats 4000000 in
set_option maxRecDepth 20000 in
theorem format_spec (t : Tk) (m : Mem) (hg : Glob m) (ht : TkOk t) :
    FnH Tryd.prog 14 [Tk.sv t] ⟨[], []⟩ m fun r H' m' => m.le m' ∧ H' = ⟨[], []⟩ ∧ FOut (fmtL t) r := by
  have hl := ht.1
  refine enter cf6 pu6 Tryd.func14 rfl rfl (by kernel_rfl) rfl ?_ ?_
  · simp only [go_sem, ↓reduceIte, or_true, or_false, true_or, false_or, Option.some.injEq, exists_eq_left, exists_eq_left', Nat.reduceBEq, Nat.reduceAdd, Nat.reduceMul, Nat.reduceSub, Nat.reduceEqDiff, Nat.reduceLT, Nat.reduceLeDiff, Option.map, Option.bind, List.map, List.length, true_implies, true_and, and_true, Bool.and_true, Bool.true_and, Bool.or_false, Bool.false_or, Bool.not_true, Bool.not_false, Bool.and_false, Bool.false_and, List.cons_append, List.nil_append, List.append_nil, mk_eq_bs, tl_bs, List.getElem?_cons_zero, List.getElem?_cons_succ, eq_self, reduceCtorEq, implies_true, false_implies, decide_eq_true_eq, decide_eq_false_iff_not, Bool.and_eq_true, Bool.or_eq_true, Bool.not_eq_true', Bool.and_eq_false_iff, Bool.or_eq_false_iff, Bool.not_eq_false', Option.toList, SV.v.injEq, Value.int.injEq, Value.bool.injEq, Value.string.injEq, Option.getD, List.contains_cons, List.contains_nil, beq_self_eq_true, Nat.max_def, List.set, List.drop, List.take, Int.toNat_natCast, Nat.mul_one, Int.toNat_zero, List.drop_zero, Bx.mk.injEq, Vc.mk.injEq, List.cons.injEq, List.take_length, List.getElem?_nil, List.getD_cons_zero, List.getD_cons_succ, Int.reduceToNat, not_false_eq_true, Nat.le_refl, Tk.sv, Tk.cells]
  · simp only [go_sem, ↓reduceIte, or_true, or_false, true_or, false_or, Option.some.injEq, exists_eq_left, exists_eq_left', Nat.reduceBEq, Nat.reduceAdd, Nat.reduceMul, Nat.reduceSub, Nat.reduceEqDiff, Nat.reduceLT, Nat.reduceLeDiff, Option.map, Option.bind, List.map, List.length, true_implies, true_and, and_true, Bool.and_true, Bool.true_and, Bool.or_false, Bool.false_or, Bool.not_true, Bool.not_false, Bool.and_false, Bool.false_and, List.cons_append, List.nil_append, List.append_nil, mk_eq_bs, tl_bs, List.getElem?_cons_zero, List.getElem?_cons_succ, eq_self, reduceCtorEq, implies_true, false_implies, decide_eq_true_eq, decide_eq_false_iff_not, Bool.and_eq_true, Bool.or_eq_true, Bool.not_eq_true', Bool.and_eq_false_iff, Bool.or_eq_false_iff, Bool.not_eq_false', Option.toList, SV.v.injEq, Value.int.injEq, Value.bool.injEq, Value.string.injEq, Option.getD, List.contains_cons, List.contains_nil, beq_self_eq_true, Nat.max_def, List.set, List.drop, List.take, Int.toNat_natCast, Nat.mul_one, Int.toNat_zero, List.drop_zero, Bx.mk.injEq, Vc.mk.injEq, List.cons.injEq, List.take_length, List.getElem?_nil, List.getD_cons_zero, List.getD_cons_succ, Int.reduceToNat, not_false_eq_true, Nat.le_refl, Tk.sv, Tk.cells]
    refine WP_draw (.hoist 1 (.hoist 2 (.alt 0 [2, 1] (.alt 3 [] (.hoist 4 .done) .stop) .stop))) pu6 (by kernel_rfl) (by kernel_rfl) ?_
    simp only [go_sem, ↓reduceIte, or_true, or_false, true_or, false_or, Option.some.injEq, exists_eq_left, exists_eq_left', Nat.reduceBEq, Nat.reduceAdd, Nat.reduceMul, Nat.reduceSub, Nat.reduceEqDiff, Nat.reduceLT, Nat.reduceLeDiff, Option.map, Option.bind, List.map, List.length, true_implies, true_and, and_true, Bool.and_true, Bool.true_and, Bool.or_false, Bool.false_or, Bool.not_true, Bool.not_false, Bool.and_false, Bool.false_and, List.cons_append, List.nil_append, List.append_nil, mk_eq_bs, tl_bs, List.getElem?_cons_zero, List.getElem?_cons_succ, eq_self, reduceCtorEq, implies_true, false_implies, decide_eq_true_eq, decide_eq_false_iff_not, Bool.and_eq_true, Bool.or_eq_true, Bool.not_eq_true', Bool.and_eq_false_iff, Bool.or_eq_false_iff, Bool.not_eq_false', Option.toList, SV.v.injEq, Value.int.injEq, Value.bool.injEq, Value.string.injEq, Option.getD, List.contains_cons, List.contains_nil, beq_self_eq_true, Nat.max_def, List.set, List.drop, List.take, Int.toNat_natCast, Nat.mul_one, Int.toNat_zero, List.drop_zero, Bx.mk.injEq, Vc.mk.injEq, List.cons.injEq, List.take_length, List.getElem?_nil, List.getD_cons_zero, List.getD_cons_succ, Int.reduceToNat, not_false_eq_true, Nat.le_refl]
    refine ⟨by kernel_rfl, FnV_of ((keywords_spec m).mono ?_)⟩
    rintro r H' m3 hm3 ⟨rfl, rfl, rfl⟩
    simp only [go_sem, ↓reduceIte, or_true, or_false, true_or, false_or, Option.some.injEq, exists_eq_left, exists_eq_left', Nat.reduceBEq, Nat.reduceAdd, Nat.reduceMul, Nat.reduceSub, Nat.reduceEqDiff, Nat.reduceLT, Nat.reduceLeDiff, Option.map, Option.bind, List.map, List.length, true_implies, true_and, and_true, Bool.and_true, Bool.true_and, Bool.or_false, Bool.false_or, Bool.not_true, Bool.not_false, Bool.and_false, Bool.false_and, List.cons_append, List.nil_append, List.append_nil, mk_eq_bs, tl_bs, List.getElem?_cons_zero, List.getElem?_cons_succ, eq_self, reduceCtorEq, implies_true, false_implies, decide_eq_true_eq, decide_eq_false_iff_not, Bool.and_eq_true, Bool.or_eq_true, Bool.not_eq_true', Bool.and_eq_false_iff, Bool.or_eq_false_iff, Bool.not_eq_false', Option.toList, SV.v.injEq, Value.int.injEq, Value.bool.injEq, Value.string.injEq, Option.getD, List.contains_cons, List.contains_nil, beq_self_eq_true, Nat.max_def, List.set, List.drop, List.take, Int.toNat_natCast, Nat.mul_one, Int.toNat_zero, List.drop_zero, Bx.mk.injEq, Vc.mk.injEq, List.cons.injEq, List.take_length, List.getElem?_nil, List.getD_cons_zero, List.getD_cons_succ, Int.reduceToNat, not_false_eq_true, Nat.le_refl]
    refine ⟨by kernel_rfl, fun ad cp m1 hm1 hcp hrd => FnV_of ((contains_spec keywordsL t.s ad 28 cp m1 hrd (by decide)).mono ?_)⟩
    rintro r H' m4 hm4 ⟨rfl, rfl⟩
    have hm34 := Mem.le_trans hm1 hm4
    have hg4 := hg.up hm34
    simp only [go_sem, ↓reduceIte, or_true, or_false, true_or, false_or, Option.some.injEq, exists_eq_left, exists_eq_left', Nat.reduceBEq, Nat.reduceAdd, Nat.reduceMul, Nat.reduceSub, Nat.reduceEqDiff, Nat.reduceLT, Nat.reduceLeDiff, Option.map, Option.bind, List.map, List.length, true_implies, true_and, and_true, Bool.and_true, Bool.true_and, Bool.or_false, Bool.false_or, Bool.not_true, Bool.not_false, Bool.and_false, Bool.false_and, List.cons_append, List.nil_append, List.append_nil, mk_eq_bs, tl_bs, List.getElem?_cons_zero, List.getElem?_cons_succ, eq_self, reduceCtorEq, implies_true, false_implies, decide_eq_true_eq, decide_eq_false_iff_not, Bool.and_eq_true, Bool.or_eq_true, Bool.not_eq_true', Bool.and_eq_false_iff, Bool.or_eq_false_iff, Bool.not_eq_false', Option.toList, SV.v.injEq, Value.int.injEq, Value.bool.injEq, Value.string.injEq, Option.getD, List.contains_cons, List.contains_nil, beq_self_eq_true, Nat.max_def, List.set, List.drop, List.take, Int.toNat_natCast, Nat.mul_one, Int.toNat_zero, List.drop_zero, Bx.mk.injEq, Vc.mk.injEq, List.cons.injEq, List.take_length, List.getElem?_nil, List.getD_cons_zero, List.getD_cons_succ, Int.reduceToNat, not_false_eq_true, Nat.le_refl]
    refine ⟨fun k1 => ?_, fun k1 => ⟨fun k2 => ?_, fun k2 => ⟨fun k3 => ?_, fun k3 => ⟨fun k4 => ?_, fun k4 => ⟨fun k5 => ?_, fun k5 => ⟨fun k6 => ?_, fun k6 => ?_⟩⟩⟩⟩⟩⟩
    · have hf : fmtL t = if t.n = 0 ∧ isName t.s = true ∧ keywordsL.contains t.s = false then some (Lib.replaceAll t.s [47] [58, 58]) else none := if_pos k1
      have hrep := replace_spec t.s [47] [58, 58] m4 hg4 (by omega) (by simp) (by simp)
      refine WP_draw (.hoist 0 (.hoist 1 (.hoist 3 (.hoist 4 (.hoist 5 (.alt 2 [5, 4, 3] (.hoist 6 (.hoist 7 (.hoist 8 (.alt 9 [] (.hoist 10 (.hoist 11 (.hoist 12 (.hoist 13 (.hoist 14 (.hoist 15 (.hoist 16 .done))))))) .stop)))) .stop)))))) pu6 (by kernel_rfl) (by kernel_rfl) ?_
      simp only [go_sem, ↓reduceIte, or_true, or_false, true_or, false_or, Option.some.injEq, exists_eq_left, exists_eq_left', Nat.reduceBEq, Nat.reduceAdd, Nat.reduceMul, Nat.reduceSub, Nat.reduceEqDiff, Nat.reduceLT, Nat.reduceLeDiff, Option.map, Option.bind, List.map, List.length, true_implies, true_and, and_true, Bool.and_true, Bool.true_and, Bool.or_false, Bool.false_or, Bool.not_true, Bool.not_false, Bool.and_false, Bool.false_and, List.cons_append, List.nil_append, List.append_nil, mk_eq_bs, tl_bs, List.getElem?_cons_zero, List.getElem?_cons_succ, eq_self, reduceCtorEq, implies_true, false_implies, decide_eq_true_eq, decide_eq_false_iff_not, Bool.and_eq_true, Bool.or_eq_true, Bool.not_eq_true', Bool.and_eq_false_iff, Bool.or_eq_false_iff, Bool.not_eq_false', Option.toList, SV.v.injEq, Value.int.injEq, Value.bool.injEq, Value.string.injEq, Option.getD, List.contains_cons, List.contains_nil, beq_self_eq_true, Nat.max_def, List.set, List.drop, List.take, Int.toNat_natCast, Nat.mul_one, Int.toNat_zero, List.drop_zero, Bx.mk.injEq, Vc.mk.injEq, List.cons.injEq, List.take_length, List.getElem?_nil, List.getD_cons_zero, List.getD_cons_succ, Int.reduceToNat, not_false_eq_true, Nat.le_refl]
      refine ⟨by kernel_rfl, FnV_of (hrep.mono ?_)⟩
      rintro r H' m5 hm5 ⟨rfl, rfl, rfl⟩
      clear hrep
      simp only [go_sem, ↓reduceIte, or_true, or_false, true_or, false_or, Option.some.injEq, exists_eq_left, exists_eq_left', Nat.reduceBEq, Nat.reduceAdd, Nat.reduceMul, Nat.reduceSub, Nat.reduceEqDiff, Nat.reduceLT, Nat.reduceLeDiff, Option.map, Option.bind, List.map, List.length, true_implies, true_and, and_true, Bool.and_true, Bool.true_and, Bool.or_false, Bool.false_or, Bool.not_true, Bool.not_false, Bool.and_false, Bool.false_and, List.cons_append, List.nil_append, List.append_nil, mk_eq_bs, tl_bs, List.getElem?_cons_zero, List.getElem?_cons_succ, eq_self, reduceCtorEq, implies_true, false_implies, decide_eq_true_eq, decide_eq_false_iff_not, Bool.and_eq_true, Bool.or_eq_true, Bool.not_eq_true', Bool.and_eq_false_iff, Bool.or_eq_false_iff, Bool.not_eq_false', Option.toList, SV.v.injEq, Value.int.injEq, Value.bool.injEq, Value.string.injEq, Option.getD, List.contains_cons, List.contains_nil, beq_self_eq_true, Nat.max_def, List.set, List.drop, List.take, Int.toNat_natCast, Nat.mul_one, Int.toNat_zero, List.drop_zero, Bx.mk.injEq, Vc.mk.injEq, List.cons.injEq, List.take_length, List.getElem?_nil, List.getD_cons_zero, List.getD_cons_succ, Int.reduceToNat, not_false_eq_true, Nat.le_refl]
      refine ⟨fun _ => by unfold BL; omega, fun h => ⟨hm34, FOut_no hf ?_⟩, fun h => ⟨hm34, FOut_yes hf ⟨h.1.1, h.1.2, h.2⟩⟩⟩
      rintro ⟨a, b, c⟩
      rcases h with (h | h) | h
      · exact h a
      · rw [b] at h; cases h
      · rw [c] at h; cases h
    · have hf : fmtL t = if t.n = 0 ∧ keywordsL.contains t.s = true then some t.s else none := by unfold fmtL; rw [if_neg k1, if_pos k2]
      rw [hf]
      refine ⟨fun h => ⟨hm34, ?_⟩, fun h => ⟨hm34, ?_⟩⟩
      · rw [if_neg (by rintro ⟨a, b⟩; rcases h with h | h; exact h a; rw [b] at h; cases h)]; rfl
      · rw [if_pos h]; rfl
    · have hf : fmtL t = if (t.s = [] ∧ 0 ≤ t.n) ∧ t.n < 2147483648 then some (Lib.itoa t.n) else none := by unfold fmtL; rw [if_neg k1, if_neg k2, if_pos k3]
      have hit := itoa_spec t.n m4 hg4 ht.2
      refine WP_draw (.hoist 0 (.hoist 1 (.hoist 3 (.hoist 4 (.hoist 5 (.alt 2 [5, 4, 3] (.hoist 6 (.hoist 7 (.hoist 8 (.hoist 9 (.hoist 10 (.hoist 11 (.hoist 12 (.hoist 13 (.hoist 14 (.hoist 15 (.hoist 16 (.hoist 17 .done)))))))))))) .stop)))))) pu6 (by kernel_rfl) (by kernel_rfl) ?_
      simp only [go_sem, ↓reduceIte, or_true, or_false, true_or, false_or, Option.some.injEq, exists_eq_left, exists_eq_left', Nat.reduceBEq, Nat.reduceAdd, Nat.reduceMul, Nat.reduceSub, Nat.reduceEqDiff, Nat.reduceLT, Nat.reduceLeDiff, Option.map, Option.bind, List.map, List.length, true_implies, true_and, and_true, Bool.and_true, Bool.true_and, Bool.or_false, Bool.false_or, Bool.not_true, Bool.not_false, Bool.and_false, Bool.false_and, List.cons_append, List.nil_append, List.append_nil, mk_eq_bs, tl_bs, List.getElem?_cons_zero, List.getElem?_cons_succ, eq_self, reduceCtorEq, implies_true, false_implies, decide_eq_true_eq, decide_eq_false_iff_not, Bool.and_eq_true, Bool.or_eq_true, Bool.not_eq_true', Bool.and_eq_false_iff, Bool.or_eq_false_iff, Bool.not_eq_false', Option.toList, SV.v.injEq, Value.int.injEq, Value.bool.injEq, Value.string.injEq, Option.getD, List.contains_cons, List.contains_nil, beq_self_eq_true, Nat.max_def, List.set, List.drop, List.take, Int.toNat_natCast, Nat.mul_one, Int.toNat_zero, List.drop_zero, Bx.mk.injEq, Vc.mk.injEq, List.cons.injEq, List.take_length, List.getElem?_nil, List.getD_cons_zero, List.getD_cons_succ, Int.reduceToNat, not_false_eq_true, Nat.le_refl]
      refine ⟨by kernel_rfl, FnV_of (hit.mono ?_)⟩
      rintro r H' m5 hm5 ⟨rfl, rfl, rfl⟩
      clear hit
      simp only [go_sem, ↓reduceIte, or_true, or_false, true_or, false_or, Option.some.injEq, exists_eq_left, exists_eq_left', Nat.reduceBEq, Nat.reduceAdd, Nat.reduceMul, Nat.reduceSub, Nat.reduceEqDiff, Nat.reduceLT, Nat.reduceLeDiff, Option.map, Option.bind, List.map, List.length, true_implies, true_and, and_true, Bool.and_true, Bool.true_and, Bool.or_false, Bool.false_or, Bool.not_true, Bool.not_false, Bool.and_false, Bool.false_and, List.cons_append, List.nil_append, List.append_nil, mk_eq_bs, tl_bs, List.getElem?_cons_zero, List.getElem?_cons_succ, eq_self, reduceCtorEq, implies_true, false_implies, decide_eq_true_eq, decide_eq_false_iff_not, Bool.and_eq_true, Bool.or_eq_true, Bool.not_eq_true', Bool.and_eq_false_iff, Bool.or_eq_false_iff, Bool.not_eq_false', Option.toList, SV.v.injEq, Value.int.injEq, Value.bool.injEq, Value.string.injEq, Option.getD, List.contains_cons, List.contains_nil, beq_self_eq_true, Nat.max_def, List.set, List.drop, List.take, Int.toNat_natCast, Nat.mul_one, Int.toNat_zero, List.drop_zero, Bx.mk.injEq, Vc.mk.injEq, List.cons.injEq, List.take_length, List.getElem?_nil, List.getD_cons_zero, List.getD_cons_succ, Int.reduceToNat, not_false_eq_true, Nat.le_refl]
      refine ⟨fun h => ⟨hm34, FOut_no hf ?_⟩, fun h => ⟨hm34, FOut_yes hf h⟩⟩
      rintro ⟨⟨a, b⟩, c⟩
      rcases h with (h | h) | h
      · exact h a
      · exact h b
      · exact h c
    · have hf : fmtL t = if t.s = [] ∧ 0 ≤ t.n then some (Lib.itoa t.n ++ [76]) else none := by unfold fmtL; rw [if_neg k1, if_neg k2, if_neg k3, if_pos k4]
      have hit := itoa_spec t.n m4 hg4 ht.2
      refine WP_draw (.hoist 0 (.hoist 1 (.hoist 4 (.hoist 5 (.hoist 6 (.alt 2 [6, 5, 4] (.hoist 3 (.hoist 7 (.hoist 8 (.hoist 9 (.hoist 10 (.hoist 11 (.hoist 12 (.hoist 13 .done)))))))) .stop)))))) pu6 (by kernel_rfl) (by kernel_rfl) ?_
      simp only [go_sem, ↓reduceIte, or_true, or_false, true_or, false_or, Option.some.injEq, exists_eq_left, exists_eq_left', Nat.reduceBEq, Nat.reduceAdd, Nat.reduceMul, Nat.reduceSub, Nat.reduceEqDiff, Nat.reduceLT, Nat.reduceLeDiff, Option.map, Option.bind, List.map, List.length, true_implies, true_and, and_true, Bool.and_true, Bool.true_and, Bool.or_false, Bool.false_or, Bool.not_true, Bool.not_false, Bool.and_false, Bool.false_and, List.cons_append, List.nil_append, List.append_nil, mk_eq_bs, tl_bs, List.getElem?_cons_zero, List.getElem?_cons_succ, eq_self, reduceCtorEq, implies_true, false_implies, decide_eq_true_eq, decide_eq_false_iff_not, Bool.and_eq_true, Bool.or_eq_true, Bool.not_eq_true', Bool.and_eq_false_iff, Bool.or_eq_false_iff, Bool.not_eq_false', Option.toList, SV.v.injEq, Value.int.injEq, Value.bool.injEq, Value.string.injEq, Option.getD, List.contains_cons, List.contains_nil, beq_self_eq_true, Nat.max_def, List.set, List.drop, List.take, Int.toNat_natCast, Nat.mul_one, Int.toNat_zero, List.drop_zero, Bx.mk.injEq, Vc.mk.injEq, List.cons.injEq, List.take_length, List.getElem?_nil, List.getD_cons_zero, List.getD_cons_succ, Int.reduceToNat, not_false_eq_true, Nat.le_refl]
      refine ⟨by kernel_rfl, FnV_of (hit.mono ?_)⟩
      rintro r H' m5 hm5 ⟨rfl, rfl, rfl⟩
      clear hit
      simp only [go_sem, ↓reduceIte, or_true, or_false, true_or, false_or, Option.some.injEq, exists_eq_left, exists_eq_left', Nat.reduceBEq, Nat.reduceAdd, Nat.reduceMul, Nat.reduceSub, Nat.reduceEqDiff, Nat.reduceLT, Nat.reduceLeDiff, Option.map, Option.bind, List.map, List.length, true_implies, true_and, and_true, Bool.and_true, Bool.true_and, Bool.or_false, Bool.false_or, Bool.not_true, Bool.not_false, Bool.and_false, Bool.false_and, List.cons_append, List.nil_append, List.append_nil, mk_eq_bs, tl_bs, List.getElem?_cons_zero, List.getElem?_cons_succ, eq_self, reduceCtorEq, implies_true, false_implies, decide_eq_true_eq, decide_eq_false_iff_not, Bool.and_eq_true, Bool.or_eq_true, Bool.not_eq_true', Bool.and_eq_false_iff, Bool.or_eq_false_iff, Bool.not_eq_false', Option.toList, SV.v.injEq, Value.int.injEq, Value.bool.injEq, Value.string.injEq, Option.getD, List.contains_cons, List.contains_nil, beq_self_eq_true, Nat.max_def, List.set, List.drop, List.take, Int.toNat_natCast, Nat.mul_one, Int.toNat_zero, List.drop_zero, Bx.mk.injEq, Vc.mk.injEq, List.cons.injEq, List.take_length, List.getElem?_nil, List.getD_cons_zero, List.getD_cons_succ, Int.reduceToNat, not_false_eq_true, Nat.le_refl]
      refine ⟨by have := itoa_len ht.2; omega, fun h => ⟨hm34, FOut_no hf ?_⟩, fun h => ⟨hm34, FOut_yes hf h⟩⟩
      rintro ⟨a, b⟩
      rcases h with h | h
      · exact h a
      · exact h b
    · have hf : fmtL t = if t.n = 0 ∧ t.s.length ≤ 1024 then some (escapedL t.s) else none := by unfold fmtL; rw [if_neg k1, if_neg k2, if_neg k3, if_neg k4, if_pos k5]
      have hes := escaped_spec t.s m4 (by omega)
      refine WP_draw (.hoist 0 (.hoist 1 (.hoist 3 (.hoist 4 (.hoist 5 (.alt 2 [5, 4, 3] (.hoist 6 (.hoist 7 (.hoist 8 (.hoist 9 (.hoist 10 (.hoist 11 (.hoist 12 (.hoist 13 .done)))))))) .stop)))))) pu6 (by kernel_rfl) (by kernel_rfl) ?_
      simp only [go_sem, ↓reduceIte, or_true, or_false, true_or, false_or, Option.some.injEq, exists_eq_left, exists_eq_left', Nat.reduceBEq, Nat.reduceAdd, Nat.reduceMul, Nat.reduceSub, Nat.reduceEqDiff, Nat.reduceLT, Nat.reduceLeDiff, Option.map, Option.bind, List.map, List.length, true_implies, true_and, and_true, Bool.and_true, Bool.true_and, Bool.or_false, Bool.false_or, Bool.not_true, Bool.not_false, Bool.and_false, Bool.false_and, List.cons_append, List.nil_append, List.append_nil, mk_eq_bs, tl_bs, List.getElem?_cons_zero, List.getElem?_cons_succ, eq_self, reduceCtorEq, implies_true, false_implies, decide_eq_true_eq, decide_eq_false_iff_not, Bool.and_eq_true, Bool.or_eq_true, Bool.not_eq_true', Bool.and_eq_false_iff, Bool.or_eq_false_iff, Bool.not_eq_false', Option.toList, SV.v.injEq, Value.int.injEq, Value.bool.injEq, Value.string.injEq, Option.getD, List.contains_cons, List.contains_nil, beq_self_eq_true, Nat.max_def, List.set, List.drop, List.take, Int.toNat_natCast, Nat.mul_one, Int.toNat_zero, List.drop_zero, Bx.mk.injEq, Vc.mk.injEq, List.cons.injEq, List.take_length, List.getElem?_nil, List.getD_cons_zero, List.getD_cons_succ, Int.reduceToNat, not_false_eq_true, Nat.le_refl]
      refine ⟨by kernel_rfl, FnV_of (hes.mono ?_)⟩
      rintro r H' m5 hm5 ⟨rfl, rfl, rfl⟩
      clear hes
      simp only [go_sem, ↓reduceIte, or_true, or_false, true_or, false_or, Option.some.injEq, exists_eq_left, exists_eq_left', Nat.reduceBEq, Nat.reduceAdd, Nat.reduceMul, Nat.reduceSub, Nat.reduceEqDiff, Nat.reduceLT, Nat.reduceLeDiff, Option.map, Option.bind, List.map, List.length, true_implies, true_and, and_true, Bool.and_true, Bool.true_and, Bool.or_false, Bool.false_or, Bool.not_true, Bool.not_false, Bool.and_false, Bool.false_and, List.cons_append, List.nil_append, List.append_nil, mk_eq_bs, tl_bs, List.getElem?_cons_zero, List.getElem?_cons_succ, eq_self, reduceCtorEq, implies_true, false_implies, decide_eq_true_eq, decide_eq_false_iff_not, Bool.and_eq_true, Bool.or_eq_true, Bool.not_eq_true', Bool.and_eq_false_iff, Bool.or_eq_false_iff, Bool.not_eq_false', Option.toList, SV.v.injEq, Value.int.injEq, Value.bool.injEq, Value.string.injEq, Option.getD, List.contains_cons, List.contains_nil, beq_self_eq_true, Nat.max_def, List.set, List.drop, List.take, Int.toNat_natCast, Nat.mul_one, Int.toNat_zero, List.drop_zero, Bx.mk.injEq, Vc.mk.injEq, List.cons.injEq, List.take_length, List.getElem?_nil, List.getD_cons_zero, List.getD_cons_succ, Int.reduceToNat, not_false_eq_true, Nat.le_refl]
      refine ⟨fun h => ⟨hm34, FOut_no hf (fun hc => ?_)⟩, fun h => ⟨hm34, FOut_yes hf ⟨h.1, by omega⟩⟩⟩
      rcases h with h | h
      · exact h hc.1
      · exact h (by omega)
    · have hf : fmtL t = if t.n = 0 ∧ signsL.contains t.s = true then some t.s else none := by unfold fmtL; rw [if_neg k1, if_neg k2, if_neg k3, if_neg k4, if_neg k5, if_pos k6]
      refine WP_draw (.hoist 0 (.hoist 1 (.hoist 2 (.hoist 3 (.hoist 4 (.hoist 5 (.hoist 7 (.hoist 8 (.alt 6 [8, 7, 1, 0] (.alt 9 [1, 0] (.hoist 10 (.hoist 11 (.hoist 12 .done))) .stop) .stop))))))))) pu6 (by kernel_rfl) (by kernel_rfl) ?_
      simp only [go_sem, ↓reduceIte, or_true, or_false, true_or, false_or, Option.some.injEq, exists_eq_left, exists_eq_left', Nat.reduceBEq, Nat.reduceAdd, Nat.reduceMul, Nat.reduceSub, Nat.reduceEqDiff, Nat.reduceLT, Nat.reduceLeDiff, Option.map, Option.bind, List.map, List.length, true_implies, true_and, and_true, Bool.and_true, Bool.true_and, Bool.or_false, Bool.false_or, Bool.not_true, Bool.not_false, Bool.and_false, Bool.false_and, List.cons_append, List.nil_append, List.append_nil, mk_eq_bs, tl_bs, List.getElem?_cons_zero, List.getElem?_cons_succ, eq_self, reduceCtorEq, implies_true, false_implies, decide_eq_true_eq, decide_eq_false_iff_not, Bool.and_eq_true, Bool.or_eq_true, Bool.not_eq_true', Bool.and_eq_false_iff, Bool.or_eq_false_iff, Bool.not_eq_false', Option.toList, SV.v.injEq, Value.int.injEq, Value.bool.injEq, Value.string.injEq, Option.getD, List.contains_cons, List.contains_nil, beq_self_eq_true, Nat.max_def, List.set, List.drop, List.take, Int.toNat_natCast, Nat.mul_one, Int.toNat_zero, List.drop_zero, Bx.mk.injEq, Vc.mk.injEq, List.cons.injEq, List.take_length, List.getElem?_nil, List.getD_cons_zero, List.getD_cons_succ, Int.reduceToNat, not_false_eq_true, Nat.le_refl]
      refine ⟨fun k7 => ⟨by kernel_rfl, FnV_of ((operators_spec m4).mono ?_)⟩, fun k7 => ⟨hm34, FOut_no hf fun h => k7 h.1⟩⟩
      rintro r H' m5 hm5 ⟨rfl, rfl, rfl⟩
      simp only [go_sem, ↓reduceIte, or_true, or_false, true_or, false_or, Option.some.injEq, exists_eq_left, exists_eq_left', Nat.reduceBEq, Nat.reduceAdd, Nat.reduceMul, Nat.reduceSub, Nat.reduceEqDiff, Nat.reduceLT, Nat.reduceLeDiff, Option.map, Option.bind, List.map, List.length, true_implies, true_and, and_true, Bool.and_true, Bool.true_and, Bool.or_false, Bool.false_or, Bool.not_true, Bool.not_false, Bool.and_false, Bool.false_and, List.cons_append, List.nil_append, List.append_nil, mk_eq_bs, tl_bs, List.getElem?_cons_zero, List.getElem?_cons_succ, eq_self, reduceCtorEq, implies_true, false_implies, decide_eq_true_eq, decide_eq_false_iff_not, Bool.and_eq_true, Bool.or_eq_true, Bool.not_eq_true', Bool.and_eq_false_iff, Bool.or_eq_false_iff, Bool.not_eq_false', Option.toList, SV.v.injEq, Value.int.injEq, Value.bool.injEq, Value.string.injEq, Option.getD, List.contains_cons, List.contains_nil, beq_self_eq_true, Nat.max_def, List.set, List.drop, List.take, Int.toNat_natCast, Nat.mul_one, Int.toNat_zero, List.drop_zero, Bx.mk.injEq, Vc.mk.injEq, List.cons.injEq, List.take_length, List.getElem?_nil, List.getD_cons_zero, List.getD_cons_succ, Int.reduceToNat, not_false_eq_true, Nat.le_refl]
      refine ⟨by kernel_rfl, fun ad5 cp5 m6 hm6 hcp6 hrd6 => FnV_of ((contains_spec signsL t.s ad5 30 cp5 m6 hrd6 (by decide)).mono ?_)⟩
      rintro r H' m7 hm7 ⟨rfl, rfl⟩
      have hm37 := Mem.le_trans hm34 (Mem.le_trans hm6 hm7)
      simp only [go_sem, ↓reduceIte, or_true, or_false, true_or, false_or, Option.some.injEq, exists_eq_left, exists_eq_left', Nat.reduceBEq, Nat.reduceAdd, Nat.reduceMul, Nat.reduceSub, Nat.reduceEqDiff, Nat.reduceLT, Nat.reduceLeDiff, Option.map, Option.bind, List.map, List.length, true_implies, true_and, and_true, Bool.and_true, Bool.true_and, Bool.or_false, Bool.false_or, Bool.not_true, Bool.not_false, Bool.and_false, Bool.false_and, List.cons_append, List.nil_append, List.append_nil, mk_eq_bs, tl_bs, List.getElem?_cons_zero, List.getElem?_cons_succ, eq_self, reduceCtorEq, implies_true, false_implies, decide_eq_true_eq, decide_eq_false_iff_not, Bool.and_eq_true, Bool.or_eq_true, Bool.not_eq_true', Bool.and_eq_false_iff, Bool.or_eq_false_iff, Bool.not_eq_false', Option.toList, SV.v.injEq, Value.int.injEq, Value.bool.injEq, Value.string.injEq, Option.getD, List.contains_cons, List.contains_nil, beq_self_eq_true, Nat.max_def, List.set, List.drop, List.take, Int.toNat_natCast, Nat.mul_one, Int.toNat_zero, List.drop_zero, Bx.mk.injEq, Vc.mk.injEq, List.cons.injEq, List.take_length, List.getElem?_nil, List.getD_cons_zero, List.getD_cons_succ, Int.reduceToNat, not_false_eq_true, Nat.le_refl]
      refine ⟨⟨.inr (Mem.le_trans hm6 hm7), .inr (Mem.le_trans hm6 hm7)⟩, fun h => ⟨hm37, FOut_no hf fun hc => ?_⟩, fun h => ⟨hm37, FOut_yes hf ⟨k7, h⟩⟩⟩
      rw [hc.2] at h; cases h
    · have hf : fmtL t = none := by unfold fmtL; rw [if_neg k1, if_neg k2, if_neg k3, if_neg k4, if_neg k5, if_neg k6]
      rw [hf]
      exact ⟨hm34, rfl⟩
end Go.Proofs.YtmkifodpkcmgoaaDoor.E

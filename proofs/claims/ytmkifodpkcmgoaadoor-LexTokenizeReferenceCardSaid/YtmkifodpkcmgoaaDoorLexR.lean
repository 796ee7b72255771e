/- lex, part R: the reference: Tokenize. -/
import Derived.Test.YtmkifodpkcmgoaaDoorLexQ
namespace Go.Proofs.YtmkifodpkcmgoaaDoor.E
open Go

theorem tokL_id {s : List UInt8} {p : Nat} (hp : p < s.length) (h1 : isStartB (s.getD p 0).toNat = true) :
    tokL (s.drop p) = if isName (idS (s.drop p)) = true then some (if keywordsL.contains (idS (s.drop p)) = true then 2 else 1, idS (s.drop p), 0, idN (s.drop p)) else none := by
  rw [drop_at hp]
  show (if isStartB (s.getD p 0).toNat = true then _ else _) = _
  rw [if_pos h1]
theorem tokL_num {s : List UInt8} {p : Nat} (hp : p < s.length) (h1 : isStartB (s.getD p 0).toNat = false) (h2 : isDigitB (s.getD p 0).toNat = true) :
    tokL (s.drop p) = if (numL (s.drop p)).2.2.2 = true then some (if (numL (s.drop p)).1 = true then 4 else 3, [], (numL (s.drop p)).2.1, (numL (s.drop p)).2.2.1) else none := by
  rw [drop_at hp]
  show (if isStartB (s.getD p 0).toNat = true then _ else if isDigitB (s.getD p 0).toNat = true then _ else _) = _
  rw [if_neg (by rw [h1]; exact Bool.false_ne_true), if_pos h2]
theorem tokL_quo {s : List UInt8} {p : Nat} (hp : p < s.length) (h1 : isStartB (s.getD p 0).toNat = false) (h2 : isDigitB (s.getD p 0).toNat = false) (h3 : (((s.getD p 0).toNat : Nat) : Int) = 34) :
    tokL (s.drop p) = match qScan (s.drop (p + 1)) with
      | some (b, n) => if b.length ≤ 1024 then some (5, b, 0, 1 + n) else none
      | none => none := by
  rw [drop_at hp]
  show (if isStartB (s.getD p 0).toNat = true then _ else if isDigitB (s.getD p 0).toNat = true then _ else if (s.getD p 0).toNat = 34 then _ else _) = _
  rw [if_neg (by rw [h1]; exact Bool.false_ne_true), if_neg (by rw [h2]; exact Bool.false_ne_true), if_pos (by omega)]
  rfl
theorem tokL_op {s : List UInt8} {p : Nat} (hp : p < s.length) (h1 : isStartB (s.getD p 0).toNat = false) (h2 : isDigitB (s.getD p 0).toNat = false) (h3 : ¬ (((s.getD p 0).toNat : Nat) : Int) = 34) :
    tokL (s.drop p) = (signAt (s.drop p)).map fun o => (6, o, 0, o.length) := by
  rw [drop_at hp]
  show (if isStartB (s.getD p 0).toNat = true then _ else if isDigitB (s.getD p 0).toNat = true then _ else if (s.getD p 0).toNat = 34 then _ else _) = _
  rw [if_neg (by rw [h1]; exact Bool.false_ne_true), if_neg (by rw [h2]; exact Bool.false_ne_true), if_neg (by omega)]
set_option maxHeartbeats 4000000 in
set_option maxRecDepth 20000 in
theorem scan_spec (s : List UInt8) (p : Nat) (m : Mem) (hp : p < s.length) (hs : s.length ≤ 1000000) :
    FnH Tryd.prog 24 [.v (.string (bs s)), .v (.int .i64 p)] ⟨[], []⟩ m fun r H' m' => m.le m' ∧ H' = ⟨[], []⟩ ∧ RN p (tokL (s.drop p)) r := by
  refine enter cfA puA Tryd.func24 rfl rfl (by kernel_rfl) rfl ?_ ?_
  · simp only [go_sem, ↓reduceIte, or_true, or_false, true_or, false_or, Option.some.injEq, exists_eq_left, exists_eq_left', Nat.reduceBEq, Nat.reduceAdd, Nat.reduceMul, Nat.reduceSub, Nat.reduceEqDiff, Nat.reduceLT, Nat.reduceLeDiff, Option.map, Option.bind, List.map, List.length, true_implies, true_and, and_true, Bool.and_true, Bool.true_and, Bool.or_false, Bool.false_or, Bool.not_true, Bool.not_false, Bool.and_false, Bool.false_and, List.cons_append, List.nil_append, List.append_nil, mk_eq_bs, tl_bs, List.getElem?_cons_zero, List.getElem?_cons_succ, eq_self, reduceCtorEq, implies_true, false_implies, decide_eq_true_eq, decide_eq_false_iff_not, Bool.and_eq_true, Bool.or_eq_true, Bool.not_eq_true', Bool.and_eq_false_iff, Bool.or_eq_false_iff, Bool.not_eq_false', Option.toList, SV.v.injEq, Value.int.injEq, Value.bool.injEq, Value.string.injEq, Option.getD, List.contains_cons, List.contains_nil, beq_self_eq_true, Nat.max_def, List.set, List.drop, List.take, Int.toNat_natCast, Nat.mul_one, Int.toNat_zero, List.drop_zero, Bx.mk.injEq, Vc.mk.injEq, List.cons.injEq, List.take_length, List.getElem?_nil, List.getD_cons_zero, List.getD_cons_succ, Int.reduceToNat, not_false_eq_true, Nat.le_refl]
  · simp only [go_sem, ↓reduceIte, or_true, or_false, true_or, false_or, Option.some.injEq, exists_eq_left, exists_eq_left', Nat.reduceBEq, Nat.reduceAdd, Nat.reduceMul, Nat.reduceSub, Nat.reduceEqDiff, Nat.reduceLT, Nat.reduceLeDiff, Option.map, Option.bind, List.map, List.length, true_implies, true_and, and_true, Bool.and_true, Bool.true_and, Bool.or_false, Bool.false_or, Bool.not_true, Bool.not_false, Bool.and_false, Bool.false_and, List.cons_append, List.nil_append, List.append_nil, mk_eq_bs, tl_bs, List.getElem?_cons_zero, List.getElem?_cons_succ, eq_self, reduceCtorEq, implies_true, false_implies, decide_eq_true_eq, decide_eq_false_iff_not, Bool.and_eq_true, Bool.or_eq_true, Bool.not_eq_true', Bool.and_eq_false_iff, Bool.or_eq_false_iff, Bool.not_eq_false', Option.toList, SV.v.injEq, Value.int.injEq, Value.bool.injEq, Value.string.injEq, Option.getD, List.contains_cons, List.contains_nil, beq_self_eq_true, Nat.max_def, List.set, List.drop, List.take, Int.toNat_natCast, Nat.mul_one, Int.toNat_zero, List.drop_zero, Bx.mk.injEq, Vc.mk.injEq, List.cons.injEq, List.take_length, List.getElem?_nil, List.getD_cons_zero, List.getD_cons_succ, Int.reduceToNat, not_false_eq_true, Nat.le_refl]
    refine ⟨by omega, fun h1 => ⟨by kernel_rfl, FnV_of ((ridentifier_spec s p m hp hs h1).mono ?_)⟩, fun h1 => ⟨fun h2 => ⟨by kernel_rfl, FnV_of ((rnumber_spec s p m hp hs h2).mono ?_)⟩,
      fun h2 => ⟨fun h3 => ⟨by kernel_rfl, FnV_of ((text_spec s p m hp hs).mono ?_)⟩, fun h3 => ⟨by kernel_rfl, FnV_of ((roperator_spec s p m (by omega) hs).mono ?_)⟩⟩⟩⟩
    · rintro r H' m' hm ⟨_, rfl, t, e, b, rfl, hN⟩
      rw [← tokL_id hp h1] at hN
      simp only [go_sem, ↓reduceIte, or_true, or_false, true_or, false_or, Option.some.injEq, exists_eq_left, exists_eq_left', Nat.reduceBEq, Nat.reduceAdd, Nat.reduceMul, Nat.reduceSub, Nat.reduceEqDiff, Nat.reduceLT, Nat.reduceLeDiff, Option.map, Option.bind, List.map, List.length, true_implies, true_and, and_true, Bool.and_true, Bool.true_and, Bool.or_false, Bool.false_or, Bool.not_true, Bool.not_false, Bool.and_false, Bool.false_and, List.cons_append, List.nil_append, List.append_nil, mk_eq_bs, tl_bs, List.getElem?_cons_zero, List.getElem?_cons_succ, eq_self, reduceCtorEq, implies_true, false_implies, decide_eq_true_eq, decide_eq_false_iff_not, Bool.and_eq_true, Bool.or_eq_true, Bool.not_eq_true', Bool.and_eq_false_iff, Bool.or_eq_false_iff, Bool.not_eq_false', Option.toList, SV.v.injEq, Value.int.injEq, Value.bool.injEq, Value.string.injEq, Option.getD, List.contains_cons, List.contains_nil, beq_self_eq_true, Nat.max_def, List.set, List.drop, List.take, Int.toNat_natCast, Nat.mul_one, Int.toNat_zero, List.drop_zero, Bx.mk.injEq, Vc.mk.injEq, List.cons.injEq, List.take_length, List.getElem?_nil, List.getD_cons_zero, List.getD_cons_succ, Int.reduceToNat, not_false_eq_true, Nat.le_refl, Tk.sv, Tk.cells]
      exact ⟨hm, t, e, b, rfl, hN⟩
    · rintro r H' m' hm ⟨_, rfl, t, e, b, rfl, hN⟩
      rw [← tokL_num hp h1 h2] at hN
      simp only [go_sem, ↓reduceIte, or_true, or_false, true_or, false_or, Option.some.injEq, exists_eq_left, exists_eq_left', Nat.reduceBEq, Nat.reduceAdd, Nat.reduceMul, Nat.reduceSub, Nat.reduceEqDiff, Nat.reduceLT, Nat.reduceLeDiff, Option.map, Option.bind, List.map, List.length, true_implies, true_and, and_true, Bool.and_true, Bool.true_and, Bool.or_false, Bool.false_or, Bool.not_true, Bool.not_false, Bool.and_false, Bool.false_and, List.cons_append, List.nil_append, List.append_nil, mk_eq_bs, tl_bs, List.getElem?_cons_zero, List.getElem?_cons_succ, eq_self, reduceCtorEq, implies_true, false_implies, decide_eq_true_eq, decide_eq_false_iff_not, Bool.and_eq_true, Bool.or_eq_true, Bool.not_eq_true', Bool.and_eq_false_iff, Bool.or_eq_false_iff, Bool.not_eq_false', Option.toList, SV.v.injEq, Value.int.injEq, Value.bool.injEq, Value.string.injEq, Option.getD, List.contains_cons, List.contains_nil, beq_self_eq_true, Nat.max_def, List.set, List.drop, List.take, Int.toNat_natCast, Nat.mul_one, Int.toNat_zero, List.drop_zero, Bx.mk.injEq, Vc.mk.injEq, List.cons.injEq, List.take_length, List.getElem?_nil, List.getD_cons_zero, List.getD_cons_succ, Int.reduceToNat, not_false_eq_true, Nat.le_refl, Tk.sv, Tk.cells]
      exact ⟨hm, t, e, b, rfl, hN⟩
    · rintro r H' m' hm ⟨_, rfl, t, e, b, rfl, hN⟩
      simp only [go_sem, ↓reduceIte, or_true, or_false, true_or, false_or, Option.some.injEq, exists_eq_left, exists_eq_left', Nat.reduceBEq, Nat.reduceAdd, Nat.reduceMul, Nat.reduceSub, Nat.reduceEqDiff, Nat.reduceLT, Nat.reduceLeDiff, Option.map, Option.bind, List.map, List.length, true_implies, true_and, and_true, Bool.and_true, Bool.true_and, Bool.or_false, Bool.false_or, Bool.not_true, Bool.not_false, Bool.and_false, Bool.false_and, List.cons_append, List.nil_append, List.append_nil, mk_eq_bs, tl_bs, List.getElem?_cons_zero, List.getElem?_cons_succ, eq_self, reduceCtorEq, implies_true, false_implies, decide_eq_true_eq, decide_eq_false_iff_not, Bool.and_eq_true, Bool.or_eq_true, Bool.not_eq_true', Bool.and_eq_false_iff, Bool.or_eq_false_iff, Bool.not_eq_false', Option.toList, SV.v.injEq, Value.int.injEq, Value.bool.injEq, Value.string.injEq, Option.getD, List.contains_cons, List.contains_nil, beq_self_eq_true, Nat.max_def, List.set, List.drop, List.take, Int.toNat_natCast, Nat.mul_one, Int.toNat_zero, List.drop_zero, Bx.mk.injEq, Vc.mk.injEq, List.cons.injEq, List.take_length, List.getElem?_nil, List.getD_cons_zero, List.getD_cons_succ, Int.reduceToNat, not_false_eq_true, Nat.le_refl, Tk.sv, Tk.cells]
      exact ⟨hm, t, e, b, rfl, by rw [tokL_quo hp h1 h2 h3]; exact hN⟩
    · rintro r H' m' hm ⟨_, rfl, t, e, b, rfl, hN⟩
      rw [← tokL_op hp h1 h2 h3] at hN
      simp only [go_sem, ↓reduceIte, or_true, or_false, true_or, false_or, Option.some.injEq, exists_eq_left, exists_eq_left', Nat.reduceBEq, Nat.reduceAdd, Nat.reduceMul, Nat.reduceSub, Nat.reduceEqDiff, Nat.reduceLT, Nat.reduceLeDiff, Option.map, Option.bind, List.map, List.length, true_implies, true_and, and_true, Bool.and_true, Bool.true_and, Bool.or_false, Bool.false_or, Bool.not_true, Bool.not_false, Bool.and_false, Bool.false_and, List.cons_append, List.nil_append, List.append_nil, mk_eq_bs, tl_bs, List.getElem?_cons_zero, List.getElem?_cons_succ, eq_self, reduceCtorEq, implies_true, false_implies, decide_eq_true_eq, decide_eq_false_iff_not, Bool.and_eq_true, Bool.or_eq_true, Bool.not_eq_true', Bool.and_eq_false_iff, Bool.or_eq_false_iff, Bool.not_eq_false', Option.toList, SV.v.injEq, Value.int.injEq, Value.bool.injEq, Value.string.injEq, Option.getD, List.contains_cons, List.contains_nil, beq_self_eq_true, Nat.max_def, List.set, List.drop, List.take, Int.toNat_natCast, Nat.mul_one, Int.toNat_zero, List.drop_zero, Bx.mk.injEq, Vc.mk.injEq, List.cons.injEq, List.take_length, List.getElem?_nil, List.getD_cons_zero, List.getD_cons_succ, Int.reduceToNat, not_false_eq_true, Nat.le_refl, Tk.sv, Tk.cells]
      exact ⟨hm, t, e, b, rfl, hN⟩
def lenOf : Option (Int × List UInt8 × Int × Nat) → Nat
  | some x => x.2.2.2
  | none => 0
theorem RN_yes {o : Option (Int × List UInt8 × Int × Nat)} {t : Tk} {e : Int} {b : Bool} {q : Nat}
    (h : match o with
      | some (k, tt, n, len) => b = true ∧ t = ⟨k, tt, n, q⟩ ∧ e = (q + len : Nat)
      | none => b = false) (hb : b = true) : o = some (t.k, t.s, t.n, lenOf o) ∧ t.at_ = q ∧ e = (q + lenOf o : Nat) := by
  cases o with
  | none => rw [hb] at h; cases h
  | some x =>
    obtain ⟨k, tt, n, len⟩ := x
    obtain ⟨_, rfl, rfl⟩ := h
    exact ⟨rfl, rfl, rfl⟩
set_option maxHeartbeats 4000000 in
set_option maxRecDepth 20000 in
theorem rtokenize_spec (s : List UInt8) (m : Mem) (hs : s.length ≤ 4611686018427387904) :
    FnH Tryd.prog 9 [.v (.string (bs s))] ⟨[], []⟩ m fun r H' m' => leM m m' ∧ ROut (tokenizeL s) r H' := by
  refine enter cfA puA Tryd.func9 rfl rfl (by kernel_rfl) rfl ?_ ?_
  · simp only [go_sem, ↓reduceIte, or_true, or_false, true_or, false_or, Option.some.injEq, exists_eq_left, exists_eq_left', Nat.reduceBEq, Nat.reduceAdd, Nat.reduceMul, Nat.reduceSub, Nat.reduceEqDiff, Nat.reduceLT, Nat.reduceLeDiff, Option.map, Option.bind, List.map, List.length, true_implies, true_and, and_true, Bool.and_true, Bool.true_and, Bool.or_false, Bool.false_or, Bool.not_true, Bool.not_false, Bool.and_false, Bool.false_and, List.cons_append, List.nil_append, List.append_nil, mk_eq_bs, tl_bs, List.getElem?_cons_zero, List.getElem?_cons_succ, eq_self, reduceCtorEq, implies_true, false_implies, decide_eq_true_eq, decide_eq_false_iff_not, Bool.and_eq_true, Bool.or_eq_true, Bool.not_eq_true', Bool.and_eq_false_iff, Bool.or_eq_false_iff, Bool.not_eq_false', Option.toList, SV.v.injEq, Value.int.injEq, Value.bool.injEq, Value.string.injEq, Option.getD, List.contains_cons, List.contains_nil, beq_self_eq_true, Nat.max_def, List.set, List.drop, List.take, Int.toNat_natCast, Nat.mul_one, Int.toNat_zero, List.drop_zero, Bx.mk.injEq, Vc.mk.injEq, List.cons.injEq, List.take_length, List.getElem?_nil, List.getD_cons_zero, List.getD_cons_succ, Int.reduceToNat, not_false_eq_true, Nat.le_refl]
  · simp only [go_sem, ↓reduceIte, or_true, or_false, true_or, false_or, Option.some.injEq, exists_eq_left, exists_eq_left', Nat.reduceBEq, Nat.reduceAdd, Nat.reduceMul, Nat.reduceSub, Nat.reduceEqDiff, Nat.reduceLT, Nat.reduceLeDiff, Option.map, Option.bind, List.map, List.length, true_implies, true_and, and_true, Bool.and_true, Bool.true_and, Bool.or_false, Bool.false_or, Bool.not_true, Bool.not_false, Bool.and_false, Bool.false_and, List.cons_append, List.nil_append, List.append_nil, mk_eq_bs, tl_bs, List.getElem?_cons_zero, List.getElem?_cons_succ, eq_self, reduceCtorEq, implies_true, false_implies, decide_eq_true_eq, decide_eq_false_iff_not, Bool.and_eq_true, Bool.or_eq_true, Bool.not_eq_true', Bool.and_eq_false_iff, Bool.or_eq_false_iff, Bool.not_eq_false', Option.toList, SV.v.injEq, Value.int.injEq, Value.bool.injEq, Value.string.injEq, Option.getD, List.contains_cons, List.contains_nil, beq_self_eq_true, Nat.max_def, List.set, List.drop, List.take, Int.toNat_natCast, Nat.mul_one, Int.toNat_zero, List.drop_zero, Bx.mk.injEq, Vc.mk.injEq, List.cons.injEq, List.take_length, List.getElem?_nil, List.getD_cons_zero, List.getD_cons_succ, Int.reduceToNat, not_false_eq_true, Nat.le_refl]
    refine ⟨fun h => ?_, fun h => ⟨by kernel_rfl, FnV_of ((skip_spec s 0 m (Nat.zero_le _) (by omega)).mono ?_)⟩⟩
    · have e : tokenizeL s = ([], 0, 8) := if_pos (by omega)
      rw [e]
      exact .inr ⟨by decide, rfl, rfl, rfl⟩
    · rintro r H' m' hm ⟨rfl, rfl, rfl⟩
      simp only [go_sem, ↓reduceIte, or_true, or_false, true_or, false_or, Option.some.injEq, exists_eq_left, exists_eq_left', Nat.reduceBEq, Nat.reduceAdd, Nat.reduceMul, Nat.reduceSub, Nat.reduceEqDiff, Nat.reduceLT, Nat.reduceLeDiff, Option.map, Option.bind, List.map, List.length, true_implies, true_and, and_true, Bool.and_true, Bool.true_and, Bool.or_false, Bool.false_or, Bool.not_true, Bool.not_false, Bool.and_false, Bool.false_and, List.cons_append, List.nil_append, List.append_nil, mk_eq_bs, tl_bs, List.getElem?_cons_zero, List.getElem?_cons_succ, eq_self, reduceCtorEq, implies_true, false_implies, decide_eq_true_eq, decide_eq_false_iff_not, Bool.and_eq_true, Bool.or_eq_true, Bool.not_eq_true', Bool.and_eq_false_iff, Bool.or_eq_false_iff, Bool.not_eq_false', Option.toList, SV.v.injEq, Value.int.injEq, Value.bool.injEq, Value.string.injEq, Option.getD, List.contains_cons, List.contains_nil, beq_self_eq_true, Nat.max_def, List.set, List.drop, List.take, Int.toNat_natCast, Nat.mul_one, Int.toNat_zero, List.drop_zero, Bx.mk.injEq, Vc.mk.injEq, List.cons.injEq, List.take_length, List.getElem?_nil, List.getD_cons_zero, List.getD_cons_succ, Int.reduceToNat, not_false_eq_true, Nat.le_refl]
      refine WP_adopt 5 27 4 (by decide) rfl ?_
      have hts : tokenizeL s = lexF s (s.length + 1) 0 [] := if_neg (by omega)
      have hsk0 := skip_le false (s.drop 0)
      rw [List.length_drop] at hsk0
      refine WP_loop puA (fun x : Nat × List Tk × Nat × Mem × Nat × Nat => ⟨[⟨0, [], .v (.string (bs s))⟩, ⟨5, [], .vec 0 x.2.2.1⟩, ⟨6, [], .v (.int .i64 x.2.2.2.2.2)⟩], [], [], [⟨0, x.2.2.1, 27, 4, x.2.1.length, tkCells x.2.1⟩], 1, x.2.2.2.1⟩)
        (fun x => leM m' x.2.2.2.1 ∧ x.1 ≤ s.length ∧ x.2.1.length ≤ 5000 ∧ s.length - x.1 < x.2.2.2.2.1 ∧ tokenizeL s = lexF s x.2.2.2.2.1 x.1 x.2.1 ∧ x.2.2.2.2.2 = x.1 + skipW false (s.drop x.1)) (fun x => s.length - x.1) (0, [], 0, m', s.length + 1, 0 + skipW false (s.drop 0)) (by kernel_rfl) (fun _ _ => Nat.le_refl _) (fun x hx => hx.1) (fun _ => ?_) ?_ ?_ ?_
      · simp only [go_sem, ↓reduceIte, or_true, or_false, true_or, false_or, Option.some.injEq, exists_eq_left, exists_eq_left', Nat.reduceBEq, Nat.reduceAdd, Nat.reduceMul, Nat.reduceSub, Nat.reduceEqDiff, Nat.reduceLT, Nat.reduceLeDiff, Option.map, Option.bind, List.map, List.length, true_implies, true_and, and_true, Bool.and_true, Bool.true_and, Bool.or_false, Bool.false_or, Bool.not_true, Bool.not_false, Bool.and_false, Bool.false_and, List.cons_append, List.nil_append, List.append_nil, mk_eq_bs, tl_bs, List.getElem?_cons_zero, List.getElem?_cons_succ, eq_self, reduceCtorEq, implies_true, false_implies, decide_eq_true_eq, decide_eq_false_iff_not, Bool.and_eq_true, Bool.or_eq_true, Bool.not_eq_true', Bool.and_eq_false_iff, Bool.or_eq_false_iff, Bool.not_eq_false', Option.toList, SV.v.injEq, Value.int.injEq, Value.bool.injEq, Value.string.injEq, Option.getD, List.contains_cons, List.contains_nil, beq_self_eq_true, Nat.max_def, List.set, List.drop, List.take, Int.toNat_natCast, Nat.mul_one, Int.toNat_zero, List.drop_zero, Bx.mk.injEq, Vc.mk.injEq, List.cons.injEq, List.take_length, List.getElem?_nil, List.getD_cons_zero, List.getD_cons_succ, Int.reduceToNat, not_false_eq_true, Nat.le_refl]
      · simp only [go_sem, ↓reduceIte, or_true, or_false, true_or, false_or, Option.some.injEq, exists_eq_left, exists_eq_left', Nat.reduceBEq, Nat.reduceAdd, Nat.reduceMul, Nat.reduceSub, Nat.reduceEqDiff, Nat.reduceLT, Nat.reduceLeDiff, Option.map, Option.bind, List.map, List.length, true_implies, true_and, and_true, Bool.and_true, Bool.true_and, Bool.or_false, Bool.false_or, Bool.not_true, Bool.not_false, Bool.and_false, Bool.false_and, List.cons_append, List.nil_append, List.append_nil, mk_eq_bs, tl_bs, List.getElem?_cons_zero, List.getElem?_cons_succ, eq_self, reduceCtorEq, implies_true, false_implies, decide_eq_true_eq, decide_eq_false_iff_not, Bool.and_eq_true, Bool.or_eq_true, Bool.not_eq_true', Bool.and_eq_false_iff, Bool.or_eq_false_iff, Bool.not_eq_false', Option.toList, SV.v.injEq, Value.int.injEq, Value.bool.injEq, Value.string.injEq, Option.getD, List.contains_cons, List.contains_nil, beq_self_eq_true, Nat.max_def, List.set, List.drop, List.take, Int.toNat_natCast, Nat.mul_one, Int.toNat_zero, List.drop_zero, Bx.mk.injEq, Vc.mk.injEq, List.cons.injEq, List.take_length, List.getElem?_nil, List.getD_cons_zero, List.getD_cons_succ, Int.reduceToNat, not_false_eq_true, Nat.le_refl]
        rfl
      · exact ⟨.inl rfl, Nat.zero_le _, Nat.zero_le _, by simp only; omega, hts, rfl⟩
      · rintro ⟨p, acc, u, mm, f, q⟩ ⟨h1, h3, h4, h5, h6, hq⟩
        simp only at h1 h3 h4 h5 h6 hq
        have ef : f = (f - 1) + 1 := by omega
        rw [ef] at h6
        simp only [lexF] at h6
        have hsk := skip_le false (s.drop p)
        rw [List.length_drop] at hsk
        rw [← hq] at h6
        have hqs : q ≤ s.length := by omega
        simp only [go_sem, ↓reduceIte, or_true, or_false, true_or, false_or, Option.some.injEq, exists_eq_left, exists_eq_left', Nat.reduceBEq, Nat.reduceAdd, Nat.reduceMul, Nat.reduceSub, Nat.reduceEqDiff, Nat.reduceLT, Nat.reduceLeDiff, Option.map, Option.bind, List.map, List.length, true_implies, true_and, and_true, Bool.and_true, Bool.true_and, Bool.or_false, Bool.false_or, Bool.not_true, Bool.not_false, Bool.and_false, Bool.false_and, List.cons_append, List.nil_append, List.append_nil, mk_eq_bs, tl_bs, List.getElem?_cons_zero, List.getElem?_cons_succ, eq_self, reduceCtorEq, implies_true, false_implies, decide_eq_true_eq, decide_eq_false_iff_not, Bool.and_eq_true, Bool.or_eq_true, Bool.not_eq_true', Bool.and_eq_false_iff, Bool.or_eq_false_iff, Bool.not_eq_false', Option.toList, SV.v.injEq, Value.int.injEq, Value.bool.injEq, Value.string.injEq, Option.getD, List.contains_cons, List.contains_nil, beq_self_eq_true, Nat.max_def, List.set, List.drop, List.take, Int.toNat_natCast, Nat.mul_one, Int.toNat_zero, List.drop_zero, Bx.mk.injEq, Vc.mk.injEq, List.cons.injEq, List.take_length, List.getElem?_nil, List.getD_cons_zero, List.getD_cons_succ, Int.reduceToNat, not_false_eq_true, Nat.le_refl]
        refine ⟨fun hlt => ⟨fun h5k => ⟨h1, ?_⟩, fun h5k => ⟨by kernel_rfl, FnV_of ((scan_spec s q mm (by omega) (by omega)).mono ?_)⟩⟩, fun hge => ⟨h1, ?_⟩⟩
        · rw [h6, if_neg (by omega), if_pos (by omega)]
          exact .inr ⟨by decide, rfl, rfl, rfl⟩
        · rintro r H' m'' hm2 ⟨hle, rfl, t, e, b, rfl, hN⟩
          simp only [go_sem, ↓reduceIte, or_true, or_false, true_or, false_or, Option.some.injEq, exists_eq_left, exists_eq_left', Nat.reduceBEq, Nat.reduceAdd, Nat.reduceMul, Nat.reduceSub, Nat.reduceEqDiff, Nat.reduceLT, Nat.reduceLeDiff, Option.map, Option.bind, List.map, List.length, true_implies, true_and, and_true, Bool.and_true, Bool.true_and, Bool.or_false, Bool.false_or, Bool.not_true, Bool.not_false, Bool.and_false, Bool.false_and, List.cons_append, List.nil_append, List.append_nil, mk_eq_bs, tl_bs, List.getElem?_cons_zero, List.getElem?_cons_succ, eq_self, reduceCtorEq, implies_true, false_implies, decide_eq_true_eq, decide_eq_false_iff_not, Bool.and_eq_true, Bool.or_eq_true, Bool.not_eq_true', Bool.and_eq_false_iff, Bool.or_eq_false_iff, Bool.not_eq_false', Option.toList, SV.v.injEq, Value.int.injEq, Value.bool.injEq, Value.string.injEq, Option.getD, List.contains_cons, List.contains_nil, beq_self_eq_true, Nat.max_def, List.set, List.drop, List.take, Int.toNat_natCast, Nat.mul_one, Int.toNat_zero, List.drop_zero, Bx.mk.injEq, Vc.mk.injEq, List.cons.injEq, List.take_length, List.getElem?_nil, List.getD_cons_zero, List.getD_cons_succ, Int.reduceToNat, not_false_eq_true, Nat.le_refl, Tk.sv, Tk.cells]
          refine ⟨fun hb => ⟨leM_trans h1 hle, ?_⟩, fun hb => ⟨⟨by omega, by simp only [maxLen]; omega⟩, by kernel_rfl, ?_⟩⟩
          · rw [h6, if_neg (by omega), if_neg (by omega)]
            cases ht : tokL (s.drop q) with
            | none => exact .inr ⟨by simp, rfl, rfl, rfl⟩
            | some x =>
              rw [ht] at hN
              rw [hN.1] at hb
              cases hb
          · have hy := RN_yes hN hb
            have hlen := tokL_len hy.1
            rw [List.length_drop] at hlen
            rw [hy.1, if_neg (by omega), if_neg (by omega)] at h6
            have hsp := skip_spec s (q + lenOf (tokL (s.drop q))) m'' (by omega) (by omega)
            rw [← hy.2.2] at hsp
            have et : (⟨t.k, t.s, t.n, q⟩ : Tk) = t := by rw [← hy.2.1]
            have h6 : tokenizeL s = lexF s (f - 1) (q + lenOf (tokL (s.drop q))) (acc ++ [⟨t.k, t.s, t.n, q⟩]) := h6
            rw [et] at h6
            have happ := tkCells_app acc t
            refine FnV_of (hsp.mono ?_)
            rintro r H' m3 hm3 ⟨rfl, rfl, rfl⟩
            clear hsp
            simp only [go_sem, ↓reduceIte, or_true, or_false, true_or, false_or, Option.some.injEq, exists_eq_left, exists_eq_left', Nat.reduceBEq, Nat.reduceAdd, Nat.reduceMul, Nat.reduceSub, Nat.reduceEqDiff, Nat.reduceLT, Nat.reduceLeDiff, Option.map, Option.bind, List.map, List.length, true_implies, true_and, and_true, Bool.and_true, Bool.true_and, Bool.or_false, Bool.false_or, Bool.not_true, Bool.not_false, Bool.and_false, Bool.false_and, List.cons_append, List.nil_append, List.append_nil, mk_eq_bs, tl_bs, List.getElem?_cons_zero, List.getElem?_cons_succ, eq_self, reduceCtorEq, implies_true, false_implies, decide_eq_true_eq, decide_eq_false_iff_not, Bool.and_eq_true, Bool.or_eq_true, Bool.not_eq_true', Bool.and_eq_false_iff, Bool.or_eq_false_iff, Bool.not_eq_false', Option.toList, SV.v.injEq, Value.int.injEq, Value.bool.injEq, Value.string.injEq, Option.getD, List.contains_cons, List.contains_nil, beq_self_eq_true, Nat.max_def, List.set, List.drop, List.take, Int.toNat_natCast, Nat.mul_one, Int.toNat_zero, List.drop_zero, Bx.mk.injEq, Vc.mk.injEq, List.cons.injEq, List.take_length, List.getElem?_nil, List.getD_cons_zero, List.getD_cons_succ, Int.reduceToNat, not_false_eq_true, Nat.le_refl, Tk.sv, Tk.cells]
            exact ⟨(q + lenOf (tokL (s.drop q)), acc ++ [t], u + 1, m3, f - 1, q + lenOf (tokL (s.drop q)) + skipW false (s.drop (q + lenOf (tokL (s.drop q))))), ⟨⟨rfl, rfl⟩, ⟨rfl, by simp, happ⟩, .inl rfl⟩,
              ⟨leM_trans h1 hle, by simp only; omega, by simp only [List.length_append, List.length_singleton]; omega, by simp only; omega, h6, rfl⟩, by simp only; omega⟩
        · rw [h6, if_pos (by omega)]
          exact .inl ⟨rfl, _, _, rfl, rfl⟩
end Go.Proofs.YtmkifodpkcmgoaaDoor.E

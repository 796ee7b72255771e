/- Several texts in one: LexY, LexPa, LexPb, LexPc, LexPd, LexZ, LexZa, LexZb. -/
import Derived.Test.YtmkifodpkcmgoaaDoorMrgG
/- lex, part Y: few, Same. -/
set_option linter.unusedSimpArgs false
set_option linter.unusedVariables false
namespace Go.Proofs.YtmkifodpkcmgoaaDoor.E
open Go

theorem add_add (ad : Addr) (i j : Nat) (h : ad.spot = none) : (ad.add i).add j = ad.add (i + j) := by
  obtain ⟨e1, e2, e3⟩ := add_parts ad i h
  obtain ⟨f1, f2, f3⟩ := add_parts (ad.add i) j e3
  obtain ⟨g1, g2, g3⟩ := add_parts ad (i + j) h
  rcases hx : (ad.add i).add j with ⟨b, o, s⟩
  rcases hy : ad.add (i + j) with ⟨b', o', s'⟩
  rw [hx] at f1 f2 f3
  rw [hy] at g1 g2 g3
  simp only at f1 f2 f3 g1 g2 g3
  subst f3 g3
  have h1 : b = b' := by omega
  have h2 : o = o' := by omega
  rw [h1, h2]
theorem Rd_ptr {m : Mem} {x : Value} {cs : List Value} (h : Rd m x cs) : isPtr x := by
  obtain ⟨ad, e, _⟩ := h
  exact ⟨ad, e⟩
theorem Rd_part {m : Mem} {x : Value} {cs : List Value} (h : Rd m x cs) {i : Nat} {v : Value} (hi : cs[i]? = some v) : Rd m (ptrAdd x i) [v] := by
  obtain ⟨ad, rfl, hs, hc⟩ := h
  obtain ⟨e1, e2, e3⟩ := add_parts ad i hs
  refine ⟨ad.add i, rfl, e3, fun j hj => ?_⟩
  obtain rfl : j = 0 := by simp at hj; omega
  obtain ⟨h1, h2⟩ := hc i (List.getElem?_eq_some_iff.1 hi).1
  refine ⟨by rw [add_add ad i 0 hs, Nat.add_zero, h1, hi]; rfl, by rw [e1, e2]; exact h2⟩
def fewGo : Nat → List Tk → Bool
  | _, [] => true
  | n, t :: r => if 100000 < n + min t.s.length 100000 then false else fewGo (n + min t.s.length 100000) r
theorem few_at {ts : List Tk} {k : Nat} (h : k < ts.length) (j : Nat) : fewGo j (ts.drop k) = if 100000 < j + min ts[k].s.length 100000 then false else fewGo (j + min ts[k].s.length 100000) (ts.drop (k + 1)) := by
  rw [List.drop_eq_getElem_cons h]; rfl
def fewL (ts : List Tk) : Bool := decide (ts.length ≤ 6000) && fewGo 0 ts
set_option maxHeartbeats 4000000 in
set_option maxRecDepth 20000 in
theorem few_spec (ts : List Tk) (a : Option Addr) (n c : Nat) (m : Mem) (h : Rds m a n 4 (tkCells ts)) (hn : n ≤ 4611686018427387904) :
    FnH Tryd.prog 11 [.v (.slice a n c)] ⟨[], []⟩ m fun r H' m' => r = .v (.bool (fewL ts)) ∧ H' = ⟨[], []⟩ := by
  have hl : ts.length = n := by have := h.1; rw [tk_len] at this; omega
  refine enter cf6 pu6 Tryd.func11 rfl rfl (by kernel_rfl) rfl ?_ ?_
  · simp only [go_sem, ↓reduceIte, or_true, or_false, true_or, false_or, Option.some.injEq, exists_eq_left, exists_eq_left', Nat.reduceBEq, Nat.reduceAdd, Nat.reduceMul, Nat.reduceSub, Nat.reduceEqDiff, Nat.reduceLT, Nat.reduceLeDiff, Option.map, Option.bind, List.map, List.length, true_implies, true_and, and_true, Bool.and_true, Bool.true_and, Bool.or_false, Bool.false_or, Bool.not_true, Bool.not_false, Bool.and_false, Bool.false_and, List.cons_append, List.nil_append, List.append_nil, mk_eq_bs, tl_bs, List.getElem?_cons_zero, List.getElem?_cons_succ, eq_self, reduceCtorEq, implies_true, false_implies, decide_eq_true_eq, decide_eq_false_iff_not, Bool.and_eq_true, Bool.or_eq_true, Bool.not_eq_true', Bool.and_eq_false_iff, Bool.or_eq_false_iff, Bool.not_eq_false', Option.toList, SV.v.injEq, Value.int.injEq, Value.bool.injEq, Value.string.injEq, Option.getD, List.contains_cons, List.contains_nil, beq_self_eq_true, Nat.max_def, List.set, List.drop, List.take, Int.toNat_natCast, Nat.mul_one, Int.toNat_zero, List.drop_zero, Bx.mk.injEq, Vc.mk.injEq, List.cons.injEq, List.take_length, List.getElem?_nil, List.getD_cons_zero, List.getD_cons_succ, Int.reduceToNat, not_false_eq_true, Nat.le_refl]
  · simp only [go_sem, ↓reduceIte, or_true, or_false, true_or, false_or, Option.some.injEq, exists_eq_left, exists_eq_left', Nat.reduceBEq, Nat.reduceAdd, Nat.reduceMul, Nat.reduceSub, Nat.reduceEqDiff, Nat.reduceLT, Nat.reduceLeDiff, Option.map, Option.bind, List.map, List.length, true_implies, true_and, and_true, Bool.and_true, Bool.true_and, Bool.or_false, Bool.false_or, Bool.not_true, Bool.not_false, Bool.and_false, Bool.false_and, List.cons_append, List.nil_append, List.append_nil, mk_eq_bs, tl_bs, List.getElem?_cons_zero, List.getElem?_cons_succ, eq_self, reduceCtorEq, implies_true, false_implies, decide_eq_true_eq, decide_eq_false_iff_not, Bool.and_eq_true, Bool.or_eq_true, Bool.not_eq_true', Bool.and_eq_false_iff, Bool.or_eq_false_iff, Bool.not_eq_false', Option.toList, SV.v.injEq, Value.int.injEq, Value.bool.injEq, Value.string.injEq, Option.getD, List.contains_cons, List.contains_nil, beq_self_eq_true, Nat.max_def, List.set, List.drop, List.take, Int.toNat_natCast, Nat.mul_one, Int.toNat_zero, List.drop_zero, Bx.mk.injEq, Vc.mk.injEq, List.cons.injEq, List.take_length, List.getElem?_nil, List.getD_cons_zero, List.getD_cons_succ, Int.reduceToNat, not_false_eq_true, Nat.le_refl]
    refine ⟨fun hb => ?_, fun hb => ?_⟩
    · simp only [fewL, decide_eq_false (show ¬ ts.length ≤ 6000 by omega), Bool.false_and]
    · have h0 : fewL ts = fewGo 0 ts := by simp only [fewL, decide_eq_true (show ts.length ≤ 6000 by omega), Bool.true_and]
      refine WP_loop pu6 (fun x : Nat × Nat => ⟨[⟨0, [], .v (.slice a n c)⟩, ⟨3, [], .v (.int .i64 x.2)⟩, ⟨4, [], .v (.int .i64 x.1)⟩], [], [], [], 0, m⟩)
        (fun x => x.1 ≤ n ∧ x.2 ≤ 100000 ∧ fewL ts = fewGo x.2 (ts.drop x.1)) (fun x => n - x.1) (0, 0) (by kernel_rfl) (fun _ _ => Nat.le_refl _) (fun _ _ => .inl rfl) (fun _ => ?_) ?_ ?_ ?_
      · simp only [go_sem, ↓reduceIte, or_true, or_false, true_or, false_or, Option.some.injEq, exists_eq_left, exists_eq_left', Nat.reduceBEq, Nat.reduceAdd, Nat.reduceMul, Nat.reduceSub, Nat.reduceEqDiff, Nat.reduceLT, Nat.reduceLeDiff, Option.map, Option.bind, List.map, List.length, true_implies, true_and, and_true, Bool.and_true, Bool.true_and, Bool.or_false, Bool.false_or, Bool.not_true, Bool.not_false, Bool.and_false, Bool.false_and, List.cons_append, List.nil_append, List.append_nil, mk_eq_bs, tl_bs, List.getElem?_cons_zero, List.getElem?_cons_succ, eq_self, reduceCtorEq, implies_true, false_implies, decide_eq_true_eq, decide_eq_false_iff_not, Bool.and_eq_true, Bool.or_eq_true, Bool.not_eq_true', Bool.and_eq_false_iff, Bool.or_eq_false_iff, Bool.not_eq_false', Option.toList, SV.v.injEq, Value.int.injEq, Value.bool.injEq, Value.string.injEq, Option.getD, List.contains_cons, List.contains_nil, beq_self_eq_true, Nat.max_def, List.set, List.drop, List.take, Int.toNat_natCast, Nat.mul_one, Int.toNat_zero, List.drop_zero, Bx.mk.injEq, Vc.mk.injEq, List.cons.injEq, List.take_length, List.getElem?_nil, List.getD_cons_zero, List.getD_cons_succ, Int.reduceToNat, not_false_eq_true, Nat.le_refl]
      · simp only [go_sem, ↓reduceIte, or_true, or_false, true_or, false_or, Option.some.injEq, exists_eq_left, exists_eq_left', Nat.reduceBEq, Nat.reduceAdd, Nat.reduceMul, Nat.reduceSub, Nat.reduceEqDiff, Nat.reduceLT, Nat.reduceLeDiff, Option.map, Option.bind, List.map, List.length, true_implies, true_and, and_true, Bool.and_true, Bool.true_and, Bool.or_false, Bool.false_or, Bool.not_true, Bool.not_false, Bool.and_false, Bool.false_and, List.cons_append, List.nil_append, List.append_nil, mk_eq_bs, tl_bs, List.getElem?_cons_zero, List.getElem?_cons_succ, eq_self, reduceCtorEq, implies_true, false_implies, decide_eq_true_eq, decide_eq_false_iff_not, Bool.and_eq_true, Bool.or_eq_true, Bool.not_eq_true', Bool.and_eq_false_iff, Bool.or_eq_false_iff, Bool.not_eq_false', Option.toList, SV.v.injEq, Value.int.injEq, Value.bool.injEq, Value.string.injEq, Option.getD, List.contains_cons, List.contains_nil, beq_self_eq_true, Nat.max_def, List.set, List.drop, List.take, Int.toNat_natCast, Nat.mul_one, Int.toNat_zero, List.drop_zero, Bx.mk.injEq, Vc.mk.injEq, List.cons.injEq, List.take_length, List.getElem?_nil, List.getD_cons_zero, List.getD_cons_succ, Int.reduceToNat, not_false_eq_true, Nat.le_refl]
        exact ⟨rfl, rfl⟩
      · exact ⟨Nat.zero_le _, Nat.zero_le _, h0⟩
      · rintro ⟨k, j⟩ ⟨h1, h2, h3⟩
        simp only at h1 h2 h3
        have hr : ∀ (hkl : k < ts.length), Rd m (ptrAt a (k * 4)) (tkC ts[k]) ∧ a ≠ none := fun hkl => by
          have := Rds_cells h (i := k) (by omega)
          rwa [tk_at hkl] at this
        simp only [go_sem, ↓reduceIte, or_true, or_false, true_or, false_or, Option.some.injEq, exists_eq_left, exists_eq_left', Nat.reduceBEq, Nat.reduceAdd, Nat.reduceMul, Nat.reduceSub, Nat.reduceEqDiff, Nat.reduceLT, Nat.reduceLeDiff, Option.map, Option.bind, List.map, List.length, true_implies, true_and, and_true, Bool.and_true, Bool.true_and, Bool.or_false, Bool.false_or, Bool.not_true, Bool.not_false, Bool.and_false, Bool.false_and, List.cons_append, List.nil_append, List.append_nil, mk_eq_bs, tl_bs, List.getElem?_cons_zero, List.getElem?_cons_succ, eq_self, reduceCtorEq, implies_true, false_implies, decide_eq_true_eq, decide_eq_false_iff_not, Bool.and_eq_true, Bool.or_eq_true, Bool.not_eq_true', Bool.and_eq_false_iff, Bool.or_eq_false_iff, Bool.not_eq_false', Option.toList, SV.v.injEq, Value.int.injEq, Value.bool.injEq, Value.string.injEq, Option.getD, List.contains_cons, List.contains_nil, beq_self_eq_true, Nat.max_def, List.set, List.drop, List.take, Int.toNat_natCast, Nat.mul_one, Int.toNat_zero, List.drop_zero, Bx.mk.injEq, Vc.mk.injEq, List.cons.injEq, List.take_length, List.getElem?_nil, List.getD_cons_zero, List.getD_cons_succ, Int.reduceToNat, not_false_eq_true, Nat.le_refl]
        refine ⟨fun hlt => ?_, fun hge => ?_⟩
        · have hkl : k < ts.length := by omega
          refine ⟨⟨by omega, hlt, (hr hkl).2⟩, Rd_ptr (hr hkl).1, _, Rd_part (hr hkl).1 (i := 1) rfl, ?_⟩
          simp only [go_sem, ↓reduceIte, or_true, or_false, true_or, false_or, Option.some.injEq, exists_eq_left, exists_eq_left', Nat.reduceBEq, Nat.reduceAdd, Nat.reduceMul, Nat.reduceSub, Nat.reduceEqDiff, Nat.reduceLT, Nat.reduceLeDiff, Option.map, Option.bind, List.map, List.length, true_implies, true_and, and_true, Bool.and_true, Bool.true_and, Bool.or_false, Bool.false_or, Bool.not_true, Bool.not_false, Bool.and_false, Bool.false_and, List.cons_append, List.nil_append, List.append_nil, mk_eq_bs, tl_bs, List.getElem?_cons_zero, List.getElem?_cons_succ, eq_self, reduceCtorEq, implies_true, false_implies, decide_eq_true_eq, decide_eq_false_iff_not, Bool.and_eq_true, Bool.or_eq_true, Bool.not_eq_true', Bool.and_eq_false_iff, Bool.or_eq_false_iff, Bool.not_eq_false', Option.toList, SV.v.injEq, Value.int.injEq, Value.bool.injEq, Value.string.injEq, Option.getD, List.contains_cons, List.contains_nil, beq_self_eq_true, Nat.max_def, List.set, List.drop, List.take, Int.toNat_natCast, Nat.mul_one, Int.toNat_zero, List.drop_zero, Bx.mk.injEq, Vc.mk.injEq, List.cons.injEq, List.take_length, List.getElem?_nil, List.getD_cons_zero, List.getD_cons_succ, Int.reduceToNat, not_false_eq_true, Nat.le_refl]
          have e : (if (100000 : Int) < (ts[k].s.length : Nat) then (100000 : Int) else (ts[k].s.length : Nat)) = ((min ts[k].s.length 100000 : Nat) : Int) := by split <;> omega
          rw [e]
          refine ⟨by unfold I64; omega, fun hx => ?_, fun hx => ⟨by unfold I64; omega, (k + 1, j + min ts[k].s.length 100000), ⟨by simp only; omega, by simp only; omega⟩, ⟨by simp only; omega, by simp only; omega, ?_⟩, by simp only; omega⟩⟩
          · rw [h3, few_at hkl, if_pos (by omega)]
          · rw [h3, few_at hkl, if_neg (by omega)]
        · rw [h3, List.drop_eq_nil_of_le (by omega)]; rfl
def sameL : List Tk → List Tk → Bool
  | [], [] => true
  | x :: a, y :: b => decide (x.k = y.k) && decide (x.s = y.s) && decide (x.n = y.n) && sameL a b
  | _, _ => false
theorem same_end {a b : List Tk} (h : a = [] ∨ b = []) : sameL a b = decide (a.length = b.length) := by
  cases a with
  | nil => cases b <;> simp [sameL]
  | cons x a => rcases h with h | rfl
                · cases h
                · simp [sameL]
theorem same_at {a b : List Tk} {k : Nat} (h : k < a.length) (h' : k < b.length) : sameL (a.drop k) (b.drop k) = (decide (a[k].k = b[k].k) && decide (a[k].s = b[k].s) && decide (a[k].n = b[k].n) && sameL (a.drop (k + 1)) (b.drop (k + 1))) := by
  rw [List.drop_eq_getElem_cons h, List.drop_eq_getElem_cons h']; rfl
set_option maxHeartbeats 4000000 in
set_option maxRecDepth 20000 in
theorem same_spec (ta tb : List Tk) (a b : Option Addr) (na ca nb cb : Nat) (m : Mem) (h : Rds m a na 4 (tkCells ta)) (h' : Rds m b nb 4 (tkCells tb)) (hn : na ≤ 4611686018427387904) :
    FnH Tryd.prog 13 [.v (.slice a na ca), .v (.slice b nb cb)] ⟨[], []⟩ m fun r H' m' => r = .v (.bool (sameL ta tb)) ∧ H' = ⟨[], []⟩ := by
  have hl : ta.length = na := by have := h.1; rw [tk_len] at this; omega
  have hl' : tb.length = nb := by have := h'.1; rw [tk_len] at this; omega
  refine enter cf6 pu6 Tryd.func13 rfl rfl (by kernel_rfl) rfl ?_ ?_
  · simp only [go_sem, ↓reduceIte, or_true, or_false, true_or, false_or, Option.some.injEq, exists_eq_left, exists_eq_left', Nat.reduceBEq, Nat.reduceAdd, Nat.reduceMul, Nat.reduceSub, Nat.reduceEqDiff, Nat.reduceLT, Nat.reduceLeDiff, Option.map, Option.bind, List.map, List.length, true_implies, true_and, and_true, Bool.and_true, Bool.true_and, Bool.or_false, Bool.false_or, Bool.not_true, Bool.not_false, Bool.and_false, Bool.false_and, List.cons_append, List.nil_append, List.append_nil, mk_eq_bs, tl_bs, List.getElem?_cons_zero, List.getElem?_cons_succ, eq_self, reduceCtorEq, implies_true, false_implies, decide_eq_true_eq, decide_eq_false_iff_not, Bool.and_eq_true, Bool.or_eq_true, Bool.not_eq_true', Bool.and_eq_false_iff, Bool.or_eq_false_iff, Bool.not_eq_false', Option.toList, SV.v.injEq, Value.int.injEq, Value.bool.injEq, Value.string.injEq, Option.getD, List.contains_cons, List.contains_nil, beq_self_eq_true, Nat.max_def, List.set, List.drop, List.take, Int.toNat_natCast, Nat.mul_one, Int.toNat_zero, List.drop_zero, Bx.mk.injEq, Vc.mk.injEq, List.cons.injEq, List.take_length, List.getElem?_nil, List.getD_cons_zero, List.getD_cons_succ, Int.reduceToNat, not_false_eq_true, Nat.le_refl]
  · simp only [go_sem, ↓reduceIte, or_true, or_false, true_or, false_or, Option.some.injEq, exists_eq_left, exists_eq_left', Nat.reduceBEq, Nat.reduceAdd, Nat.reduceMul, Nat.reduceSub, Nat.reduceEqDiff, Nat.reduceLT, Nat.reduceLeDiff, Option.map, Option.bind, List.map, List.length, true_implies, true_and, and_true, Bool.and_true, Bool.true_and, Bool.or_false, Bool.false_or, Bool.not_true, Bool.not_false, Bool.and_false, Bool.false_and, List.cons_append, List.nil_append, List.append_nil, mk_eq_bs, tl_bs, List.getElem?_cons_zero, List.getElem?_cons_succ, eq_self, reduceCtorEq, implies_true, false_implies, decide_eq_true_eq, decide_eq_false_iff_not, Bool.and_eq_true, Bool.or_eq_true, Bool.not_eq_true', Bool.and_eq_false_iff, Bool.or_eq_false_iff, Bool.not_eq_false', Option.toList, SV.v.injEq, Value.int.injEq, Value.bool.injEq, Value.string.injEq, Option.getD, List.contains_cons, List.contains_nil, beq_self_eq_true, Nat.max_def, List.set, List.drop, List.take, Int.toNat_natCast, Nat.mul_one, Int.toNat_zero, List.drop_zero, Bx.mk.injEq, Vc.mk.injEq, List.cons.injEq, List.take_length, List.getElem?_nil, List.getD_cons_zero, List.getD_cons_succ, Int.reduceToNat, not_false_eq_true, Nat.le_refl]
    refine WP_loop pu6 (fun k : Nat => ⟨[⟨0, [], .v (.slice a na ca)⟩, ⟨1, [], .v (.slice b nb cb)⟩, ⟨5, [], .v (.int .i64 k)⟩], [], [], [], 0, m⟩)
        (fun k => k ≤ na ∧ k ≤ nb ∧ sameL ta tb = sameL (ta.drop k) (tb.drop k)) (fun k => na - k) 0 (by kernel_rfl) (fun _ _ => Nat.le_refl _) (fun _ _ => .inl rfl) (fun _ => ?_) ?_ ?_ ?_
    · simp only [go_sem, ↓reduceIte, or_true, or_false, true_or, false_or, Option.some.injEq, exists_eq_left, exists_eq_left', Nat.reduceBEq, Nat.reduceAdd, Nat.reduceMul, Nat.reduceSub, Nat.reduceEqDiff, Nat.reduceLT, Nat.reduceLeDiff, Option.map, Option.bind, List.map, List.length, true_implies, true_and, and_true, Bool.and_true, Bool.true_and, Bool.or_false, Bool.false_or, Bool.not_true, Bool.not_false, Bool.and_false, Bool.false_and, List.cons_append, List.nil_append, List.append_nil, mk_eq_bs, tl_bs, List.getElem?_cons_zero, List.getElem?_cons_succ, eq_self, reduceCtorEq, implies_true, false_implies, decide_eq_true_eq, decide_eq_false_iff_not, Bool.and_eq_true, Bool.or_eq_true, Bool.not_eq_true', Bool.and_eq_false_iff, Bool.or_eq_false_iff, Bool.not_eq_false', Option.toList, SV.v.injEq, Value.int.injEq, Value.bool.injEq, Value.string.injEq, Option.getD, List.contains_cons, List.contains_nil, beq_self_eq_true, Nat.max_def, List.set, List.drop, List.take, Int.toNat_natCast, Nat.mul_one, Int.toNat_zero, List.drop_zero, Bx.mk.injEq, Vc.mk.injEq, List.cons.injEq, List.take_length, List.getElem?_nil, List.getD_cons_zero, List.getD_cons_succ, Int.reduceToNat, not_false_eq_true, Nat.le_refl]
    · simp only [go_sem, ↓reduceIte, or_true, or_false, true_or, false_or, Option.some.injEq, exists_eq_left, exists_eq_left', Nat.reduceBEq, Nat.reduceAdd, Nat.reduceMul, Nat.reduceSub, Nat.reduceEqDiff, Nat.reduceLT, Nat.reduceLeDiff, Option.map, Option.bind, List.map, List.length, true_implies, true_and, and_true, Bool.and_true, Bool.true_and, Bool.or_false, Bool.false_or, Bool.not_true, Bool.not_false, Bool.and_false, Bool.false_and, List.cons_append, List.nil_append, List.append_nil, mk_eq_bs, tl_bs, List.getElem?_cons_zero, List.getElem?_cons_succ, eq_self, reduceCtorEq, implies_true, false_implies, decide_eq_true_eq, decide_eq_false_iff_not, Bool.and_eq_true, Bool.or_eq_true, Bool.not_eq_true', Bool.and_eq_false_iff, Bool.or_eq_false_iff, Bool.not_eq_false', Option.toList, SV.v.injEq, Value.int.injEq, Value.bool.injEq, Value.string.injEq, Option.getD, List.contains_cons, List.contains_nil, beq_self_eq_true, Nat.max_def, List.set, List.drop, List.take, Int.toNat_natCast, Nat.mul_one, Int.toNat_zero, List.drop_zero, Bx.mk.injEq, Vc.mk.injEq, List.cons.injEq, List.take_length, List.getElem?_nil, List.getD_cons_zero, List.getD_cons_succ, Int.reduceToNat, not_false_eq_true, Nat.le_refl]
      rfl
    · exact ⟨Nat.zero_le _, Nat.zero_le _, rfl⟩
    · rintro k ⟨h1, h2, h3⟩
      have hr : ∀ (hkl : k < ta.length), Rd m (ptrAt a (k * 4)) (tkC ta[k]) ∧ a ≠ none := fun hkl => by
        have := Rds_cells h (i := k) (by omega)
        rwa [tk_at hkl] at this
      have hr' : ∀ (hkl : k < tb.length), Rd m (ptrAt b (k * 4)) (tkC tb[k]) ∧ b ≠ none := fun hkl => by
        have := Rds_cells h' (i := k) (by omega)
        rwa [tk_at hkl] at this
      simp only [go_sem, ↓reduceIte, or_true, or_false, true_or, false_or, Option.some.injEq, exists_eq_left, exists_eq_left', Nat.reduceBEq, Nat.reduceAdd, Nat.reduceMul, Nat.reduceSub, Nat.reduceEqDiff, Nat.reduceLT, Nat.reduceLeDiff, Option.map, Option.bind, List.map, List.length, true_implies, true_and, and_true, Bool.and_true, Bool.true_and, Bool.or_false, Bool.false_or, Bool.not_true, Bool.not_false, Bool.and_false, Bool.false_and, List.cons_append, List.nil_append, List.append_nil, mk_eq_bs, tl_bs, List.getElem?_cons_zero, List.getElem?_cons_succ, eq_self, reduceCtorEq, implies_true, false_implies, decide_eq_true_eq, decide_eq_false_iff_not, Bool.and_eq_true, Bool.or_eq_true, Bool.not_eq_true', Bool.and_eq_false_iff, Bool.or_eq_false_iff, Bool.not_eq_false', Option.toList, SV.v.injEq, Value.int.injEq, Value.bool.injEq, Value.string.injEq, Option.getD, List.contains_cons, List.contains_nil, beq_self_eq_true, Nat.max_def, List.set, List.drop, List.take, Int.toNat_natCast, Nat.mul_one, Int.toNat_zero, List.drop_zero, Bx.mk.injEq, Vc.mk.injEq, List.cons.injEq, List.take_length, List.getElem?_nil, List.getD_cons_zero, List.getD_cons_succ, Int.reduceToNat, not_false_eq_true, Nat.le_refl]
      refine ⟨fun hh => ?_, fun hh => ?_⟩
      · have hk : k < ta.length := by omega
        have hk' : k < tb.length := by omega
        refine WP_drawQ pu6 (by kernel_rfl) (by kernel_rfl) (by kernel_rfl) ?_
        simp only [go_sem, ↓reduceIte, or_true, or_false, true_or, false_or, Option.some.injEq, exists_eq_left, exists_eq_left', Nat.reduceBEq, Nat.reduceAdd, Nat.reduceMul, Nat.reduceSub, Nat.reduceEqDiff, Nat.reduceLT, Nat.reduceLeDiff, Option.map, Option.bind, List.map, List.length, true_implies, true_and, and_true, Bool.and_true, Bool.true_and, Bool.or_false, Bool.false_or, Bool.not_true, Bool.not_false, Bool.and_false, Bool.false_and, List.cons_append, List.nil_append, List.append_nil, mk_eq_bs, tl_bs, List.getElem?_cons_zero, List.getElem?_cons_succ, eq_self, reduceCtorEq, implies_true, false_implies, decide_eq_true_eq, decide_eq_false_iff_not, Bool.and_eq_true, Bool.or_eq_true, Bool.not_eq_true', Bool.and_eq_false_iff, Bool.or_eq_false_iff, Bool.not_eq_false', Option.toList, SV.v.injEq, Value.int.injEq, Value.bool.injEq, Value.string.injEq, Option.getD, List.contains_cons, List.contains_nil, beq_self_eq_true, Nat.max_def, List.set, List.drop, List.take, Int.toNat_natCast, Nat.mul_one, Int.toNat_zero, List.drop_zero, Bx.mk.injEq, Vc.mk.injEq, List.cons.injEq, List.take_length, List.getElem?_nil, List.getD_cons_zero, List.getD_cons_succ, Int.reduceToNat, not_false_eq_true, Nat.le_refl]
        have ia : IdxOk a na k := ⟨by omega, hh.1, (hr hk).2⟩
        have ib : IdxOk b nb k := ⟨by omega, hh.2, (hr' hk').2⟩
        have pa := Rd_ptr (hr hk).1
        have pb := Rd_ptr (hr' hk').1
        refine ⟨ia, pa, _, Rd_part (hr hk).1 (i := 0) rfl, ib, pb, _, Rd_part (hr' hk').1 (i := 0) rfl, ?_⟩
        simp only [go_sem, ↓reduceIte, or_true, or_false, true_or, false_or, Option.some.injEq, exists_eq_left, exists_eq_left', Nat.reduceBEq, Nat.reduceAdd, Nat.reduceMul, Nat.reduceSub, Nat.reduceEqDiff, Nat.reduceLT, Nat.reduceLeDiff, Option.map, Option.bind, List.map, List.length, true_implies, true_and, and_true, Bool.and_true, Bool.true_and, Bool.or_false, Bool.false_or, Bool.not_true, Bool.not_false, Bool.and_false, Bool.false_and, List.cons_append, List.nil_append, List.append_nil, mk_eq_bs, tl_bs, List.getElem?_cons_zero, List.getElem?_cons_succ, eq_self, reduceCtorEq, implies_true, false_implies, decide_eq_true_eq, decide_eq_false_iff_not, Bool.and_eq_true, Bool.or_eq_true, Bool.not_eq_true', Bool.and_eq_false_iff, Bool.or_eq_false_iff, Bool.not_eq_false', Option.toList, SV.v.injEq, Value.int.injEq, Value.bool.injEq, Value.string.injEq, Option.getD, List.contains_cons, List.contains_nil, beq_self_eq_true, Nat.max_def, List.set, List.drop, List.take, Int.toNat_natCast, Nat.mul_one, Int.toNat_zero, List.drop_zero, Bx.mk.injEq, Vc.mk.injEq, List.cons.injEq, List.take_length, List.getElem?_nil, List.getD_cons_zero, List.getD_cons_succ, Int.reduceToNat, not_false_eq_true, Nat.le_refl]
        refine ⟨fun _ => ia, fun _ => pa, _, fun _ => Rd_part (hr hk).1 (i := 1) rfl, fun _ => ib, fun _ => pb, _, fun _ => Rd_part (hr' hk').1 (i := 1) rfl, ?_⟩
        simp only [go_sem, ↓reduceIte, or_true, or_false, true_or, false_or, Option.some.injEq, exists_eq_left, exists_eq_left', Nat.reduceBEq, Nat.reduceAdd, Nat.reduceMul, Nat.reduceSub, Nat.reduceEqDiff, Nat.reduceLT, Nat.reduceLeDiff, Option.map, Option.bind, List.map, List.length, true_implies, true_and, and_true, Bool.and_true, Bool.true_and, Bool.or_false, Bool.false_or, Bool.not_true, Bool.not_false, Bool.and_false, Bool.false_and, List.cons_append, List.nil_append, List.append_nil, mk_eq_bs, tl_bs, List.getElem?_cons_zero, List.getElem?_cons_succ, eq_self, reduceCtorEq, implies_true, false_implies, decide_eq_true_eq, decide_eq_false_iff_not, Bool.and_eq_true, Bool.or_eq_true, Bool.not_eq_true', Bool.and_eq_false_iff, Bool.or_eq_false_iff, Bool.not_eq_false', Option.toList, SV.v.injEq, Value.int.injEq, Value.bool.injEq, Value.string.injEq, Option.getD, List.contains_cons, List.contains_nil, beq_self_eq_true, Nat.max_def, List.set, List.drop, List.take, Int.toNat_natCast, Nat.mul_one, Int.toNat_zero, List.drop_zero, Bx.mk.injEq, Vc.mk.injEq, List.cons.injEq, List.take_length, List.getElem?_nil, List.getD_cons_zero, List.getD_cons_succ, Int.reduceToNat, not_false_eq_true, Nat.le_refl]
        refine ⟨fun _ => ia, fun _ => pa, _, fun _ => Rd_part (hr hk).1 (i := 2) rfl, fun _ => ib, fun _ => pb, _, fun _ => Rd_part (hr' hk').1 (i := 2) rfl, ?_⟩
        simp only [go_sem, ↓reduceIte, or_true, or_false, true_or, false_or, Option.some.injEq, exists_eq_left, exists_eq_left', Nat.reduceBEq, Nat.reduceAdd, Nat.reduceMul, Nat.reduceSub, Nat.reduceEqDiff, Nat.reduceLT, Nat.reduceLeDiff, Option.map, Option.bind, List.map, List.length, true_implies, true_and, and_true, Bool.and_true, Bool.true_and, Bool.or_false, Bool.false_or, Bool.not_true, Bool.not_false, Bool.and_false, Bool.false_and, List.cons_append, List.nil_append, List.append_nil, mk_eq_bs, tl_bs, List.getElem?_cons_zero, List.getElem?_cons_succ, eq_self, reduceCtorEq, implies_true, false_implies, decide_eq_true_eq, decide_eq_false_iff_not, Bool.and_eq_true, Bool.or_eq_true, Bool.not_eq_true', Bool.and_eq_false_iff, Bool.or_eq_false_iff, Bool.not_eq_false', Option.toList, SV.v.injEq, Value.int.injEq, Value.bool.injEq, Value.string.injEq, Option.getD, List.contains_cons, List.contains_nil, beq_self_eq_true, Nat.max_def, List.set, List.drop, List.take, Int.toNat_natCast, Nat.mul_one, Int.toNat_zero, List.drop_zero, Bx.mk.injEq, Vc.mk.injEq, List.cons.injEq, List.take_length, List.getElem?_nil, List.getD_cons_zero, List.getD_cons_succ, Int.reduceToNat, not_false_eq_true, Nat.le_refl]
        refine ⟨fun hx => ?_, fun hx => ⟨by unfold I64; omega, k + 1, by omega, ⟨by omega, by omega, ?_⟩, by omega⟩⟩
        · rw [h3, same_at hk hk']
          rcases hx with (hx | hx) | hx <;> simp [hx]
        · rw [h3, same_at hk hk']
          simp [hx.1.1, hx.1.2, hx.2]
      · rw [h3, same_end]
        · simp only [List.length_drop]
          rw [decide_eq_decide]; omega
        · rcases hh with hh | hh
          · exact .inl (List.drop_eq_nil_of_le (by omega))
          · exact .inr (List.drop_eq_nil_of_le (by omega))
end Go.Proofs.YtmkifodpkcmgoaaDoor.E

/- lex, plain, part a: the tokens of what is left of a text. -/
set_option linter.unusedSimpArgs false
set_option linter.unusedVariables false
namespace Go.Proofs.YtmkifodpkcmgoaaDoor.E
open Go

def consR (t : Tk) (x : List Tk × Int × Int) : List Tk × Int × Int := if x.2.2 = 0 then (t :: x.1, x.2.1, 0) else ([], x.2.1, x.2.2)
def lexG : Nat → Nat → Nat → List UInt8 → List Tk × Int × Int
  | 0, _, _, _ => ([], 0, 0)
  | f + 1, cnt, pos, l =>
    if l.drop (skipW false l) = [] then ([], 0, 0) else if 5000 ≤ cnt then ([], 0, 5) else
      match tokL (l.drop (skipW false l)) with
      | none => ([], (pos + skipW false l : Nat), 70)
      | some (k, t, n, len) => consR ⟨k, t, n, (pos + skipW false l : Nat)⟩ (lexG f (cnt + 1) (pos + skipW false l + len) (l.drop (skipW false l + len)))
def putR (acc : List Tk) (x : List Tk × Int × Int) : List Tk × Int × Int := if x.2.2 = 0 then (acc ++ x.1, x.2.1, 0) else ([], x.2.1, x.2.2)
theorem putR_cons (acc : List Tk) (t : Tk) (x : List Tk × Int × Int) : putR acc (consR t x) = putR (acc ++ [t]) x := by
  unfold putR consR
  by_cases h : x.2.2 = 0
  · simp [h]
  · simp [h]
theorem lexF_eq (s : List UInt8) : ∀ (f p : Nat) (acc : List Tk), lexF s f p acc = putR acc (lexG f acc.length p (s.drop p))
  | 0, p, acc => by simp [lexF, lexG, putR]
  | f + 1, p, acc => by
    simp only [lexF, lexG]
    have e1 : (s.drop p).drop (skipW false (s.drop p)) = s.drop (p + skipW false (s.drop p)) := List.drop_drop
    rw [e1]
    by_cases h1 : s.length ≤ p + skipW false (s.drop p)
    · rw [if_pos h1, if_pos (List.drop_eq_nil_of_le h1)]; simp [putR]
    · rw [if_neg h1, if_neg (fun h => h1 (List.drop_eq_nil_iff.1 h))]
      by_cases h2 : 5000 ≤ acc.length
      · rw [if_pos h2, if_pos h2]; simp [putR]
      · rw [if_neg h2, if_neg h2]
        cases ht : tokL (s.drop (p + skipW false (s.drop p))) with
        | none => simp [putR]
        | some y =>
          obtain ⟨k, t, n, len⟩ := y
          simp only
          rw [lexF_eq s f, putR_cons]
          simp only [List.length_append, List.length_singleton, List.drop_drop, Nat.add_assoc]
theorem consR_norm {t : Tk} {x : List Tk × Int × Int} (h : (x.2.2 = 0 → x.2.1 = 0) ∧ (x.2.2 ≠ 0 → x.1 = [])) : ((consR t x).2.2 = 0 → (consR t x).2.1 = 0) ∧ ((consR t x).2.2 ≠ 0 → (consR t x).1 = []) := by
  unfold consR
  by_cases e : x.2.2 = 0
  · simp only [if_pos e]; exact ⟨fun _ => h.1 e, fun h => absurd rfl h⟩
  · simp only [if_neg e]; exact ⟨fun h => absurd h e, fun _ => trivial⟩
theorem lexG_norm : ∀ (f cnt pos : Nat) (l : List UInt8), ((lexG f cnt pos l).2.2 = 0 → (lexG f cnt pos l).2.1 = 0) ∧ ((lexG f cnt pos l).2.2 ≠ 0 → (lexG f cnt pos l).1 = [])
  | 0, _, _, _ => ⟨fun _ => rfl, fun _ => rfl⟩
  | f + 1, cnt, pos, l => by
    simp only [lexG]
    split
    · exact ⟨fun _ => rfl, fun _ => rfl⟩
    · split
      · exact ⟨fun _ => rfl, fun _ => rfl⟩
      · split
        · exact ⟨fun h => absurd h (by simp), fun _ => rfl⟩
        · exact consR_norm (lexG_norm f _ _ _)
theorem putR_nil {x : List Tk × Int × Int} (h : x.2.2 ≠ 0 → x.1 = []) : putR [] x = x := by
  obtain ⟨a, b, c⟩ := x
  unfold putR
  by_cases e : c = 0
  · subst e; rfl
  · simp only [if_neg e]; have h1 : a = [] := h e; rw [h1]
theorem tokenize_eq {s : List UInt8} (h : s.length ≤ 20000) : tokenizeL s = lexG (s.length + 1) 0 0 s := by
  have e : tokenizeL s = lexF s (s.length + 1) 0 [] := if_neg (by omega)
  rw [e, lexF_eq, putR_nil (lexG_norm _ _ _ _).2]; rfl
theorem lexG_fuel : ∀ (f f' cnt pos : Nat) (l : List UInt8), l.length < f → l.length < f' → lexG f cnt pos l = lexG f' cnt pos l
  | 0, _, _, _, _, h, _ => absurd h (Nat.not_lt_zero _)
  | _ + 1, 0, _, _, _, _, h => absurd h (Nat.not_lt_zero _)
  | f + 1, f' + 1, cnt, pos, l, h, h' => by
    simp only [lexG]
    split
    · rfl
    · split
      · rfl
      · split
        · rfl
        · rename_i k t n len ht
          have := tokL_len ht
          rw [List.length_drop] at this
          rw [lexG_fuel f f' _ _ _ (by rw [List.length_drop]; omega) (by rw [List.length_drop]; omega)]
theorem consR_same {t t' : Tk} {x x' : List Tk × Int × Int} (ht : t.k = t'.k ∧ t.s = t'.s ∧ t.n = t'.n) (h : x.2.2 = x'.2.2 ∧ sameL x.1 x'.1 = true) : (consR t x).2.2 = (consR t' x').2.2 ∧ sameL (consR t x).1 (consR t' x').1 = true := by
  obtain ⟨h1, h2⟩ := h
  unfold consR
  rw [h1]
  by_cases e : x'.2.2 = 0
  · simp only [if_pos e, sameL, ht.1, ht.2.1, ht.2.2, decide_true, Bool.true_and]; exact ⟨trivial, h2⟩
  · simp only [if_neg e]; exact ⟨trivial, rfl⟩
/-- Where a text begins is told by the offsets alone. -/
theorem lexG_shift : ∀ (f cnt p p' : Nat) (l : List UInt8), (lexG f cnt p l).2.2 = (lexG f cnt p' l).2.2 ∧ sameL (lexG f cnt p l).1 (lexG f cnt p' l).1 = true
  | 0, _, _, _, _ => ⟨rfl, rfl⟩
  | f + 1, cnt, p, p', l => by
    simp only [lexG]
    split
    · exact ⟨rfl, rfl⟩
    · split
      · exact ⟨rfl, rfl⟩
      · split
        · exact ⟨rfl, rfl⟩
        · exact consR_same ⟨rfl, rfl, rfl⟩ (lexG_shift f _ _ _ _)
theorem lexG_white (f cnt pos : Nat) (l : List UInt8) : lexG f cnt pos (32 :: 9 :: l) = lexG f cnt (pos + 2) l := by
  cases f with
  | zero => rfl
  | succ f =>
    have e : skipW false (32 :: 9 :: l) = skipW false l + 2 := by
      rw [skipW, if_pos (by decide), skipW, if_pos (by decide)]; omega
    simp only [lexG, e]
    have e1 : (32 :: 9 :: l).drop (skipW false l + 2) = l.drop (skipW false l) := by
      rw [show skipW false l + 2 = skipW false l + 1 + 1 by omega]; rfl
    have e2 : ∀ len, (32 :: 9 :: l).drop (skipW false l + 2 + len) = l.drop (skipW false l + len) := fun len => by
      rw [show skipW false l + 2 + len = skipW false l + len + 1 + 1 by omega]; rfl
    simp only [e1, e2]
    rw [show pos + (skipW false l + 2) = pos + 2 + skipW false l by omega]
/-- A token, wherever it stands: where it begins, what it is, and that it can be written. -/
theorem lexG_all (s : List UInt8) : ∀ (f cnt pos : Nat), ∀ t ∈ (lexG f cnt pos (s.drop pos)).1, ∃ q : Nat, t.at_ = q ∧ pos ≤ q ∧ q < s.length ∧ ∃ len, tokL (s.drop q) = some (t.k, t.s, t.n, len)
  | 0, _, _, t, h => by cases h
  | f + 1, cnt, pos, t, h => by
    simp only [lexG] at h
    split at h
    · cases h
    · rename_i hne
      split at h
      · cases h
      · split at h
        · cases h
        · rename_i k tt n len ht
          have hl := tokL_len ht
          rw [List.drop_drop] at ht
          rw [List.length_drop, List.length_drop] at hl
          unfold consR at h
          split at h
          · rcases List.mem_cons.1 h with rfl | h
            · exact ⟨pos + skipW false (s.drop pos), rfl, by omega, by omega, len, ht⟩
            · rw [List.drop_drop, ← Nat.add_assoc] at h
              obtain ⟨q, e1, e2, e3, e4⟩ := lexG_all s f _ _ t h
              exact ⟨q, e1, by omega, e3, e4⟩
          · cases h
/-- The offsets grow. -/
def grow : Int → List Tk → Prop
  | _, [] => True
  | b, t :: r => b ≤ t.at_ ∧ grow (t.at_ + 1) r
theorem grow_le : ∀ {b b' : Int} {l : List Tk}, b' ≤ b → grow b l → grow b' l
  | _, _, [], _, _ => trivial
  | _, _, _ :: _, h, hg => ⟨Int.le_trans h hg.1, hg.2⟩
theorem lexG_grow : ∀ (f cnt pos : Nat) (l : List UInt8), grow pos (lexG f cnt pos l).1
  | 0, _, _, _ => trivial
  | f + 1, cnt, pos, l => by
    simp only [lexG]
    split
    · trivial
    · split
      · trivial
      · split
        · trivial
        · rename_i k tt n len ht
          have hl := tokL_len ht
          unfold consR
          split
          · refine ⟨by show (pos : Int) ≤ ((pos + skipW false l : Nat) : Int); omega, grow_le ?_ (lexG_grow f _ _ _)⟩
            show ((pos + skipW false l : Nat) : Int) + 1 ≤ ((pos + skipW false l + len : Nat) : Int)
            omega
          · trivial
end Go.Proofs.YtmkifodpkcmgoaaDoor.E

/- lex, plain, part b: what stands behind white space does not touch a token. -/
set_option linter.unusedSimpArgs false
set_option linter.unusedVariables false
namespace Go.Proofs.YtmkifodpkcmgoaaDoor.E
open Go

/-- White space, or the text's end. -/
def Stop (rest : List UInt8) : Prop := rest = [] ∨ ∃ c r, rest = c :: r ∧ (c = 10 ∨ c = 32)
theorem part_stop {rest : List UInt8} (h : Stop rest) : ∀ (b : Bool) (l : List UInt8), partL b (l ++ rest) = partL b l
  | b, [] => by
    rcases h with rfl | ⟨c, r, rfl, rfl | rfl⟩
    · rfl
    · cases b <;> rfl
    · cases b <;> rfl
  | b, c :: l => by simp only [List.cons_append, partL, part_stop h false l]
theorem dig_stop {rest : List UInt8} (h : Stop rest) : ∀ (l : List UInt8), digL (l ++ rest) = digL l
  | [] => by
    rcases h with rfl | ⟨c, r, rfl, rfl | rfl⟩
    · rfl
    · rfl
    · rfl
  | c :: l => by simp only [List.cons_append, digL, dig_stop h l]
theorem hasPre_nil (l : List UInt8) : hasPre l [] = true := by simp [hasPre]
theorem hasPre_nil' (x : UInt8) (o : List UInt8) : hasPre [] (x :: o) = false := by simp [hasPre]
theorem hasPre_cons (y x : UInt8) (l o : List UInt8) : hasPre (y :: l) (x :: o) = (decide (y = x) && hasPre l o) := by
  unfold hasPre
  simp only [List.length_cons, List.take_succ_cons, List.cons.injEq]
  have e : decide (((o.length + 1 : Nat) : Int) ≤ ((l.length + 1 : Nat) : Int)) = decide ((o.length : Int) ≤ l.length) := by rw [decide_eq_decide]; omega
  rw [e, Bool.decide_and]
  cases decide (y = x) <;> simp
theorem hasPre_stop {rest : List UInt8} (h : Stop rest) : ∀ (o l : List UInt8), (∀ c ∈ o, c ≠ 10 ∧ c ≠ 32) → hasPre (l ++ rest) o = hasPre l o
  | [], l, _ => by rw [hasPre_nil, hasPre_nil]
  | x :: o, [], ho => by
    rw [hasPre_nil', List.nil_append]
    rcases h with rfl | ⟨c, r, rfl, hc⟩
    · rw [hasPre_nil']
    · rw [hasPre_cons]
      have := ho x (List.mem_cons_self ..)
      have hne : c ≠ x := by rcases hc with rfl | rfl; exact fun e => this.1 e.symm; exact fun e => this.2 e.symm
      simp [hne]
  | x :: o, y :: l, ho => by
    rw [List.cons_append, hasPre_cons, hasPre_cons, hasPre_stop h o l fun c hc => ho c (List.mem_cons_of_mem _ hc)]
theorem find_congr {α : Type} {p q : α → Bool} : ∀ (l : List α), (∀ a ∈ l, p a = q a) → l.find? p = l.find? q
  | [], _ => rfl
  | a :: l, h => by
    simp only [List.find?_cons, h a (List.mem_cons_self ..)]
    rw [find_congr l fun b hb => h b (List.mem_cons_of_mem _ hb)]
theorem signs_white : ∀ o ∈ signsL, ∀ c ∈ o, c ≠ 10 ∧ c ≠ 32 := by decide
theorem sign_stop {rest : List UInt8} (h : Stop rest) (l : List UInt8) : signAt (l ++ rest) = signAt l :=
  find_congr _ fun o ho => hasPre_stop h o l (signs_white o ho)
theorem idRF_fuel : ∀ (f f' : Nat) (l : List UInt8), l.length < f → l.length < f' → idRF f l = idRF f' l
  | 0, _, _, h, _ => absurd h (Nat.not_lt_zero _)
  | _ + 1, 0, _, _, h => absurd h (Nat.not_lt_zero _)
  | f + 1, f' + 1, l, h, h' => by
    simp only [idRF]
    split
    · rename_i hc
      have := pre_len hc.1
      simp only [List.length_cons, List.length_nil] at this
      rw [idRF_fuel f f' _ (by rw [List.length_drop]; omega) (by rw [List.length_drop]; omega)]
    · rfl
theorem colons (l : List UInt8) (h : hasPre l [58, 58] = true) : ∃ r, l = 58 :: 58 :: r := by
  cases l with
  | nil => rw [hasPre_nil'] at h; cases h
  | cons a l =>
    rw [hasPre_cons] at h
    cases l with
    | nil => rw [hasPre_nil'] at h; simp at h
    | cons b l =>
      rw [hasPre_cons, hasPre_nil] at h
      simp only [Bool.and_true, Bool.and_eq_true, decide_eq_true_eq] at h
      exact ⟨l, by rw [h.1, h.2]⟩
theorem idRF_stop {rest : List UInt8} (h : Stop rest) : ∀ (f : Nat) (l : List UInt8), idRF f (l ++ rest) = idRF f l
  | 0, _ => rfl
  | f + 1, l => by
    simp only [idRF, hasPre_stop h [58, 58] l (by decide)]
    by_cases hp : hasPre l [58, 58] = true
    · obtain ⟨r, rfl⟩ := colons l hp
      have e1 : (58 :: 58 :: r ++ rest).drop 2 = r ++ rest := rfl
      have e2 : (58 :: 58 :: r).drop 2 = r := rfl
      have e3 : ∀ k, k ≤ r.length → (58 :: 58 :: r ++ rest).drop (2 + k) = (58 :: 58 :: r).drop (2 + k) ++ rest := fun k hk => by
        rw [Nat.add_comm, List.drop_append_of_le_length (by simp only [List.length_cons]; omega)]
      rw [e1, e2, part_stop h, e3 _ (part_le _ _), idRF_stop h f]
    · rw [if_neg (fun hc => hp hc.1), if_neg (fun hc => hp hc.1)]
theorem idN_stop {rest : List UInt8} (h : Stop rest) (l : List UInt8) : idN (l ++ rest) = idN l := by
  unfold idN
  rw [part_stop h, List.drop_append_of_le_length (part_le _ _), idRF_stop h]
  rw [idRF_fuel ((l ++ rest).length + 1) (l.length + 1) _ (by rw [List.length_drop, List.length_append]; omega) (by rw [List.length_drop]; omega)]
theorem idS_stop {rest : List UInt8} (h : Stop rest) (l : List UInt8) : idS (l ++ rest) = idS l := by
  unfold idS
  rw [idN_stop h, List.take_append_of_le_length (idN_le l)]
theorem num_stop {rest : List UInt8} (h : Stop rest) {l : List UInt8} (hl : l ≠ []) : numL (l ++ rest) = numL l := by
  have e2 : ((l.drop (digL l) ++ rest).head?.map UInt8.toNat = some 76) = ((l.drop (digL l)).head?.map UInt8.toNat = some 76) := by
    cases l.drop (digL l) with
    | nil =>
      rcases h with rfl | ⟨c, r, rfl, rfl | rfl⟩
      · rfl
      · simp
      · simp
    | cons => rfl
  have e3 : (l ++ rest).head? = l.head? := by
    cases l with
    | nil => exact absurd rfl hl
    | cons => rfl
  simp only [numL, dig_stop h, List.drop_append_of_le_length (dig_le l), List.take_append_of_le_length (dig_le l), e3, e2]
theorem esc_some {r : List UInt8} (h : (escL r).2.2 = true) (rest : List UInt8) : escL (r ++ rest) = escL r := by
  match r, h with
  | [], h => cases h
  | c :: r, h =>
    simp only [List.cons_append, escL] at h ⊢
    by_cases h1 : c.toNat = 34 ∨ c.toNat = 92
    · rw [if_pos h1, if_pos h1]
    · rw [if_neg h1, if_neg h1]
      rw [if_neg h1] at h
      by_cases h2 : c.toNat = 110
      · rw [if_pos h2, if_pos h2]
      · rw [if_neg h2, if_neg h2]
        rw [if_neg h2] at h
        by_cases h3 : c.toNat = 120
        · rw [if_pos h3, if_pos h3]
          rw [if_pos h3] at h
          match r, h with
          | [], h => cases h
          | [_], h => cases h
          | _ :: _ :: _, _ => rfl
        · rw [if_neg h3] at h; cases h
theorem esc_none {r rest : List UInt8} (h : (escL r).2.2 = false) : (escL (r ++ 10 :: rest)).2.2 = false := by
  match r, h with
  | [], _ => rfl
  | c :: r, h =>
    simp only [List.cons_append, escL] at h ⊢
    by_cases h1 : c.toNat = 34 ∨ c.toNat = 92
    · rw [if_pos h1] at h; cases h
    · rw [if_neg h1]
      rw [if_neg h1] at h
      by_cases h2 : c.toNat = 110
      · rw [if_pos h2] at h; cases h
      · rw [if_neg h2]
        rw [if_neg h2] at h
        by_cases h3 : c.toNat = 120
        · rw [if_pos h3]
          rw [if_pos h3] at h
          match r, h with
          | [], _ =>
            have e : hexI 10 = -1 := by decide
            cases rest with
            | nil => rfl
            | cons a b => simp [e]
          | [x], _ =>
            have e : hexI 10 = -1 := by decide
            simp [e]
          | _ :: _ :: _, h => exact h
        · rw [if_neg h3]
theorem qScanF_fuel : ∀ (f f' : Nat) (l : List UInt8), l.length < f → l.length < f' → qScanF f l = qScanF f' l
  | 0, _, _, h, _ => absurd h (Nat.not_lt_zero _)
  | _ + 1, 0, _, _, h => absurd h (Nat.not_lt_zero _)
  | f + 1, f' + 1, [], _, _ => rfl
  | f + 1, f' + 1, c :: r, h, h' => by
    simp only [List.length_cons] at h h'
    simp only [qScanF]
    rw [qScanF_fuel f f' r (by omega) (by omega), qScanF_fuel f f' (r.drop (escL r).1) (by rw [List.length_drop]; omega) (by rw [List.length_drop]; omega)]
theorem qScanF_some : ∀ (f : Nat) (l rest : List UInt8) (y : List UInt8 × Nat), qScanF f l = some y → qScanF f (l ++ rest) = some y
  | 0, _, _, _, h => by cases h
  | f + 1, [], _, _, h => by cases h
  | f + 1, c :: r, rest, y, h => by
    simp only [List.cons_append, qScanF] at h ⊢
    by_cases h1 : c.toNat = 34
    · rw [if_pos h1] at h ⊢; exact h
    · rw [if_neg h1] at h ⊢
      by_cases h2 : c.toNat < 32 ∨ 126 < c.toNat
      · rw [if_pos h2] at h; cases h
      · rw [if_neg h2] at h ⊢
        by_cases h3 : c.toNat = 92
        · rw [if_pos h3] at h ⊢
          by_cases h4 : (escL r).2.2 = true
          · rw [if_pos h4] at h
            rw [esc_some h4, if_pos h4, List.drop_append_of_le_length (escL_len r).1]
            obtain ⟨y', h', e⟩ := Option.map_eq_some_iff.1 h
            rw [qScanF_some f _ rest y' h', ← e]; rfl
          · rw [if_neg h4] at h; cases h
        · rw [if_neg h3] at h ⊢
          obtain ⟨y', h', e⟩ := Option.map_eq_some_iff.1 h
          rw [qScanF_some f _ rest y' h', ← e]; rfl
theorem qScanF_none : ∀ (f : Nat) (l rest : List UInt8), l.length < f → qScanF f l = none → qScanF f (l ++ 10 :: rest) = none
  | 0, _, _, h, _ => absurd h (Nat.not_lt_zero _)
  | f + 1, [], rest, _, _ => rfl
  | f + 1, c :: r, rest, hf, h => by
    simp only [List.length_cons] at hf
    simp only [List.cons_append, qScanF] at h ⊢
    by_cases h1 : c.toNat = 34
    · rw [if_pos h1] at h; cases h
    · rw [if_neg h1] at h ⊢
      by_cases h2 : c.toNat < 32 ∨ 126 < c.toNat
      · rw [if_pos h2]
      · rw [if_neg h2] at h ⊢
        by_cases h3 : c.toNat = 92
        · rw [if_pos h3] at h ⊢
          by_cases h4 : (escL r).2.2 = true
          · rw [if_pos h4] at h
            rw [esc_some h4, if_pos h4, List.drop_append_of_le_length (escL_len r).1]
            rw [qScanF_none f _ rest (by rw [List.length_drop]; omega) (Option.map_eq_none_iff.1 h)]; rfl
          · rw [if_neg (by rw [esc_none (by simpa using h4)]; exact Bool.false_ne_true)]
        · rw [if_neg h3] at h ⊢
          rw [qScanF_none f _ rest (by omega) (Option.map_eq_none_iff.1 h)]; rfl
theorem qScan_some {l : List UInt8} {y : List UInt8 × Nat} (h : qScan l = some y) (rest : List UInt8) : qScan (l ++ rest) = some y := by
  unfold qScan at h ⊢
  rw [qScanF_fuel _ ((l ++ rest).length + 1) l (by omega) (by rw [List.length_append]; omega)] at h
  exact qScanF_some _ _ _ _ h
theorem qScan_none {l : List UInt8} (h : qScan l = none) (rest : List UInt8) : qScan (l ++ 10 :: rest) = none := by
  unfold qScan at h ⊢
  rw [qScanF_fuel _ ((l ++ 10 :: rest).length + 1) l (by omega) (by rw [List.length_append]; omega)] at h
  exact qScanF_none _ _ _ (by rw [List.length_append]; omega) h
/-- A token that is one stays what it is; behind a line's end what is none stays none. -/
theorem tok_stop {l rest : List UInt8} (hl : l ≠ []) (h : Stop rest) (hy : tokL l ≠ none ∨ ∃ r, rest = 10 :: r) : tokL (l ++ rest) = tokL l := by
  cases l with
  | nil => exact absurd rfl hl
  | cons c r =>
    have e1 := idS_stop h (c :: r)
    have e2 := idN_stop h (c :: r)
    have e3 := num_stop h hl
    have e4 := sign_stop h (c :: r)
    simp only [List.cons_append] at e1 e2 e3 e4
    simp only [List.cons_append, tokL, e1, e2, e3, e4] at hy ⊢
    by_cases h1 : isStartB c.toNat = true
    · rw [if_pos h1, if_pos h1]
    · rw [if_neg h1, if_neg h1]
      by_cases h2 : isDigitB c.toNat = true
      · rw [if_pos h2, if_pos h2]
      · rw [if_neg h2, if_neg h2]
        by_cases h3 : c.toNat = 34
        · rw [if_pos h3, if_pos h3]
          rw [if_neg h1, if_neg h2, if_pos h3] at hy
          cases hq : qScan r with
          | some y => rw [qScan_some hq]
          | none =>
            rw [hq] at hy
            rcases hy with hy | ⟨r', rfl⟩
            · exact absurd rfl hy
            · rw [qScan_none hq]
        · rw [if_neg h3, if_neg h3]
end Go.Proofs.YtmkifodpkcmgoaaDoor.E

/- lex, plain, part c: the text of a token is that token again. -/
set_option linter.unusedSimpArgs false
set_option linter.unusedVariables false
namespace Go.Proofs.YtmkifodpkcmgoaaDoor.E
open Go

/-- A name with two colons for each slash. -/
def spell : List UInt8 → List UInt8
  | [] => []
  | c :: r => if c.toNat = 47 then 58 :: 58 :: spell r else c :: spell r
theorem spell_app : ∀ (a b : List UInt8), spell (a ++ b) = spell a ++ spell b
  | [], _ => rfl
  | c :: a, b => by
    simp only [List.cons_append, spell, spell_app a b]
    split <;> rfl
theorem spell_no : ∀ {a : List UInt8}, (∀ c ∈ a, c ≠ 47) → spell a = a
  | [], _ => rfl
  | c :: a, h => by
    have h1 : ¬ c.toNat = 47 := fun e => h c (List.mem_cons_self ..) (UInt8.toNat_inj.1 e)
    simp only [spell, if_neg h1, spell_no fun d hd => h d (List.mem_cons_of_mem _ hd)]
theorem ix_no : ∀ (A : List UInt8), (∀ c ∈ A, c ≠ 47) → Lib.index A [47] = -1
  | [], _ => rfl
  | a :: A, h => by
    have ih := ix_no A fun c hc => h c (List.mem_cons_of_mem _ hc)
    have ha := h a (List.mem_cons_self ..)
    have hp : List.isPrefixOf [47] (a :: A) = false := by
      simp only [List.isPrefixOf, Bool.and_eq_false_iff]
      left; exact beq_eq_false_iff_ne.2 fun e => ha e.symm
    simp only [Lib.index, hp, ih]
    rfl
theorem ix_at : ∀ (A r : List UInt8), (∀ c ∈ A, c ≠ 47) → Lib.index (A ++ 47 :: r) [47] = A.length
  | [], r, _ => by simp [Lib.index, List.isPrefixOf]
  | a :: A, r, h => by
    have ih := ix_at A r fun c hc => h c (List.mem_cons_of_mem _ hc)
    have ha := h a (List.mem_cons_self ..)
    have hp : List.isPrefixOf [47] (a :: (A ++ 47 :: r)) = false := by
      simp only [List.isPrefixOf, Bool.and_eq_false_iff]
      left; exact beq_eq_false_iff_ne.2 fun e => ha e.symm
    simp only [List.cons_append, Lib.index, hp, ih]
    rw [if_neg (by decide), if_neg (by simp), List.length_cons]
    rfl
def rpF (F : Nat) (s : List UInt8) : List UInt8 := Lib.replaceK [47] [58, 58] (Lib.countFrom [47] F s) s
theorem rpF_no {F : Nat} {A : List UInt8} (h : ∀ c ∈ A, c ≠ 47) : rpF (F + 1) A = A := by
  unfold rpF Lib.countFrom
  rw [ix_no A h]
  rfl
theorem rpF_at {F : Nat} {A r : List UInt8} (h : ∀ c ∈ A, c ≠ 47) : rpF (F + 1) (A ++ 47 :: r) = A ++ 58 :: 58 :: rpF F r := by
  have hi := ix_at A r h
  have hd : (A ++ 47 :: r).drop (A.length + ([47] : List UInt8).length) = r := by
    rw [List.drop_append]
    simp
  unfold rpF
  have hc : Lib.countFrom [47] (F + 1) (A ++ 47 :: r) = Lib.countFrom [47] F r + 1 := by
    simp only [Lib.countFrom]
    rw [hi, if_neg (by simp), Int.toNat_natCast, hd]
    omega
  rw [hc, Lib.replaceK_hit _ _ _ _ _ hi, hd]
  simp
theorem slash_split : ∀ (s : List UInt8), (∀ c ∈ s, c ≠ 47) ∨ ∃ A r, s = A ++ 47 :: r ∧ ∀ c ∈ A, c ≠ 47
  | [] => .inl fun c h => by cases h
  | a :: s => by
    by_cases ha : a = 47
    · exact .inr ⟨[], s, by rw [ha]; rfl, fun c h => by cases h⟩
    · rcases slash_split s with h | ⟨A, r, rfl, h⟩
      · exact .inl fun c hc => by
          rcases List.mem_cons.1 hc with rfl | hc
          · exact ha
          · exact h c hc
      · exact .inr ⟨a :: A, r, rfl, fun c hc => by
          rcases List.mem_cons.1 hc with rfl | hc
          · exact ha
          · exact h c hc⟩
theorem rpF_spell : ∀ (F : Nat) (s : List UInt8), s.length < F → rpF F s = spell s
  | 0, _, h => absurd h (Nat.not_lt_zero _)
  | F + 1, s, h => by
    rcases slash_split s with hs | ⟨A, r, rfl, hA⟩
    · rw [rpF_no hs, spell_no hs]
    · rw [List.length_append, List.length_cons] at h
      rw [rpF_at hA, rpF_spell F r (by omega), spell_app, spell_no hA]
      rfl
theorem rep_one (s : List UInt8) : Lib.replaceAll s [47] [58, 58] = spell s := by
  have e : Lib.replaceAll s [47] [58, 58] = rpF (s.length + 1) s := by
    unfold Lib.replaceAll Lib.replace rpF
    rw [if_neg (by decide)]
    have : Lib.replaceNum s [47] (-1) = Lib.count s [47] := by simp [Lib.replaceNum]
    rw [this]; rfl
  rw [e, rpF_spell _ _ (Nat.lt_succ_self _)]
/-- A name: its first part begins with a letter. -/
theorem nm_start {r : List UInt8} (h : nmScan true r = true) : ∃ c s, r = c :: s ∧ c.toNat ≠ 47 ∧ isStartB c.toNat = true ∧ nmScan false s = true := by
  cases r with
  | nil => cases h
  | cons c s =>
    have h47 : c.toNat ≠ 47 := fun e => by
      have hc : c = 47 := UInt8.toNat_inj.1 e
      subst hc
      have : nmScan true (47 :: s) = false := rfl
      rw [this] at h; cases h
    simp only [nmScan] at h
    rw [if_neg (fun hh => Bool.noConfusion hh.2)] at h
    split at h
    · rename_i hc
      rcases hc with hc | hc
      · exact ⟨c, s, rfl, h47, hc, h⟩
      · exact Bool.noConfusion hc.2
    · cases h
theorem nm_next {c : UInt8} {s : List UInt8} (h : nmScan false (c :: s) = true) : (c = 47 ∧ nmScan true s = true) ∨ (c.toNat ≠ 47 ∧ (isStartB c.toNat = true ∨ isDigitB c.toNat = true) ∧ nmScan false s = true) := by
  simp only [nmScan] at h
  split at h
  · rename_i hc
    exact .inl ⟨UInt8.toNat_inj.1 hc.1, h⟩
  · rename_i hn
    split at h
    · rename_i hc
      exact .inr ⟨fun e => hn ⟨e, trivial⟩, hc.imp id (·.1), h⟩
    · cases h
theorem part_spell {r : List UInt8} (h : nmScan true r = true) : partL true (spell r) ≠ 0 := by
  obtain ⟨c, s, rfl, h47, hc, _⟩ := nm_start h
  simp only [spell, if_neg h47]
  exact part_zero.2 hc
theorem colon_part (l : List UInt8) : partL false (58 :: l) = 0 := by
  have h : (isStartB ((58 : UInt8).toNat : Int) || (!false && isDigitB ((58 : UInt8).toNat : Int))) = false := by decide
  simp only [partL, h]
  rfl
theorem id_len : ∀ (s : List UInt8) (b : Bool) (f : Nat), nmScan b s = true → (spell s).length < f → partL b (spell s) + idRF f ((spell s).drop (partL b (spell s))) = (spell s).length
  | [], true, f, h, _ => by cases h
  | [], false, f, _, hf => by
    cases f with
    | zero => exact absurd hf (Nat.not_lt_zero _)
    | succ f => rfl
  | c :: s, b, f, h, hf => by
    have key : (c.toNat ≠ 47 ∧ (isStartB c.toNat = true ∨ (b = false ∧ isDigitB c.toNat = true)) ∧ nmScan false s = true) ∨ (b = false ∧ c = 47 ∧ nmScan true s = true) := by
      cases b with
      | true => obtain ⟨c', s', e, h1, h2, h3⟩ := nm_start h; cases e; exact .inl ⟨h1, .inl h2, h3⟩
      | false =>
        rcases nm_next h with ⟨h1, h2⟩ | ⟨h1, h2, h3⟩
        · exact .inr ⟨rfl, h1, h2⟩
        · exact .inl ⟨h1, h2.imp id fun h => ⟨rfl, h⟩, h3⟩
    rcases key with ⟨h1, h2, h3⟩ | ⟨rfl, rfl, h3⟩
    · simp only [spell, if_neg h1] at hf ⊢
      have e : partL b (c :: spell s) = 1 + partL false (spell s) := by
        simp only [partL]
        rw [if_pos (by rcases h2 with h2 | ⟨rfl, h2⟩ <;> simp [h2])]
      have ih := id_len s false f h3 (by simp only [List.length_cons] at hf; omega)
      rw [e, show 1 + partL false (spell s) = partL false (spell s) + 1 by omega, List.drop_succ_cons, List.length_cons]
      omega
    · have hsp : spell (47 :: s) = 58 :: 58 :: spell s := rfl
      rw [hsp] at hf ⊢
      rw [colon_part, List.drop_zero]
      cases f with
      | zero => exact absurd hf (Nat.not_lt_zero _)
      | succ f =>
        simp only [List.length_cons] at hf ⊢
        have ih := id_len s true f h3 (by omega)
        have e2 : (58 :: 58 :: spell s).drop 2 = spell s := rfl
        have e3 : (58 :: 58 :: spell s).drop (2 + partL true (spell s)) = (spell s).drop (partL true (spell s)) := by rw [← List.drop_drop, e2]
        simp only [idRF, e2, e3]
        rw [if_pos ⟨by rw [hasPre_cons, hasPre_cons, hasPre_nil]; rfl, part_spell h3⟩]
        omega
theorem id_text : ∀ (s : List UInt8) (b : Bool) (f : Nat), nmScan b s = true → (spell s).length < f → (spell s).take (partL b (spell s)) ++ idTF f ((spell s).drop (partL b (spell s))) = s
  | [], true, f, h, _ => by cases h
  | [], false, f, _, hf => by
    cases f with
    | zero => exact absurd hf (Nat.not_lt_zero _)
    | succ f => rfl
  | c :: s, b, f, h, hf => by
    have key : (c.toNat ≠ 47 ∧ (isStartB c.toNat = true ∨ (b = false ∧ isDigitB c.toNat = true)) ∧ nmScan false s = true) ∨ (b = false ∧ c = 47 ∧ nmScan true s = true) := by
      cases b with
      | true => obtain ⟨c', s', e, h1, h2, h3⟩ := nm_start h; cases e; exact .inl ⟨h1, .inl h2, h3⟩
      | false =>
        rcases nm_next h with ⟨h1, h2⟩ | ⟨h1, h2, h3⟩
        · exact .inr ⟨rfl, h1, h2⟩
        · exact .inl ⟨h1, h2.imp id fun h => ⟨rfl, h⟩, h3⟩
    rcases key with ⟨h1, h2, h3⟩ | ⟨rfl, rfl, h3⟩
    · simp only [spell, if_neg h1] at hf ⊢
      have e : partL b (c :: spell s) = 1 + partL false (spell s) := by
        simp only [partL]
        rw [if_pos (by rcases h2 with h2 | ⟨rfl, h2⟩ <;> simp [h2])]
      have ih := id_text s false f h3 (by simp only [List.length_cons] at hf; omega)
      rw [e, show 1 + partL false (spell s) = partL false (spell s) + 1 by omega, List.drop_succ_cons, List.take_succ_cons, List.cons_append, ih]
    · have hsp : spell (47 :: s) = 58 :: 58 :: spell s := rfl
      rw [hsp] at hf ⊢
      rw [colon_part, List.drop_zero, List.take_zero, List.nil_append]
      cases f with
      | zero => exact absurd hf (Nat.not_lt_zero _)
      | succ f =>
        simp only [List.length_cons] at hf
        have ih := id_text s true f h3 (by omega)
        have e2 : (58 :: 58 :: spell s).drop 2 = spell s := rfl
        have e3 : (58 :: 58 :: spell s).drop (2 + partL true (spell s)) = (spell s).drop (partL true (spell s)) := by rw [← List.drop_drop, e2]
        simp only [idTF, e2, e3]
        rw [if_pos ⟨by rw [hasPre_cons, hasPre_cons, hasPre_nil]; rfl, part_spell h3⟩, ih]
theorem tok_name {s : List UInt8} (h : isName s = true) : spell s ≠ [] ∧ tokL (spell s) = some (if keywordsL.contains s = true then 2 else 1, s, 0, (spell s).length) := by
  have h1 : nmScan true s = true := by unfold isName at h; exact (Bool.and_eq_true_iff.1 h).2
  obtain ⟨c, r, e, h47, hc, _⟩ := nm_start h1
  have hsp : spell s = c :: spell r := by rw [e]; simp only [spell, if_neg h47]
  have e1 : idN (spell s) = (spell s).length := by
    have hlen := id_len s true ((spell s).length + 1) h1 (Nat.lt_succ_self _)
    exact hlen
  have e2 : idS (spell s) = s := by
    rw [idS_eq]; exact id_text s true _ h1 (Nat.lt_succ_self _)
  refine ⟨by rw [hsp]; exact List.cons_ne_nil _ _, ?_⟩
  have e3 : tokL (spell s) = if isName (idS (spell s)) = true then some (if keywordsL.contains (idS (spell s)) = true then 2 else 1, idS (spell s), 0, idN (spell s)) else none := by
    rw [hsp]
    show (if isStartB c.toNat = true then _ else _) = _
    rw [if_pos hc]
  rw [e3, e2, if_pos h, e1]
theorem kw_spell : ∀ s ∈ keywordsL, spell s = s := by decide

/-! Numbers. -/
theorem refDig_app : ∀ (a b : List UInt8) (n : Nat), refDig n (a ++ b) = (refDig n a).bind fun m => refDig m b
  | [], b, n => rfl
  | c :: a, b, n => by
    simp only [List.cons_append, refDig]
    split
    · exact refDig_app a b _
    · rfl
theorem dgc (k : Nat) (h : k < 10) : (UInt8.ofNat (48 + k)).toNat = 48 + k := by
  rw [UInt8.toNat_ofNat']; omega
theorem dec_digit : ∀ (u : Nat), ∀ c ∈ Lib.decDigits u, isDigitB c.toNat = true := by
  intro u
  induction u using Nat.strongRecOn with
  | _ u ih =>
    intro c hc
    rw [Lib.decDigits] at hc
    split at hc
    · rename_i h
      rw [List.mem_singleton.1 hc, dgc u h]
      simp only [isDigitB, Bool.and_eq_true, decide_eq_true_eq]; omega
    · rename_i h
      rcases List.mem_append.1 hc with hc | hc
      · exact ih (u / 10) (by omega) c hc
      · rw [List.mem_singleton.1 hc, dgc _ (Nat.mod_lt _ (by omega))]
        simp only [isDigitB, Bool.and_eq_true, decide_eq_true_eq]; omega
theorem dec_ref : ∀ (u : Nat), u ≤ 9223372036854775807 → refDig 0 (Lib.decDigits u) = some u := by
  intro u
  induction u using Nat.strongRecOn with
  | _ u ih =>
    intro hu
    rw [Lib.decDigits]
    split
    · rename_i h
      simp only [refDig, dgc u h]
      rw [if_pos (by omega)]
      congr 1; omega
    · rename_i h
      rw [refDig_app, ih (u / 10) (by omega) (by omega)]
      simp only [Option.bind, refDig, dgc _ (Nat.mod_lt u (by omega : 10 > 0))]
      rw [if_pos (by omega)]
      congr 1; omega
theorem dec_ne (u : Nat) : Lib.decDigits u ≠ [] := by
  rw [Lib.decDigits]
  split <;> simp
theorem dec_head : ∀ (u : Nat), 1 ≤ u → (Lib.decDigits u).head?.map UInt8.toNat ≠ some 48 := by
  intro u
  induction u using Nat.strongRecOn with
  | _ u ih =>
    intro hu
    rw [Lib.decDigits]
    split
    · rename_i h
      simp only [List.head?_cons, Option.map_some, dgc u h]
      intro e; injection e with e; omega
    · rename_i h
      have := ih (u / 10) (by omega) (by omega)
      cases hd : Lib.decDigits (u / 10) with
      | nil => exact absurd hd (dec_ne _)
      | cons a b => rw [hd] at this; exact this
theorem dig_app : ∀ (l r : List UInt8), (∀ c ∈ l, isDigitB c.toNat = true) → digL (l ++ r) = l.length + digL r
  | [], r, _ => by simp
  | c :: l, r, h => by
    simp only [List.cons_append, digL, List.length_cons]
    rw [if_pos (h c (List.mem_cons_self ..)), dig_app l r fun d hd => h d (List.mem_cons_of_mem _ hd)]
    omega
theorem num_dec {u : Nat} (hu : u ≤ 9223372036854775807) (big : Bool) (hb : big = false → u ≤ 2147483647) :
    numL (Lib.decDigits u ++ if big = true then [76] else []) = (big, (u : Int), (Lib.decDigits u ++ if big = true then [76] else []).length, true) := by
  have hd : digL (Lib.decDigits u ++ if big = true then [76] else []) = (Lib.decDigits u).length := by
    rw [dig_app _ _ (dec_digit u)]
    cases big <;> rfl
  have hp := parseN_ref (dec_ne u) (dec_digit u)
  rw [dec_ref u hu] at hp
  obtain ⟨hp, _⟩ := hp
  have ht : (Lib.decDigits u ++ if big = true then [76] else []).take (Lib.decDigits u).length = Lib.decDigits u := List.take_left
  have hdr : (Lib.decDigits u ++ if big = true then [76] else []).drop (Lib.decDigits u).length = if big = true then [76] else [] := List.drop_left
  have hh : (Lib.decDigits u ++ if big = true then [76] else []).head? = (Lib.decDigits u).head? := by
    cases he : Lib.decDigits u with
    | nil => exact absurd he (dec_ne u)
    | cons => rfl
  have hz : (decide ((Lib.decDigits u).head?.map UInt8.toNat ≠ some 48) || decide ((Lib.decDigits u).length = 1)) = true := by
    rcases Nat.eq_zero_or_pos u with rfl | h
    · rw [Lib.decDigits_one (by omega)]; rfl
    · rw [decide_eq_true (dec_head u h)]; rfl
  have hbig : decide (((if big = true then [76] else [] : List UInt8)).head?.map UInt8.toNat = some 76) = big := by cases big <;> rfl
  simp only [numL, hd, ht, hdr, hh, hp, hz, hbig]
  cases big with
  | true => simp; omega
  | false => have := hb rfl; simp; omega
theorem dig_first {c : UInt8} (h : isDigitB c.toNat = true) : isStartB c.toNat = false := by
  cases hs : isStartB c.toNat with
  | false => rfl
  | true => rw [start_nodig hs] at h; cases h
theorem tok_num {u : Nat} (hu : u ≤ 9223372036854775807) (big : Bool) (hb : big = false → u ≤ 2147483647) :
    tokL (Lib.decDigits u ++ if big = true then [76] else []) = some (if big = true then 4 else 3, [], (u : Int), (Lib.decDigits u ++ if big = true then [76] else []).length) := by
  have hn := num_dec hu big hb
  have hd := dec_digit u
  cases he : Lib.decDigits u with
  | nil => exact absurd he (dec_ne u)
  | cons c r =>
    rw [he] at hn hd
    have hc := hd c (List.mem_cons_self ..)
    rw [List.cons_append] at hn ⊢
    simp only [tokL]
    rw [if_neg (by rw [dig_first hc]; exact Bool.false_ne_true), if_pos hc, hn]
    simp

/-! Strings. -/
set_option maxRecDepth 20000 in
theorem hex_dig : ∀ n : Nat, n < 256 → hexI (hexL.getD (n / 16) 0) = (n / 16 : Nat) ∧ hexI (hexL.getD (n % 16) 0) = (n % 16 : Nat) := by decide
set_option maxRecDepth 20000 in
theorem u8_wrap : ∀ n : Nat, n < 256 → IntKind.u8.wrap (16 * ((n / 16 : Nat) : Int) + ((n % 16 : Nat) : Int)) = (n : Int) := by
  intro n h
  have e : (16 * ((n / 16 : Nat) : Int) + ((n % 16 : Nat) : Int)) = (n : Int) := by omega
  rw [e]
  exact (by decide : ∀ n : Nat, n < 256 → IntKind.u8.wrap (n : Int) = (n : Int)) n h
theorem of_self (c : UInt8) : UInt8.ofNat ((c.toNat : Int)).toNat = c := by
  rw [Int.toNat_natCast]; exact UInt8.ofNat_toNat
theorem step_esc (c : UInt8) (X s : List UInt8) (f : Nat) (hX : X.length < f → qScanF f X = some (s, X.length)) (hf : (escB c ++ X).length < f + 1) :
    qScanF (f + 1) (escB c ++ X) = some (c :: s, (escB c ++ X).length) := by
  have n34 : ¬ (92 : UInt8).toNat = 34 := by decide
  have nrg : ¬ ((92 : UInt8).toNat < 32 ∨ 126 < (92 : UInt8).toNat) := by decide
  have y92 : (92 : UInt8).toNat = 92 := rfl
  have gen : ∀ (Y : List UInt8) (k : Nat) (v : Int), escL (Y ++ X) = (k, v, true) → k = Y.length → UInt8.ofNat v.toNat = c → (92 :: (Y ++ X)).length < f + 1 → qScanF (f + 1) (92 :: (Y ++ X)) = some (c :: s, (92 :: (Y ++ X)).length) := by
    intro Y k v he hk hv hl
    simp only [qScanF]
    rw [if_neg n34, if_neg nrg, if_pos y92, he]
    simp only [if_true]
    rw [hk, List.drop_left, hX (by simp only [List.length_cons, List.length_append] at hl; omega)]
    simp only [Option.map_some, hv, List.length_cons, List.length_append, Option.some.injEq, Prod.mk.injEq, true_and]
    omega
  unfold escB at hf ⊢
  split
  · rename_i h
    rw [if_pos h] at hf
    exact gen [c] 1 c.toNat (by show escL (c :: X) = _; simp only [escL]; rw [if_pos h]) rfl (of_self c) hf
  · rename_i h
    rw [if_neg h] at hf
    split
    · rename_i h1
      rw [if_pos h1] at hf
      exact gen [110] 1 10 rfl rfl (UInt8.toNat_inj.1 (by rw [h1]; rfl)) hf
    · rename_i h1
      rw [if_neg h1] at hf
      split
      · rename_i h2
        rw [if_pos h2] at hf
        obtain ⟨e1, e2⟩ := hex_dig c.toNat c.toNat_lt
        refine gen [120, hexL.getD (c.toNat / 16) 0, hexL.getD (c.toNat % 16) 0] 3 c.toNat ?_ rfl (of_self c) hf
        show escL (120 :: hexL.getD (c.toNat / 16) 0 :: hexL.getD (c.toNat % 16) 0 :: X) = _
        simp only [escL]
        rw [if_neg (by decide), if_neg (by decide), if_pos (by decide), e1, e2, u8_wrap c.toNat c.toNat_lt]
        simp
        omega
      · rename_i h2
        rw [if_neg h2] at hf
        simp only [List.cons_append, List.nil_append, List.length_cons] at hf ⊢
        simp only [qScanF]
        rw [if_neg (fun e => h (.inl e)), if_neg h2, if_neg (fun e => h (.inr e)), hX (by omega)]
        simp only [Option.map_some, Option.some.injEq, Prod.mk.injEq, true_and]
        omega
theorem scan_esc : ∀ (s : List UInt8) (f : Nat), ((s.map escB).flatten ++ [34]).length < f → qScanF f ((s.map escB).flatten ++ [34]) = some (s, ((s.map escB).flatten ++ [34]).length)
  | [], f, hf => by
    cases f with
    | zero => exact absurd hf (Nat.not_lt_zero _)
    | succ f => rfl
  | c :: s, f, hf => by
    cases f with
    | zero => exact absurd hf (Nat.not_lt_zero _)
    | succ f =>
      have e0 : (((c :: s).map escB).flatten ++ [34]) = escB c ++ ((s.map escB).flatten ++ [34]) := by simp
      rw [e0] at hf ⊢
      exact step_esc c _ s f (scan_esc s f) hf
theorem tok_str {s : List UInt8} (h : s.length ≤ 1024) : tokL (escapedL s) = some (5, s, 0, (escapedL s).length) := by
  have e : escapedL s = 34 :: ((s.map escB).flatten ++ [34]) := rfl
  rw [e]
  simp only [tokL]
  rw [if_neg (by decide), if_neg (by decide), if_pos (by decide)]
  unfold qScan
  rw [scan_esc s _ (Nat.lt_succ_self _)]
  simp only [if_pos h, List.length_cons]
  rw [Nat.add_comm]
theorem tok_op : ∀ o ∈ signsL, o ≠ [] ∧ tokL o = some (6, o, 0, o.length) := by decide
/-- The text of a token is that token. -/
theorem fmt_tok {t : Tk} {x : List UInt8} (hI : I64 t.n) (h : fmtL t = some x) : x ≠ [] ∧ tokL x = some (t.k, t.s, t.n, x.length) := by
  obtain ⟨k, s, n, q⟩ := t
  simp only [fmtL] at h ⊢
  have hI : n ≤ 9223372036854775807 := hI.2
  split at h
  · rename_i hk
    split at h
    · rename_i hc
      obtain ⟨rfl, h2, h3⟩ := hc
      cases h
      rw [rep_one]
      have := tok_name h2
      rw [if_neg (by rw [h3]; exact Bool.false_ne_true)] at this
      rw [hk]; exact this
    · cases h
  · split at h
    · rename_i hk
      split at h
      · rename_i hc
        obtain ⟨rfl, h2⟩ := hc
        cases h
        have := tok_name (kw_name h2)
        rw [if_pos h2, kw_spell _ (List.contains_iff_mem.1 h2)] at this
        rw [hk]; exact this
      · cases h
    · split at h
      · rename_i hk
        split at h
        · rename_i hc
          obtain ⟨⟨rfl, h2⟩, h3⟩ := hc
          obtain ⟨u, rfl⟩ : ∃ u : Nat, n = u := ⟨n.toNat, by omega⟩
          cases h
          have := tok_num (u := u) (by omega) false (fun _ => by omega)
          rw [Lib.itoa_nonneg, hk]
          simp only [Bool.false_eq_true, if_false, List.append_nil] at this
          exact ⟨dec_ne u, this⟩
        · cases h
      · split at h
        · rename_i hk
          split at h
          · rename_i hc
            obtain ⟨rfl, h2⟩ := hc
            obtain ⟨u, rfl⟩ : ∃ u : Nat, n = u := ⟨n.toNat, by omega⟩
            cases h
            have := tok_num (u := u) (by omega) true (fun e => by cases e)
            rw [Lib.itoa_nonneg, hk]
            simp only [if_true] at this
            exact ⟨by simp, this⟩
          · cases h
        · split at h
          · rename_i hk
            split at h
            · rename_i hc
              obtain ⟨rfl, h2⟩ := hc
              cases h
              rw [hk]; exact ⟨by simp [escapedL], tok_str h2⟩
            · cases h
          · split at h
            · rename_i hk
              split at h
              · rename_i hc
                obtain ⟨rfl, h2⟩ := hc
                cases h
                rw [hk]; exact tok_op _ (List.contains_iff_mem.1 h2)
              · cases h
            · cases h
end Go.Proofs.YtmkifodpkcmgoaaDoor.E

/- lex, plain, part d: joined texts, comments, and what every token is. -/
set_option linter.unusedSimpArgs false
set_option linter.unusedVariables false
namespace Go.Proofs.YtmkifodpkcmgoaaDoor.E
open Go

theorem signs_head : ∀ o ∈ signsL, ∃ c r, o = c :: r ∧ c.toNat ≠ 9 ∧ c.toNat ≠ 10 ∧ c.toNat ≠ 13 ∧ c.toNat ≠ 32 ∧ (c.toNat = 47 → r = []) := by
  intro o ho
  have h : ∀ o ∈ signsL, (match o with | [] => false | c :: r => decide (c.toNat ≠ 9) && decide (c.toNat ≠ 10) && decide (c.toNat ≠ 13) && decide (c.toNat ≠ 32) && (decide (c.toNat ≠ 47) || decide (r = []))) = true := by decide
  have := h o ho
  cases o with
  | nil => cases this
  | cons c r =>
    simp only [Bool.and_eq_true, decide_eq_true_eq, Bool.or_eq_true] at this
    exact ⟨c, r, rfl, this.1.1.1.1, this.1.1.1.2, this.1.1.2, this.1.2, fun e => this.2.resolve_left fun h => h e⟩
theorem sign_head {c : UInt8} {r o : List UInt8} (h : signAt (c :: r) = some o) : ∃ o', o = c :: o' ∧ c.toNat ≠ 9 ∧ c.toNat ≠ 10 ∧ c.toNat ≠ 13 ∧ c.toNat ≠ 32 ∧ (c.toNat = 47 → o' = []) := by
  have h1 := List.find?_some h
  obtain ⟨d, o', rfl, h2⟩ := signs_head o (List.mem_of_find?_eq_some h)
  rw [hasPre_cons] at h1
  have : c = d := by simpa using (Bool.and_eq_true_iff.1 h1).1
  subst this
  exact ⟨o', rfl, h2⟩
/-- Where a token begins, nothing is skipped. -/
theorem skip_tok {x rest : List UInt8} {k : Int} {s : List UInt8} {n : Int} (hx : x ≠ []) (ht : tokL x = some (k, s, n, x.length)) (h : Stop rest) : skipW false (x ++ rest) = 0 := by
  cases x with
  | nil => exact absurd rfl hx
  | cons c r =>
    simp only [tokL] at ht
    have key : ¬ (c.toNat = 9 ∨ c.toNat = 10 ∨ c.toNat = 13 ∨ c.toNat = 32) ∧ ¬ (c.toNat = 47 ∧ (r ++ rest).head?.map UInt8.toNat = some 47) := by
      by_cases h1 : isStartB c.toNat = true
      · simp only [isStartB, Bool.or_eq_true, Bool.and_eq_true, decide_eq_true_eq] at h1
        exact ⟨by omega, by omega⟩
      · rw [if_neg h1] at ht
        by_cases h2 : isDigitB c.toNat = true
        · simp only [isDigitB, Bool.and_eq_true, decide_eq_true_eq] at h2
          exact ⟨by omega, by omega⟩
        · rw [if_neg h2] at ht
          by_cases h3 : c.toNat = 34
          · exact ⟨by omega, by omega⟩
          · rw [if_neg h3] at ht
            obtain ⟨o, ho, e⟩ := Option.map_eq_some_iff.1 ht
            obtain ⟨o', rfl, a1, a2, a3, a4, a5⟩ := sign_head ho
            refine ⟨by omega, fun hh => ?_⟩
            have h5 := a5 hh.1
            subst h5
            simp only [Prod.mk.injEq, List.length_cons, List.length_nil] at e
            have : r = [] := List.eq_nil_of_length_eq_zero (by omega)
            subst this
            rw [List.nil_append] at hh
            rcases h with rfl | ⟨d, r', rfl, rfl | rfl⟩
            · have := hh.2; simp at this
            · have := hh.2; simp at this
            · have := hh.2; simp at this
    rw [List.cons_append, skipW, if_neg key.1, if_neg key.2]
theorem join_cc (x y : List UInt8) (ys : List (List UInt8)) : Lib.join (x :: y :: ys) [32] = x ++ ([32] ++ Lib.join (y :: ys) [32]) := by simp [Lib.join]
theorem lexG_join : ∀ (ts : List Tk) (xs : List (List UInt8)) (f cnt pos : Nat) (sep : List UInt8), (sep = [] ∨ sep = [32]) → fmtsL ts = some xs → (∀ t ∈ ts, I64 t.n) → cnt + ts.length ≤ 5000 → ts.length < f →
    (lexG f cnt pos (sep ++ Lib.join xs [32])).2.2 = 0 ∧ sameL (lexG f cnt pos (sep ++ Lib.join xs [32])).1 ts = true
  | _, _, 0, _, _, _, _, _, _, _, hf => absurd hf (Nat.not_lt_zero _)
  | [], xs, f + 1, cnt, pos, sep, hs, hx, _, _, _ => by
    cases hx
    rcases hs with rfl | rfl
    · exact ⟨rfl, rfl⟩
    · exact ⟨rfl, rfl⟩
  | t :: r, xs, f + 1, cnt, pos, sep, hs, hx, hI, hc, hf => by
    simp only [fmtsL] at hx
    cases hxt : fmtL t with
    | none => rw [hxt] at hx; cases hx
    | some x =>
      rw [hxt] at hx
      cases hys : fmtsL r with
      | none => rw [hys] at hx; cases hx
      | some ys =>
        rw [hys] at hx
        cases hx
        obtain ⟨hne, htok⟩ := fmt_tok (hI t (List.mem_cons_self ..)) hxt
        obtain ⟨sep', hs', hj, hst⟩ : ∃ sep', (sep' = [] ∨ sep' = [32]) ∧ Lib.join (x :: ys) [32] = x ++ (sep' ++ Lib.join ys [32]) ∧ Stop (sep' ++ Lib.join ys [32]) := by
          cases ys with
          | nil => exact ⟨[], .inl rfl, by simp [Lib.join], .inl rfl⟩
          | cons y ys => exact ⟨[32], .inr rfl, by simp [Lib.join], .inr ⟨32, _, rfl, .inr rfl⟩⟩
        rw [hj]
        have ih := fun p => lexG_join r ys f (cnt + 1) p sep' hs' hys (fun t ht => hI t (List.mem_cons_of_mem _ ht)) (by simp only [List.length_cons] at hc; omega) (by simp only [List.length_cons] at hf; omega)
        have hk := skip_tok hne htok hst
        have hk2 : skipW false (sep ++ (x ++ (sep' ++ Lib.join ys [32]))) = sep.length := by
          rcases hs with rfl | rfl
          · exact hk
          · show skipW false (32 :: (x ++ (sep' ++ Lib.join ys [32]))) = 1
            rw [skipW, if_pos (by decide), hk]
        have hd : ∀ X : List UInt8, (sep ++ X).drop sep.length = X := fun X => List.drop_left
        have hd2 : (sep ++ (x ++ (sep' ++ Lib.join ys [32]))).drop (sep.length + x.length) = sep' ++ Lib.join ys [32] := by
          rw [← List.drop_drop, hd, List.drop_left]
        simp only [lexG, hk2, hd, hd2]
        rw [if_neg (by intro e; exact hne (List.append_eq_nil_iff.1 e).1), if_neg (by simp only [List.length_cons] at hc; omega), tok_stop hne hst (.inl (by rw [htok]; intro e; cases e)), htok]
        simp only
        rw [hd2]
        obtain ⟨i1, i2⟩ := ih (pos + sep.length + x.length)
        unfold consR
        rw [if_pos i1]
        exact ⟨rfl, by simp [sameL, i2]⟩
theorem join_count {xs : List (List UInt8)} (h : ∀ x ∈ xs, x ≠ []) : xs.length ≤ (Lib.join xs [32]).length := by
  induction xs with
  | nil => simp
  | cons x xs ih =>
    have hx : 1 ≤ x.length := by
      have := h x (List.mem_cons_self ..)
      cases x with
      | nil => exact absurd rfl this
      | cons => simp
    have ih := ih fun y hy => h y (List.mem_cons_of_mem _ hy)
    cases xs with
    | nil => simp [Lib.join]; omega
    | cons y ys =>
      rw [join_cc]
      simp only [List.length_append, List.length_cons, List.length_nil] at ih ⊢
      omega
theorem fmts_ne : ∀ {ts : List Tk} {xs : List (List UInt8)}, (∀ t ∈ ts, I64 t.n) → fmtsL ts = some xs → xs.length = ts.length ∧ ∀ x ∈ xs, x ≠ []
  | [], xs, _, h => by cases h; exact ⟨rfl, fun x hx => by cases hx⟩
  | t :: r, xs, hI, h => by
    simp only [fmtsL] at h
    cases hxt : fmtL t with
    | none => rw [hxt] at h; cases h
    | some x =>
      rw [hxt] at h
      cases hys : fmtsL r with
      | none => rw [hys] at h; cases h
      | some ys =>
        rw [hys] at h
        cases h
        obtain ⟨i1, i2⟩ := fmts_ne (fun t ht => hI t (List.mem_cons_of_mem _ ht)) hys
        refine ⟨by simp [i1], fun y hy => ?_⟩
        rcases List.mem_cons.1 hy with rfl | hy
        · exact (fmt_tok (hI t (List.mem_cons_self ..)) hxt).1
        · exact i2 y hy
/-- Joined tokens are the same tokens again. -/
theorem join_tok {ts : List Tk} (hI : ∀ t ∈ ts, I64 t.n) (h : (joinL ts).2 = 0) : ∃ ts', tokenizeL (joinL ts).1 = (ts', 0, 0) ∧ sameL ts' ts = true := by
  unfold joinL at h ⊢
  split at h
  · cases h
  · rename_i hl
    split at h
    · cases h
    · rename_i xs hx
      split at h
      · cases h
      · rename_i hj
        rw [if_neg hl]
        rw [if_neg hj]
        show ∃ ts', tokenizeL (Lib.join xs [32]) = (ts', 0, 0) ∧ sameL ts' ts = true
        rw [tokenize_eq (by omega)]
        obtain ⟨e1, e2⟩ := fmts_ne hI hx
        have e3 := join_count e2
        have := lexG_join ts xs ((Lib.join xs [32]).length + 1) 0 0 [] (.inl rfl) hx hI (by omega) (by omega)
        rw [List.nil_append] at this
        have hn := (lexG_norm ((Lib.join xs [32]).length + 1) 0 0 (Lib.join xs [32])).1 this.1
        exact ⟨_, Prod.ext rfl (Prod.ext hn this.1), this.2⟩

/-! A comment behind the text. -/
def sufL (rem : List UInt8) : List UInt8 := 10 :: 32 :: 47 :: 47 :: rem
theorem skip_rem : ∀ (rem : List UInt8), (∀ c ∈ rem, c ≠ 10) → skipW true rem = rem.length
  | [], _ => rfl
  | c :: r, h => by
    have h1 : ¬ c.toNat = 10 := fun e => h c (List.mem_cons_self ..) (UInt8.toNat_inj.1 e)
    rw [skipW, if_neg h1, skip_rem r fun d hd => h d (List.mem_cons_of_mem _ hd), List.length_cons, Nat.add_comm]
theorem skip_sufl (b : Bool) {rem : List UInt8} (h : ∀ c ∈ rem, c ≠ 10) : skipW b (sufL rem) = (sufL rem).length := by
  have e1 : skipW true (47 :: rem) = 1 + rem.length := by rw [skipW, if_neg (by decide), skip_rem rem h]
  have e2 : skipW false (47 :: 47 :: rem) = 1 + (1 + rem.length) := by rw [skipW, if_neg (by decide), if_pos ⟨by decide, rfl⟩, e1]
  have e3 : skipW false (32 :: 47 :: 47 :: rem) = 1 + (1 + (1 + rem.length)) := by rw [skipW, if_pos (by decide), e2]
  unfold sufL
  cases b with
  | true => rw [skipW, if_pos (by decide), e3]; simp only [List.length_cons]; omega
  | false => rw [skipW, if_pos (by decide), e3]; simp only [List.length_cons]; omega
theorem skip_suf {rem : List UInt8} (h : ∀ c ∈ rem, c ≠ 10) : ∀ (l : List UInt8) (b : Bool), (l.drop (skipW b l) = [] → skipW b (l ++ sufL rem) = (l ++ sufL rem).length) ∧ (l.drop (skipW b l) ≠ [] → skipW b (l ++ sufL rem) = skipW b l)
  | [], b => ⟨fun _ => skip_sufl b h, fun hh => absurd (by simp) hh⟩
  | c :: l, b => by
    have iht := skip_suf h l true
    have ihf := skip_suf h l false
    have one : ∀ k : Nat, (c :: l).drop (1 + k) = l.drop k := fun k => by rw [Nat.add_comm, List.drop_succ_cons]
    have go : ∀ b', ((l.drop (skipW b' l) = [] → skipW b' (l ++ sufL rem) = (l ++ sufL rem).length) ∧ (l.drop (skipW b' l) ≠ [] → skipW b' (l ++ sufL rem) = skipW b' l)) →
        ((c :: l).drop (1 + skipW b' l) = [] → 1 + skipW b' (l ++ sufL rem) = (c :: l ++ sufL rem).length) ∧ ((c :: l).drop (1 + skipW b' l) ≠ [] → 1 + skipW b' (l ++ sufL rem) = 1 + skipW b' l) := fun b' ih => by
      rw [one]
      exact ⟨fun e => by rw [ih.1 e, List.cons_append, List.length_cons, Nat.add_comm], fun e => by rw [ih.2 e]⟩
    cases b with
    | true =>
      simp only [List.cons_append, skipW]
      by_cases h1 : c.toNat = 10
      · simp only [if_pos h1]; exact go false ihf
      · simp only [if_neg h1]; exact go true iht
    | false =>
      have hh : ((l ++ sufL rem).head?.map UInt8.toNat = some 47) = (l.head?.map UInt8.toNat = some 47) := by
        cases l with
        | nil => simp [sufL]
        | cons => rfl
      simp only [List.cons_append, skipW, hh]
      by_cases h1 : c.toNat = 9 ∨ c.toNat = 10 ∨ c.toNat = 13 ∨ c.toNat = 32
      · simp only [if_pos h1]; exact go false ihf
      · simp only [if_neg h1]
        by_cases h2 : c.toNat = 47 ∧ l.head?.map UInt8.toNat = some 47
        · simp only [if_pos h2]; exact go true iht
        · simp only [if_neg h2]
          exact ⟨fun e => by simp at e, fun _ => trivial⟩
theorem lexG_suf {rem : List UInt8} (h : ∀ c ∈ rem, c ≠ 10) : ∀ (f cnt pos : Nat) (l : List UInt8), lexG f cnt pos (l ++ sufL rem) = lexG f cnt pos l
  | 0, _, _, _ => rfl
  | f + 1, cnt, pos, l => by
    obtain ⟨s1, s2⟩ := skip_suf h l false
    simp only [lexG]
    by_cases hd : l.drop (skipW false l) = []
    · rw [if_pos hd, s1 hd, if_pos List.drop_length]
    · have hst : Stop (sufL rem) := .inr ⟨10, _, rfl, .inl rfl⟩
      rw [if_neg hd, s2 hd, List.drop_append_of_le_length (skip_le _ _), if_neg (by intro e; exact hd (List.append_eq_nil_iff.1 e).1)]
      split
      · rfl
      · rw [tok_stop hd hst (.inr ⟨_, rfl⟩)]
        split
        · rfl
        · rename_i k t n len ht
          have hl := tokL_len ht
          rw [List.length_drop] at hl
          rw [List.drop_append_of_le_length (by omega), lexG_suf h f]
theorem comment_law {s rem : List UInt8} (hs : s.length ≤ 15000) (hr : rem.length ≤ 1000) (h : ∀ c ∈ rem, c ≠ 10) : tokenizeL (s ++ sufL rem) = tokenizeL s := by
  have hl : (s ++ sufL rem).length = s.length + rem.length + 4 := by simp [sufL]; omega
  rw [tokenize_eq (by omega), tokenize_eq (by omega), lexG_suf h]
  exact lexG_fuel _ _ _ _ _ (by omega) (by omega)
theorem white_law {s : List UInt8} (hs : s.length ≤ 15000) : (tokenizeL (32 :: 9 :: s)).2.2 = (tokenizeL s).2.2 ∧ sameL (tokenizeL (32 :: 9 :: s)).1 (tokenizeL s).1 = true ∧ ((tokenizeL s).2.2 = 0 → (tokenizeL (32 :: 9 :: s)).2.1 = 0 ∧ (tokenizeL s).2.1 = 0) := by
  rw [tokenize_eq (s := 32 :: 9 :: s) (by simp only [List.length_cons]; omega), tokenize_eq (s := s) (by omega), lexG_white]
  rw [lexG_fuel ((32 :: 9 :: s).length + 1) (s.length + 1) _ _ _ (by simp only [List.length_cons]; omega) (by omega)]
  obtain ⟨h1, h2⟩ := lexG_shift (s.length + 1) 0 (0 + 2) 0 s
  exact ⟨h1, h2, fun e => ⟨(lexG_norm _ _ _ _).1 (h1.trans e), (lexG_norm _ _ _ _).1 e⟩⟩
/-! Every token that is read can be written. -/
theorem num_ok {l : List UInt8} (hne : l.take (digL l) ≠ []) (h : (numL l).2.2.2 = true) : ∃ v : Nat, (numL l).2.1 = v ∧ v ≤ 9223372036854775807 ∧ ((numL l).1 = false → v ≤ 2147483647) := by
  have hp := parseN_ref hne (dig_all l)
  simp only [numL, Bool.and_eq_true, decide_eq_true_eq, decide_eq_false_iff_not] at h ⊢
  cases hr : refDig 0 (l.take (digL l)) with
  | none => rw [hr] at hp; rw [hp] at h; exact absurd h.1.1 Bool.false_ne_true
  | some v =>
    rw [hr] at hp
    obtain ⟨hp, hv⟩ := hp
    rw [hp] at h ⊢
    refine ⟨v, rfl, hv, fun hb => ?_⟩
    have := h.1.2
    rw [if_neg hb] at this
    have this : (v : Int) ≤ 2147483647 := this
    omega
theorem tok_valid {l : List UInt8} {k : Int} {s : List UInt8} {n : Int} {len : Nat} (h : tokL l = some (k, s, n, len)) (q : Int) : fmtL ⟨k, s, n, q⟩ ≠ none ∧ s.length ≤ 1024 ∧ I64 n := by
  cases l with
  | nil => cases h
  | cons c r =>
    simp only [tokL] at h
    split at h
    · split at h
      · rename_i hn
        simp only [Option.some.injEq, Prod.mk.injEq] at h
        obtain ⟨rfl, rfl, rfl, _⟩ := h
        have hl : (idS (c :: r)).length ≤ 64 := by unfold isName at hn; exact of_decide_eq_true (Bool.and_eq_true_iff.1 hn).1
        refine ⟨?_, by omega, by unfold I64; omega⟩
        cases hk : keywordsL.contains (idS (c :: r)) with
        | true => have hm := List.contains_iff_mem.1 hk; simp [fmtL, hm]
        | false =>
          have hm : ¬ idS (c :: r) ∈ keywordsL := fun h => by rw [List.contains_iff_mem.2 h] at hk; cases hk
          simp [fmtL, hm, hn]
      · cases h
    · split at h
      · rename_i hd
        split at h
        · rename_i hn
          simp only [Option.some.injEq, Prod.mk.injEq] at h
          obtain ⟨rfl, rfl, rfl, _⟩ := h
          have hne : (c :: r).take (digL (c :: r)) ≠ [] := by
            simp only [digL]; rw [if_pos hd, Nat.add_comm, List.take_succ_cons]; exact List.cons_ne_nil _ _
          obtain ⟨v, e1, e2, e3⟩ := num_ok hne hn
          rw [e1]
          refine ⟨?_, Nat.zero_le _, by unfold I64; omega⟩
          cases hB : (numL (c :: r)).1 with
          | true => simp [fmtL]
          | false => have := e3 hB; simp [fmtL]; omega
        · cases h
      · split at h
        · split at h
          · split at h
            · rename_i hb
              simp only [Option.some.injEq, Prod.mk.injEq] at h
              obtain ⟨rfl, rfl, rfl, _⟩ := h
              exact ⟨by simp [fmtL, hb], hb, by unfold I64; omega⟩
            · cases h
          · cases h
        · obtain ⟨o, ho, e⟩ := Option.map_eq_some_iff.1 h
          simp only [Prod.mk.injEq] at e
          obtain ⟨rfl, rfl, rfl, _⟩ := e
          have hm := List.mem_of_find?_eq_some ho
          have h1 : ∀ o ∈ signsL, o.length ≤ 3 := by decide
          have := h1 _ hm
          exact ⟨by simp [fmtL, hm], by omega, by unfold I64; omega⟩
theorem kw_no47 : ∀ s ∈ keywordsL, ∀ c ∈ s, c ≠ 47 := by decide
/-- Keywords and operators stand in the text as they are. -/
theorem tok_text {l : List UInt8} {k : Int} {s : List UInt8} {n : Int} {len : Nat} (h : tokL l = some (k, s, n, len)) (hk : k = 6 ∨ k = 2) : ∃ r, l = s ++ r := by
  cases l with
  | nil => cases h
  | cons c r =>
    simp only [tokL] at h
    split at h
    · split at h
      · simp only [Option.some.injEq, Prod.mk.injEq] at h
        obtain ⟨rfl, rfl, rfl, _⟩ := h
        cases hkw : keywordsL.contains (idS (c :: r)) with
        | false => rw [hkw] at hk; simp at hk
        | true =>
          have hm := kw_no47 _ (List.contains_iff_mem.1 hkw)
          have he := idS_eq (c :: r)
          have ht : idTF ((c :: r).length + 1) ((c :: r).drop (partL true (c :: r))) = [] := by
            simp only [idTF]
            split
            · rename_i hc
              exfalso
              refine hm 47 ?_ rfl
              rw [he]
              simp only [idTF]
              rw [if_pos hc]
              exact List.mem_append_right _ (List.mem_cons_self ..)
            · rfl
          rw [ht, List.append_nil] at he
          exact ⟨(c :: r).drop (partL true (c :: r)), by rw [he, List.take_append_drop]⟩
      · cases h
    · split at h
      · split at h
        · simp only [Option.some.injEq, Prod.mk.injEq] at h
          obtain ⟨rfl, _⟩ := h
          split at hk <;> omega
        · cases h
      · split at h
        · split at h
          · split at h
            · simp only [Option.some.injEq, Prod.mk.injEq] at h
              omega
            · cases h
          · cases h
        · obtain ⟨o, ho, e⟩ := Option.map_eq_some_iff.1 h
          simp only [Prod.mk.injEq] at e
          obtain ⟨rfl, rfl, rfl, _⟩ := e
          exact hasPre_iff.1 (List.find?_some ho)
/-- What a token that was read is. -/
structure TkIn (s : List UInt8) (t : Tk) : Prop where
  lo : 0 ≤ t.at_
  hi : t.at_ < s.length
  fmt : fmtL t ≠ none
  ok : TkOk t
  text : t.k = 6 ∨ t.k = 2 → ∃ r, s.drop t.at_.toNat = t.s ++ r
theorem tok_in {s : List UInt8} : ∀ t ∈ (tokenizeL s).1, TkIn s t := by
  intro t ht
  by_cases hs : s.length ≤ 20000
  · rw [tokenize_eq hs] at ht
    obtain ⟨q, e, h1, h2, len, h3⟩ := lexG_all s (s.length + 1) 0 0 t ht
    obtain ⟨v1, v2, v3⟩ := tok_valid h3 t.at_
    refine ⟨by omega, by omega, v1, ⟨by omega, v3⟩, fun hk => ?_⟩
    rw [e, Int.toNat_natCast]
    exact tok_text h3 hk
  · have e : tokenizeL s = ([], 0, 8) := if_pos (by omega)
    rw [e] at ht; cases ht
theorem tok_grow (s : List UInt8) : grow 0 (tokenizeL s).1 := by
  by_cases hs : s.length ≤ 20000
  · rw [tokenize_eq hs]; exact lexG_grow _ _ _ _
  · have e : tokenizeL s = ([], 0, 8) := if_pos (by omega)
    rw [e]; trivial
theorem grow_at : ∀ {l : List Tk} {b : Int} {i : Nat} (_ : grow b l) (h : i + 1 < l.length), (l[i]'(by omega)).at_ < l[i + 1].at_
  | [], _, _, _, h => absurd h (Nat.not_lt_zero _)
  | [_], _, _, _, h => by simp at h
  | a :: b :: l, _, 0, hg, _ => by have := hg.2.1; show a.at_ < b.at_; omega
  | a :: b :: l, _, i + 1, hg, h => grow_at (l := b :: l) (i := i) hg.2 (by simpa using h)
theorem fmts_some : ∀ {ts : List Tk}, (∀ t ∈ ts, fmtL t ≠ none) → ∃ xs, fmtsL ts = some xs
  | [], _ => ⟨[], rfl⟩
  | t :: r, h => by
    obtain ⟨ys, hy⟩ := fmts_some fun t ht => h t (List.mem_cons_of_mem _ ht)
    cases hx : fmtL t with
    | none => exact absurd hx (h t (List.mem_cons_self ..))
    | some x => exact ⟨x :: ys, by simp only [fmtsL, hx, hy]⟩
/-- What was read can be written again, if it is not too long. -/
theorem tok_join (s : List UInt8) : (joinL (tokenizeL s).1).2 = 0 ∨ (joinL (tokenizeL s).1).2 = 8 := by
  obtain ⟨xs, hx⟩ := fmts_some fun t ht => (tok_in (s := s) t ht).fmt
  unfold joinL
  rw [if_neg (by have := tok_few s; omega), hx]
  simp only
  split
  · exact .inr rfl
  · exact .inl rfl
/-- An error's place. -/
theorem lexG_bad (s : List UInt8) : ∀ (f cnt pos : Nat), 0 ≤ (lexG f cnt pos (s.drop pos)).2.1 ∧ ((lexG f cnt pos (s.drop pos)).2.2 = 70 → (lexG f cnt pos (s.drop pos)).2.1 < s.length)
  | 0, _, _ => ⟨by simp [lexG], by simp [lexG]⟩
  | f + 1, cnt, pos => by
    simp only [lexG]
    split
    · exact ⟨by simp, by simp⟩
    · rename_i hne
      have hlt : pos + skipW false (s.drop pos) < s.length := by
        rcases Nat.lt_or_ge (pos + skipW false (s.drop pos)) s.length with h | h
        · exact h
        · exact absurd (by rw [List.drop_drop]; exact List.drop_eq_nil_of_le h) hne
      split
      · exact ⟨by simp, by simp⟩
      · split
        · exact ⟨by show (0 : Int) ≤ ((pos + skipW false (s.drop pos) : Nat) : Int); omega, fun _ => by show ((pos + skipW false (s.drop pos) : Nat) : Int) < s.length; omega⟩
        · rename_i k t n len ht
          have ih := lexG_bad s f (cnt + 1) (pos + skipW false (s.drop pos) + len)
          rw [List.drop_drop, ← Nat.add_assoc]
          unfold consR
          split
          · exact ⟨ih.1, fun e => by simp at e⟩
          · exact ih
theorem tok_bad (s : List UInt8) : 0 ≤ (tokenizeL s).2.1 ∧ ((tokenizeL s).2.2 = 70 → (tokenizeL s).2.1 < s.length) ∧ ((tokenizeL s).2.2 ≠ 0 → (tokenizeL s).1 = []) := by
  by_cases hs : s.length ≤ 20000
  · rw [tokenize_eq hs]
    have := lexG_bad s (s.length + 1) 0 0
    exact ⟨this.1, this.2, (lexG_norm _ _ _ _).2⟩
  · have e : tokenizeL s = ([], 0, 8) := if_pos (by omega)
    rw [e]; exact ⟨by simp, by simp, fun _ => rfl⟩
end Go.Proofs.YtmkifodpkcmgoaaDoor.E

/- lex, part Z: the statement on joined tokens. -/
set_option linter.unusedSimpArgs false
set_option linter.unusedVariables false
namespace Go.Proofs.YtmkifodpkcmgoaaDoor.E
open Go

theorem join_cases (ts : List Tk) : (∃ e, e ≠ 0 ∧ joinL ts = ([], e)) ∨ ∃ x, x.length ≤ 20000 ∧ joinL ts = (x, 0) := by
  unfold joinL
  split
  · exact .inl ⟨5, by decide, rfl⟩
  · split
    · exact .inl ⟨1, by decide, rfl⟩
    · split
      · exact .inl ⟨8, by decide, rfl⟩
      · exact .inr ⟨_, by omega, rfl⟩
theorem join_err {ts : List Tk} (h : (joinL ts).2 ≠ 0) : (joinL ts).1 = [] := by
  rcases join_cases ts with ⟨e, _, h1⟩ | ⟨x, _, h1⟩
  · rw [h1]
  · rw [h1] at h; exact absurd rfl h
theorem join_short {ts : List Tk} : (joinL ts).1.length ≤ 20000 := by
  rcases join_cases ts with ⟨e, _, h1⟩ | ⟨x, h2, h1⟩
  · rw [h1]; exact Nat.zero_le _
  · rw [h1]; exact h2
set_option maxHeartbeats 4000000 in
set_option maxRecDepth 20000 in
theorem law4_spec (ts : List Tk) (a : Option Addr) (n c : Nat) (m : Mem) (hg : Glob m) (h : Rds m a n 4 (tkCells ts)) (ht : ∀ t ∈ ts, TkOk t) (hn : n ≤ 4611686018427387904) :
    FnH Tryd.prog 4 [.v (.slice a n c)] ⟨[], []⟩ m fun r H' m' => r = .v (.bool true) ∧ H' = ⟨[], []⟩ := by
  have hf := few_spec ts a n c m h hn
  cases hfew : fewL ts with
  | false =>
    rw [hfew] at hf
    refine enter cf6 pu6 Tryd.func4 rfl rfl (by kernel_rfl) rfl ?_ ?_
    · simp only [go_sem, ↓reduceIte, or_true, or_false, true_or, false_or, Option.some.injEq, exists_eq_left, exists_eq_left', Nat.reduceBEq, Nat.reduceAdd, Nat.reduceMul, Nat.reduceSub, Nat.reduceEqDiff, Nat.reduceLT, Nat.reduceLeDiff, Option.map, Option.bind, List.map, List.length, true_implies, true_and, and_true, Bool.and_true, Bool.true_and, Bool.or_false, Bool.false_or, Bool.not_true, Bool.not_false, Bool.and_false, Bool.false_and, List.cons_append, List.nil_append, List.append_nil, mk_eq_bs, tl_bs, List.getElem?_cons_zero, List.getElem?_cons_succ, eq_self, reduceCtorEq, implies_true, false_implies, decide_eq_true_eq, decide_eq_false_iff_not, Bool.and_eq_true, Bool.or_eq_true, Bool.not_eq_true', Bool.and_eq_false_iff, Bool.or_eq_false_iff, Bool.not_eq_false', Option.toList, SV.v.injEq, Value.int.injEq, Value.bool.injEq, Value.string.injEq, Option.getD, List.contains_cons, List.contains_nil, beq_self_eq_true, Nat.max_def, List.set, List.drop, List.take, Int.toNat_natCast, Nat.mul_one, Int.toNat_zero, List.drop_zero, Bx.mk.injEq, Vc.mk.injEq, List.cons.injEq, List.take_length, List.getElem?_nil, List.getD_cons_zero, List.getD_cons_succ, Int.reduceToNat, not_false_eq_true, Nat.le_refl]
    · simp only [go_sem, ↓reduceIte, or_true, or_false, true_or, false_or, Option.some.injEq, exists_eq_left, exists_eq_left', Nat.reduceBEq, Nat.reduceAdd, Nat.reduceMul, Nat.reduceSub, Nat.reduceEqDiff, Nat.reduceLT, Nat.reduceLeDiff, Option.map, Option.bind, List.map, List.length, true_implies, true_and, and_true, Bool.and_true, Bool.true_and, Bool.or_false, Bool.false_or, Bool.not_true, Bool.not_false, Bool.and_false, Bool.false_and, List.cons_append, List.nil_append, List.append_nil, mk_eq_bs, tl_bs, List.getElem?_cons_zero, List.getElem?_cons_succ, eq_self, reduceCtorEq, implies_true, false_implies, decide_eq_true_eq, decide_eq_false_iff_not, Bool.and_eq_true, Bool.or_eq_true, Bool.not_eq_true', Bool.and_eq_false_iff, Bool.or_eq_false_iff, Bool.not_eq_false', Option.toList, SV.v.injEq, Value.int.injEq, Value.bool.injEq, Value.string.injEq, Option.getD, List.contains_cons, List.contains_nil, beq_self_eq_true, Nat.max_def, List.set, List.drop, List.take, Int.toNat_natCast, Nat.mul_one, Int.toNat_zero, List.drop_zero, Bx.mk.injEq, Vc.mk.injEq, List.cons.injEq, List.take_length, List.getElem?_nil, List.getD_cons_zero, List.getD_cons_succ, Int.reduceToNat, not_false_eq_true, Nat.le_refl]
      refine ⟨by kernel_rfl, FnV_of (hf.mono ?_)⟩
      rintro r H' m1 hm1 ⟨rfl, rfl⟩
      simp only [go_sem, ↓reduceIte, or_true, or_false, true_or, false_or, Option.some.injEq, exists_eq_left, exists_eq_left', Nat.reduceBEq, Nat.reduceAdd, Nat.reduceMul, Nat.reduceSub, Nat.reduceEqDiff, Nat.reduceLT, Nat.reduceLeDiff, Option.map, Option.bind, List.map, List.length, true_implies, true_and, and_true, Bool.and_true, Bool.true_and, Bool.or_false, Bool.false_or, Bool.not_true, Bool.not_false, Bool.and_false, Bool.false_and, List.cons_append, List.nil_append, List.append_nil, mk_eq_bs, tl_bs, List.getElem?_cons_zero, List.getElem?_cons_succ, eq_self, reduceCtorEq, implies_true, false_implies, decide_eq_true_eq, decide_eq_false_iff_not, Bool.and_eq_true, Bool.or_eq_true, Bool.not_eq_true', Bool.and_eq_false_iff, Bool.or_eq_false_iff, Bool.not_eq_false', Option.toList, SV.v.injEq, Value.int.injEq, Value.bool.injEq, Value.string.injEq, Option.getD, List.contains_cons, List.contains_nil, beq_self_eq_true, Nat.max_def, List.set, List.drop, List.take, Int.toNat_natCast, Nat.mul_one, Int.toNat_zero, List.drop_zero, Bx.mk.injEq, Vc.mk.injEq, List.cons.injEq, List.take_length, List.getElem?_nil, List.getD_cons_zero, List.getD_cons_succ, Int.reduceToNat, not_false_eq_true, Nat.le_refl]
      refine ⟨by kernel_rfl, FnV_of ((awake_spec m1 (hg.up hm1)).mono ?_)⟩
      rintro r H' m2 hm2 ⟨rfl, rfl⟩
      simp only [go_sem, ↓reduceIte, or_true, or_false, true_or, false_or, Option.some.injEq, exists_eq_left, exists_eq_left', Nat.reduceBEq, Nat.reduceAdd, Nat.reduceMul, Nat.reduceSub, Nat.reduceEqDiff, Nat.reduceLT, Nat.reduceLeDiff, Option.map, Option.bind, List.map, List.length, true_implies, true_and, and_true, Bool.and_true, Bool.true_and, Bool.or_false, Bool.false_or, Bool.not_true, Bool.not_false, Bool.and_false, Bool.false_and, List.cons_append, List.nil_append, List.append_nil, mk_eq_bs, tl_bs, List.getElem?_cons_zero, List.getElem?_cons_succ, eq_self, reduceCtorEq, implies_true, false_implies, decide_eq_true_eq, decide_eq_false_iff_not, Bool.and_eq_true, Bool.or_eq_true, Bool.not_eq_true', Bool.and_eq_false_iff, Bool.or_eq_false_iff, Bool.not_eq_false', Option.toList, SV.v.injEq, Value.int.injEq, Value.bool.injEq, Value.string.injEq, Option.getD, List.contains_cons, List.contains_nil, beq_self_eq_true, Nat.max_def, List.set, List.drop, List.take, Int.toNat_natCast, Nat.mul_one, Int.toNat_zero, List.drop_zero, Bx.mk.injEq, Vc.mk.injEq, List.cons.injEq, List.take_length, List.getElem?_nil, List.getD_cons_zero, List.getD_cons_succ, Int.reduceToNat, not_false_eq_true, Nat.le_refl]
  | true =>
    rw [hfew] at hf
    have hjs := fun m hg h => joinT_spec ts a n c m hg h ht hn
    have he := @join_err ts
    have hok : (joinL ts).2 = 0 → _ := join_tok fun t hh => (ht t hh).2
    have hsh := @join_short ts
    rcases hj : joinL ts with ⟨x, e⟩
    rw [hj] at he hok hsh
    simp only [hj] at hjs
    simp only at he hok hsh
    by_cases h0 : e = 0
    · subst h0
      obtain ⟨ts', htk, hsame⟩ := hok rfl
      have h8 : ∀ m, Glob m → FnH Tryd.prog 8 [.v (.string (bs x))] ⟨[], []⟩ m fun r H' m' => leM m m' ∧ ∃ k u, r = .tup [.vec k u, .v (.int .i64 0), .v (.int .i64 0)] ∧ H' = ⟨[], [⟨k, u, 27, 4, ts'.length, tkCells ts'⟩]⟩ := fun m hg =>
        (tokenize_spec x m hg (by omega)).mono fun r H' m' _ h => by rw [htk] at h; exact ⟨h.1, ROut_ok h.2⟩
      have hn' : ts'.length ≤ 5000 := by have := tok_few x; rw [htk] at this; exact this
      have h13 : ∀ m b cb, Rds m a n 4 (tkCells ts) → Rds m b ts'.length 4 (tkCells ts') → FnH Tryd.prog 13 [.v (.slice b ts'.length cb), .v (.slice a n c)] ⟨[], []⟩ m fun r H' m' => r = .v (.bool true) ∧ H' = ⟨[], []⟩ := fun m b cb h1 h2 =>
        (same_spec ts' ts b a ts'.length cb n c m h2 h1 (by omega)).mono fun r H' m' _ h => by rw [hsame] at h; exact h
      clear he hok hsh htk
      refine enter cf6 pu6 Tryd.func4 rfl rfl (by kernel_rfl) rfl ?_ ?_
      · simp only [go_sem, ↓reduceIte, or_true, or_false, true_or, false_or, Option.some.injEq, exists_eq_left, exists_eq_left', Nat.reduceBEq, Nat.reduceAdd, Nat.reduceMul, Nat.reduceSub, Nat.reduceEqDiff, Nat.reduceLT, Nat.reduceLeDiff, Option.map, Option.bind, List.map, List.length, true_implies, true_and, and_true, Bool.and_true, Bool.true_and, Bool.or_false, Bool.false_or, Bool.not_true, Bool.not_false, Bool.and_false, Bool.false_and, List.cons_append, List.nil_append, List.append_nil, mk_eq_bs, tl_bs, List.getElem?_cons_zero, List.getElem?_cons_succ, eq_self, reduceCtorEq, implies_true, false_implies, decide_eq_true_eq, decide_eq_false_iff_not, Bool.and_eq_true, Bool.or_eq_true, Bool.not_eq_true', Bool.and_eq_false_iff, Bool.or_eq_false_iff, Bool.not_eq_false', Option.toList, SV.v.injEq, Value.int.injEq, Value.bool.injEq, Value.string.injEq, Option.getD, List.contains_cons, List.contains_nil, beq_self_eq_true, Nat.max_def, List.set, List.drop, List.take, Int.toNat_natCast, Nat.mul_one, Int.toNat_zero, List.drop_zero, Bx.mk.injEq, Vc.mk.injEq, List.cons.injEq, List.take_length, List.getElem?_nil, List.getD_cons_zero, List.getD_cons_succ, Int.reduceToNat, not_false_eq_true, Nat.le_refl]
      · simp only [go_sem, ↓reduceIte, or_true, or_false, true_or, false_or, Option.some.injEq, exists_eq_left, exists_eq_left', Nat.reduceBEq, Nat.reduceAdd, Nat.reduceMul, Nat.reduceSub, Nat.reduceEqDiff, Nat.reduceLT, Nat.reduceLeDiff, Option.map, Option.bind, List.map, List.length, true_implies, true_and, and_true, Bool.and_true, Bool.true_and, Bool.or_false, Bool.false_or, Bool.not_true, Bool.not_false, Bool.and_false, Bool.false_and, List.cons_append, List.nil_append, List.append_nil, mk_eq_bs, tl_bs, List.getElem?_cons_zero, List.getElem?_cons_succ, eq_self, reduceCtorEq, implies_true, false_implies, decide_eq_true_eq, decide_eq_false_iff_not, Bool.and_eq_true, Bool.or_eq_true, Bool.not_eq_true', Bool.and_eq_false_iff, Bool.or_eq_false_iff, Bool.not_eq_false', Option.toList, SV.v.injEq, Value.int.injEq, Value.bool.injEq, Value.string.injEq, Option.getD, List.contains_cons, List.contains_nil, beq_self_eq_true, Nat.max_def, List.set, List.drop, List.take, Int.toNat_natCast, Nat.mul_one, Int.toNat_zero, List.drop_zero, Bx.mk.injEq, Vc.mk.injEq, List.cons.injEq, List.take_length, List.getElem?_nil, List.getD_cons_zero, List.getD_cons_succ, Int.reduceToNat, not_false_eq_true, Nat.le_refl]
        refine ⟨by kernel_rfl, FnV_of (hf.mono ?_)⟩
        rintro r H' m1 hm1 ⟨rfl, rfl⟩
        simp only [go_sem, ↓reduceIte, or_true, or_false, true_or, false_or, Option.some.injEq, exists_eq_left, exists_eq_left', Nat.reduceBEq, Nat.reduceAdd, Nat.reduceMul, Nat.reduceSub, Nat.reduceEqDiff, Nat.reduceLT, Nat.reduceLeDiff, Option.map, Option.bind, List.map, List.length, true_implies, true_and, and_true, Bool.and_true, Bool.true_and, Bool.or_false, Bool.false_or, Bool.not_true, Bool.not_false, Bool.and_false, Bool.false_and, List.cons_append, List.nil_append, List.append_nil, mk_eq_bs, tl_bs, List.getElem?_cons_zero, List.getElem?_cons_succ, eq_self, reduceCtorEq, implies_true, false_implies, decide_eq_true_eq, decide_eq_false_iff_not, Bool.and_eq_true, Bool.or_eq_true, Bool.not_eq_true', Bool.and_eq_false_iff, Bool.or_eq_false_iff, Bool.not_eq_false', Option.toList, SV.v.injEq, Value.int.injEq, Value.bool.injEq, Value.string.injEq, Option.getD, List.contains_cons, List.contains_nil, beq_self_eq_true, Nat.max_def, List.set, List.drop, List.take, Int.toNat_natCast, Nat.mul_one, Int.toNat_zero, List.drop_zero, Bx.mk.injEq, Vc.mk.injEq, List.cons.injEq, List.take_length, List.getElem?_nil, List.getD_cons_zero, List.getD_cons_succ, Int.reduceToNat, not_false_eq_true, Nat.le_refl]
        refine ⟨by kernel_rfl, FnV_of ((hjs m1 (hg.up hm1) (Rds_up hm1 h)).mono ?_)⟩
        rintro r H' m2 hm2 ⟨hle2, rfl, rfl⟩
        simp only [go_sem, ↓reduceIte, or_true, or_false, true_or, false_or, Option.some.injEq, exists_eq_left, exists_eq_left', Nat.reduceBEq, Nat.reduceAdd, Nat.reduceMul, Nat.reduceSub, Nat.reduceEqDiff, Nat.reduceLT, Nat.reduceLeDiff, Option.map, Option.bind, List.map, List.length, true_implies, true_and, and_true, Bool.and_true, Bool.true_and, Bool.or_false, Bool.false_or, Bool.not_true, Bool.not_false, Bool.and_false, Bool.false_and, List.cons_append, List.nil_append, List.append_nil, mk_eq_bs, tl_bs, List.getElem?_cons_zero, List.getElem?_cons_succ, eq_self, reduceCtorEq, implies_true, false_implies, decide_eq_true_eq, decide_eq_false_iff_not, Bool.and_eq_true, Bool.or_eq_true, Bool.not_eq_true', Bool.and_eq_false_iff, Bool.or_eq_false_iff, Bool.not_eq_false', Option.toList, SV.v.injEq, Value.int.injEq, Value.bool.injEq, Value.string.injEq, Option.getD, List.contains_cons, List.contains_nil, beq_self_eq_true, Nat.max_def, List.set, List.drop, List.take, Int.toNat_natCast, Nat.mul_one, Int.toNat_zero, List.drop_zero, Bx.mk.injEq, Vc.mk.injEq, List.cons.injEq, List.take_length, List.getElem?_nil, List.getD_cons_zero, List.getD_cons_succ, Int.reduceToNat, not_false_eq_true, Nat.le_refl]
        have hg2 := (hg.up hm1).up hm2
        refine ⟨fun h => absurd trivial h, by kernel_rfl, FnV_of ((h8 m2 hg2).mono ?_)⟩
        rintro r H' m3 hm3 ⟨hle3, k, u, rfl, rfl⟩
        simp only [go_sem, ↓reduceIte, or_true, or_false, true_or, false_or, Option.some.injEq, exists_eq_left, exists_eq_left', Nat.reduceBEq, Nat.reduceAdd, Nat.reduceMul, Nat.reduceSub, Nat.reduceEqDiff, Nat.reduceLT, Nat.reduceLeDiff, Option.map, Option.bind, List.map, List.length, true_implies, true_and, and_true, Bool.and_true, Bool.true_and, Bool.or_false, Bool.false_or, Bool.not_true, Bool.not_false, Bool.and_false, Bool.false_and, List.cons_append, List.nil_append, List.append_nil, mk_eq_bs, tl_bs, List.getElem?_cons_zero, List.getElem?_cons_succ, eq_self, reduceCtorEq, implies_true, false_implies, decide_eq_true_eq, decide_eq_false_iff_not, Bool.and_eq_true, Bool.or_eq_true, Bool.not_eq_true', Bool.and_eq_false_iff, Bool.or_eq_false_iff, Bool.not_eq_false', Option.toList, SV.v.injEq, Value.int.injEq, Value.bool.injEq, Value.string.injEq, Option.getD, List.contains_cons, List.contains_nil, beq_self_eq_true, Nat.max_def, List.set, List.drop, List.take, Int.toNat_natCast, Nat.mul_one, Int.toNat_zero, List.drop_zero, Bx.mk.injEq, Vc.mk.injEq, List.cons.injEq, List.take_length, List.getElem?_nil, List.getD_cons_zero, List.getD_cons_succ, Int.reduceToNat, not_false_eq_true, Nat.le_refl]
        have hk1 : 0 + k < 0 + (k + 1) := by clear hjs h8 h13 hf; omega
        have hk : (if k < 0 then False else True) := by simp
        refine ⟨⟨hk, hk, hk1⟩, hk1, hk1, hk1, hk1, by kernel_rfl, FnV_of ((awake_spec m3 (hg2.up hm3)).mono ?_)⟩
        rintro r H' m4 hm4 ⟨rfl, rfl⟩
        simp only [go_sem, ↓reduceIte, or_true, or_false, true_or, false_or, Option.some.injEq, exists_eq_left, exists_eq_left', Nat.reduceBEq, Nat.reduceAdd, Nat.reduceMul, Nat.reduceSub, Nat.reduceEqDiff, Nat.reduceLT, Nat.reduceLeDiff, Option.map, Option.bind, List.map, List.length, true_implies, true_and, and_true, Bool.and_true, Bool.true_and, Bool.or_false, Bool.false_or, Bool.not_true, Bool.not_false, Bool.and_false, Bool.false_and, List.cons_append, List.nil_append, List.append_nil, mk_eq_bs, tl_bs, List.getElem?_cons_zero, List.getElem?_cons_succ, eq_self, reduceCtorEq, implies_true, false_implies, decide_eq_true_eq, decide_eq_false_iff_not, Bool.and_eq_true, Bool.or_eq_true, Bool.not_eq_true', Bool.and_eq_false_iff, Bool.or_eq_false_iff, Bool.not_eq_false', Option.toList, SV.v.injEq, Value.int.injEq, Value.bool.injEq, Value.string.injEq, Option.getD, List.contains_cons, List.contains_nil, beq_self_eq_true, Nat.max_def, List.set, List.drop, List.take, Int.toNat_natCast, Nat.mul_one, Int.toNat_zero, List.drop_zero, Bx.mk.injEq, Vc.mk.injEq, List.cons.injEq, List.take_length, List.getElem?_nil, List.getD_cons_zero, List.getD_cons_succ, Int.reduceToNat, not_false_eq_true, Nat.le_refl]
        refine ⟨hk1, ⟨by kernel_rfl, fun b cb m5 hm5 _ hrd => FnV_of ((h13 m5 b cb (Rds_up hm5 (Rds_up hm4 (Rds_up hm3 (Rds_up hm2 (Rds_up hm1 h))))) hrd).mono ?_)⟩, fun h => by simp at h⟩
        rintro r H' m6 hm6 ⟨rfl, rfl⟩
        simp only [go_sem, ↓reduceIte, or_true, or_false, true_or, false_or, Option.some.injEq, exists_eq_left, exists_eq_left', Nat.reduceBEq, Nat.reduceAdd, Nat.reduceMul, Nat.reduceSub, Nat.reduceEqDiff, Nat.reduceLT, Nat.reduceLeDiff, Option.map, Option.bind, List.map, List.length, true_implies, true_and, and_true, Bool.and_true, Bool.true_and, Bool.or_false, Bool.false_or, Bool.not_true, Bool.not_false, Bool.and_false, Bool.false_and, List.cons_append, List.nil_append, List.append_nil, mk_eq_bs, tl_bs, List.getElem?_cons_zero, List.getElem?_cons_succ, eq_self, reduceCtorEq, implies_true, false_implies, decide_eq_true_eq, decide_eq_false_iff_not, Bool.and_eq_true, Bool.or_eq_true, Bool.not_eq_true', Bool.and_eq_false_iff, Bool.or_eq_false_iff, Bool.not_eq_false', Option.toList, SV.v.injEq, Value.int.injEq, Value.bool.injEq, Value.string.injEq, Option.getD, List.contains_cons, List.contains_nil, beq_self_eq_true, Nat.max_def, List.set, List.drop, List.take, Int.toNat_natCast, Nat.mul_one, Int.toNat_zero, List.drop_zero, Bx.mk.injEq, Vc.mk.injEq, List.cons.injEq, List.take_length, List.getElem?_nil, List.getD_cons_zero, List.getD_cons_succ, Int.reduceToNat, not_false_eq_true, Nat.le_refl]
    · obtain rfl : x = [] := he h0
      clear he hok hsh
      refine enter cf6 pu6 Tryd.func4 rfl rfl (by kernel_rfl) rfl ?_ ?_
      · simp only [go_sem, ↓reduceIte, or_true, or_false, true_or, false_or, Option.some.injEq, exists_eq_left, exists_eq_left', Nat.reduceBEq, Nat.reduceAdd, Nat.reduceMul, Nat.reduceSub, Nat.reduceEqDiff, Nat.reduceLT, Nat.reduceLeDiff, Option.map, Option.bind, List.map, List.length, true_implies, true_and, and_true, Bool.and_true, Bool.true_and, Bool.or_false, Bool.false_or, Bool.not_true, Bool.not_false, Bool.and_false, Bool.false_and, List.cons_append, List.nil_append, List.append_nil, mk_eq_bs, tl_bs, List.getElem?_cons_zero, List.getElem?_cons_succ, eq_self, reduceCtorEq, implies_true, false_implies, decide_eq_true_eq, decide_eq_false_iff_not, Bool.and_eq_true, Bool.or_eq_true, Bool.not_eq_true', Bool.and_eq_false_iff, Bool.or_eq_false_iff, Bool.not_eq_false', Option.toList, SV.v.injEq, Value.int.injEq, Value.bool.injEq, Value.string.injEq, Option.getD, List.contains_cons, List.contains_nil, beq_self_eq_true, Nat.max_def, List.set, List.drop, List.take, Int.toNat_natCast, Nat.mul_one, Int.toNat_zero, List.drop_zero, Bx.mk.injEq, Vc.mk.injEq, List.cons.injEq, List.take_length, List.getElem?_nil, List.getD_cons_zero, List.getD_cons_succ, Int.reduceToNat, not_false_eq_true, Nat.le_refl]
      · simp only [go_sem, ↓reduceIte, or_true, or_false, true_or, false_or, Option.some.injEq, exists_eq_left, exists_eq_left', Nat.reduceBEq, Nat.reduceAdd, Nat.reduceMul, Nat.reduceSub, Nat.reduceEqDiff, Nat.reduceLT, Nat.reduceLeDiff, Option.map, Option.bind, List.map, List.length, true_implies, true_and, and_true, Bool.and_true, Bool.true_and, Bool.or_false, Bool.false_or, Bool.not_true, Bool.not_false, Bool.and_false, Bool.false_and, List.cons_append, List.nil_append, List.append_nil, mk_eq_bs, tl_bs, List.getElem?_cons_zero, List.getElem?_cons_succ, eq_self, reduceCtorEq, implies_true, false_implies, decide_eq_true_eq, decide_eq_false_iff_not, Bool.and_eq_true, Bool.or_eq_true, Bool.not_eq_true', Bool.and_eq_false_iff, Bool.or_eq_false_iff, Bool.not_eq_false', Option.toList, SV.v.injEq, Value.int.injEq, Value.bool.injEq, Value.string.injEq, Option.getD, List.contains_cons, List.contains_nil, beq_self_eq_true, Nat.max_def, List.set, List.drop, List.take, Int.toNat_natCast, Nat.mul_one, Int.toNat_zero, List.drop_zero, Bx.mk.injEq, Vc.mk.injEq, List.cons.injEq, List.take_length, List.getElem?_nil, List.getD_cons_zero, List.getD_cons_succ, Int.reduceToNat, not_false_eq_true, Nat.le_refl]
        refine ⟨by kernel_rfl, FnV_of (hf.mono ?_)⟩
        rintro r H' m1 hm1 ⟨rfl, rfl⟩
        simp only [go_sem, ↓reduceIte, or_true, or_false, true_or, false_or, Option.some.injEq, exists_eq_left, exists_eq_left', Nat.reduceBEq, Nat.reduceAdd, Nat.reduceMul, Nat.reduceSub, Nat.reduceEqDiff, Nat.reduceLT, Nat.reduceLeDiff, Option.map, Option.bind, List.map, List.length, true_implies, true_and, and_true, Bool.and_true, Bool.true_and, Bool.or_false, Bool.false_or, Bool.not_true, Bool.not_false, Bool.and_false, Bool.false_and, List.cons_append, List.nil_append, List.append_nil, mk_eq_bs, tl_bs, List.getElem?_cons_zero, List.getElem?_cons_succ, eq_self, reduceCtorEq, implies_true, false_implies, decide_eq_true_eq, decide_eq_false_iff_not, Bool.and_eq_true, Bool.or_eq_true, Bool.not_eq_true', Bool.and_eq_false_iff, Bool.or_eq_false_iff, Bool.not_eq_false', Option.toList, SV.v.injEq, Value.int.injEq, Value.bool.injEq, Value.string.injEq, Option.getD, List.contains_cons, List.contains_nil, beq_self_eq_true, Nat.max_def, List.set, List.drop, List.take, Int.toNat_natCast, Nat.mul_one, Int.toNat_zero, List.drop_zero, Bx.mk.injEq, Vc.mk.injEq, List.cons.injEq, List.take_length, List.getElem?_nil, List.getD_cons_zero, List.getD_cons_succ, Int.reduceToNat, not_false_eq_true, Nat.le_refl]
        refine ⟨by kernel_rfl, FnV_of ((hjs m1 (hg.up hm1) (Rds_up hm1 h)).mono ?_)⟩
        rintro r H' m2 hm2 ⟨hle2, rfl, rfl⟩
        simp only [go_sem, ↓reduceIte, or_true, or_false, true_or, false_or, Option.some.injEq, exists_eq_left, exists_eq_left', Nat.reduceBEq, Nat.reduceAdd, Nat.reduceMul, Nat.reduceSub, Nat.reduceEqDiff, Nat.reduceLT, Nat.reduceLeDiff, Option.map, Option.bind, List.map, List.length, true_implies, true_and, and_true, Bool.and_true, Bool.true_and, Bool.or_false, Bool.false_or, Bool.not_true, Bool.not_false, Bool.and_false, Bool.false_and, List.cons_append, List.nil_append, List.append_nil, mk_eq_bs, tl_bs, List.getElem?_cons_zero, List.getElem?_cons_succ, eq_self, reduceCtorEq, implies_true, false_implies, decide_eq_true_eq, decide_eq_false_iff_not, Bool.and_eq_true, Bool.or_eq_true, Bool.not_eq_true', Bool.and_eq_false_iff, Bool.or_eq_false_iff, Bool.not_eq_false', Option.toList, SV.v.injEq, Value.int.injEq, Value.bool.injEq, Value.string.injEq, Option.getD, List.contains_cons, List.contains_nil, beq_self_eq_true, Nat.max_def, List.set, List.drop, List.take, Int.toNat_natCast, Nat.mul_one, Int.toNat_zero, List.drop_zero, Bx.mk.injEq, Vc.mk.injEq, List.cons.injEq, List.take_length, List.getElem?_nil, List.getD_cons_zero, List.getD_cons_succ, Int.reduceToNat, not_false_eq_true, Nat.le_refl]
        have hg2 := (hg.up hm1).up hm2
        refine ⟨fun _ => ⟨by kernel_rfl, FnV_of ((awake_spec m2 hg2).mono ?_)⟩, fun hh => absurd hh h0⟩
        rintro r H' m3 hm3 ⟨rfl, rfl⟩
        simp only [go_sem, ↓reduceIte, or_true, or_false, true_or, false_or, Option.some.injEq, exists_eq_left, exists_eq_left', Nat.reduceBEq, Nat.reduceAdd, Nat.reduceMul, Nat.reduceSub, Nat.reduceEqDiff, Nat.reduceLT, Nat.reduceLeDiff, Option.map, Option.bind, List.map, List.length, true_implies, true_and, and_true, Bool.and_true, Bool.true_and, Bool.or_false, Bool.false_or, Bool.not_true, Bool.not_false, Bool.and_false, Bool.false_and, List.cons_append, List.nil_append, List.append_nil, mk_eq_bs, tl_bs, List.getElem?_cons_zero, List.getElem?_cons_succ, eq_self, reduceCtorEq, implies_true, false_implies, decide_eq_true_eq, decide_eq_false_iff_not, Bool.and_eq_true, Bool.or_eq_true, Bool.not_eq_true', Bool.and_eq_false_iff, Bool.or_eq_false_iff, Bool.not_eq_false', Option.toList, SV.v.injEq, Value.int.injEq, Value.bool.injEq, Value.string.injEq, Option.getD, List.contains_cons, List.contains_nil, beq_self_eq_true, Nat.max_def, List.set, List.drop, List.take, Int.toNat_natCast, Nat.mul_one, Int.toNat_zero, List.drop_zero, Bx.mk.injEq, Vc.mk.injEq, List.cons.injEq, List.take_length, List.getElem?_nil, List.getD_cons_zero, List.getD_cons_succ, Int.reduceToNat, not_false_eq_true, Nat.le_refl]
        exact .inr h0
end Go.Proofs.YtmkifodpkcmgoaaDoor.E

/- lex, part Za: the statement on offsets. -/
set_option linter.unusedSimpArgs false
set_option linter.unusedVariables false
namespace Go.Proofs.YtmkifodpkcmgoaaDoor.E
open Go

theorem tk_cell {ts : List Tk} {i : Nat} (hi : i < ts.length) {j : Nat} (hj : j < 4) : (tkCells ts)[i * 4 + j]? = (tkC ts[i])[j]? := by
  have h := tk_at hi
  rw [← h, List.getElem?_take, if_pos hj, List.getElem?_drop]
theorem tk_getD {ts : List Tk} {i : Nat} (hi : i < ts.length) {j : Nat} (hj : j < 4) : (tkCells ts).getD (i * 4 + j) undef = (tkC ts[i]).getD j undef := by
  rw [List.getD_eq_getElem?_getD, tk_cell hi hj, List.getD_eq_getElem?_getD]
theorem text_at {s S : List UInt8} {a : Int} (lo : 0 ≤ a) (hi : a < s.length) (h : ∃ r, s.drop a.toNat = S ++ r) : (S.length : Int) ≤ s.length - a ∧ (s.take (a + S.length).toNat).drop a.toNat = S := by
  obtain ⟨r, h⟩ := h
  have hl := congrArg List.length h
  rw [List.length_drop, List.length_append] at hl
  refine ⟨by omega, ?_⟩
  rw [show (a + S.length).toNat = a.toNat + S.length by omega, List.drop_take, h, Nat.add_sub_cancel_left, List.take_left]
set_option maxHeartbeats 8000000 in
set_option maxRecDepth 20000 in
theorem law5_ok (s : List UInt8) (ts ts' : List Tk) (x : List UInt8) (q e' : Int) (m : Mem) (hg : Glob m) (hs : s.length ≤ 4611686018427387904) (hn : ts.length ≤ 5000) (hn' : ts'.length ≤ 5000)
    (hin : ∀ t ∈ ts, TkIn s t) (hgr : grow 0 ts) (hE : (e' = 0 ∧ sameL ts' ts = true) ∨ e' = 8)
    (h8 : ∀ m, Glob m → FnH Tryd.prog 8 [.v (.string (bs s))] ⟨[], []⟩ m fun r H' m' => leM m m' ∧ ∃ k u, r = .tup [.vec k u, .v (.int .i64 q), .v (.int .i64 0)] ∧ H' = ⟨[], [⟨k, u, 27, 4, ts.length, tkCells ts⟩]⟩)
    (h12 : ∀ a c m, Glob m → Rds m a ts.length 4 (tkCells ts) → FnH Tryd.prog 12 [.v (.slice a ts.length c)] ⟨[], []⟩ m fun r H' m' => leM m m' ∧ H' = ⟨[], []⟩ ∧ r = .tup [.v (.string (bs x)), .v (.int .i64 e')])
    (h8' : ∀ m, Glob m → FnH Tryd.prog 8 [.v (.string (bs x))] ⟨[], []⟩ m fun r H' m' => leM m m' ∧ ∃ k u, r = .tup [.vec k u, .v (.int .i64 0), .v (.int .i64 0)] ∧ H' = ⟨[], [⟨k, u, 27, 4, ts'.length, tkCells ts'⟩]⟩) :
    FnH Tryd.prog 5 [.v (.string (bs s))] ⟨[], []⟩ m fun r H' m' => r = .v (.bool true) ∧ H' = ⟨[], []⟩ := by
  rcases hE with ⟨rfl, hsame⟩ | rfl
  all_goals
    refine enter cf6 pu6 Tryd.func5 rfl rfl (by kernel_rfl) rfl ?_ ?_
    · simp only [go_sem, ↓reduceIte, or_true, or_false, true_or, false_or, Option.some.injEq, exists_eq_left, exists_eq_left', Nat.reduceBEq, Nat.reduceAdd, Nat.reduceMul, Nat.reduceSub, Nat.reduceEqDiff, Nat.reduceLT, Nat.reduceLeDiff, Option.map, Option.bind, List.map, List.length, true_implies, true_and, and_true, Bool.and_true, Bool.true_and, Bool.or_false, Bool.false_or, Bool.not_true, Bool.not_false, Bool.and_false, Bool.false_and, List.cons_append, List.nil_append, List.append_nil, mk_eq_bs, tl_bs, List.getElem?_cons_zero, List.getElem?_cons_succ, eq_self, reduceCtorEq, implies_true, false_implies, decide_eq_true_eq, decide_eq_false_iff_not, Bool.and_eq_true, Bool.or_eq_true, Bool.not_eq_true', Bool.and_eq_false_iff, Bool.or_eq_false_iff, Bool.not_eq_false', Option.toList, SV.v.injEq, Value.int.injEq, Value.bool.injEq, Value.string.injEq, Option.getD, List.contains_cons, List.contains_nil, beq_self_eq_true, Nat.max_def, List.set, List.drop, List.take, Int.toNat_natCast, Nat.mul_one, Int.toNat_zero, List.drop_zero, Bx.mk.injEq, Vc.mk.injEq, List.cons.injEq, List.take_length, List.getElem?_nil, List.getD_cons_zero, List.getD_cons_succ, Int.reduceToNat, not_false_eq_true, Nat.le_refl]
    · simp only [go_sem, ↓reduceIte, or_true, or_false, true_or, false_or, Option.some.injEq, exists_eq_left, exists_eq_left', Nat.reduceBEq, Nat.reduceAdd, Nat.reduceMul, Nat.reduceSub, Nat.reduceEqDiff, Nat.reduceLT, Nat.reduceLeDiff, Option.map, Option.bind, List.map, List.length, true_implies, true_and, and_true, Bool.and_true, Bool.true_and, Bool.or_false, Bool.false_or, Bool.not_true, Bool.not_false, Bool.and_false, Bool.false_and, List.cons_append, List.nil_append, List.append_nil, mk_eq_bs, tl_bs, List.getElem?_cons_zero, List.getElem?_cons_succ, eq_self, reduceCtorEq, implies_true, false_implies, decide_eq_true_eq, decide_eq_false_iff_not, Bool.and_eq_true, Bool.or_eq_true, Bool.not_eq_true', Bool.and_eq_false_iff, Bool.or_eq_false_iff, Bool.not_eq_false', Option.toList, SV.v.injEq, Value.int.injEq, Value.bool.injEq, Value.string.injEq, Option.getD, List.contains_cons, List.contains_nil, beq_self_eq_true, Nat.max_def, List.set, List.drop, List.take, Int.toNat_natCast, Nat.mul_one, Int.toNat_zero, List.drop_zero, Bx.mk.injEq, Vc.mk.injEq, List.cons.injEq, List.take_length, List.getElem?_nil, List.getD_cons_zero, List.getD_cons_succ, Int.reduceToNat, not_false_eq_true, Nat.le_refl]
      refine ⟨by kernel_rfl, FnV_of ((h8 m hg).mono ?_)⟩
      rintro r H' m1 hm1 ⟨hle1, k, u, rfl, rfl⟩
      clear h8
      simp only [go_sem, ↓reduceIte, or_true, or_false, true_or, false_or, Option.some.injEq, exists_eq_left, exists_eq_left', Nat.reduceBEq, Nat.reduceAdd, Nat.reduceMul, Nat.reduceSub, Nat.reduceEqDiff, Nat.reduceLT, Nat.reduceLeDiff, Option.map, Option.bind, List.map, List.length, true_implies, true_and, and_true, Bool.and_true, Bool.true_and, Bool.or_false, Bool.false_or, Bool.not_true, Bool.not_false, Bool.and_false, Bool.false_and, List.cons_append, List.nil_append, List.append_nil, mk_eq_bs, tl_bs, List.getElem?_cons_zero, List.getElem?_cons_succ, eq_self, reduceCtorEq, implies_true, false_implies, decide_eq_true_eq, decide_eq_false_iff_not, Bool.and_eq_true, Bool.or_eq_true, Bool.not_eq_true', Bool.and_eq_false_iff, Bool.or_eq_false_iff, Bool.not_eq_false', Option.toList, SV.v.injEq, Value.int.injEq, Value.bool.injEq, Value.string.injEq, Option.getD, List.contains_cons, List.contains_nil, beq_self_eq_true, Nat.max_def, List.set, List.drop, List.take, Int.toNat_natCast, Nat.mul_one, Int.toNat_zero, List.drop_zero, Bx.mk.injEq, Vc.mk.injEq, List.cons.injEq, List.take_length, List.getElem?_nil, List.getD_cons_zero, List.getD_cons_succ, Int.reduceToNat, not_false_eq_true, Nat.le_refl]
      have hk : (if k < 0 then False else True) := by simp
      have hk1 : 0 + k < 0 + (k + 1) := by omega
      refine ⟨⟨hk, hk, hk1⟩, hk1, hk1, hk1, hk1, fun h => absurd trivial h, ?_⟩
      refine WP_loop pu6 (fun j : Nat => ⟨[⟨0, [], .v (.string (bs s))⟩, ⟨3, [], .vec (0 + k) u⟩, ⟨6, [], .v (.int .i64 j)⟩], [], [], [⟨0 + k, u, 27, 4, ts.length, tkCells ts⟩], 0 + (k + 1), m1⟩)
        (fun j => j ≤ ts.length) (fun j => ts.length - j) 0 (by kernel_rfl) (fun _ _ => Nat.le_refl _) (fun _ _ => .inl rfl) (fun j => ?_) ?_ (Nat.zero_le _) ?_
      · simp only [go_sem, ↓reduceIte, or_true, or_false, true_or, false_or, Option.some.injEq, exists_eq_left, exists_eq_left', Nat.reduceBEq, Nat.reduceAdd, Nat.reduceMul, Nat.reduceSub, Nat.reduceEqDiff, Nat.reduceLT, Nat.reduceLeDiff, Option.map, Option.bind, List.map, List.length, true_implies, true_and, and_true, Bool.and_true, Bool.true_and, Bool.or_false, Bool.false_or, Bool.not_true, Bool.not_false, Bool.and_false, Bool.false_and, List.cons_append, List.nil_append, List.append_nil, mk_eq_bs, tl_bs, List.getElem?_cons_zero, List.getElem?_cons_succ, eq_self, reduceCtorEq, implies_true, false_implies, decide_eq_true_eq, decide_eq_false_iff_not, Bool.and_eq_true, Bool.or_eq_true, Bool.not_eq_true', Bool.and_eq_false_iff, Bool.or_eq_false_iff, Bool.not_eq_false', Option.toList, SV.v.injEq, Value.int.injEq, Value.bool.injEq, Value.string.injEq, Option.getD, List.contains_cons, List.contains_nil, beq_self_eq_true, Nat.max_def, List.set, List.drop, List.take, Int.toNat_natCast, Nat.mul_one, Int.toNat_zero, List.drop_zero, Bx.mk.injEq, Vc.mk.injEq, List.cons.injEq, List.take_length, List.getElem?_nil, List.getD_cons_zero, List.getD_cons_succ, Int.reduceToNat, not_false_eq_true, Nat.le_refl]
        exact ⟨hk1, hk1⟩
      · simp only [go_sem, ↓reduceIte, or_true, or_false, true_or, false_or, Option.some.injEq, exists_eq_left, exists_eq_left', Nat.reduceBEq, Nat.reduceAdd, Nat.reduceMul, Nat.reduceSub, Nat.reduceEqDiff, Nat.reduceLT, Nat.reduceLeDiff, Option.map, Option.bind, List.map, List.length, true_implies, true_and, and_true, Bool.and_true, Bool.true_and, Bool.or_false, Bool.false_or, Bool.not_true, Bool.not_false, Bool.and_false, Bool.false_and, List.cons_append, List.nil_append, List.append_nil, mk_eq_bs, tl_bs, List.getElem?_cons_zero, List.getElem?_cons_succ, eq_self, reduceCtorEq, implies_true, false_implies, decide_eq_true_eq, decide_eq_false_iff_not, Bool.and_eq_true, Bool.or_eq_true, Bool.not_eq_true', Bool.and_eq_false_iff, Bool.or_eq_false_iff, Bool.not_eq_false', Option.toList, SV.v.injEq, Value.int.injEq, Value.bool.injEq, Value.string.injEq, Option.getD, List.contains_cons, List.contains_nil, beq_self_eq_true, Nat.max_def, List.set, List.drop, List.take, Int.toNat_natCast, Nat.mul_one, Int.toNat_zero, List.drop_zero, Bx.mk.injEq, Vc.mk.injEq, List.cons.injEq, List.take_length, List.getElem?_nil, List.getD_cons_zero, List.getD_cons_succ, Int.reduceToNat, not_false_eq_true, Nat.le_refl]
        rfl
      · intro j hj
        have hgl := hg.up hm1
        simp only [go_sem, ↓reduceIte, or_true, or_false, true_or, false_or, Option.some.injEq, exists_eq_left, exists_eq_left', Nat.reduceBEq, Nat.reduceAdd, Nat.reduceMul, Nat.reduceSub, Nat.reduceEqDiff, Nat.reduceLT, Nat.reduceLeDiff, Option.map, Option.bind, List.map, List.length, true_implies, true_and, and_true, Bool.and_true, Bool.true_and, Bool.or_false, Bool.false_or, Bool.not_true, Bool.not_false, Bool.and_false, Bool.false_and, List.cons_append, List.nil_append, List.append_nil, mk_eq_bs, tl_bs, List.getElem?_cons_zero, List.getElem?_cons_succ, eq_self, reduceCtorEq, implies_true, false_implies, decide_eq_true_eq, decide_eq_false_iff_not, Bool.and_eq_true, Bool.or_eq_true, Bool.not_eq_true', Bool.and_eq_false_iff, Bool.or_eq_false_iff, Bool.not_eq_false', Option.toList, SV.v.injEq, Value.int.injEq, Value.bool.injEq, Value.string.injEq, Option.getD, List.contains_cons, List.contains_nil, beq_self_eq_true, Nat.max_def, List.set, List.drop, List.take, Int.toNat_natCast, Nat.mul_one, Int.toNat_zero, List.drop_zero, Bx.mk.injEq, Vc.mk.injEq, List.cons.injEq, List.take_length, List.getElem?_nil, List.getD_cons_zero, List.getD_cons_succ, Int.reduceToNat, not_false_eq_true, Nat.le_refl]
        refine ⟨hk1, fun hlt => ?_, fun _ => ?_⟩
        · have hjl : j < ts.length := by omega
          have hjp : j - 1 < ts.length := by omega
          have e3 : (tkCells ts).getD (j * 4 + 3) undef = .int .i64 ts[j].at_ := tk_getD hjl (j := 3) (by decide)
          have e0 : (tkCells ts).getD (j * 4) undef = .int .i64 ts[j].k := tk_getD hjl (j := 0) (by decide)
          have e1 : (tkCells ts).getD (j * 4 + 1) undef = .string (bs ts[j].s) := tk_getD hjl (j := 1) (by decide)
          have ep : (tkCells ts).getD ((j - 1) * 4 + 3) undef = .int .i64 ts[j - 1].at_ := tk_getD hjp (j := 3) (by decide)
          have hsub : ((j : Int) - 1).toNat = j - 1 := by omega
          have e00 : (tkCells ts).getD (j * 4 + 0) undef = .int .i64 ts[j].k := e0
          have i1 : (0 : Int) ≤ (j : Int) ∧ (j : Int) < (ts.length : Int) := ⟨by omega, hlt⟩
          have hlen := tk_len ts
          have b0 : j * 4 < (tkCells ts).length := by omega
          have b00 : j * 4 + 0 < (tkCells ts).length := by omega
          have b1 : j * 4 + 1 < (tkCells ts).length := by omega
          have b3 : j * 4 + 3 < (tkCells ts).length := by omega
          have p0 : (j - 1) * 4 < (tkCells ts).length := by omega
          have p3 : (j - 1) * 4 + 3 < (tkCells ts).length := by omega
          have hti := hin ts[j] (List.getElem_mem hjl)
          have lo := hti.lo
          have hi := hti.hi
          have hgj : 0 < j → ts[j - 1].at_ < ts[j].at_ := fun h0 => by
            obtain ⟨i, rfl⟩ : ∃ i, j = i + 1 := ⟨j - 1, by omega⟩
            exact grow_at hgr hjl
          refine WP_drawQ pu6 (by kernel_rfl) (by kernel_rfl) (by kernel_rfl) ?_
          simp only [go_sem, ↓reduceIte, or_true, or_false, true_or, false_or, Option.some.injEq, exists_eq_left, exists_eq_left', Nat.reduceBEq, Nat.reduceAdd, Nat.reduceMul, Nat.reduceSub, Nat.reduceEqDiff, Nat.reduceLT, Nat.reduceLeDiff, Option.map, Option.bind, List.map, List.length, true_implies, true_and, and_true, Bool.and_true, Bool.true_and, Bool.or_false, Bool.false_or, Bool.not_true, Bool.not_false, Bool.and_false, Bool.false_and, List.cons_append, List.nil_append, List.append_nil, mk_eq_bs, tl_bs, List.getElem?_cons_zero, List.getElem?_cons_succ, eq_self, reduceCtorEq, implies_true, false_implies, decide_eq_true_eq, decide_eq_false_iff_not, Bool.and_eq_true, Bool.or_eq_true, Bool.not_eq_true', Bool.and_eq_false_iff, Bool.or_eq_false_iff, Bool.not_eq_false', Option.toList, SV.v.injEq, Value.int.injEq, Value.bool.injEq, Value.string.injEq, Option.getD, List.contains_cons, List.contains_nil, beq_self_eq_true, Nat.max_def, List.set, List.drop, List.take, Int.toNat_natCast, Nat.mul_one, Int.toNat_zero, List.drop_zero, Bx.mk.injEq, Vc.mk.injEq, List.cons.injEq, List.take_length, List.getElem?_nil, List.getD_cons_zero, List.getD_cons_succ, Int.reduceToNat, not_false_eq_true, Nat.le_refl, e0, e1, e3, ep, hsub]
          refine ⟨hk1, i1, hk1, b0, hk1, b3, hk1, fun _ => i1, hk1, fun _ => b0, hk1, fun _ => b3, hk1, fun _ => i1, hk1, fun _ => b0, hk1, fun _ => b3, hk1, fun _ => by unfold I64; omega, fun h => ⟨by have := h.1; omega, by omega⟩, hk1, fun _ => p0, hk1, fun _ => p3, fun hh => ?_, fun _ => ?_⟩
          · rcases hh with (hh | hh) | hh
            · omega
            · omega
            · have := hgj (by omega); omega
          · refine ⟨hk1, i1, hk1, b0, hk1, b00, ?_⟩
            simp only [go_sem, ↓reduceIte, or_true, or_false, true_or, false_or, Option.some.injEq, exists_eq_left, exists_eq_left', Nat.reduceBEq, Nat.reduceAdd, Nat.reduceMul, Nat.reduceSub, Nat.reduceEqDiff, Nat.reduceLT, Nat.reduceLeDiff, Option.map, Option.bind, List.map, List.length, true_implies, true_and, and_true, Bool.and_true, Bool.true_and, Bool.or_false, Bool.false_or, Bool.not_true, Bool.not_false, Bool.and_false, Bool.false_and, List.cons_append, List.nil_append, List.append_nil, mk_eq_bs, tl_bs, List.getElem?_cons_zero, List.getElem?_cons_succ, eq_self, reduceCtorEq, implies_true, false_implies, decide_eq_true_eq, decide_eq_false_iff_not, Bool.and_eq_true, Bool.or_eq_true, Bool.not_eq_true', Bool.and_eq_false_iff, Bool.or_eq_false_iff, Bool.not_eq_false', Option.toList, SV.v.injEq, Value.int.injEq, Value.bool.injEq, Value.string.injEq, Option.getD, List.contains_cons, List.contains_nil, beq_self_eq_true, Nat.max_def, List.set, List.drop, List.take, Int.toNat_natCast, Nat.mul_one, Int.toNat_zero, List.drop_zero, Bx.mk.injEq, Vc.mk.injEq, List.cons.injEq, List.take_length, List.getElem?_nil, List.getD_cons_zero, List.getD_cons_succ, Int.reduceToNat, not_false_eq_true, Nat.le_refl, e0, e00, e1, e3]
            have fin : I64 ((j : Int) + 1) ∧ ∃ x' : Nat, (j : Int) + 1 = (x' : Int) ∧ x' ≤ ts.length ∧ ts.length - x' < ts.length - j := ⟨by unfold I64; omega, j + 1, by omega, by omega, by omega⟩
            refine ⟨hk1, fun _ => i1, hk1, fun _ => b0, hk1, fun _ => b00, fun hk6 => ?_, fun _ => fin⟩
            have htx := text_at lo hi (hti.text hk6)
            refine WP_drawQ pu6 (by kernel_rfl) (by kernel_rfl) (by kernel_rfl) ?_
            simp only [go_sem, ↓reduceIte, or_true, or_false, true_or, false_or, Option.some.injEq, exists_eq_left, exists_eq_left', Nat.reduceBEq, Nat.reduceAdd, Nat.reduceMul, Nat.reduceSub, Nat.reduceEqDiff, Nat.reduceLT, Nat.reduceLeDiff, Option.map, Option.bind, List.map, List.length, true_implies, true_and, and_true, Bool.and_true, Bool.true_and, Bool.or_false, Bool.false_or, Bool.not_true, Bool.not_false, Bool.and_false, Bool.false_and, List.cons_append, List.nil_append, List.append_nil, mk_eq_bs, tl_bs, List.getElem?_cons_zero, List.getElem?_cons_succ, eq_self, reduceCtorEq, implies_true, false_implies, decide_eq_true_eq, decide_eq_false_iff_not, Bool.and_eq_true, Bool.or_eq_true, Bool.not_eq_true', Bool.and_eq_false_iff, Bool.or_eq_false_iff, Bool.not_eq_false', Option.toList, SV.v.injEq, Value.int.injEq, Value.bool.injEq, Value.string.injEq, Option.getD, List.contains_cons, List.contains_nil, beq_self_eq_true, Nat.max_def, List.set, List.drop, List.take, Int.toNat_natCast, Nat.mul_one, Int.toNat_zero, List.drop_zero, Bx.mk.injEq, Vc.mk.injEq, List.cons.injEq, List.take_length, List.getElem?_nil, List.getD_cons_zero, List.getD_cons_succ, Int.reduceToNat, not_false_eq_true, Nat.le_refl, e0, e1, e3]
            refine ⟨hk1, i1, hk1, b0, hk1, b3, by unfold I64; omega, hk1, i1, hk1, b0, hk1, b1, hk1, fun _ => i1, hk1, fun _ => b0, hk1, fun _ => b3, hk1, fun _ => i1, hk1, fun _ => b0, hk1, fun _ => b3, hk1, fun _ => i1, hk1, fun _ => b0, hk1, fun _ => b1, fun _ => by unfold I64; omega, fun _ => ⟨lo, by omega, by omega⟩, hk1, fun _ => i1, hk1, fun _ => b0, hk1, fun _ => b1, fun hh => ?_, fun _ => fin⟩
            rcases hh with hh | hh
            · have := htx.1; omega
            · exact hh htx.2
        · refine ⟨hk1, by kernel_rfl, fun a c m2 hm2 _ hrd => FnV_of ((h12 a c m2 (hgl.up hm2) hrd).mono ?_)⟩
          rintro r H' m3 hm3 ⟨hle3, rfl, rfl⟩
          have hgl3 := (hgl.up hm2).up hm3
          clear h12
          simp only [go_sem, ↓reduceIte, or_true, or_false, true_or, false_or, Option.some.injEq, exists_eq_left, exists_eq_left', Nat.reduceBEq, Nat.reduceAdd, Nat.reduceMul, Nat.reduceSub, Nat.reduceEqDiff, Nat.reduceLT, Nat.reduceLeDiff, Option.map, Option.bind, List.map, List.length, true_implies, true_and, and_true, Bool.and_true, Bool.true_and, Bool.or_false, Bool.false_or, Bool.not_true, Bool.not_false, Bool.and_false, Bool.false_and, List.cons_append, List.nil_append, List.append_nil, mk_eq_bs, tl_bs, List.getElem?_cons_zero, List.getElem?_cons_succ, eq_self, reduceCtorEq, implies_true, false_implies, decide_eq_true_eq, decide_eq_false_iff_not, Bool.and_eq_true, Bool.or_eq_true, Bool.not_eq_true', Bool.and_eq_false_iff, Bool.or_eq_false_iff, Bool.not_eq_false', Option.toList, SV.v.injEq, Value.int.injEq, Value.bool.injEq, Value.string.injEq, Option.getD, List.contains_cons, List.contains_nil, beq_self_eq_true, Nat.max_def, List.set, List.drop, List.take, Int.toNat_natCast, Nat.mul_one, Int.toNat_zero, List.drop_zero, Bx.mk.injEq, Vc.mk.injEq, List.cons.injEq, List.take_length, List.getElem?_nil, List.getD_cons_zero, List.getD_cons_succ, Int.reduceToNat, not_false_eq_true, Nat.le_refl]
          refine ⟨by kernel_rfl, FnV_of ((h8' m3 hgl3).mono ?_)⟩
          rintro r H' m4 hm4 ⟨hle4, k2, u2, rfl, rfl⟩
          clear h8'
          have hgl4 := hgl3.up hm4
          simp only [go_sem, ↓reduceIte, or_true, or_false, true_or, false_or, Option.some.injEq, exists_eq_left, exists_eq_left', Nat.reduceBEq, Nat.reduceAdd, Nat.reduceMul, Nat.reduceSub, Nat.reduceEqDiff, Nat.reduceLT, Nat.reduceLeDiff, Option.map, Option.bind, List.map, List.length, true_implies, true_and, and_true, Bool.and_true, Bool.true_and, Bool.or_false, Bool.false_or, Bool.not_true, Bool.not_false, Bool.and_false, Bool.false_and, List.cons_append, List.nil_append, List.append_nil, mk_eq_bs, tl_bs, List.getElem?_cons_zero, List.getElem?_cons_succ, eq_self, reduceCtorEq, implies_true, false_implies, decide_eq_true_eq, decide_eq_false_iff_not, Bool.and_eq_true, Bool.or_eq_true, Bool.not_eq_true', Bool.and_eq_false_iff, Bool.or_eq_false_iff, Bool.not_eq_false', Option.toList, SV.v.injEq, Value.int.injEq, Value.bool.injEq, Value.string.injEq, Option.getD, List.contains_cons, List.contains_nil, beq_self_eq_true, Nat.max_def, List.set, List.drop, List.take, Int.toNat_natCast, Nat.mul_one, Int.toNat_zero, List.drop_zero, Bx.mk.injEq, Vc.mk.injEq, List.cons.injEq, List.take_length, List.getElem?_nil, List.getD_cons_zero, List.getD_cons_succ, Int.reduceToNat, not_false_eq_true, Nat.le_refl]
          have q1 : 0 + (k + 1) + 0 + k2 < 0 + (k + 1) + 0 + (k2 + 1) := by omega
          have q2 : (if k2 < 0 then False else True) := by simp
          refine ⟨⟨q2, q2, q1⟩, q1, q1, q1, q1, by kernel_rfl, FnV_of ((awake_spec m4 hgl4).mono ?_)⟩
          rintro r H' m5 hm5 ⟨rfl, rfl⟩
          have hne : (0 + (k + 1) + 0 + k2 = 0 + k) = False := eq_false (by omega)
          have hne2 : (0 + k = 0 + (k + 1) + 0 + k2) = False := eq_false (by omega)
          have hnb : (0 + (k + 1) + 0 + k2 == 0 + k) = false := beq_eq_false_iff_ne.2 (by omega)
          have hnb2 : (0 + k == 0 + (k + 1) + 0 + k2) = false := beq_eq_false_iff_ne.2 (by omega)
          have q3 : 0 + k < 0 + (k + 1) + 0 + (k2 + 1) + 0 := by omega
          simp only [go_sem, ↓reduceIte, or_true, or_false, true_or, false_or, Option.some.injEq, exists_eq_left, exists_eq_left', Nat.reduceBEq, Nat.reduceAdd, Nat.reduceMul, Nat.reduceSub, Nat.reduceEqDiff, Nat.reduceLT, Nat.reduceLeDiff, Option.map, Option.bind, List.map, List.length, true_implies, true_and, and_true, Bool.and_true, Bool.true_and, Bool.or_false, Bool.false_or, Bool.not_true, Bool.not_false, Bool.and_false, Bool.false_and, List.cons_append, List.nil_append, List.append_nil, mk_eq_bs, tl_bs, List.getElem?_cons_zero, List.getElem?_cons_succ, eq_self, reduceCtorEq, implies_true, false_implies, decide_eq_true_eq, decide_eq_false_iff_not, Bool.and_eq_true, Bool.or_eq_true, Bool.not_eq_true', Bool.and_eq_false_iff, Bool.or_eq_false_iff, Bool.not_eq_false', Option.toList, SV.v.injEq, Value.int.injEq, Value.bool.injEq, Value.string.injEq, Option.getD, List.contains_cons, List.contains_nil, beq_self_eq_true, Nat.max_def, List.set, List.drop, List.take, Int.toNat_natCast, Nat.mul_one, Int.toNat_zero, List.drop_zero, Bx.mk.injEq, Vc.mk.injEq, List.cons.injEq, List.take_length, List.getElem?_nil, List.getD_cons_zero, List.getD_cons_succ, Int.reduceToNat, not_false_eq_true, Nat.le_refl, hne, hne2, hnb, hnb2]
          first
          | exact ⟨q1, q3, fun h => absurd trivial h⟩
          | refine ⟨q1, q3, fun _ => ⟨?_, fun h => by simp at h⟩⟩
            refine ⟨by kernel_rfl, fun b cb m6 hm6 _ hrb a' ca' m7 hm7 _ hra => FnV_of (((same_spec ts' ts b a' _ cb _ ca' m7 (Rds_up hm7 hrb) hra (by omega)).mono (fun r H' m' _ h => by rw [hsame] at h; exact h)).mono ?_)⟩
            rintro r H' m8 hm8 ⟨rfl, rfl⟩
            simp only [go_sem, ↓reduceIte, or_true, or_false, true_or, false_or, Option.some.injEq, exists_eq_left, exists_eq_left', Nat.reduceBEq, Nat.reduceAdd, Nat.reduceMul, Nat.reduceSub, Nat.reduceEqDiff, Nat.reduceLT, Nat.reduceLeDiff, Option.map, Option.bind, List.map, List.length, true_implies, true_and, and_true, Bool.and_true, Bool.true_and, Bool.or_false, Bool.false_or, Bool.not_true, Bool.not_false, Bool.and_false, Bool.false_and, List.cons_append, List.nil_append, List.append_nil, mk_eq_bs, tl_bs, List.getElem?_cons_zero, List.getElem?_cons_succ, eq_self, reduceCtorEq, implies_true, false_implies, decide_eq_true_eq, decide_eq_false_iff_not, Bool.and_eq_true, Bool.or_eq_true, Bool.not_eq_true', Bool.and_eq_false_iff, Bool.or_eq_false_iff, Bool.not_eq_false', Option.toList, SV.v.injEq, Value.int.injEq, Value.bool.injEq, Value.string.injEq, Option.getD, List.contains_cons, List.contains_nil, beq_self_eq_true, Nat.max_def, List.set, List.drop, List.take, Int.toNat_natCast, Nat.mul_one, Int.toNat_zero, List.drop_zero, Bx.mk.injEq, Vc.mk.injEq, List.cons.injEq, List.take_length, List.getElem?_nil, List.getD_cons_zero, List.getD_cons_succ, Int.reduceToNat, not_false_eq_true, Nat.le_refl]
set_option maxHeartbeats 8000000 in
set_option maxRecDepth 20000 in
theorem law5_spec (s : List UInt8) (m : Mem) (hg : Glob m) (hs : s.length ≤ 4611686018427387904) : FnH Tryd.prog 5 [.v (.string (bs s))] ⟨[], []⟩ m fun r H' m' => r = .v (.bool true) ∧ H' = ⟨[], []⟩ := by
  have hn := tok_few s
  have hin := @tok_in s
  have hgr := tok_grow s
  have hbad := tok_bad s
  have hj08 := tok_join s
  rcases hx : tokenizeL s with ⟨ts, q, e⟩
  rw [hx] at hn hin hgr hbad hj08
  simp only at hn hin hgr hbad hj08
  have h8 : ∀ m, Glob m → FnH Tryd.prog 8 [.v (.string (bs s))] ⟨[], []⟩ m fun r H' m' => leM m m' ∧ ROut (ts, q, e) r H' := fun m hg => (tokenize_spec s m hg hs).mono fun r H' m' _ h => by rwa [hx] at h
  clear hx
  by_cases he : e = 0
  · subst he
    obtain ⟨ts', hn', hE, htk⟩ : ∃ ts' : List Tk, ts'.length ≤ 5000 ∧ (((joinL ts).2 = 0 ∧ sameL ts' ts = true) ∨ (joinL ts).2 = 8) ∧ tokenizeL (joinL ts).1 = (ts', 0, 0) := by
      rcases hj08 with h0 | h8
      · obtain ⟨ts', h1, h2⟩ := join_tok (fun t ht => (hin t ht).ok.2) h0
        have := tok_few (joinL ts).1
        rw [h1] at this
        exact ⟨ts', this, .inl ⟨h0, h2⟩, h1⟩
      · rw [join_err (by rw [h8]; decide)]
        exact ⟨[], Nat.zero_le _, .inr h8, rfl⟩
    have hsh := @join_short ts
    exact law5_ok s ts ts' (joinL ts).1 q (joinL ts).2 m hg hs hn hn' hin hgr hE (fun m hg => (h8 m hg).mono fun r H' m' _ h => ⟨h.1, ROut_ok h.2⟩)
      (fun a c m hg hr => joinT_spec ts a ts.length c m hg hr (fun t ht => (hin t ht).ok) (by omega))
      (fun m hg => (tokenize_spec (joinL ts).1 m hg (by omega)).mono fun r H' m' _ h => ⟨h.1, by have := h.2; rw [htk] at this; exact ROut_ok this⟩)
  · have h8' : ∀ m, Glob m → FnH Tryd.prog 8 [.v (.string (bs s))] ⟨[], []⟩ m fun r H' m' => leM m m' ∧ r = .tup [.v (.slice none 0 0), .v (.int .i64 q), .v (.int .i64 e)] ∧ H' = ⟨[], []⟩ := fun m hg => (h8 m hg).mono fun r H' m' _ h => ⟨h.1, ROut_err he h.2⟩
    clear h8
    refine enter cf6 pu6 Tryd.func5 rfl rfl (by kernel_rfl) rfl ?_ ?_
    · simp only [go_sem, ↓reduceIte, or_true, or_false, true_or, false_or, Option.some.injEq, exists_eq_left, exists_eq_left', Nat.reduceBEq, Nat.reduceAdd, Nat.reduceMul, Nat.reduceSub, Nat.reduceEqDiff, Nat.reduceLT, Nat.reduceLeDiff, Option.map, Option.bind, List.map, List.length, true_implies, true_and, and_true, Bool.and_true, Bool.true_and, Bool.or_false, Bool.false_or, Bool.not_true, Bool.not_false, Bool.and_false, Bool.false_and, List.cons_append, List.nil_append, List.append_nil, mk_eq_bs, tl_bs, List.getElem?_cons_zero, List.getElem?_cons_succ, eq_self, reduceCtorEq, implies_true, false_implies, decide_eq_true_eq, decide_eq_false_iff_not, Bool.and_eq_true, Bool.or_eq_true, Bool.not_eq_true', Bool.and_eq_false_iff, Bool.or_eq_false_iff, Bool.not_eq_false', Option.toList, SV.v.injEq, Value.int.injEq, Value.bool.injEq, Value.string.injEq, Option.getD, List.contains_cons, List.contains_nil, beq_self_eq_true, Nat.max_def, List.set, List.drop, List.take, Int.toNat_natCast, Nat.mul_one, Int.toNat_zero, List.drop_zero, Bx.mk.injEq, Vc.mk.injEq, List.cons.injEq, List.take_length, List.getElem?_nil, List.getD_cons_zero, List.getD_cons_succ, Int.reduceToNat, not_false_eq_true, Nat.le_refl]
    · simp only [go_sem, ↓reduceIte, or_true, or_false, true_or, false_or, Option.some.injEq, exists_eq_left, exists_eq_left', Nat.reduceBEq, Nat.reduceAdd, Nat.reduceMul, Nat.reduceSub, Nat.reduceEqDiff, Nat.reduceLT, Nat.reduceLeDiff, Option.map, Option.bind, List.map, List.length, true_implies, true_and, and_true, Bool.and_true, Bool.true_and, Bool.or_false, Bool.false_or, Bool.not_true, Bool.not_false, Bool.and_false, Bool.false_and, List.cons_append, List.nil_append, List.append_nil, mk_eq_bs, tl_bs, List.getElem?_cons_zero, List.getElem?_cons_succ, eq_self, reduceCtorEq, implies_true, false_implies, decide_eq_true_eq, decide_eq_false_iff_not, Bool.and_eq_true, Bool.or_eq_true, Bool.not_eq_true', Bool.and_eq_false_iff, Bool.or_eq_false_iff, Bool.not_eq_false', Option.toList, SV.v.injEq, Value.int.injEq, Value.bool.injEq, Value.string.injEq, Option.getD, List.contains_cons, List.contains_nil, beq_self_eq_true, Nat.max_def, List.set, List.drop, List.take, Int.toNat_natCast, Nat.mul_one, Int.toNat_zero, List.drop_zero, Bx.mk.injEq, Vc.mk.injEq, List.cons.injEq, List.take_length, List.getElem?_nil, List.getD_cons_zero, List.getD_cons_succ, Int.reduceToNat, not_false_eq_true, Nat.le_refl]
      refine ⟨by kernel_rfl, FnV_of ((h8' m hg).mono ?_)⟩
      rintro r H' m1 hm1 ⟨hle1, rfl, rfl⟩
      clear h8'
      simp only [go_sem, ↓reduceIte, or_true, or_false, true_or, false_or, Option.some.injEq, exists_eq_left, exists_eq_left', Nat.reduceBEq, Nat.reduceAdd, Nat.reduceMul, Nat.reduceSub, Nat.reduceEqDiff, Nat.reduceLT, Nat.reduceLeDiff, Option.map, Option.bind, List.map, List.length, true_implies, true_and, and_true, Bool.and_true, Bool.true_and, Bool.or_false, Bool.false_or, Bool.not_true, Bool.not_false, Bool.and_false, Bool.false_and, List.cons_append, List.nil_append, List.append_nil, mk_eq_bs, tl_bs, List.getElem?_cons_zero, List.getElem?_cons_succ, eq_self, reduceCtorEq, implies_true, false_implies, decide_eq_true_eq, decide_eq_false_iff_not, Bool.and_eq_true, Bool.or_eq_true, Bool.not_eq_true', Bool.and_eq_false_iff, Bool.or_eq_false_iff, Bool.not_eq_false', Option.toList, SV.v.injEq, Value.int.injEq, Value.bool.injEq, Value.string.injEq, Option.getD, List.contains_cons, List.contains_nil, beq_self_eq_true, Nat.max_def, List.set, List.drop, List.take, Int.toNat_natCast, Nat.mul_one, Int.toNat_zero, List.drop_zero, Bx.mk.injEq, Vc.mk.injEq, List.cons.injEq, List.take_length, List.getElem?_nil, List.getD_cons_zero, List.getD_cons_succ, Int.reduceToNat, not_false_eq_true, Nat.le_refl]
      refine ⟨fun _ => ⟨by kernel_rfl, FnV_of ((awake_spec m1 (hg.up hm1)).mono ?_)⟩, fun hh => absurd hh he⟩
      rintro r H' m2 hm2 ⟨rfl, rfl⟩
      simp only [go_sem, ↓reduceIte, or_true, or_false, true_or, false_or, Option.some.injEq, exists_eq_left, exists_eq_left', Nat.reduceBEq, Nat.reduceAdd, Nat.reduceMul, Nat.reduceSub, Nat.reduceEqDiff, Nat.reduceLT, Nat.reduceLeDiff, Option.map, Option.bind, List.map, List.length, true_implies, true_and, and_true, Bool.and_true, Bool.true_and, Bool.or_false, Bool.false_or, Bool.not_true, Bool.not_false, Bool.and_false, Bool.false_and, List.cons_append, List.nil_append, List.append_nil, mk_eq_bs, tl_bs, List.getElem?_cons_zero, List.getElem?_cons_succ, eq_self, reduceCtorEq, implies_true, false_implies, decide_eq_true_eq, decide_eq_false_iff_not, Bool.and_eq_true, Bool.or_eq_true, Bool.not_eq_true', Bool.and_eq_false_iff, Bool.or_eq_false_iff, Bool.not_eq_false', Option.toList, SV.v.injEq, Value.int.injEq, Value.bool.injEq, Value.string.injEq, Option.getD, List.contains_cons, List.contains_nil, beq_self_eq_true, Nat.max_def, List.set, List.drop, List.take, Int.toNat_natCast, Nat.mul_one, Int.toNat_zero, List.drop_zero, Bx.mk.injEq, Vc.mk.injEq, List.cons.injEq, List.take_length, List.getElem?_nil, List.getD_cons_zero, List.getD_cons_succ, Int.reduceToNat, not_false_eq_true, Nat.le_refl]
      refine ⟨⟨rfl, hbad.1⟩, ?_⟩
      by_cases h70 : e = 70
      · exact .inr (hbad.2.1 h70)
      · exact .inl h70
end Go.Proofs.YtmkifodpkcmgoaaDoor.E

/- lex, part Zb: the statement on comments. -/
set_option linter.unusedSimpArgs false
set_option linter.unusedVariables false
namespace Go.Proofs.YtmkifodpkcmgoaaDoor.E
open Go

theorem sameL_refl : ∀ (l : List Tk), sameL l l = true
  | [] => rfl
  | t :: l => by simp [sameL, sameL_refl l]
theorem take_next {r : List UInt8} {j : Nat} (hj : j < r.length) (h : ∀ c ∈ r.take j, c ≠ 10) (hne : ¬ (((r.getD j 0).toNat : Nat) : Int) = 10) : ∀ c ∈ r.take (j + 1), c ≠ 10 := by
  intro c hc
  rw [List.take_succ_eq_append_getElem hj] at hc
  rcases List.mem_append.1 hc with hc | hc
  · exact h c hc
  · rw [List.mem_singleton.1 hc]
    intro e
    apply hne
    rw [List.getD_eq_getElem?_getD, List.getElem?_eq_getElem hj]
    show (((r[j]).toNat : Nat) : Int) = 10
    rw [e]; rfl
theorem take_all {r : List UInt8} {j : Nat} (hj : r.length ≤ j) (h : ∀ c ∈ r.take j, c ≠ 10) : ∀ c ∈ r, c ≠ 10 := by
  rwa [List.take_of_length_le hj] at h
set_option maxHeartbeats 8000000 in
set_option maxRecDepth 20000 in
theorem law6_ok (s r : List UInt8) (ts ts3 : List Tk) (m : Mem) (hg : Glob m) (hs : s.length ≤ 4611686018427387904) (hr : r.length ≤ 4611686018427387904)
    (h8 : ∀ m, Glob m → FnH Tryd.prog 8 [.v (.string (bs s))] ⟨[], []⟩ m fun r H' m' => leM m m' ∧ ∃ k u, r = .tup [.vec k u, .v (.int .i64 0), .v (.int .i64 0)] ∧ H' = ⟨[], [⟨k, u, 27, 4, ts.length, tkCells ts⟩]⟩)
    (h8s : s.length ≤ 15000 → r.length ≤ 1000 → (∀ c ∈ r, c ≠ 10) → ∀ m, Glob m → FnH Tryd.prog 8 [.v (.string (bs (s ++ [10, 32, 47, 47] ++ r)))] ⟨[], []⟩ m fun r H' m' => leM m m' ∧ ∃ k u, r = .tup [.vec k u, .v (.int .i64 0), .v (.int .i64 0)] ∧ H' = ⟨[], [⟨k, u, 27, 4, ts.length, tkCells ts⟩]⟩)
    (h8w : s.length ≤ 15000 → sameL ts3 ts = true ∧ ts3.length ≤ 5000 ∧ ts.length ≤ 5000 ∧ ∀ m, Glob m → FnH Tryd.prog 8 [.v (.string (bs (32 :: 9 :: s)))] ⟨[], []⟩ m fun r H' m' => leM m m' ∧ ∃ k u, r = .tup [.vec k u, .v (.int .i64 0), .v (.int .i64 0)] ∧ H' = ⟨[], [⟨k, u, 27, 4, ts3.length, tkCells ts3⟩]⟩) :
    FnH Tryd.prog 6 [.v (.string (bs s)), .v (.string (bs r))] ⟨[], []⟩ m fun r H' m' => r = .v (.bool true) ∧ H' = ⟨[], []⟩ := by
  refine enter cf6 pu6 Tryd.func6 rfl rfl (by kernel_rfl) rfl ?_ ?_
  · simp only [go_sem, ↓reduceIte, or_true, or_false, true_or, false_or, Option.some.injEq, exists_eq_left, exists_eq_left', Nat.reduceBEq, Nat.reduceAdd, Nat.reduceMul, Nat.reduceSub, Nat.reduceEqDiff, Nat.reduceLT, Nat.reduceLeDiff, Option.map, Option.bind, List.map, List.length, true_implies, true_and, and_true, Bool.and_true, Bool.true_and, Bool.or_false, Bool.false_or, Bool.not_true, Bool.not_false, Bool.and_false, Bool.false_and, List.cons_append, List.nil_append, List.append_nil, mk_eq_bs, tl_bs, List.getElem?_cons_zero, List.getElem?_cons_succ, eq_self, reduceCtorEq, implies_true, false_implies, decide_eq_true_eq, decide_eq_false_iff_not, Bool.and_eq_true, Bool.or_eq_true, Bool.not_eq_true', Bool.and_eq_false_iff, Bool.or_eq_false_iff, Bool.not_eq_false', Option.toList, SV.v.injEq, Value.int.injEq, Value.bool.injEq, Value.string.injEq, Option.getD, List.contains_cons, List.contains_nil, beq_self_eq_true, Nat.max_def, List.set, List.drop, List.take, Int.toNat_natCast, Nat.mul_one, Int.toNat_zero, List.drop_zero, Bx.mk.injEq, Vc.mk.injEq, List.cons.injEq, List.take_length, List.getElem?_nil, List.getD_cons_zero, List.getD_cons_succ, Int.reduceToNat, not_false_eq_true, Nat.le_refl]
  · simp only [go_sem, ↓reduceIte, or_true, or_false, true_or, false_or, Option.some.injEq, exists_eq_left, exists_eq_left', Nat.reduceBEq, Nat.reduceAdd, Nat.reduceMul, Nat.reduceSub, Nat.reduceEqDiff, Nat.reduceLT, Nat.reduceLeDiff, Option.map, Option.bind, List.map, List.length, true_implies, true_and, and_true, Bool.and_true, Bool.true_and, Bool.or_false, Bool.false_or, Bool.not_true, Bool.not_false, Bool.and_false, Bool.false_and, List.cons_append, List.nil_append, List.append_nil, mk_eq_bs, tl_bs, List.getElem?_cons_zero, List.getElem?_cons_succ, eq_self, reduceCtorEq, implies_true, false_implies, decide_eq_true_eq, decide_eq_false_iff_not, Bool.and_eq_true, Bool.or_eq_true, Bool.not_eq_true', Bool.and_eq_false_iff, Bool.or_eq_false_iff, Bool.not_eq_false', Option.toList, SV.v.injEq, Value.int.injEq, Value.bool.injEq, Value.string.injEq, Option.getD, List.contains_cons, List.contains_nil, beq_self_eq_true, Nat.max_def, List.set, List.drop, List.take, Int.toNat_natCast, Nat.mul_one, Int.toNat_zero, List.drop_zero, Bx.mk.injEq, Vc.mk.injEq, List.cons.injEq, List.take_length, List.getElem?_nil, List.getD_cons_zero, List.getD_cons_succ, Int.reduceToNat, not_false_eq_true, Nat.le_refl]
    refine ⟨fun _ => ⟨by kernel_rfl, FnV_of ((awake_spec m hg).mono ?_)⟩, fun hsz => ?_⟩
    · rintro r H' m1 hm1 ⟨rfl, rfl⟩
      simp only [go_sem, ↓reduceIte, or_true, or_false, true_or, false_or, Option.some.injEq, exists_eq_left, exists_eq_left', Nat.reduceBEq, Nat.reduceAdd, Nat.reduceMul, Nat.reduceSub, Nat.reduceEqDiff, Nat.reduceLT, Nat.reduceLeDiff, Option.map, Option.bind, List.map, List.length, true_implies, true_and, and_true, Bool.and_true, Bool.true_and, Bool.or_false, Bool.false_or, Bool.not_true, Bool.not_false, Bool.and_false, Bool.false_and, List.cons_append, List.nil_append, List.append_nil, mk_eq_bs, tl_bs, List.getElem?_cons_zero, List.getElem?_cons_succ, eq_self, reduceCtorEq, implies_true, false_implies, decide_eq_true_eq, decide_eq_false_iff_not, Bool.and_eq_true, Bool.or_eq_true, Bool.not_eq_true', Bool.and_eq_false_iff, Bool.or_eq_false_iff, Bool.not_eq_false', Option.toList, SV.v.injEq, Value.int.injEq, Value.bool.injEq, Value.string.injEq, Option.getD, List.contains_cons, List.contains_nil, beq_self_eq_true, Nat.max_def, List.set, List.drop, List.take, Int.toNat_natCast, Nat.mul_one, Int.toNat_zero, List.drop_zero, Bx.mk.injEq, Vc.mk.injEq, List.cons.injEq, List.take_length, List.getElem?_nil, List.getD_cons_zero, List.getD_cons_succ, Int.reduceToNat, not_false_eq_true, Nat.le_refl]
    · refine WP_loop pu6 (fun j : Nat => ⟨[⟨0, [], .v (.string (bs s))⟩, ⟨1, [], .v (.string (bs r))⟩, ⟨5, [], .v (.int .i64 j)⟩], [], [], [], 0, m⟩)
        (fun j => j ≤ r.length ∧ ∀ c ∈ r.take j, c ≠ 10) (fun j => r.length - j) 0 (by kernel_rfl) (fun _ _ => Nat.le_refl _) (fun _ _ => .inl rfl) (fun j => ?_) ?_ ⟨Nat.zero_le _, by simp⟩ ?_
      · simp only [go_sem, ↓reduceIte, or_true, or_false, true_or, false_or, Option.some.injEq, exists_eq_left, exists_eq_left', Nat.reduceBEq, Nat.reduceAdd, Nat.reduceMul, Nat.reduceSub, Nat.reduceEqDiff, Nat.reduceLT, Nat.reduceLeDiff, Option.map, Option.bind, List.map, List.length, true_implies, true_and, and_true, Bool.and_true, Bool.true_and, Bool.or_false, Bool.false_or, Bool.not_true, Bool.not_false, Bool.and_false, Bool.false_and, List.cons_append, List.nil_append, List.append_nil, mk_eq_bs, tl_bs, List.getElem?_cons_zero, List.getElem?_cons_succ, eq_self, reduceCtorEq, implies_true, false_implies, decide_eq_true_eq, decide_eq_false_iff_not, Bool.and_eq_true, Bool.or_eq_true, Bool.not_eq_true', Bool.and_eq_false_iff, Bool.or_eq_false_iff, Bool.not_eq_false', Option.toList, SV.v.injEq, Value.int.injEq, Value.bool.injEq, Value.string.injEq, Option.getD, List.contains_cons, List.contains_nil, beq_self_eq_true, Nat.max_def, List.set, List.drop, List.take, Int.toNat_natCast, Nat.mul_one, Int.toNat_zero, List.drop_zero, Bx.mk.injEq, Vc.mk.injEq, List.cons.injEq, List.take_length, List.getElem?_nil, List.getD_cons_zero, List.getD_cons_succ, Int.reduceToNat, not_false_eq_true, Nat.le_refl]
      · simp only [go_sem, ↓reduceIte, or_true, or_false, true_or, false_or, Option.some.injEq, exists_eq_left, exists_eq_left', Nat.reduceBEq, Nat.reduceAdd, Nat.reduceMul, Nat.reduceSub, Nat.reduceEqDiff, Nat.reduceLT, Nat.reduceLeDiff, Option.map, Option.bind, List.map, List.length, true_implies, true_and, and_true, Bool.and_true, Bool.true_and, Bool.or_false, Bool.false_or, Bool.not_true, Bool.not_false, Bool.and_false, Bool.false_and, List.cons_append, List.nil_append, List.append_nil, mk_eq_bs, tl_bs, List.getElem?_cons_zero, List.getElem?_cons_succ, eq_self, reduceCtorEq, implies_true, false_implies, decide_eq_true_eq, decide_eq_false_iff_not, Bool.and_eq_true, Bool.or_eq_true, Bool.not_eq_true', Bool.and_eq_false_iff, Bool.or_eq_false_iff, Bool.not_eq_false', Option.toList, SV.v.injEq, Value.int.injEq, Value.bool.injEq, Value.string.injEq, Option.getD, List.contains_cons, List.contains_nil, beq_self_eq_true, Nat.max_def, List.set, List.drop, List.take, Int.toNat_natCast, Nat.mul_one, Int.toNat_zero, List.drop_zero, Bx.mk.injEq, Vc.mk.injEq, List.cons.injEq, List.take_length, List.getElem?_nil, List.getD_cons_zero, List.getD_cons_succ, Int.reduceToNat, not_false_eq_true, Nat.le_refl]
        rfl
      · intro j hj
        simp only [go_sem, ↓reduceIte, or_true, or_false, true_or, false_or, Option.some.injEq, exists_eq_left, exists_eq_left', Nat.reduceBEq, Nat.reduceAdd, Nat.reduceMul, Nat.reduceSub, Nat.reduceEqDiff, Nat.reduceLT, Nat.reduceLeDiff, Option.map, Option.bind, List.map, List.length, true_implies, true_and, and_true, Bool.and_true, Bool.true_and, Bool.or_false, Bool.false_or, Bool.not_true, Bool.not_false, Bool.and_false, Bool.false_and, List.cons_append, List.nil_append, List.append_nil, mk_eq_bs, tl_bs, List.getElem?_cons_zero, List.getElem?_cons_succ, eq_self, reduceCtorEq, implies_true, false_implies, decide_eq_true_eq, decide_eq_false_iff_not, Bool.and_eq_true, Bool.or_eq_true, Bool.not_eq_true', Bool.and_eq_false_iff, Bool.or_eq_false_iff, Bool.not_eq_false', Option.toList, SV.v.injEq, Value.int.injEq, Value.bool.injEq, Value.string.injEq, Option.getD, List.contains_cons, List.contains_nil, beq_self_eq_true, Nat.max_def, List.set, List.drop, List.take, Int.toNat_natCast, Nat.mul_one, Int.toNat_zero, List.drop_zero, Bx.mk.injEq, Vc.mk.injEq, List.cons.injEq, List.take_length, List.getElem?_nil, List.getD_cons_zero, List.getD_cons_succ, Int.reduceToNat, not_false_eq_true, Nat.le_refl]
        have a1 : s.length ≤ 15000 := by clear h8 h8s h8w; omega
        have a2 : r.length ≤ 1000 := by clear h8 h8s h8w; omega
        have b8s := h8s a1 a2
        have b8w := h8w a1
        clear h8s h8w
        refine ⟨fun hlt => ?_, fun hge => ?_⟩
        · refine ⟨⟨by clear h8 b8s b8w; omega, hlt⟩, fun _ => ⟨by kernel_rfl, FnV_of ((awake_spec m hg).mono ?_)⟩, fun hne => ⟨by clear h8 b8s b8w; unfold I64; omega, j + 1, rfl, ⟨by clear h8 b8s b8w; omega, take_next (by clear h8 b8s b8w; omega) hj.2 hne⟩, by clear h8 b8s b8w; omega⟩⟩
          rintro r H' m1 hm1 ⟨rfl, rfl⟩
          simp only [go_sem, ↓reduceIte, or_true, or_false, true_or, false_or, Option.some.injEq, exists_eq_left, exists_eq_left', Nat.reduceBEq, Nat.reduceAdd, Nat.reduceMul, Nat.reduceSub, Nat.reduceEqDiff, Nat.reduceLT, Nat.reduceLeDiff, Option.map, Option.bind, List.map, List.length, true_implies, true_and, and_true, Bool.and_true, Bool.true_and, Bool.or_false, Bool.false_or, Bool.not_true, Bool.not_false, Bool.and_false, Bool.false_and, List.cons_append, List.nil_append, List.append_nil, mk_eq_bs, tl_bs, List.getElem?_cons_zero, List.getElem?_cons_succ, eq_self, reduceCtorEq, implies_true, false_implies, decide_eq_true_eq, decide_eq_false_iff_not, Bool.and_eq_true, Bool.or_eq_true, Bool.not_eq_true', Bool.and_eq_false_iff, Bool.or_eq_false_iff, Bool.not_eq_false', Option.toList, SV.v.injEq, Value.int.injEq, Value.bool.injEq, Value.string.injEq, Option.getD, List.contains_cons, List.contains_nil, beq_self_eq_true, Nat.max_def, List.set, List.drop, List.take, Int.toNat_natCast, Nat.mul_one, Int.toNat_zero, List.drop_zero, Bx.mk.injEq, Vc.mk.injEq, List.cons.injEq, List.take_length, List.getElem?_nil, List.getD_cons_zero, List.getD_cons_succ, Int.reduceToNat, not_false_eq_true, Nat.le_refl]
        · have hall := take_all (by clear h8 b8s b8w; omega) hj.2
          have c8s := b8s hall
          clear b8s
          refine ⟨by kernel_rfl, FnV_of ((h8 m hg).mono ?_)⟩
          rintro r' H' m1 hm1 ⟨hle1, k, u, rfl, rfl⟩
          have hg1 := hg.up hm1
          clear h8
          simp only [go_sem, ↓reduceIte, or_true, or_false, true_or, false_or, Option.some.injEq, exists_eq_left, exists_eq_left', Nat.reduceBEq, Nat.reduceAdd, Nat.reduceMul, Nat.reduceSub, Nat.reduceEqDiff, Nat.reduceLT, Nat.reduceLeDiff, Option.map, Option.bind, List.map, List.length, true_implies, true_and, and_true, Bool.and_true, Bool.true_and, Bool.or_false, Bool.false_or, Bool.not_true, Bool.not_false, Bool.and_false, Bool.false_and, List.cons_append, List.nil_append, List.append_nil, mk_eq_bs, tl_bs, List.getElem?_cons_zero, List.getElem?_cons_succ, eq_self, reduceCtorEq, implies_true, false_implies, decide_eq_true_eq, decide_eq_false_iff_not, Bool.and_eq_true, Bool.or_eq_true, Bool.not_eq_true', Bool.and_eq_false_iff, Bool.or_eq_false_iff, Bool.not_eq_false', Option.toList, SV.v.injEq, Value.int.injEq, Value.bool.injEq, Value.string.injEq, Option.getD, List.contains_cons, List.contains_nil, beq_self_eq_true, Nat.max_def, List.set, List.drop, List.take, Int.toNat_natCast, Nat.mul_one, Int.toNat_zero, List.drop_zero, Bx.mk.injEq, Vc.mk.injEq, List.cons.injEq, List.take_length, List.getElem?_nil, List.getD_cons_zero, List.getD_cons_succ, Int.reduceToNat, not_false_eq_true, Nat.le_refl]
          have q0 : (if k < 0 then False else True) := by simp
          have q1 : 0 + k < 0 + (k + 1) := by clear c8s b8w; omega
          refine ⟨⟨q0, q0, q1⟩, q1, q1, q1, q1, by clear c8s b8w; omega, by clear c8s b8w; simp only [List.length_append, List.length_cons, List.length_nil]; omega, by kernel_rfl, FnV_of ((c8s m1 hg1).mono ?_)⟩
          rintro r' H' m2 hm2 ⟨hle2, k2, u2, rfl, rfl⟩
          have hg2 := hg1.up hm2
          clear c8s
          have n1 : (0 + (k + 1) + k2 = 0 + k) = False := eq_false (by clear b8w; omega)
          have n2 : (0 + k = 0 + (k + 1) + k2) = False := eq_false (by clear b8w; omega)
          have o1 : (0 + (k + 1) + k2 == 0 + k) = false := beq_eq_false_iff_ne.2 (by clear b8w; omega)
          have o2 : (0 + k == 0 + (k + 1) + k2) = false := beq_eq_false_iff_ne.2 (by clear b8w; omega)
          simp only [go_sem, ↓reduceIte, or_true, or_false, true_or, false_or, Option.some.injEq, exists_eq_left, exists_eq_left', Nat.reduceBEq, Nat.reduceAdd, Nat.reduceMul, Nat.reduceSub, Nat.reduceEqDiff, Nat.reduceLT, Nat.reduceLeDiff, Option.map, Option.bind, List.map, List.length, true_implies, true_and, and_true, Bool.and_true, Bool.true_and, Bool.or_false, Bool.false_or, Bool.not_true, Bool.not_false, Bool.and_false, Bool.false_and, List.cons_append, List.nil_append, List.append_nil, mk_eq_bs, tl_bs, List.getElem?_cons_zero, List.getElem?_cons_succ, eq_self, reduceCtorEq, implies_true, false_implies, decide_eq_true_eq, decide_eq_false_iff_not, Bool.and_eq_true, Bool.or_eq_true, Bool.not_eq_true', Bool.and_eq_false_iff, Bool.or_eq_false_iff, Bool.not_eq_false', Option.toList, SV.v.injEq, Value.int.injEq, Value.bool.injEq, Value.string.injEq, Option.getD, List.contains_cons, List.contains_nil, beq_self_eq_true, Nat.max_def, List.set, List.drop, List.take, Int.toNat_natCast, Nat.mul_one, Int.toNat_zero, List.drop_zero, Bx.mk.injEq, Vc.mk.injEq, List.cons.injEq, List.take_length, List.getElem?_nil, List.getD_cons_zero, List.getD_cons_succ, Int.reduceToNat, not_false_eq_true, Nat.le_refl, n1, n2, o1, o2]
          have r0 : (if k2 < 0 then False else True) := by simp
          have r1 : 0 + (k + 1) + k2 < 0 + (k + 1) + (k2 + 1) := by clear b8w; omega
          refine ⟨⟨r0, r0, r1⟩, r1, r1, r1, r1, fun h => absurd trivial h, by clear b8w; omega, by kernel_rfl, FnV_of ((b8w.2.2.2 m2 hg2).mono ?_)⟩
          rintro r' H' m3 hm3 ⟨hle3, k3, u3, rfl, rfl⟩
          have hg3 := hg2.up hm3
          have hsame := b8w.1
          have l3 := b8w.2.1
          have l1 := b8w.2.2.1
          clear b8w
          have n3 : (0 + (k + 1) + (k2 + 1) + k3 = 0 + k) = False := eq_false (by omega)
          have n4 : (0 + (k + 1) + (k2 + 1) + k3 = 0 + (k + 1) + k2) = False := eq_false (by omega)
          have n5 : (0 + k = 0 + (k + 1) + (k2 + 1) + k3) = False := eq_false (by omega)
          have n6 : (0 + (k + 1) + k2 = 0 + (k + 1) + (k2 + 1) + k3) = False := eq_false (by omega)
          have o3 : (0 + (k + 1) + (k2 + 1) + k3 == 0 + k) = false := beq_eq_false_iff_ne.2 (by omega)
          have o4 : (0 + (k + 1) + (k2 + 1) + k3 == 0 + (k + 1) + k2) = false := beq_eq_false_iff_ne.2 (by omega)
          have o5 : (0 + k == 0 + (k + 1) + (k2 + 1) + k3) = false := beq_eq_false_iff_ne.2 (by omega)
          have o6 : (0 + (k + 1) + k2 == 0 + (k + 1) + (k2 + 1) + k3) = false := beq_eq_false_iff_ne.2 (by omega)
          simp only [go_sem, ↓reduceIte, or_true, or_false, true_or, false_or, Option.some.injEq, exists_eq_left, exists_eq_left', Nat.reduceBEq, Nat.reduceAdd, Nat.reduceMul, Nat.reduceSub, Nat.reduceEqDiff, Nat.reduceLT, Nat.reduceLeDiff, Option.map, Option.bind, List.map, List.length, true_implies, true_and, and_true, Bool.and_true, Bool.true_and, Bool.or_false, Bool.false_or, Bool.not_true, Bool.not_false, Bool.and_false, Bool.false_and, List.cons_append, List.nil_append, List.append_nil, mk_eq_bs, tl_bs, List.getElem?_cons_zero, List.getElem?_cons_succ, eq_self, reduceCtorEq, implies_true, false_implies, decide_eq_true_eq, decide_eq_false_iff_not, Bool.and_eq_true, Bool.or_eq_true, Bool.not_eq_true', Bool.and_eq_false_iff, Bool.or_eq_false_iff, Bool.not_eq_false', Option.toList, SV.v.injEq, Value.int.injEq, Value.bool.injEq, Value.string.injEq, Option.getD, List.contains_cons, List.contains_nil, beq_self_eq_true, Nat.max_def, List.set, List.drop, List.take, Int.toNat_natCast, Nat.mul_one, Int.toNat_zero, List.drop_zero, Bx.mk.injEq, Vc.mk.injEq, List.cons.injEq, List.take_length, List.getElem?_nil, List.getD_cons_zero, List.getD_cons_succ, Int.reduceToNat, not_false_eq_true, Nat.le_refl, n1, n2, o1, o2, n3, n4, n5, n6, o3, o4, o5, o6]
          have t0 : (if k3 < 0 then False else True) := by simp
          have t1 : 0 + (k + 1) + (k2 + 1) + k3 < 0 + (k + 1) + (k2 + 1) + (k3 + 1) := by omega
          refine ⟨⟨t0, t0, t1⟩, t1, t1, t1, t1, by kernel_rfl, FnV_of ((awake_spec m3 hg3).mono ?_)⟩
          rintro r' H' m4 hm4 ⟨rfl, rfl⟩
          have r1' : 0 + (k + 1) + (k2 + 1) + k3 < 0 + (k + 1) + (k2 + 1) + (k3 + 1) + 0 + 0 := by omega
          have w1 : 0 + (k + 1) + k2 < 0 + (k + 1) + (k2 + 1) + (k3 + 1) + 0 := by omega
          have w2 : 0 + k < 0 + (k + 1) + (k2 + 1) + (k3 + 1) + 0 := by omega
          simp only [go_sem, ↓reduceIte, or_true, or_false, true_or, false_or, Option.some.injEq, exists_eq_left, exists_eq_left', Nat.reduceBEq, Nat.reduceAdd, Nat.reduceMul, Nat.reduceSub, Nat.reduceEqDiff, Nat.reduceLT, Nat.reduceLeDiff, Option.map, Option.bind, List.map, List.length, true_implies, true_and, and_true, Bool.and_true, Bool.true_and, Bool.or_false, Bool.false_or, Bool.not_true, Bool.not_false, Bool.and_false, Bool.false_and, List.cons_append, List.nil_append, List.append_nil, mk_eq_bs, tl_bs, List.getElem?_cons_zero, List.getElem?_cons_succ, eq_self, reduceCtorEq, implies_true, false_implies, decide_eq_true_eq, decide_eq_false_iff_not, Bool.and_eq_true, Bool.or_eq_true, Bool.not_eq_true', Bool.and_eq_false_iff, Bool.or_eq_false_iff, Bool.not_eq_false', Option.toList, SV.v.injEq, Value.int.injEq, Value.bool.injEq, Value.string.injEq, Option.getD, List.contains_cons, List.contains_nil, beq_self_eq_true, Nat.max_def, List.set, List.drop, List.take, Int.toNat_natCast, Nat.mul_one, Int.toNat_zero, List.drop_zero, Bx.mk.injEq, Vc.mk.injEq, List.cons.injEq, List.take_length, List.getElem?_nil, List.getD_cons_zero, List.getD_cons_succ, Int.reduceToNat, not_false_eq_true, Nat.le_refl, n1, n2, o1, o2, n3, n4, n5, n6, o3, o4, o5, o6]
          refine ⟨w1, w2, ⟨by kernel_rfl, fun b cb m6 hm6 _ hrb a' ca' m7 hm7 _ hra => FnV_of (((same_spec ts ts b a' _ cb _ ca' m7 (Rds_up hm7 hrb) hra (by omega)).mono (fun r H' m' _ h => by rw [sameL_refl] at h; exact h)).mono ?_)⟩, fun h => by simp at h⟩
          rintro r' H' m8 hm8 ⟨rfl, rfl⟩
          simp only [go_sem, ↓reduceIte, or_true, or_false, true_or, false_or, Option.some.injEq, exists_eq_left, exists_eq_left', Nat.reduceBEq, Nat.reduceAdd, Nat.reduceMul, Nat.reduceSub, Nat.reduceEqDiff, Nat.reduceLT, Nat.reduceLeDiff, Option.map, Option.bind, List.map, List.length, true_implies, true_and, and_true, Bool.and_true, Bool.true_and, Bool.or_false, Bool.false_or, Bool.not_true, Bool.not_false, Bool.and_false, Bool.false_and, List.cons_append, List.nil_append, List.append_nil, mk_eq_bs, tl_bs, List.getElem?_cons_zero, List.getElem?_cons_succ, eq_self, reduceCtorEq, implies_true, false_implies, decide_eq_true_eq, decide_eq_false_iff_not, Bool.and_eq_true, Bool.or_eq_true, Bool.not_eq_true', Bool.and_eq_false_iff, Bool.or_eq_false_iff, Bool.not_eq_false', Option.toList, SV.v.injEq, Value.int.injEq, Value.bool.injEq, Value.string.injEq, Option.getD, List.contains_cons, List.contains_nil, beq_self_eq_true, Nat.max_def, List.set, List.drop, List.take, Int.toNat_natCast, Nat.mul_one, Int.toNat_zero, List.drop_zero, Bx.mk.injEq, Vc.mk.injEq, List.cons.injEq, List.take_length, List.getElem?_nil, List.getD_cons_zero, List.getD_cons_succ, Int.reduceToNat, not_false_eq_true, Nat.le_refl, n1, n2, o1, o2, n3, n4, n5, n6, o3, o4, o5, o6]
          refine ⟨Nat.lt_of_lt_of_le r1' (Nat.le_refl _), w2, ⟨by kernel_rfl, fun b cb m9 hm9 _ hrb a' ca' m10 hm10 _ hra => FnV_of (((same_spec ts3 ts b a' _ cb _ ca' m10 (Rds_up hm10 hrb) hra (by omega)).mono (fun r H' m' _ h => by rw [hsame] at h; exact h)).mono ?_)⟩, fun h => by simp at h⟩
          rintro r' H' m11 hm11 ⟨rfl, rfl⟩
          simp only [go_sem, ↓reduceIte, or_true, or_false, true_or, false_or, Option.some.injEq, exists_eq_left, exists_eq_left', Nat.reduceBEq, Nat.reduceAdd, Nat.reduceMul, Nat.reduceSub, Nat.reduceEqDiff, Nat.reduceLT, Nat.reduceLeDiff, Option.map, Option.bind, List.map, List.length, true_implies, true_and, and_true, Bool.and_true, Bool.true_and, Bool.or_false, Bool.false_or, Bool.not_true, Bool.not_false, Bool.and_false, Bool.false_and, List.cons_append, List.nil_append, List.append_nil, mk_eq_bs, tl_bs, List.getElem?_cons_zero, List.getElem?_cons_succ, eq_self, reduceCtorEq, implies_true, false_implies, decide_eq_true_eq, decide_eq_false_iff_not, Bool.and_eq_true, Bool.or_eq_true, Bool.not_eq_true', Bool.and_eq_false_iff, Bool.or_eq_false_iff, Bool.not_eq_false', Option.toList, SV.v.injEq, Value.int.injEq, Value.bool.injEq, Value.string.injEq, Option.getD, List.contains_cons, List.contains_nil, beq_self_eq_true, Nat.max_def, List.set, List.drop, List.take, Int.toNat_natCast, Nat.mul_one, Int.toNat_zero, List.drop_zero, Bx.mk.injEq, Vc.mk.injEq, List.cons.injEq, List.take_length, List.getElem?_nil, List.getD_cons_zero, List.getD_cons_succ, Int.reduceToNat, not_false_eq_true, Nat.le_refl, n1, n2, o1, o2, n3, n4, n5, n6, o3, o4, o5, o6]
set_option maxHeartbeats 8000000 in
set_option maxRecDepth 20000 in
theorem law6_err (s r : List UInt8) (q e : Int) (he : e ≠ 0) (m : Mem) (hg : Glob m) (hs : s.length ≤ 4611686018427387904) (hr : r.length ≤ 4611686018427387904)
    (h8 : ∀ m, Glob m → FnH Tryd.prog 8 [.v (.string (bs s))] ⟨[], []⟩ m fun r H' m' => leM m m' ∧ r = .tup [.v (.slice none 0 0), .v (.int .i64 q), .v (.int .i64 e)] ∧ H' = ⟨[], []⟩)
    (h8s : s.length ≤ 15000 → r.length ≤ 1000 → (∀ c ∈ r, c ≠ 10) → ∀ m, Glob m → FnH Tryd.prog 8 [.v (.string (bs (s ++ [10, 32, 47, 47] ++ r)))] ⟨[], []⟩ m fun r H' m' => leM m m' ∧ r = .tup [.v (.slice none 0 0), .v (.int .i64 q), .v (.int .i64 e)] ∧ H' = ⟨[], []⟩) :
    FnH Tryd.prog 6 [.v (.string (bs s)), .v (.string (bs r))] ⟨[], []⟩ m fun r H' m' => r = .v (.bool true) ∧ H' = ⟨[], []⟩ := by
  refine enter cf6 pu6 Tryd.func6 rfl rfl (by kernel_rfl) rfl ?_ ?_
  · simp only [go_sem, ↓reduceIte, or_true, or_false, true_or, false_or, Option.some.injEq, exists_eq_left, exists_eq_left', Nat.reduceBEq, Nat.reduceAdd, Nat.reduceMul, Nat.reduceSub, Nat.reduceEqDiff, Nat.reduceLT, Nat.reduceLeDiff, Option.map, Option.bind, List.map, List.length, true_implies, true_and, and_true, Bool.and_true, Bool.true_and, Bool.or_false, Bool.false_or, Bool.not_true, Bool.not_false, Bool.and_false, Bool.false_and, List.cons_append, List.nil_append, List.append_nil, mk_eq_bs, tl_bs, List.getElem?_cons_zero, List.getElem?_cons_succ, eq_self, reduceCtorEq, implies_true, false_implies, decide_eq_true_eq, decide_eq_false_iff_not, Bool.and_eq_true, Bool.or_eq_true, Bool.not_eq_true', Bool.and_eq_false_iff, Bool.or_eq_false_iff, Bool.not_eq_false', Option.toList, SV.v.injEq, Value.int.injEq, Value.bool.injEq, Value.string.injEq, Option.getD, List.contains_cons, List.contains_nil, beq_self_eq_true, Nat.max_def, List.set, List.drop, List.take, Int.toNat_natCast, Nat.mul_one, Int.toNat_zero, List.drop_zero, Bx.mk.injEq, Vc.mk.injEq, List.cons.injEq, List.take_length, List.getElem?_nil, List.getD_cons_zero, List.getD_cons_succ, Int.reduceToNat, not_false_eq_true, Nat.le_refl]
  · simp only [go_sem, ↓reduceIte, or_true, or_false, true_or, false_or, Option.some.injEq, exists_eq_left, exists_eq_left', Nat.reduceBEq, Nat.reduceAdd, Nat.reduceMul, Nat.reduceSub, Nat.reduceEqDiff, Nat.reduceLT, Nat.reduceLeDiff, Option.map, Option.bind, List.map, List.length, true_implies, true_and, and_true, Bool.and_true, Bool.true_and, Bool.or_false, Bool.false_or, Bool.not_true, Bool.not_false, Bool.and_false, Bool.false_and, List.cons_append, List.nil_append, List.append_nil, mk_eq_bs, tl_bs, List.getElem?_cons_zero, List.getElem?_cons_succ, eq_self, reduceCtorEq, implies_true, false_implies, decide_eq_true_eq, decide_eq_false_iff_not, Bool.and_eq_true, Bool.or_eq_true, Bool.not_eq_true', Bool.and_eq_false_iff, Bool.or_eq_false_iff, Bool.not_eq_false', Option.toList, SV.v.injEq, Value.int.injEq, Value.bool.injEq, Value.string.injEq, Option.getD, List.contains_cons, List.contains_nil, beq_self_eq_true, Nat.max_def, List.set, List.drop, List.take, Int.toNat_natCast, Nat.mul_one, Int.toNat_zero, List.drop_zero, Bx.mk.injEq, Vc.mk.injEq, List.cons.injEq, List.take_length, List.getElem?_nil, List.getD_cons_zero, List.getD_cons_succ, Int.reduceToNat, not_false_eq_true, Nat.le_refl]
    refine ⟨fun _ => ⟨by kernel_rfl, FnV_of ((awake_spec m hg).mono ?_)⟩, fun hsz => ?_⟩
    · rintro r H' m1 hm1 ⟨rfl, rfl⟩
      simp only [go_sem, ↓reduceIte, or_true, or_false, true_or, false_or, Option.some.injEq, exists_eq_left, exists_eq_left', Nat.reduceBEq, Nat.reduceAdd, Nat.reduceMul, Nat.reduceSub, Nat.reduceEqDiff, Nat.reduceLT, Nat.reduceLeDiff, Option.map, Option.bind, List.map, List.length, true_implies, true_and, and_true, Bool.and_true, Bool.true_and, Bool.or_false, Bool.false_or, Bool.not_true, Bool.not_false, Bool.and_false, Bool.false_and, List.cons_append, List.nil_append, List.append_nil, mk_eq_bs, tl_bs, List.getElem?_cons_zero, List.getElem?_cons_succ, eq_self, reduceCtorEq, implies_true, false_implies, decide_eq_true_eq, decide_eq_false_iff_not, Bool.and_eq_true, Bool.or_eq_true, Bool.not_eq_true', Bool.and_eq_false_iff, Bool.or_eq_false_iff, Bool.not_eq_false', Option.toList, SV.v.injEq, Value.int.injEq, Value.bool.injEq, Value.string.injEq, Option.getD, List.contains_cons, List.contains_nil, beq_self_eq_true, Nat.max_def, List.set, List.drop, List.take, Int.toNat_natCast, Nat.mul_one, Int.toNat_zero, List.drop_zero, Bx.mk.injEq, Vc.mk.injEq, List.cons.injEq, List.take_length, List.getElem?_nil, List.getD_cons_zero, List.getD_cons_succ, Int.reduceToNat, not_false_eq_true, Nat.le_refl]
    · refine WP_loop pu6 (fun j : Nat => ⟨[⟨0, [], .v (.string (bs s))⟩, ⟨1, [], .v (.string (bs r))⟩, ⟨5, [], .v (.int .i64 j)⟩], [], [], [], 0, m⟩)
        (fun j => j ≤ r.length ∧ ∀ c ∈ r.take j, c ≠ 10) (fun j => r.length - j) 0 (by kernel_rfl) (fun _ _ => Nat.le_refl _) (fun _ _ => .inl rfl) (fun j => ?_) ?_ ⟨Nat.zero_le _, by simp⟩ ?_
      · simp only [go_sem, ↓reduceIte, or_true, or_false, true_or, false_or, Option.some.injEq, exists_eq_left, exists_eq_left', Nat.reduceBEq, Nat.reduceAdd, Nat.reduceMul, Nat.reduceSub, Nat.reduceEqDiff, Nat.reduceLT, Nat.reduceLeDiff, Option.map, Option.bind, List.map, List.length, true_implies, true_and, and_true, Bool.and_true, Bool.true_and, Bool.or_false, Bool.false_or, Bool.not_true, Bool.not_false, Bool.and_false, Bool.false_and, List.cons_append, List.nil_append, List.append_nil, mk_eq_bs, tl_bs, List.getElem?_cons_zero, List.getElem?_cons_succ, eq_self, reduceCtorEq, implies_true, false_implies, decide_eq_true_eq, decide_eq_false_iff_not, Bool.and_eq_true, Bool.or_eq_true, Bool.not_eq_true', Bool.and_eq_false_iff, Bool.or_eq_false_iff, Bool.not_eq_false', Option.toList, SV.v.injEq, Value.int.injEq, Value.bool.injEq, Value.string.injEq, Option.getD, List.contains_cons, List.contains_nil, beq_self_eq_true, Nat.max_def, List.set, List.drop, List.take, Int.toNat_natCast, Nat.mul_one, Int.toNat_zero, List.drop_zero, Bx.mk.injEq, Vc.mk.injEq, List.cons.injEq, List.take_length, List.getElem?_nil, List.getD_cons_zero, List.getD_cons_succ, Int.reduceToNat, not_false_eq_true, Nat.le_refl]
      · simp only [go_sem, ↓reduceIte, or_true, or_false, true_or, false_or, Option.some.injEq, exists_eq_left, exists_eq_left', Nat.reduceBEq, Nat.reduceAdd, Nat.reduceMul, Nat.reduceSub, Nat.reduceEqDiff, Nat.reduceLT, Nat.reduceLeDiff, Option.map, Option.bind, List.map, List.length, true_implies, true_and, and_true, Bool.and_true, Bool.true_and, Bool.or_false, Bool.false_or, Bool.not_true, Bool.not_false, Bool.and_false, Bool.false_and, List.cons_append, List.nil_append, List.append_nil, mk_eq_bs, tl_bs, List.getElem?_cons_zero, List.getElem?_cons_succ, eq_self, reduceCtorEq, implies_true, false_implies, decide_eq_true_eq, decide_eq_false_iff_not, Bool.and_eq_true, Bool.or_eq_true, Bool.not_eq_true', Bool.and_eq_false_iff, Bool.or_eq_false_iff, Bool.not_eq_false', Option.toList, SV.v.injEq, Value.int.injEq, Value.bool.injEq, Value.string.injEq, Option.getD, List.contains_cons, List.contains_nil, beq_self_eq_true, Nat.max_def, List.set, List.drop, List.take, Int.toNat_natCast, Nat.mul_one, Int.toNat_zero, List.drop_zero, Bx.mk.injEq, Vc.mk.injEq, List.cons.injEq, List.take_length, List.getElem?_nil, List.getD_cons_zero, List.getD_cons_succ, Int.reduceToNat, not_false_eq_true, Nat.le_refl]
        rfl
      · intro j hj
        simp only [go_sem, ↓reduceIte, or_true, or_false, true_or, false_or, Option.some.injEq, exists_eq_left, exists_eq_left', Nat.reduceBEq, Nat.reduceAdd, Nat.reduceMul, Nat.reduceSub, Nat.reduceEqDiff, Nat.reduceLT, Nat.reduceLeDiff, Option.map, Option.bind, List.map, List.length, true_implies, true_and, and_true, Bool.and_true, Bool.true_and, Bool.or_false, Bool.false_or, Bool.not_true, Bool.not_false, Bool.and_false, Bool.false_and, List.cons_append, List.nil_append, List.append_nil, mk_eq_bs, tl_bs, List.getElem?_cons_zero, List.getElem?_cons_succ, eq_self, reduceCtorEq, implies_true, false_implies, decide_eq_true_eq, decide_eq_false_iff_not, Bool.and_eq_true, Bool.or_eq_true, Bool.not_eq_true', Bool.and_eq_false_iff, Bool.or_eq_false_iff, Bool.not_eq_false', Option.toList, SV.v.injEq, Value.int.injEq, Value.bool.injEq, Value.string.injEq, Option.getD, List.contains_cons, List.contains_nil, beq_self_eq_true, Nat.max_def, List.set, List.drop, List.take, Int.toNat_natCast, Nat.mul_one, Int.toNat_zero, List.drop_zero, Bx.mk.injEq, Vc.mk.injEq, List.cons.injEq, List.take_length, List.getElem?_nil, List.getD_cons_zero, List.getD_cons_succ, Int.reduceToNat, not_false_eq_true, Nat.le_refl]
        have a1 : s.length ≤ 15000 := by clear h8 h8s; omega
        have a2 : r.length ≤ 1000 := by clear h8 h8s; omega
        have b8s := h8s a1 a2
        clear h8s
        refine ⟨fun hlt => ?_, fun hge => ?_⟩
        · refine ⟨⟨by clear h8 b8s; omega, hlt⟩, fun _ => ⟨by kernel_rfl, FnV_of ((awake_spec m hg).mono ?_)⟩, fun hne => ⟨by clear h8 b8s; unfold I64; omega, j + 1, rfl, ⟨by clear h8 b8s; omega, take_next (by clear h8 b8s; omega) hj.2 hne⟩, by clear h8 b8s; omega⟩⟩
          rintro r H' m1 hm1 ⟨rfl, rfl⟩
          simp only [go_sem, ↓reduceIte, or_true, or_false, true_or, false_or, Option.some.injEq, exists_eq_left, exists_eq_left', Nat.reduceBEq, Nat.reduceAdd, Nat.reduceMul, Nat.reduceSub, Nat.reduceEqDiff, Nat.reduceLT, Nat.reduceLeDiff, Option.map, Option.bind, List.map, List.length, true_implies, true_and, and_true, Bool.and_true, Bool.true_and, Bool.or_false, Bool.false_or, Bool.not_true, Bool.not_false, Bool.and_false, Bool.false_and, List.cons_append, List.nil_append, List.append_nil, mk_eq_bs, tl_bs, List.getElem?_cons_zero, List.getElem?_cons_succ, eq_self, reduceCtorEq, implies_true, false_implies, decide_eq_true_eq, decide_eq_false_iff_not, Bool.and_eq_true, Bool.or_eq_true, Bool.not_eq_true', Bool.and_eq_false_iff, Bool.or_eq_false_iff, Bool.not_eq_false', Option.toList, SV.v.injEq, Value.int.injEq, Value.bool.injEq, Value.string.injEq, Option.getD, List.contains_cons, List.contains_nil, beq_self_eq_true, Nat.max_def, List.set, List.drop, List.take, Int.toNat_natCast, Nat.mul_one, Int.toNat_zero, List.drop_zero, Bx.mk.injEq, Vc.mk.injEq, List.cons.injEq, List.take_length, List.getElem?_nil, List.getD_cons_zero, List.getD_cons_succ, Int.reduceToNat, not_false_eq_true, Nat.le_refl]
        · have hall := take_all (by clear h8 b8s; omega) hj.2
          have c8s := b8s hall
          clear b8s
          refine ⟨by kernel_rfl, FnV_of ((h8 m hg).mono ?_)⟩
          rintro r' H' m1 hm1 ⟨hle1, rfl, rfl⟩
          have hg1 := hg.up hm1
          clear h8
          simp only [go_sem, ↓reduceIte, or_true, or_false, true_or, false_or, Option.some.injEq, exists_eq_left, exists_eq_left', Nat.reduceBEq, Nat.reduceAdd, Nat.reduceMul, Nat.reduceSub, Nat.reduceEqDiff, Nat.reduceLT, Nat.reduceLeDiff, Option.map, Option.bind, List.map, List.length, true_implies, true_and, and_true, Bool.and_true, Bool.true_and, Bool.or_false, Bool.false_or, Bool.not_true, Bool.not_false, Bool.and_false, Bool.false_and, List.cons_append, List.nil_append, List.append_nil, mk_eq_bs, tl_bs, List.getElem?_cons_zero, List.getElem?_cons_succ, eq_self, reduceCtorEq, implies_true, false_implies, decide_eq_true_eq, decide_eq_false_iff_not, Bool.and_eq_true, Bool.or_eq_true, Bool.not_eq_true', Bool.and_eq_false_iff, Bool.or_eq_false_iff, Bool.not_eq_false', Option.toList, SV.v.injEq, Value.int.injEq, Value.bool.injEq, Value.string.injEq, Option.getD, List.contains_cons, List.contains_nil, beq_self_eq_true, Nat.max_def, List.set, List.drop, List.take, Int.toNat_natCast, Nat.mul_one, Int.toNat_zero, List.drop_zero, Bx.mk.injEq, Vc.mk.injEq, List.cons.injEq, List.take_length, List.getElem?_nil, List.getD_cons_zero, List.getD_cons_succ, Int.reduceToNat, not_false_eq_true, Nat.le_refl]
          refine ⟨by clear c8s; omega, by clear c8s; simp only [List.length_append, List.length_cons, List.length_nil]; omega, by kernel_rfl, FnV_of ((c8s m1 hg1).mono ?_)⟩
          rintro r' H' m2 hm2 ⟨hle2, rfl, rfl⟩
          have hg2 := hg1.up hm2
          clear c8s
          simp only [go_sem, ↓reduceIte, or_true, or_false, true_or, false_or, Option.some.injEq, exists_eq_left, exists_eq_left', Nat.reduceBEq, Nat.reduceAdd, Nat.reduceMul, Nat.reduceSub, Nat.reduceEqDiff, Nat.reduceLT, Nat.reduceLeDiff, Option.map, Option.bind, List.map, List.length, true_implies, true_and, and_true, Bool.and_true, Bool.true_and, Bool.or_false, Bool.false_or, Bool.not_true, Bool.not_false, Bool.and_false, Bool.false_and, List.cons_append, List.nil_append, List.append_nil, mk_eq_bs, tl_bs, List.getElem?_cons_zero, List.getElem?_cons_succ, eq_self, reduceCtorEq, implies_true, false_implies, decide_eq_true_eq, decide_eq_false_iff_not, Bool.and_eq_true, Bool.or_eq_true, Bool.not_eq_true', Bool.and_eq_false_iff, Bool.or_eq_false_iff, Bool.not_eq_false', Option.toList, SV.v.injEq, Value.int.injEq, Value.bool.injEq, Value.string.injEq, Option.getD, List.contains_cons, List.contains_nil, beq_self_eq_true, Nat.max_def, List.set, List.drop, List.take, Int.toNat_natCast, Nat.mul_one, Int.toNat_zero, List.drop_zero, Bx.mk.injEq, Vc.mk.injEq, List.cons.injEq, List.take_length, List.getElem?_nil, List.getD_cons_zero, List.getD_cons_succ, Int.reduceToNat, not_false_eq_true, Nat.le_refl]
          refine ⟨fun _ => ⟨by kernel_rfl, FnV_of ((awake_spec m2 hg2).mono ?_)⟩, fun hh => absurd hh he⟩
          rintro r' H' m3 hm3 ⟨rfl, rfl⟩
          simp only [go_sem, ↓reduceIte, or_true, or_false, true_or, false_or, Option.some.injEq, exists_eq_left, exists_eq_left', Nat.reduceBEq, Nat.reduceAdd, Nat.reduceMul, Nat.reduceSub, Nat.reduceEqDiff, Nat.reduceLT, Nat.reduceLeDiff, Option.map, Option.bind, List.map, List.length, true_implies, true_and, and_true, Bool.and_true, Bool.true_and, Bool.or_false, Bool.false_or, Bool.not_true, Bool.not_false, Bool.and_false, Bool.false_and, List.cons_append, List.nil_append, List.append_nil, mk_eq_bs, tl_bs, List.getElem?_cons_zero, List.getElem?_cons_succ, eq_self, reduceCtorEq, implies_true, false_implies, decide_eq_true_eq, decide_eq_false_iff_not, Bool.and_eq_true, Bool.or_eq_true, Bool.not_eq_true', Bool.and_eq_false_iff, Bool.or_eq_false_iff, Bool.not_eq_false', Option.toList, SV.v.injEq, Value.int.injEq, Value.bool.injEq, Value.string.injEq, Option.getD, List.contains_cons, List.contains_nil, beq_self_eq_true, Nat.max_def, List.set, List.drop, List.take, Int.toNat_natCast, Nat.mul_one, Int.toNat_zero, List.drop_zero, Bx.mk.injEq, Vc.mk.injEq, List.cons.injEq, List.take_length, List.getElem?_nil, List.getD_cons_zero, List.getD_cons_succ, Int.reduceToNat, not_false_eq_true, Nat.le_refl]
          exact ⟨he, (Classical.em _).symm⟩
theorem law6_spec (s r : List UInt8) (m : Mem) (hg : Glob m) (hs : s.length ≤ 140737488351232) (hr : r.length ≤ 140737488351232) :
    FnH Tryd.prog 6 [.v (.string (bs s)), .v (.string (bs r))] ⟨[], []⟩ m fun r H' m' => r = .v (.bool true) ∧ H' = ⟨[], []⟩ := by
  have e8 : ∀ m, Glob m → _ := fun m hg => tokenize_spec s m hg (by omega)
  have e8s : ∀ m, Glob m → _ := fun m hg => tokenize_spec (s ++ sufL r) m hg (by simp only [sufL, List.length_append, List.length_cons]; omega)
  have e8w : ∀ m, Glob m → _ := fun m hg => tokenize_spec (32 :: 9 :: s) m hg (by simp only [List.length_cons]; omega)
  have esuf : s ++ [10, 32, 47, 47] ++ r = s ++ sufL r := by simp [sufL]
  rcases hx : tokenizeL s with ⟨ts, q, e⟩
  have hn := tok_few s
  have hn3 := tok_few (32 :: 9 :: s)
  by_cases he : e = 0
  · subst he
    have hq : s.length ≤ 15000 → q = 0 := fun h => by have := (white_law h).2.2; rw [hx] at this; exact (this rfl).2
    have hq0 : q = 0 := by
      by_cases hl : s.length ≤ 20000
      · have := (lexG_norm (s.length + 1) 0 0 s).1
        rw [← tokenize_eq hl, hx] at this
        exact this rfl
      · have e : tokenizeL s = ([], 0, 8) := if_pos (by omega)
        rw [hx] at e; cases e
    subst hq0
    rw [hx] at hn
    refine law6_ok s r ts (tokenizeL (32 :: 9 :: s)).1 m hg (by omega) (by omega) (fun m hg => (e8 m hg).mono fun r H' m' _ h => ⟨h.1, by have := h.2; rw [hx] at this; exact ROut_ok this⟩)
      (fun h1 h2 h3 m hg => ?_) (fun h1 => ⟨?_, hn3, hn, fun m hg => (e8w m hg).mono fun r H' m' _ h => ⟨h.1, ?_⟩⟩)
    · rw [esuf]
      exact (e8s m hg).mono fun r H' m' _ h => ⟨h.1, by have := h.2; rw [comment_law h1 h2 h3, hx] at this; exact ROut_ok this⟩
    · have := (white_law h1).2.1
      rw [hx] at this; exact this
    · have w := white_law h1
      rw [hx] at w
      obtain ⟨w1, _, w3⟩ := w
      have w3 := (w3 rfl).1
      have := h.2
      rcases hy : tokenizeL (32 :: 9 :: s) with ⟨t3, q3, e3⟩
      rw [hy] at this w1 w3
      simp only at w1 w3
      subst w1 w3
      exact ROut_ok this
  · refine law6_err s r q e he m hg (by omega) (by omega) (fun m hg => (e8 m hg).mono fun r H' m' _ h => ⟨h.1, by have := h.2; rw [hx] at this; exact ROut_err he this⟩) (fun h1 h2 h3 m hg => ?_)
    rw [esuf]
    exact (e8s m hg).mono fun r H' m' _ h => ⟨h.1, by have := h.2; rw [comment_law h1 h2 h3, hx] at this; exact ROut_err he this⟩
end Go.Proofs.YtmkifodpkcmgoaaDoor.E

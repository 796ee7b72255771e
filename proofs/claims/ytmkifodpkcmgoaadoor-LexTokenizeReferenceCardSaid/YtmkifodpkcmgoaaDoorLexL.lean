/- lex, part L: a token; the tokens. -/
import Derived.Test.YtmkifodpkcmgoaaDoorLexK
namespace Go.Proofs.YtmkifodpkcmgoaaDoor.E
open Go

/-- The token with which a text begins: kind, text, number, length. -/
def tokL (l : List UInt8) : Option (Int × List UInt8 × Int × Nat) :=
  match l with
  | [] => none
  | c :: r =>
    if isStartB c.toNat = true then (if isName (idS l) = true then some (if keywordsL.contains (idS l) = true then 2 else 1, idS l, 0, idN l) else none)
    else if isDigitB c.toNat = true then (if (numL l).2.2.2 = true then some (if (numL l).1 = true then 4 else 3, [], (numL l).2.1, (numL l).2.2.1) else none)
    else if c.toNat = 34 then (match qScan r with
      | some (b, n) => if b.length ≤ 1024 then some (5, b, 0, 1 + n) else none
      | none => none)
    else (signAt l).map fun o => (6, o, 0, o.length)
def NOut (s : List UInt8) (p : Nat) (o : Option (Int × List UInt8 × Int × Nat)) (r : SV) (H' : Hp) : Prop :=
  match o with
  | some (k, t, n, len) => r = .tup [Tk.sv ⟨k, t, n, p⟩, .v (.bool true)] ∧ H' = ⟨[scB s (p + len : Nat)], []⟩
  | none => ∃ t q, r = .tup [Tk.sv t, .v (.bool false)] ∧ H' = ⟨[scB s q], []⟩
def NRes (s : List UInt8) (p : Nat) (m : Mem) (r : SV) (H' : Hp) (m' : Mem) : Prop :=
  m.le m' ∧ ∃ (t : Tk) (b : Bool) (q : Int), r = .tup [Tk.sv t, .v (.bool b)] ∧ H' = ⟨[scB s q], []⟩ ∧ NOut s p (tokL (s.drop p)) (.tup [Tk.sv t, .v (.bool b)]) ⟨[scB s q], []⟩
theorem next_id {s : List UInt8} {p : Nat} {m m' : Mem} {r : SV} {H' : Hp} (hp : p < s.length) (h1 : isStartB (s.getD p 0).toNat = true)
    (h : m.le m' ∧ r = .tup [Tk.sv ⟨if keywordsL.contains (idS (s.drop p)) = true then 2 else 1, idS (s.drop p), 0, p⟩, .v (.bool (isName (idS (s.drop p))))] ∧ H' = ⟨[scB s (p + idN (s.drop p) : Nat)], []⟩) : NRes s p m r H' m' := by
  obtain ⟨hle, rfl, rfl⟩ := h
  refine ⟨hle, _, _, _, rfl, rfl, ?_⟩
  have e : tokL (s.drop p) = if isName (idS (s.drop p)) = true then some (if keywordsL.contains (idS (s.drop p)) = true then 2 else 1, idS (s.drop p), 0, idN (s.drop p)) else none := by
    rw [drop_at hp]
    show (if isStartB (s.getD p 0).toNat = true then _ else _) = _
    rw [if_pos h1]
  rw [e]
  cases hn : isName (idS (s.drop p)) with
  | true => exact ⟨rfl, rfl⟩
  | false => exact ⟨_, _, rfl, rfl⟩
theorem next_num {s : List UInt8} {p : Nat} {m m' : Mem} {r : SV} {H' : Hp} (hm : m.le m') (hp : p < s.length) (h1 : isStartB (s.getD p 0).toNat = false) (h2 : isDigitB (s.getD p 0).toNat = true)
    (h : m' = m ∧ r = .tup [Tk.sv ⟨if (numL (s.drop p)).1 = true then 4 else 3, [], (numL (s.drop p)).2.1, p⟩, .v (.bool (numL (s.drop p)).2.2.2)] ∧ H' = ⟨[scB s (p + (numL (s.drop p)).2.2.1 : Nat)], []⟩) : NRes s p m r H' m' := by
  obtain ⟨_, rfl, rfl⟩ := h
  refine ⟨hm, _, _, _, rfl, rfl, ?_⟩
  have e : tokL (s.drop p) = if (numL (s.drop p)).2.2.2 = true then some (if (numL (s.drop p)).1 = true then 4 else 3, [], (numL (s.drop p)).2.1, (numL (s.drop p)).2.2.1) else none := by
    rw [drop_at hp]
    show (if isStartB (s.getD p 0).toNat = true then _ else if isDigitB (s.getD p 0).toNat = true then _ else _) = _
    rw [if_neg (by rw [h1]; exact Bool.false_ne_true), if_pos h2]
  rw [e]
  cases hn : (numL (s.drop p)).2.2.2 with
  | true => exact ⟨rfl, rfl⟩
  | false => exact ⟨_, _, rfl, rfl⟩
theorem next_quo {s : List UInt8} {p : Nat} {m m' : Mem} {r : SV} {H' : Hp} (hm : m.le m') (hp : p < s.length) (h1 : isStartB (s.getD p 0).toNat = false) (h2 : isDigitB (s.getD p 0).toNat = false) (h3 : (((s.getD p 0).toNat : Nat) : Int) = 34)
    (h : m' = m ∧ QOut s p (qScan (s.drop (p + 1))) r H') : NRes s p m r H' m' := by
  obtain ⟨_, h⟩ := h
  have e : tokL (s.drop p) = match qScan (s.drop (p + 1)) with
      | some (b, n) => if b.length ≤ 1024 then some (5, b, 0, 1 + n) else none
      | none => none := by
    rw [drop_at hp]
    show (if isStartB (s.getD p 0).toNat = true then _ else if isDigitB (s.getD p 0).toNat = true then _ else if (s.getD p 0).toNat = 34 then _ else _) = _
    rw [if_neg (by rw [h1]; exact Bool.false_ne_true), if_neg (by rw [h2]; exact Bool.false_ne_true), if_pos (by omega)]
  unfold NRes
  rw [e]
  cases hq : qScan (s.drop (p + 1)) with
  | none =>
    rw [hq] at h
    obtain ⟨t, q, rfl, rfl⟩ := h
    exact ⟨hm, t, false, q, rfl, rfl, t, q, rfl, rfl⟩
  | some x =>
    obtain ⟨b, n⟩ := x
    rw [hq] at h
    obtain ⟨rfl, rfl⟩ := h
    refine ⟨hm, _, _, _, rfl, rfl, ?_⟩
    by_cases hb : b.length ≤ 1024
    · simp only [if_pos hb, decide_eq_true hb]
      exact ⟨rfl, by rw [Nat.add_assoc]⟩
    · simp only [if_neg hb, decide_eq_false hb]
      exact ⟨_, _, rfl, rfl⟩
theorem next_op {s : List UInt8} {p : Nat} {m m' : Mem} {r : SV} {H' : Hp} (hm : m.le m') (hp : p < s.length) (h1 : isStartB (s.getD p 0).toNat = false) (h2 : isDigitB (s.getD p 0).toNat = false) (h3 : ¬ (((s.getD p 0).toNat : Nat) : Int) = 34)
    (h : m' = m ∧ match signAt (s.drop p) with
      | some o => r = .tup [Tk.sv ⟨6, o, 0, p⟩, .v (.bool true)] ∧ H' = ⟨[scB s (p + o.length)], []⟩
      | none => r = .tup [Tk.sv Tk0, .v (.bool false)] ∧ H' = ⟨[scB s p], []⟩) : NRes s p m r H' m' := by
  obtain ⟨_, h⟩ := h
  have e : tokL (s.drop p) = (signAt (s.drop p)).map fun o => (6, o, 0, o.length) := by
    rw [drop_at hp]
    show (if isStartB (s.getD p 0).toNat = true then _ else if isDigitB (s.getD p 0).toNat = true then _ else if (s.getD p 0).toNat = 34 then _ else _) = _
    rw [if_neg (by rw [h1]; exact Bool.false_ne_true), if_neg (by rw [h2]; exact Bool.false_ne_true), if_neg (by omega)]
  unfold NRes
  rw [e]
  cases hq : signAt (s.drop p) with
  | none =>
    rw [hq] at h
    obtain ⟨rfl, rfl⟩ := h
    exact ⟨hm, Tk0, false, p, rfl, rfl, Tk0, p, rfl, rfl⟩
  | some o =>
    rw [hq] at h
    obtain ⟨rfl, rfl⟩ := h
    exact ⟨hm, _, _, _, rfl, rfl, rfl, rfl⟩
set_option maxHeartbeats 4000000 in
set_option maxRecDepth 20000 in
theorem next_spec (s : List UInt8) (p : Nat) (m : Mem) (hg : Glob m) (hp : p < s.length) (hs : s.length ≤ 1000000) :
    FnH Tryd.prog 22 [.box 0 0] ⟨[scB s p], []⟩ m fun r H' m' => NRes s p m r H' m' := by
  refine enter cf7 pu7 Tryd.func22 rfl rfl (by kernel_rfl) rfl ?_ ?_
  · simp only [go_sem, ↓reduceIte, or_true, or_false, true_or, false_or, Option.some.injEq, exists_eq_left, exists_eq_left', Nat.reduceBEq, Nat.reduceAdd, Nat.reduceMul, Nat.reduceSub, Nat.reduceEqDiff, Nat.reduceLT, Nat.reduceLeDiff, Option.map, Option.bind, List.map, List.length, true_implies, true_and, and_true, Bool.and_true, Bool.true_and, Bool.or_false, Bool.false_or, Bool.not_true, Bool.not_false, Bool.and_false, Bool.false_and, List.cons_append, List.nil_append, List.append_nil, mk_eq_bs, tl_bs, List.getElem?_cons_zero, List.getElem?_cons_succ, eq_self, reduceCtorEq, implies_true, false_implies, decide_eq_true_eq, decide_eq_false_iff_not, Bool.and_eq_true, Bool.or_eq_true, Bool.not_eq_true', Bool.and_eq_false_iff, Bool.or_eq_false_iff, Bool.not_eq_false', Option.toList, SV.v.injEq, Value.int.injEq, Value.bool.injEq, Value.string.injEq, Option.getD, List.contains_cons, List.contains_nil, beq_self_eq_true, Nat.max_def, List.set, List.drop, List.take, Int.toNat_natCast, Nat.mul_one, Int.toNat_zero, List.drop_zero, Bx.mk.injEq, Vc.mk.injEq, List.cons.injEq, List.take_length, List.getElem?_nil, List.getD_cons_zero, List.getD_cons_succ, Int.reduceToNat, not_false_eq_true, Nat.le_refl]
  · simp only [go_sem, ↓reduceIte, or_true, or_false, true_or, false_or, Option.some.injEq, exists_eq_left, exists_eq_left', Nat.reduceBEq, Nat.reduceAdd, Nat.reduceMul, Nat.reduceSub, Nat.reduceEqDiff, Nat.reduceLT, Nat.reduceLeDiff, Option.map, Option.bind, List.map, List.length, true_implies, true_and, and_true, Bool.and_true, Bool.true_and, Bool.or_false, Bool.false_or, Bool.not_true, Bool.not_false, Bool.and_false, Bool.false_and, List.cons_append, List.nil_append, List.append_nil, mk_eq_bs, tl_bs, List.getElem?_cons_zero, List.getElem?_cons_succ, eq_self, reduceCtorEq, implies_true, false_implies, decide_eq_true_eq, decide_eq_false_iff_not, Bool.and_eq_true, Bool.or_eq_true, Bool.not_eq_true', Bool.and_eq_false_iff, Bool.or_eq_false_iff, Bool.not_eq_false', Option.toList, SV.v.injEq, Value.int.injEq, Value.bool.injEq, Value.string.injEq, Option.getD, List.contains_cons, List.contains_nil, beq_self_eq_true, Nat.max_def, List.set, List.drop, List.take, Int.toNat_natCast, Nat.mul_one, Int.toNat_zero, List.drop_zero, Bx.mk.injEq, Vc.mk.injEq, List.cons.injEq, List.take_length, List.getElem?_nil, List.getD_cons_zero, List.getD_cons_succ, Int.reduceToNat, not_false_eq_true, Nat.le_refl]
    refine WP_drawQ pu7 (by kernel_rfl) (by kernel_rfl) (by kernel_rfl) ?_
    simp only [go_sem, ↓reduceIte, or_true, or_false, true_or, false_or, Option.some.injEq, exists_eq_left, exists_eq_left', Nat.reduceBEq, Nat.reduceAdd, Nat.reduceMul, Nat.reduceSub, Nat.reduceEqDiff, Nat.reduceLT, Nat.reduceLeDiff, Option.map, Option.bind, List.map, List.length, true_implies, true_and, and_true, Bool.and_true, Bool.true_and, Bool.or_false, Bool.false_or, Bool.not_true, Bool.not_false, Bool.and_false, Bool.false_and, List.cons_append, List.nil_append, List.append_nil, mk_eq_bs, tl_bs, List.getElem?_cons_zero, List.getElem?_cons_succ, eq_self, reduceCtorEq, implies_true, false_implies, decide_eq_true_eq, decide_eq_false_iff_not, Bool.and_eq_true, Bool.or_eq_true, Bool.not_eq_true', Bool.and_eq_false_iff, Bool.or_eq_false_iff, Bool.not_eq_false', Option.toList, SV.v.injEq, Value.int.injEq, Value.bool.injEq, Value.string.injEq, Option.getD, List.contains_cons, List.contains_nil, beq_self_eq_true, Nat.max_def, List.set, List.drop, List.take, Int.toNat_natCast, Nat.mul_one, Int.toNat_zero, List.drop_zero, Bx.mk.injEq, Vc.mk.injEq, List.cons.injEq, List.take_length, List.getElem?_nil, List.getD_cons_zero, List.getD_cons_succ, Int.reduceToNat, not_false_eq_true, Nat.le_refl]
    refine ⟨by omega, fun h1 => ⟨by kernel_rfl, FnV_of (((identifier_spec s p m hg hp hs).mono fun r H' m' hm h => next_id hp h1 h).mono ?_)⟩, fun h1 => ⟨fun h2 => ⟨by kernel_rfl, FnV_of (((number_spec s p m hg hp hs h2).mono fun r H' m' hm h => next_num hm hp h1 h2 h).mono ?_)⟩,
      fun h2 => ⟨fun h3 => ⟨by kernel_rfl, FnV_of (((quoted_spec s p m hp hs).mono fun r H' m' hm h => next_quo hm hp h1 h2 h3 h).mono ?_)⟩, fun h3 => ⟨by kernel_rfl, FnV_of (((operator_spec s p m (by omega) hs).mono fun r H' m' hm h => next_op hm hp h1 h2 h3 h).mono ?_)⟩⟩⟩⟩
    all_goals
      rintro r H' m' hm ⟨hle, t, b, q, rfl, rfl, hN⟩
      simp only [go_sem, ↓reduceIte, or_true, or_false, true_or, false_or, Option.some.injEq, exists_eq_left, exists_eq_left', Nat.reduceBEq, Nat.reduceAdd, Nat.reduceMul, Nat.reduceSub, Nat.reduceEqDiff, Nat.reduceLT, Nat.reduceLeDiff, Option.map, Option.bind, List.map, List.length, true_implies, true_and, and_true, Bool.and_true, Bool.true_and, Bool.or_false, Bool.false_or, Bool.not_true, Bool.not_false, Bool.and_false, Bool.false_and, List.cons_append, List.nil_append, List.append_nil, mk_eq_bs, tl_bs, List.getElem?_cons_zero, List.getElem?_cons_succ, eq_self, reduceCtorEq, implies_true, false_implies, decide_eq_true_eq, decide_eq_false_iff_not, Bool.and_eq_true, Bool.or_eq_true, Bool.not_eq_true', Bool.and_eq_false_iff, Bool.or_eq_false_iff, Bool.not_eq_false', Option.toList, SV.v.injEq, Value.int.injEq, Value.bool.injEq, Value.string.injEq, Option.getD, List.contains_cons, List.contains_nil, beq_self_eq_true, Nat.max_def, List.set, List.drop, List.take, Int.toNat_natCast, Nat.mul_one, Int.toNat_zero, List.drop_zero, Bx.mk.injEq, Vc.mk.injEq, List.cons.injEq, List.take_length, List.getElem?_nil, List.getD_cons_zero, List.getD_cons_succ, Int.reduceToNat, not_false_eq_true, Nat.le_refl]
      exact ⟨hle, t, b, q, rfl, rfl, hN⟩
end Go.Proofs.YtmkifodpkcmgoaaDoor.E

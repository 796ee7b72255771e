/- lex, part H: the scanner: tokens. -/
import Derived.Test.YtmkifodpkcmgoaaDoorLexG
namespace Go.Proofs.YtmkifodpkcmgoaaDoor.E
open Go

theorem zero27 : zeroO Tryd.prog 27 = some [.v (.int .i64 0), .v (.string (bs [])), .v (.int .i64 0), .v (.int .i64 0)] := by kernel_rfl
theorem agg27 : aggN Tryd.prog 27 = some (some 4) := by kernel_rfl
theorem sz27 : szT Tryd.prog 27 = 4 := by kernel_rfl
theorem by27 : byT Tryd.prog 27 = 40 := by kernel_rfl
theorem fld27_0 : fldO Tryd.prog 27 0 = some (0, none, 1) := by kernel_rfl
theorem fld27_1 : fldO Tryd.prog 27 1 = some (1, none, 1) := by kernel_rfl
theorem fld27_2 : fldO Tryd.prog 27 2 = some (2, none, 1) := by kernel_rfl
theorem fld27_3 : fldO Tryd.prog 27 3 = some (3, none, 1) := by kernel_rfl
theorem bld27 : bldOk Tryd.prog 27 = true := by kernel_rfl
theorem bld41 : bldOk Tryd.prog 41 = true := by kernel_rfl
theorem cv35 : cvK Tryd.prog 3 5 = .int .u8 := by kernel_rfl
theorem cv539 : cvK Tryd.prog 53 9 = .b2s := by kernel_rfl
attribute [go_sem] cv35 cv539 zero27 agg27 sz27 by27 fld27_0 fld27_1 fld27_2 fld27_3 bld27 bld41
/-- A token: kind, text, number, offset. -/
structure Tk where
  k : Int
  s : List UInt8
  n : Int
  at_ : Int
abbrev Tk.cells (t : Tk) : List SV := [.v (.int .i64 t.k), .v (.string (bs t.s)), .v (.int .i64 t.n), .v (.int .i64 t.at_)]
abbrev Tk.sv (t : Tk) : SV := .agg t.cells
abbrev scB (s : List UInt8) (p : Int) : Bx := ⟨0, 41, [.v (.string (bs s)), .v (.int .i64 p)]⟩
abbrev Tk0 : Tk := ⟨0, [], 0, 0⟩

/-- The first operator with which the text begins. -/
def signAt (l : List UInt8) : Option (List UInt8) := signsL.find? fun o => hasPre l o
set_option maxRecDepth 20000 in
theorem operator_spec (s : List UInt8) (p : Nat) (m : Mem) (hp : p ≤ s.length) (hs : s.length ≤ 1000000) :
    FnH Tryd.prog 46 [.box 0 0] ⟨[scB s p], []⟩ m fun r H' m' => m' = m ∧ match signAt (s.drop p) with
      | some o => r = .tup [Tk.sv ⟨6, o, 0, p⟩, .v (.bool true)] ∧ H' = ⟨[scB s (p + o.length)], []⟩
      | none => r = .tup [Tk.sv Tk0, .v (.bool false)] ∧ H' = ⟨[scB s p], []⟩ := by
  refine enter cf7 pu7 Tryd.func46 rfl rfl (by kernel_rfl) rfl ?_ ?_
  · simp only [go_sem, ↓reduceIte, or_true, or_false, true_or, false_or, Option.some.injEq, exists_eq_left, exists_eq_left', Nat.reduceBEq, Nat.reduceAdd, Nat.reduceMul, Nat.reduceSub, Nat.reduceEqDiff, Nat.reduceLT, Nat.reduceLeDiff, Option.map, Option.bind, List.map, List.length, true_implies, true_and, and_true, Bool.and_true, Bool.true_and, Bool.or_false, Bool.false_or, Bool.not_true, Bool.not_false, Bool.and_false, Bool.false_and, List.cons_append, List.nil_append, List.append_nil, mk_eq_bs, tl_bs, List.getElem?_cons_zero, List.getElem?_cons_succ, eq_self, reduceCtorEq, implies_true, false_implies, decide_eq_true_eq, decide_eq_false_iff_not, Bool.and_eq_true, Bool.or_eq_true, Bool.not_eq_true', Bool.and_eq_false_iff, Bool.or_eq_false_iff, Bool.not_eq_false', Option.toList, SV.v.injEq, Value.int.injEq, Value.bool.injEq, Value.string.injEq, Option.getD, List.contains_cons, List.contains_nil, beq_self_eq_true, Nat.max_def, List.set, List.drop, List.take, Int.toNat_natCast, Nat.mul_one, Int.toNat_zero, List.drop_zero, Bx.mk.injEq, Vc.mk.injEq, List.cons.injEq, List.take_length, List.getElem?_nil, List.getD_cons_zero, List.getD_cons_succ, Int.reduceToNat, not_false_eq_true, Nat.le_refl]
  · simp only [go_sem, ↓reduceIte, or_true, or_false, true_or, false_or, Option.some.injEq, exists_eq_left, exists_eq_left', Nat.reduceBEq, Nat.reduceAdd, Nat.reduceMul, Nat.reduceSub, Nat.reduceEqDiff, Nat.reduceLT, Nat.reduceLeDiff, Option.map, Option.bind, List.map, List.length, true_implies, true_and, and_true, Bool.and_true, Bool.true_and, Bool.or_false, Bool.false_or, Bool.not_true, Bool.not_false, Bool.and_false, Bool.false_and, List.cons_append, List.nil_append, List.append_nil, mk_eq_bs, tl_bs, List.getElem?_cons_zero, List.getElem?_cons_succ, eq_self, reduceCtorEq, implies_true, false_implies, decide_eq_true_eq, decide_eq_false_iff_not, Bool.and_eq_true, Bool.or_eq_true, Bool.not_eq_true', Bool.and_eq_false_iff, Bool.or_eq_false_iff, Bool.not_eq_false', Option.toList, SV.v.injEq, Value.int.injEq, Value.bool.injEq, Value.string.injEq, Option.getD, List.contains_cons, List.contains_nil, beq_self_eq_true, Nat.max_def, List.set, List.drop, List.take, Int.toNat_natCast, Nat.mul_one, Int.toNat_zero, List.drop_zero, Bx.mk.injEq, Vc.mk.injEq, List.cons.injEq, List.take_length, List.getElem?_nil, List.getD_cons_zero, List.getD_cons_succ, Int.reduceToNat, not_false_eq_true, Nat.le_refl]
    refine ⟨by kernel_rfl, FnV_of ((operators_spec m).mono ?_)⟩
    rintro r H' m' hm ⟨rfl, rfl, rfl⟩
    simp only [go_sem, ↓reduceIte, or_true, or_false, true_or, false_or, Option.some.injEq, exists_eq_left, exists_eq_left', Nat.reduceBEq, Nat.reduceAdd, Nat.reduceMul, Nat.reduceSub, Nat.reduceEqDiff, Nat.reduceLT, Nat.reduceLeDiff, Option.map, Option.bind, List.map, List.length, true_implies, true_and, and_true, Bool.and_true, Bool.true_and, Bool.or_false, Bool.false_or, Bool.not_true, Bool.not_false, Bool.and_false, Bool.false_and, List.cons_append, List.nil_append, List.append_nil, mk_eq_bs, tl_bs, List.getElem?_cons_zero, List.getElem?_cons_succ, eq_self, reduceCtorEq, implies_true, false_implies, decide_eq_true_eq, decide_eq_false_iff_not, Bool.and_eq_true, Bool.or_eq_true, Bool.not_eq_true', Bool.and_eq_false_iff, Bool.or_eq_false_iff, Bool.not_eq_false', Option.toList, SV.v.injEq, Value.int.injEq, Value.bool.injEq, Value.string.injEq, Option.getD, List.contains_cons, List.contains_nil, beq_self_eq_true, Nat.max_def, List.set, List.drop, List.take, Int.toNat_natCast, Nat.mul_one, Int.toNat_zero, List.drop_zero, Bx.mk.injEq, Vc.mk.injEq, List.cons.injEq, List.take_length, List.getElem?_nil, List.getD_cons_zero, List.getD_cons_succ, Int.reduceToNat, not_false_eq_true, Nat.le_refl]
    refine WP_loop pu7 (fun k : Nat => ⟨[⟨0, [], .box 0 0⟩, ⟨2, [], .box 1 0⟩, ⟨7, [], .vec 2 0⟩, ⟨8, [], .v (.int .i64 30)⟩, ⟨9, [], .v (.int .i64 k)⟩], [], [⟨1, 27, Tk0.cells⟩, scB s p], [⟨2, 0, 9, 1, 30, strs signsL⟩], 3, m'⟩)
      (fun k => k ≤ 30 ∧ signAt (s.drop p) = (signsL.drop k).find? fun o => hasPre (s.drop p) o) (fun k => 30 - k) 0 (by kernel_rfl) (fun _ _ => Nat.le_refl _) (fun _ _ => .inl rfl) (fun _ => ?_) ?_ ?_ ?_
    · simp only [go_sem, ↓reduceIte, or_true, or_false, true_or, false_or, Option.some.injEq, exists_eq_left, exists_eq_left', Nat.reduceBEq, Nat.reduceAdd, Nat.reduceMul, Nat.reduceSub, Nat.reduceEqDiff, Nat.reduceLT, Nat.reduceLeDiff, Option.map, Option.bind, List.map, List.length, true_implies, true_and, and_true, Bool.and_true, Bool.true_and, Bool.or_false, Bool.false_or, Bool.not_true, Bool.not_false, Bool.and_false, Bool.false_and, List.cons_append, List.nil_append, List.append_nil, mk_eq_bs, tl_bs, List.getElem?_cons_zero, List.getElem?_cons_succ, eq_self, reduceCtorEq, implies_true, false_implies, decide_eq_true_eq, decide_eq_false_iff_not, Bool.and_eq_true, Bool.or_eq_true, Bool.not_eq_true', Bool.and_eq_false_iff, Bool.or_eq_false_iff, Bool.not_eq_false', Option.toList, SV.v.injEq, Value.int.injEq, Value.bool.injEq, Value.string.injEq, Option.getD, List.contains_cons, List.contains_nil, beq_self_eq_true, Nat.max_def, List.set, List.drop, List.take, Int.toNat_natCast, Nat.mul_one, Int.toNat_zero, List.drop_zero, Bx.mk.injEq, Vc.mk.injEq, List.cons.injEq, List.take_length, List.getElem?_nil, List.getD_cons_zero, List.getD_cons_succ, Int.reduceToNat, not_false_eq_true, Nat.le_refl]
    · simp only [go_sem, ↓reduceIte, or_true, or_false, true_or, false_or, Option.some.injEq, exists_eq_left, exists_eq_left', Nat.reduceBEq, Nat.reduceAdd, Nat.reduceMul, Nat.reduceSub, Nat.reduceEqDiff, Nat.reduceLT, Nat.reduceLeDiff, Option.map, Option.bind, List.map, List.length, true_implies, true_and, and_true, Bool.and_true, Bool.true_and, Bool.or_false, Bool.false_or, Bool.not_true, Bool.not_false, Bool.and_false, Bool.false_and, List.cons_append, List.nil_append, List.append_nil, mk_eq_bs, tl_bs, List.getElem?_cons_zero, List.getElem?_cons_succ, eq_self, reduceCtorEq, implies_true, false_implies, decide_eq_true_eq, decide_eq_false_iff_not, Bool.and_eq_true, Bool.or_eq_true, Bool.not_eq_true', Bool.and_eq_false_iff, Bool.or_eq_false_iff, Bool.not_eq_false', Option.toList, SV.v.injEq, Value.int.injEq, Value.bool.injEq, Value.string.injEq, Option.getD, List.contains_cons, List.contains_nil, beq_self_eq_true, Nat.max_def, List.set, List.drop, List.take, Int.toNat_natCast, Nat.mul_one, Int.toNat_zero, List.drop_zero, Bx.mk.injEq, Vc.mk.injEq, List.cons.injEq, List.take_length, List.getElem?_nil, List.getD_cons_zero, List.getD_cons_succ, Int.reduceToNat, not_false_eq_true, Nat.le_refl]
      exact ⟨rfl, rfl⟩
    · exact ⟨by omega, rfl⟩
    · rintro k ⟨hk, hf⟩
      simp only [go_sem, ↓reduceIte, or_true, or_false, true_or, false_or, Option.some.injEq, exists_eq_left, exists_eq_left', Nat.reduceBEq, Nat.reduceAdd, Nat.reduceMul, Nat.reduceSub, Nat.reduceEqDiff, Nat.reduceLT, Nat.reduceLeDiff, Option.map, Option.bind, List.map, List.length, true_implies, true_and, and_true, Bool.and_true, Bool.true_and, Bool.or_false, Bool.false_or, Bool.not_true, Bool.not_false, Bool.and_false, Bool.false_and, List.cons_append, List.nil_append, List.append_nil, mk_eq_bs, tl_bs, List.getElem?_cons_zero, List.getElem?_cons_succ, eq_self, reduceCtorEq, implies_true, false_implies, decide_eq_true_eq, decide_eq_false_iff_not, Bool.and_eq_true, Bool.or_eq_true, Bool.not_eq_true', Bool.and_eq_false_iff, Bool.or_eq_false_iff, Bool.not_eq_false', Option.toList, SV.v.injEq, Value.int.injEq, Value.bool.injEq, Value.string.injEq, Option.getD, List.contains_cons, List.contains_nil, beq_self_eq_true, Nat.max_def, List.set, List.drop, List.take, Int.toNat_natCast, Nat.mul_one, Int.toNat_zero, List.drop_zero, Bx.mk.injEq, Vc.mk.injEq, List.cons.injEq, List.take_length, List.getElem?_nil, List.getD_cons_zero, List.getD_cons_succ, Int.reduceToNat, not_false_eq_true, Nat.le_refl]
      have hsl : signsL.length = 30 := rfl
      have hst : (strs signsL).length = 30 := rfl
      refine ⟨fun hlt => ⟨⟨by omega, hlt⟩, by omega, ?_⟩, fun hge => ?_⟩
      · have hk30 : k < signsL.length := by omega
        have e : (strs signsL).getD k undef = .string (bs signsL[k]) := by
          rw [List.getD_eq_getElem?_getD, strs, List.getElem?_map, List.getElem?_eq_getElem hk30]; rfl
        rw [e]
        have hol : signsL[k].length ≤ 3 := (by decide : ∀ o ∈ signsL, o.length ≤ 3) _ (List.getElem_mem hk30)
        rw [List.drop_eq_getElem_cons hk30, List.find?_cons] at hf
        generalize signsL[k] = o at hol hf
        refine WP_drawQ pu7 (by kernel_rfl) (by kernel_rfl) (by kernel_rfl) ?_
        simp only [go_sem, ↓reduceIte, or_true, or_false, true_or, false_or, Option.some.injEq, exists_eq_left, exists_eq_left', Nat.reduceBEq, Nat.reduceAdd, Nat.reduceMul, Nat.reduceSub, Nat.reduceEqDiff, Nat.reduceLT, Nat.reduceLeDiff, Option.map, Option.bind, List.map, List.length, true_implies, true_and, and_true, Bool.and_true, Bool.true_and, Bool.or_false, Bool.false_or, Bool.not_true, Bool.not_false, Bool.and_false, Bool.false_and, List.cons_append, List.nil_append, List.append_nil, mk_eq_bs, tl_bs, List.getElem?_cons_zero, List.getElem?_cons_succ, eq_self, reduceCtorEq, implies_true, false_implies, decide_eq_true_eq, decide_eq_false_iff_not, Bool.and_eq_true, Bool.or_eq_true, Bool.not_eq_true', Bool.and_eq_false_iff, Bool.or_eq_false_iff, Bool.not_eq_false', Option.toList, SV.v.injEq, Value.int.injEq, Value.bool.injEq, Value.string.injEq, Option.getD, List.contains_cons, List.contains_nil, beq_self_eq_true, Nat.max_def, List.set, List.drop, List.take, Int.toNat_natCast, Nat.mul_one, Int.toNat_zero, List.drop_zero, Bx.mk.injEq, Vc.mk.injEq, List.cons.injEq, List.take_length, List.getElem?_nil, List.getD_cons_zero, List.getD_cons_succ, Int.reduceToNat, not_false_eq_true, Nat.le_refl]
        refine ⟨⟨by omega, by omega, by omega⟩, fun h => ?_, fun h => ⟨by unfold I64; omega, k + 1, by omega, ⟨by omega, ?_⟩, by omega⟩⟩
        · simp only [h] at hf
          rw [hf]
          exact ⟨by unfold I64; omega, rfl, rfl⟩
        · simp only [h] at hf
          exact hf
      · obtain rfl : k = 30 := by omega
        have e : signsL.drop 30 = [] := rfl
        rw [e] at hf
        simp only [List.find?_nil] at hf
        rw [hf]
        trivial
def hexL : List UInt8 := [48, 49, 50, 51, 52, 53, 54, 55, 56, 57, 97, 98, 99, 100, 101, 102]
def hexI (c : UInt8) : Int := Lib.indexByte hexL c
/-- An escape: how long, which byte, is it one. -/
def escL : List UInt8 → Nat × Int × Bool
  | [] => (0, 0, false)
  | c :: r => if c.toNat = 34 ∨ c.toNat = 92 then (1, c.toNat, true) else if c.toNat = 110 then (1, 10, true) else if c.toNat = 120 then
      (match r with
        | h :: l :: _ => (3, IntKind.u8.wrap (16 * hexI h + hexI l), decide (0 ≤ hexI h) && decide (0 ≤ hexI l))
        | _ => (0, 0, false)) else (0, 0, false)
set_option maxRecDepth 20000 in
theorem escape_spec (s : List UInt8) (p : Nat) (m : Mem) (hp : p ≤ s.length) (hs : s.length ≤ 1000000) :
    FnH Tryd.prog 70 [.box 0 0] ⟨[scB s p], []⟩ m fun r H' m' => m' = m ∧ r = .tup [.v (.int .u8 (escL (s.drop p)).2.1), .v (.bool (escL (s.drop p)).2.2)] ∧ H' = ⟨[scB s (p + (escL (s.drop p)).1 : Nat)], []⟩ := by
  refine enter cf7 pu7 Tryd.func70 rfl rfl (by kernel_rfl) rfl ?_ ?_
  · simp only [go_sem, ↓reduceIte, or_true, or_false, true_or, false_or, Option.some.injEq, exists_eq_left, exists_eq_left', Nat.reduceBEq, Nat.reduceAdd, Nat.reduceMul, Nat.reduceSub, Nat.reduceEqDiff, Nat.reduceLT, Nat.reduceLeDiff, Option.map, Option.bind, List.map, List.length, true_implies, true_and, and_true, Bool.and_true, Bool.true_and, Bool.or_false, Bool.false_or, Bool.not_true, Bool.not_false, Bool.and_false, Bool.false_and, List.cons_append, List.nil_append, List.append_nil, mk_eq_bs, tl_bs, List.getElem?_cons_zero, List.getElem?_cons_succ, eq_self, reduceCtorEq, implies_true, false_implies, decide_eq_true_eq, decide_eq_false_iff_not, Bool.and_eq_true, Bool.or_eq_true, Bool.not_eq_true', Bool.and_eq_false_iff, Bool.or_eq_false_iff, Bool.not_eq_false', Option.toList, SV.v.injEq, Value.int.injEq, Value.bool.injEq, Value.string.injEq, Option.getD, List.contains_cons, List.contains_nil, beq_self_eq_true, Nat.max_def, List.set, List.drop, List.take, Int.toNat_natCast, Nat.mul_one, Int.toNat_zero, List.drop_zero, Bx.mk.injEq, Vc.mk.injEq, List.cons.injEq, List.take_length, List.getElem?_nil, List.getD_cons_zero, List.getD_cons_succ, Int.reduceToNat, not_false_eq_true, Nat.le_refl]
  · simp only [go_sem, ↓reduceIte, or_true, or_false, true_or, false_or, Option.some.injEq, exists_eq_left, exists_eq_left', Nat.reduceBEq, Nat.reduceAdd, Nat.reduceMul, Nat.reduceSub, Nat.reduceEqDiff, Nat.reduceLT, Nat.reduceLeDiff, Option.map, Option.bind, List.map, List.length, true_implies, true_and, and_true, Bool.and_true, Bool.true_and, Bool.or_false, Bool.false_or, Bool.not_true, Bool.not_false, Bool.and_false, Bool.false_and, List.cons_append, List.nil_append, List.append_nil, mk_eq_bs, tl_bs, List.getElem?_cons_zero, List.getElem?_cons_succ, eq_self, reduceCtorEq, implies_true, false_implies, decide_eq_true_eq, decide_eq_false_iff_not, Bool.and_eq_true, Bool.or_eq_true, Bool.not_eq_true', Bool.and_eq_false_iff, Bool.or_eq_false_iff, Bool.not_eq_false', Option.toList, SV.v.injEq, Value.int.injEq, Value.bool.injEq, Value.string.injEq, Option.getD, List.contains_cons, List.contains_nil, beq_self_eq_true, Nat.max_def, List.set, List.drop, List.take, Int.toNat_natCast, Nat.mul_one, Int.toNat_zero, List.drop_zero, Bx.mk.injEq, Vc.mk.injEq, List.cons.injEq, List.take_length, List.getElem?_nil, List.getD_cons_zero, List.getD_cons_succ, Int.reduceToNat, not_false_eq_true, Nat.le_refl]
    cases hr : s.drop p with
    | nil =>
      refine WP_drawQ pu7 (by kernel_rfl) (by kernel_rfl) (by kernel_rfl) ?_
      simp only [go_sem, ↓reduceIte, or_true, or_false, true_or, false_or, Option.some.injEq, exists_eq_left, exists_eq_left', Nat.reduceBEq, Nat.reduceAdd, Nat.reduceMul, Nat.reduceSub, Nat.reduceEqDiff, Nat.reduceLT, Nat.reduceLeDiff, Option.map, Option.bind, List.map, List.length, true_implies, true_and, and_true, Bool.and_true, Bool.true_and, Bool.or_false, Bool.false_or, Bool.not_true, Bool.not_false, Bool.and_false, Bool.false_and, List.cons_append, List.nil_append, List.append_nil, mk_eq_bs, tl_bs, List.getElem?_cons_zero, List.getElem?_cons_succ, eq_self, reduceCtorEq, implies_true, false_implies, decide_eq_true_eq, decide_eq_false_iff_not, Bool.and_eq_true, Bool.or_eq_true, Bool.not_eq_true', Bool.and_eq_false_iff, Bool.or_eq_false_iff, Bool.not_eq_false', Option.toList, SV.v.injEq, Value.int.injEq, Value.bool.injEq, Value.string.injEq, Option.getD, List.contains_cons, List.contains_nil, beq_self_eq_true, Nat.max_def, List.set, List.drop, List.take, Int.toNat_natCast, Nat.mul_one, Int.toNat_zero, List.drop_zero, Bx.mk.injEq, Vc.mk.injEq, List.cons.injEq, List.take_length, List.getElem?_nil, List.getD_cons_zero, List.getD_cons_succ, Int.reduceToNat, not_false_eq_true, Nat.le_refl, hr]
      exact ⟨⟨by omega, by omega, by omega⟩, ⟨rfl, rfl⟩, fun h => absurd trivial h⟩
    | cons c r =>
      have hlen : (s.drop p).length = r.length + 1 := by rw [hr]; rfl
      rw [List.length_drop] at hlen
      refine WP_drawQ pu7 (by kernel_rfl) (by kernel_rfl) (by kernel_rfl) ?_
      simp only [go_sem, ↓reduceIte, or_true, or_false, true_or, false_or, Option.some.injEq, exists_eq_left, exists_eq_left', Nat.reduceBEq, Nat.reduceAdd, Nat.reduceMul, Nat.reduceSub, Nat.reduceEqDiff, Nat.reduceLT, Nat.reduceLeDiff, Option.map, Option.bind, List.map, List.length, true_implies, true_and, and_true, Bool.and_true, Bool.true_and, Bool.or_false, Bool.false_or, Bool.not_true, Bool.not_false, Bool.and_false, Bool.false_and, List.cons_append, List.nil_append, List.append_nil, mk_eq_bs, tl_bs, List.getElem?_cons_zero, List.getElem?_cons_succ, eq_self, reduceCtorEq, implies_true, false_implies, decide_eq_true_eq, decide_eq_false_iff_not, Bool.and_eq_true, Bool.or_eq_true, Bool.not_eq_true', Bool.and_eq_false_iff, Bool.or_eq_false_iff, Bool.not_eq_false', Option.toList, SV.v.injEq, Value.int.injEq, Value.bool.injEq, Value.string.injEq, Option.getD, List.contains_cons, List.contains_nil, beq_self_eq_true, Nat.max_def, List.set, List.drop, List.take, Int.toNat_natCast, Nat.mul_one, Int.toNat_zero, List.drop_zero, Bx.mk.injEq, Vc.mk.injEq, List.cons.injEq, List.take_length, List.getElem?_nil, List.getD_cons_zero, List.getD_cons_succ, Int.reduceToNat, not_false_eq_true, Nat.le_refl, hr]
      have h0 : (0 : Int) ≤ 0 ∧ (0 : Int) < ((r.length + 1 : Nat) : Int) := by omega
      refine ⟨⟨by omega, by omega, by omega⟩, h0, fun _ => h0, fun h => ?_, fun h => ⟨h0, fun h1 => ?_, fun h1 => ⟨h0, fun h2 => ?_, fun h2 => ?_⟩⟩⟩
      · have e : escL (c :: r) = (1, (c.toNat : Int), true) := by
          simp only [escL]; rw [if_pos (by omega)]
        rw [e]
        exact ⟨by unfold I64; omega, h0, rfl, rfl⟩
      · have e : escL (c :: r) = (1, 10, true) := by
          simp only [escL]; rw [if_neg (by omega), if_pos (by omega)]
        rw [e]
        exact ⟨by unfold I64; omega, rfl, rfl⟩
      · match r, hlen, h2, h0 with
        | [], _, h2, _ => exact absurd h2.2 (by simp)
        | [_], _, h2, _ => exact absurd h2.2 (by simp)
        | x :: y :: r, hlen, h2, h0 =>
          have e : escL (c :: x :: y :: r) = (3, IntKind.u8.wrap (16 * hexI x + hexI y), decide (0 ≤ hexI x) && decide (0 ≤ hexI y)) := by
            simp only [escL]; rw [if_neg (by omega), if_neg (by omega), if_pos (by omega)]
          rw [e]
          simp only [List.getD_cons_zero, List.getD_cons_succ, ixB_at]
          have hb : ∀ z : UInt8, -1 ≤ Lib.indexByte hexL z ∧ Lib.indexByte hexL z < 16 := fun z => ⟨Lib.indexByte_ge _ _, idx_lt z hexL⟩
          have h3 := hb x
          have h4 := hb y
          simp only [hexI]
          simp only [hexL] at h3 h4 ⊢
          simp only [List.length_cons] at hlen ⊢
          exact ⟨by omega, by omega, by unfold I64; omega, by unfold I64; omega, by unfold I64; omega, rfl, rfl⟩
      · have e : escL (c :: r) = (0, 0, false) := by
          simp only [escL]; rw [if_neg (by omega), if_neg (by omega)]
          split
          · match r, h2 with
            | [], _ => rfl
            | [_], _ => rfl
            | x :: y :: r, h2 => simp only [List.length_cons] at h2; omega
          · rfl
        rw [e]
        exact ⟨rfl, rfl⟩
end Go.Proofs.YtmkifodpkcmgoaaDoor.E

/- Several texts in one: LexN, LexO, LexP, LexQ, LexR. -/
import Derived.Test.YtmkifodpkcmgoaaDoorMrgE
/- lex, part N: the reference: parts, escapes, strings, operators. -/
set_option linter.unusedSimpArgs false
set_option linter.unusedVariables false
namespace Go.Proofs.YtmkifodpkcmgoaaDoor.E
open Go

theorem cv53 : cvK Tryd.prog 5 3 = .int .i64 := by kernel_rfl
attribute [go_sem] cv53
/-- Hexadecimal digits, as the reference reckons them. -/
def hexR (c : Int) : Int := if isDigitB c then c - 48 else if 97 ≤ c ∧ c ≤ 102 then c - 97 + 10 else -1
set_option maxRecDepth 20000 in
theorem hexR_eq (c : UInt8) : hexR c.toNat = hexI c := by
  have h : ∀ n : Nat, n < 256 → hexR (n : Int) = hexI (UInt8.ofNat n) := by decide
  have := h c.toNat c.toNat_lt
  simpa using this
theorem wrap_u8_eq (n : Int) : IntKind.u8.wrap n = n % 256 := by simp [IntKind.wrap, IntKind.bits, IntKind.signed]
theorem wrap_i64_eq {n : Int} (h : 0 ≤ n ∧ n < 1000) : IntKind.i64.wrap n = n := by
  simp [IntKind.wrap, IntKind.bits, IntKind.signed]
  omega
theorem dig_iff (c : Int) : isDigitB c = true ↔ 48 ≤ c ∧ c ≤ 57 := by simp [isDigitB]
abbrev cf8 : Cfg := mkCf (fun _ => false) [(48, pf1 isStartB), (50, pf1 isDigitB)]
theorem pu8 : PureOk cf8 Tryd.prog := pure_cons (by kernel_rfl) (pure1 letter_spec) (pure_cons (by kernel_rfl) (pure1 digit_spec) pure_nil)
def pI8U (F : Int → Value) : List Value → Option (Prop × Value)
  | [.int .u8 c] => some (0 ≤ c ∧ c ≤ 255, F c)
  | _ => none
attribute [go_sem] pI8U.eq_1
set_option maxRecDepth 20000 in
theorem hex_spec (c : Int) (m : Mem) (hc : 0 ≤ c ∧ c ≤ 255) : FnH Tryd.prog 84 [.v (.int .u8 c)] ⟨[], []⟩ m fun r H' _ => r = .v (.int .i64 (hexR c)) ∧ H' = ⟨[], []⟩ := by
  refine enter cf8 pu8 Tryd.func84 rfl rfl (by kernel_rfl) rfl ?_ ?_
  · simp only [go_sem, ↓reduceIte, or_true, or_false, true_or, false_or, Option.some.injEq, exists_eq_left, exists_eq_left', Nat.reduceBEq, Nat.reduceAdd, Nat.reduceMul, Nat.reduceSub, Nat.reduceEqDiff, Nat.reduceLT, Nat.reduceLeDiff, Option.map, Option.bind, List.map, List.length, true_implies, true_and, and_true, Bool.and_true, Bool.true_and, Bool.or_false, Bool.false_or, Bool.not_true, Bool.not_false, Bool.and_false, Bool.false_and, List.cons_append, List.nil_append, List.append_nil, mk_eq_bs, tl_bs, List.getElem?_cons_zero, List.getElem?_cons_succ, eq_self, reduceCtorEq, implies_true, false_implies, decide_eq_true_eq, decide_eq_false_iff_not, Bool.and_eq_true, Bool.or_eq_true, Bool.not_eq_true', Bool.and_eq_false_iff, Bool.or_eq_false_iff, Bool.not_eq_false', Option.toList, SV.v.injEq, Value.int.injEq, Value.bool.injEq, Value.string.injEq, Option.getD, List.contains_cons, List.contains_nil, beq_self_eq_true, Nat.max_def, List.set, List.drop, List.take, Int.toNat_natCast, Nat.mul_one, Int.toNat_zero, List.drop_zero, Bx.mk.injEq, Vc.mk.injEq, List.cons.injEq, List.take_length, List.getElem?_nil, List.getD_cons_zero, List.getD_cons_succ, Int.reduceToNat, not_false_eq_true, Nat.le_refl]
  · simp only [go_sem, ↓reduceIte, or_true, or_false, true_or, false_or, Option.some.injEq, exists_eq_left, exists_eq_left', Nat.reduceBEq, Nat.reduceAdd, Nat.reduceMul, Nat.reduceSub, Nat.reduceEqDiff, Nat.reduceLT, Nat.reduceLeDiff, Option.map, Option.bind, List.map, List.length, true_implies, true_and, and_true, Bool.and_true, Bool.true_and, Bool.or_false, Bool.false_or, Bool.not_true, Bool.not_false, Bool.and_false, Bool.false_and, List.cons_append, List.nil_append, List.append_nil, mk_eq_bs, tl_bs, List.getElem?_cons_zero, List.getElem?_cons_succ, eq_self, reduceCtorEq, implies_true, false_implies, decide_eq_true_eq, decide_eq_false_iff_not, Bool.and_eq_true, Bool.or_eq_true, Bool.not_eq_true', Bool.and_eq_false_iff, Bool.or_eq_false_iff, Bool.not_eq_false', Option.toList, SV.v.injEq, Value.int.injEq, Value.bool.injEq, Value.string.injEq, Option.getD, List.contains_cons, List.contains_nil, beq_self_eq_true, Nat.max_def, List.set, List.drop, List.take, Int.toNat_natCast, Nat.mul_one, Int.toNat_zero, List.drop_zero, Bx.mk.injEq, Vc.mk.injEq, List.cons.injEq, List.take_length, List.getElem?_nil, List.getD_cons_zero, List.getD_cons_succ, Int.reduceToNat, not_false_eq_true, Nat.le_refl]
    unfold hexR
    refine ⟨fun h => ?_, fun h => ⟨fun h2 => ?_, fun h2 => ?_⟩⟩
    · rw [if_pos h]
      have := (dig_iff c).1 h
      rw [wrap_u8_eq, wrap_i64_eq (by omega)]
      omega
    · rw [if_neg (by rw [h]; exact Bool.false_ne_true), if_pos h2, wrap_u8_eq, wrap_i64_eq (by omega)]
      exact ⟨by unfold I64; omega, by omega⟩
    · rw [if_neg (by rw [h]; exact Bool.false_ne_true), if_neg (by omega)]
set_option maxRecDepth 20000 in
theorem rpart_spec (s : List UInt8) (p : Nat) (m : Mem) (hp : p ≤ s.length) (hs : s.length ≤ 1000000) (hd : p < s.length → isDigitB (s.getD p 0).toNat = false) :
    FnH Tryd.prog 71 [.v (.string (bs s)), .v (.int .i64 p)] ⟨[], []⟩ m fun r H' m' => r = .v (.int .i64 (p + partL true (s.drop p) : Nat)) ∧ H' = ⟨[], []⟩ ∧ m' = m := by
  refine enter cf8 pu8 Tryd.func71 rfl rfl (by kernel_rfl) rfl ?_ ?_
  · simp only [go_sem, ↓reduceIte, or_true, or_false, true_or, false_or, Option.some.injEq, exists_eq_left, exists_eq_left', Nat.reduceBEq, Nat.reduceAdd, Nat.reduceMul, Nat.reduceSub, Nat.reduceEqDiff, Nat.reduceLT, Nat.reduceLeDiff, Option.map, Option.bind, List.map, List.length, true_implies, true_and, and_true, Bool.and_true, Bool.true_and, Bool.or_false, Bool.false_or, Bool.not_true, Bool.not_false, Bool.and_false, Bool.false_and, List.cons_append, List.nil_append, List.append_nil, mk_eq_bs, tl_bs, List.getElem?_cons_zero, List.getElem?_cons_succ, eq_self, reduceCtorEq, implies_true, false_implies, decide_eq_true_eq, decide_eq_false_iff_not, Bool.and_eq_true, Bool.or_eq_true, Bool.not_eq_true', Bool.and_eq_false_iff, Bool.or_eq_false_iff, Bool.not_eq_false', Option.toList, SV.v.injEq, Value.int.injEq, Value.bool.injEq, Value.string.injEq, Option.getD, List.contains_cons, List.contains_nil, beq_self_eq_true, Nat.max_def, List.set, List.drop, List.take, Int.toNat_natCast, Nat.mul_one, Int.toNat_zero, List.drop_zero, Bx.mk.injEq, Vc.mk.injEq, List.cons.injEq, List.take_length, List.getElem?_nil, List.getD_cons_zero, List.getD_cons_succ, Int.reduceToNat, not_false_eq_true, Nat.le_refl]
  · simp only [go_sem, ↓reduceIte, or_true, or_false, true_or, false_or, Option.some.injEq, exists_eq_left, exists_eq_left', Nat.reduceBEq, Nat.reduceAdd, Nat.reduceMul, Nat.reduceSub, Nat.reduceEqDiff, Nat.reduceLT, Nat.reduceLeDiff, Option.map, Option.bind, List.map, List.length, true_implies, true_and, and_true, Bool.and_true, Bool.true_and, Bool.or_false, Bool.false_or, Bool.not_true, Bool.not_false, Bool.and_false, Bool.false_and, List.cons_append, List.nil_append, List.append_nil, mk_eq_bs, tl_bs, List.getElem?_cons_zero, List.getElem?_cons_succ, eq_self, reduceCtorEq, implies_true, false_implies, decide_eq_true_eq, decide_eq_false_iff_not, Bool.and_eq_true, Bool.or_eq_true, Bool.not_eq_true', Bool.and_eq_false_iff, Bool.or_eq_false_iff, Bool.not_eq_false', Option.toList, SV.v.injEq, Value.int.injEq, Value.bool.injEq, Value.string.injEq, Option.getD, List.contains_cons, List.contains_nil, beq_self_eq_true, Nat.max_def, List.set, List.drop, List.take, Int.toNat_natCast, Nat.mul_one, Int.toNat_zero, List.drop_zero, Bx.mk.injEq, Vc.mk.injEq, List.cons.injEq, List.take_length, List.getElem?_nil, List.getD_cons_zero, List.getD_cons_succ, Int.reduceToNat, not_false_eq_true, Nat.le_refl]
    refine WP_loop pu8 (fun k : Nat => ⟨[⟨0, [], .v (.string (bs s))⟩, ⟨1, [], .v (.int .i64 k)⟩], [], [], [], 0, m⟩)
      (fun k => p ≤ k ∧ k ≤ s.length ∧ p + partL true (s.drop p) = k + partL (k == p) (s.drop k)) (fun k => s.length - k) p (by kernel_rfl) (fun _ _ => Nat.le_refl _) (fun _ _ => .inl rfl) (fun _ => ?_) ?_ ?_ ?_
    · simp only [go_sem, ↓reduceIte, or_true, or_false, true_or, false_or, Option.some.injEq, exists_eq_left, exists_eq_left', Nat.reduceBEq, Nat.reduceAdd, Nat.reduceMul, Nat.reduceSub, Nat.reduceEqDiff, Nat.reduceLT, Nat.reduceLeDiff, Option.map, Option.bind, List.map, List.length, true_implies, true_and, and_true, Bool.and_true, Bool.true_and, Bool.or_false, Bool.false_or, Bool.not_true, Bool.not_false, Bool.and_false, Bool.false_and, List.cons_append, List.nil_append, List.append_nil, mk_eq_bs, tl_bs, List.getElem?_cons_zero, List.getElem?_cons_succ, eq_self, reduceCtorEq, implies_true, false_implies, decide_eq_true_eq, decide_eq_false_iff_not, Bool.and_eq_true, Bool.or_eq_true, Bool.not_eq_true', Bool.and_eq_false_iff, Bool.or_eq_false_iff, Bool.not_eq_false', Option.toList, SV.v.injEq, Value.int.injEq, Value.bool.injEq, Value.string.injEq, Option.getD, List.contains_cons, List.contains_nil, beq_self_eq_true, Nat.max_def, List.set, List.drop, List.take, Int.toNat_natCast, Nat.mul_one, Int.toNat_zero, List.drop_zero, Bx.mk.injEq, Vc.mk.injEq, List.cons.injEq, List.take_length, List.getElem?_nil, List.getD_cons_zero, List.getD_cons_succ, Int.reduceToNat, not_false_eq_true, Nat.le_refl]
    · simp only [go_sem, ↓reduceIte, or_true, or_false, true_or, false_or, Option.some.injEq, exists_eq_left, exists_eq_left', Nat.reduceBEq, Nat.reduceAdd, Nat.reduceMul, Nat.reduceSub, Nat.reduceEqDiff, Nat.reduceLT, Nat.reduceLeDiff, Option.map, Option.bind, List.map, List.length, true_implies, true_and, and_true, Bool.and_true, Bool.true_and, Bool.or_false, Bool.false_or, Bool.not_true, Bool.not_false, Bool.and_false, Bool.false_and, List.cons_append, List.nil_append, List.append_nil, mk_eq_bs, tl_bs, List.getElem?_cons_zero, List.getElem?_cons_succ, eq_self, reduceCtorEq, implies_true, false_implies, decide_eq_true_eq, decide_eq_false_iff_not, Bool.and_eq_true, Bool.or_eq_true, Bool.not_eq_true', Bool.and_eq_false_iff, Bool.or_eq_false_iff, Bool.not_eq_false', Option.toList, SV.v.injEq, Value.int.injEq, Value.bool.injEq, Value.string.injEq, Option.getD, List.contains_cons, List.contains_nil, beq_self_eq_true, Nat.max_def, List.set, List.drop, List.take, Int.toNat_natCast, Nat.mul_one, Int.toNat_zero, List.drop_zero, Bx.mk.injEq, Vc.mk.injEq, List.cons.injEq, List.take_length, List.getElem?_nil, List.getD_cons_zero, List.getD_cons_succ, Int.reduceToNat, not_false_eq_true, Nat.le_refl]
    · exact ⟨Nat.le_refl _, hp, by simp⟩
    · rintro k ⟨h1, h2, h3⟩
      simp only [go_sem, ↓reduceIte, or_true, or_false, true_or, false_or, Option.some.injEq, exists_eq_left, exists_eq_left', Nat.reduceBEq, Nat.reduceAdd, Nat.reduceMul, Nat.reduceSub, Nat.reduceEqDiff, Nat.reduceLT, Nat.reduceLeDiff, Option.map, Option.bind, List.map, List.length, true_implies, true_and, and_true, Bool.and_true, Bool.true_and, Bool.or_false, Bool.false_or, Bool.not_true, Bool.not_false, Bool.and_false, Bool.false_and, List.cons_append, List.nil_append, List.append_nil, mk_eq_bs, tl_bs, List.getElem?_cons_zero, List.getElem?_cons_succ, eq_self, reduceCtorEq, implies_true, false_implies, decide_eq_true_eq, decide_eq_false_iff_not, Bool.and_eq_true, Bool.or_eq_true, Bool.not_eq_true', Bool.and_eq_false_iff, Bool.or_eq_false_iff, Bool.not_eq_false', Option.toList, SV.v.injEq, Value.int.injEq, Value.bool.injEq, Value.string.injEq, Option.getD, List.contains_cons, List.contains_nil, beq_self_eq_true, Nat.max_def, List.set, List.drop, List.take, Int.toNat_natCast, Nat.mul_one, Int.toNat_zero, List.drop_zero, Bx.mk.injEq, Vc.mk.injEq, List.cons.injEq, List.take_length, List.getElem?_nil, List.getD_cons_zero, List.getD_cons_succ, Int.reduceToNat, not_false_eq_true, Nat.le_refl]
      refine ⟨fun h => ⟨by omega, h⟩, fun h => ⟨by omega, h.2⟩, fun h => ⟨by unfold I64; omega, k + 1, rfl, ⟨by omega, by omega, ?_⟩, by omega⟩, fun h => ?_⟩
      · rw [h3, drop_at (by omega)]
        have hne : (k + 1 == p) = false := by rw [beq_eq_false_iff_ne]; omega
        simp only [partL, hne]
        rw [if_pos]
        · omega
        · rcases h.2 with h' | h'
          · rw [h']; rfl
          · rcases Nat.lt_or_ge p k with h4 | h4
            · have : (k == p) = false := by rw [beq_eq_false_iff_ne]; omega
              rw [this, h']; simp
            · obtain rfl : p = k := by omega
              rw [hd (by omega)] at h'
              cases h'
      · have h0 : partL (k == p) (s.drop k) = 0 := by
          rcases Nat.lt_or_ge k s.length with h4 | h4
          · rw [drop_at h4]
            simp only [partL]
            rcases h with h | h
            · omega
            · rw [if_neg]
              rw [h.1, h.2]
              simp
          · rw [List.drop_of_length_le h4]; cases (k == p) <;> rfl
        rw [h3, h0]
        rfl
theorem pureU8 {P : Program} {f : FuncId} {F : Int → Value} (h : ∀ c m, 0 ≤ c ∧ c ≤ 255 → FnH P f [.v (.int .u8 c)] ⟨[], []⟩ m fun r H' _ => r = .v (F c) ∧ H' = ⟨[], []⟩) : Pure0 P f (pI8U F) := fun vals y hy hB m => by
  unfold pI8U at hy
  split at hy
  · cases hy; exact h _ m hB
  · cases hy
abbrev cf9 : Cfg := mkCf (fun _ => false) [(84, pI8U fun c => .int .i64 (hexR c)), (48, pf1 isStartB), (50, pf1 isDigitB)]
theorem pu9 : PureOk cf9 Tryd.prog := pure_cons (by kernel_rfl) (pureU8 hex_spec) (pure_cons (by kernel_rfl) (pure1 letter_spec) (pure_cons (by kernel_rfl) (pure1 digit_spec) pure_nil))
/-- The next character of a string: its byte, how long it is (0: none). -/
def charL : List UInt8 → Int × Nat
  | [] => (0, 0)
  | c :: r => if (c.toNat < 32 ∨ 126 < c.toNat) ∨ c.toNat = 34 then (0, 0) else if c.toNat ≠ 92 then (c.toNat, 1) else if (escL r).2.2 = true then ((escL r).2.1, 1 + (escL r).1) else (0, 0)
theorem escL_end {s : List UInt8} {q : Nat} (h : s.length ≤ q) : escL (s.drop q) = (0, 0, false) := by
  rw [List.drop_of_length_le h]; rfl
theorem escL_self {s : List UInt8} {q : Nat} (h : q < s.length) (hc : (s.getD q 0).toNat = 34 ∨ (s.getD q 0).toNat = 92) : escL (s.drop q) = (1, ((s.getD q 0).toNat : Int), true) := by
  rw [drop_at h]; simp only [escL]; rw [if_pos hc]
theorem escL_n {s : List UInt8} {q : Nat} (h : q < s.length) (hc : (s.getD q 0).toNat = 110) : escL (s.drop q) = (1, 10, true) := by
  rw [drop_at h]; simp only [escL]; rw [if_neg (by omega), if_pos hc]
theorem escL_x {s : List UInt8} {q : Nat} (h : q + 2 < s.length) (hc : (s.getD q 0).toNat = 120) :
    escL (s.drop q) = (3, IntKind.u8.wrap (16 * hexI (s.getD (q + 1) 0) + hexI (s.getD (q + 2) 0)), decide (0 ≤ hexI (s.getD (q + 1) 0)) && decide (0 ≤ hexI (s.getD (q + 2) 0))) := by
  rw [drop_at (by omega), drop_at (k := q + 1) (by omega), drop_at (k := q + 1 + 1) (by omega)]; simp only [escL]; rw [if_neg (by omega), if_neg (by omega), if_pos hc]
theorem escL_short {s : List UInt8} {q : Nat} (h : q < s.length) (hs : s.length ≤ q + 2) (hc : (s.getD q 0).toNat = 120) : escL (s.drop q) = (0, 0, false) := by
  rw [drop_at h]; simp only [escL]; rw [if_neg (by omega), if_neg (by omega), if_pos hc]
  have hl : (s.drop (q + 1)).length ≤ 1 := by rw [List.length_drop]; omega
  split
  · rename_i h l t e
    rw [e] at hl
    simp at hl
  · rfl
theorem escL_no {s : List UInt8} {q : Nat} (h : q < s.length) (h1 : ¬ ((s.getD q 0).toNat = 34 ∨ (s.getD q 0).toNat = 92)) (h2 : ¬ (s.getD q 0).toNat = 110) (h3 : ¬ (s.getD q 0).toNat = 120) : escL (s.drop q) = (0, 0, false) := by
  rw [drop_at h]; simp only [escL]; rw [if_neg h1, if_neg h2, if_neg h3]
theorem charL_bad {s : List UInt8} {p : Nat} (h : p < s.length) (hc : ((s.getD p 0).toNat < 32 ∨ 126 < (s.getD p 0).toNat) ∨ (s.getD p 0).toNat = 34) : charL (s.drop p) = (0, 0) := by
  rw [drop_at h]; simp only [charL]; rw [if_pos hc]
theorem charL_plain {s : List UInt8} {p : Nat} (h : p < s.length) (hc : ¬ (((s.getD p 0).toNat < 32 ∨ 126 < (s.getD p 0).toNat) ∨ (s.getD p 0).toNat = 34)) (h2 : (s.getD p 0).toNat ≠ 92) : charL (s.drop p) = (((s.getD p 0).toNat : Int), 1) := by
  rw [drop_at h]; simp only [charL]; rw [if_neg hc, if_pos h2]
theorem charL_esc {s : List UInt8} {p : Nat} (h : p < s.length) (h2 : (s.getD p 0).toNat = 92) {x : Nat × Int × Bool} (he : escL (s.drop (p + 1)) = x) : charL (s.drop p) = if x.2.2 = true then (x.2.1, 1 + x.1) else (0, 0) := by
  rw [drop_at h]; simp only [charL]; rw [if_neg (by omega), if_neg (by omega), he]
set_option maxHeartbeats 4000000 in
set_option maxRecDepth 20000 in
theorem char_spec (s : List UInt8) (p : Nat) (m : Mem) (hp : p < s.length) (hs : s.length ≤ 1000000) :
    FnH Tryd.prog 72 [.v (.string (bs s)), .v (.int .i64 p)] ⟨[], []⟩ m fun r H' m' => r = .tup [.v (.int .u8 (charL (s.drop p)).1), .v (.int .i64 (charL (s.drop p)).2)] ∧ H' = ⟨[], []⟩ ∧ m' = m := by
  have e1 : ((p : Int) + 1).toNat = p + 1 := by omega
  have e2 : ((p : Int) + 2).toNat = p + 2 := by omega
  have e3 : ((p : Int) + 3).toNat = p + 3 := by omega
  have hb : ∀ x : UInt8, (0 : Int) ≤ x.toNat ∧ (x.toNat : Int) ≤ 255 := fun x => by have := x.toNat_lt; omega
  refine enter cf9 pu9 Tryd.func72 rfl rfl (by kernel_rfl) rfl ?_ ?_
  · simp only [go_sem, ↓reduceIte, or_true, or_false, true_or, false_or, Option.some.injEq, exists_eq_left, exists_eq_left', Nat.reduceBEq, Nat.reduceAdd, Nat.reduceMul, Nat.reduceSub, Nat.reduceEqDiff, Nat.reduceLT, Nat.reduceLeDiff, Option.map, Option.bind, List.map, List.length, true_implies, true_and, and_true, Bool.and_true, Bool.true_and, Bool.or_false, Bool.false_or, Bool.not_true, Bool.not_false, Bool.and_false, Bool.false_and, List.cons_append, List.nil_append, List.append_nil, mk_eq_bs, tl_bs, List.getElem?_cons_zero, List.getElem?_cons_succ, eq_self, reduceCtorEq, implies_true, false_implies, decide_eq_true_eq, decide_eq_false_iff_not, Bool.and_eq_true, Bool.or_eq_true, Bool.not_eq_true', Bool.and_eq_false_iff, Bool.or_eq_false_iff, Bool.not_eq_false', Option.toList, SV.v.injEq, Value.int.injEq, Value.bool.injEq, Value.string.injEq, Option.getD, List.contains_cons, List.contains_nil, beq_self_eq_true, Nat.max_def, List.set, List.drop, List.take, Int.toNat_natCast, Nat.mul_one, Int.toNat_zero, List.drop_zero, Bx.mk.injEq, Vc.mk.injEq, List.cons.injEq, List.take_length, List.getElem?_nil, List.getD_cons_zero, List.getD_cons_succ, Int.reduceToNat, not_false_eq_true, Nat.le_refl]
  · simp only [go_sem, ↓reduceIte, or_true, or_false, true_or, false_or, Option.some.injEq, exists_eq_left, exists_eq_left', Nat.reduceBEq, Nat.reduceAdd, Nat.reduceMul, Nat.reduceSub, Nat.reduceEqDiff, Nat.reduceLT, Nat.reduceLeDiff, Option.map, Option.bind, List.map, List.length, true_implies, true_and, and_true, Bool.and_true, Bool.true_and, Bool.or_false, Bool.false_or, Bool.not_true, Bool.not_false, Bool.and_false, Bool.false_and, List.cons_append, List.nil_append, List.append_nil, mk_eq_bs, tl_bs, List.getElem?_cons_zero, List.getElem?_cons_succ, eq_self, reduceCtorEq, implies_true, false_implies, decide_eq_true_eq, decide_eq_false_iff_not, Bool.and_eq_true, Bool.or_eq_true, Bool.not_eq_true', Bool.and_eq_false_iff, Bool.or_eq_false_iff, Bool.not_eq_false', Option.toList, SV.v.injEq, Value.int.injEq, Value.bool.injEq, Value.string.injEq, Option.getD, List.contains_cons, List.contains_nil, beq_self_eq_true, Nat.max_def, List.set, List.drop, List.take, Int.toNat_natCast, Nat.mul_one, Int.toNat_zero, List.drop_zero, Bx.mk.injEq, Vc.mk.injEq, List.cons.injEq, List.take_length, List.getElem?_nil, List.getD_cons_zero, List.getD_cons_succ, Int.reduceToNat, not_false_eq_true, Nat.le_refl, e1, e2, e3, hexR_eq]
    have hI : ∀ n : Int, 0 ≤ n → n ≤ 2000000 → I64 n := fun n _ _ => by unfold I64; omega
    refine ⟨by omega, fun h => by rw [charL_bad hp (by omega)]; rfl, fun h => ⟨fun h2 => by rw [charL_plain hp (by omega) (by omega)]; rfl, fun h92 => ⟨by unfold I64; omega, fun hsh => ?_, fun hsh => ?_⟩⟩⟩
    · rw [charL_esc hp (by omega) (escL_end (by omega))]; rfl
    · have hq : p + 1 < s.length := by omega
      refine ⟨by unfold I64; omega, by omega, fun h34 => ⟨fun _ => ⟨by unfold I64; omega, by omega, ?_⟩, fun h => absurd h34 h⟩, fun h34 => ⟨fun h => ?_, fun h => ?_⟩⟩
      · rw [charL_esc hp (by omega) (escL_self hq (by omega))]; rfl
      · rw [charL_esc hp (by omega) (escL_self hq (by omega))]; exact ⟨by unfold I64; omega, by omega, rfl⟩
      · refine ⟨fun h110 => by rw [charL_esc hp (by omega) (escL_n hq (by omega))]; rfl, fun h110 => ⟨fun h120 => ⟨by unfold I64; omega, fun _ => by unfold I64; omega, fun _ => by omega, fun _ => hb _, fun _ => by unfold I64; omega, fun _ => by omega, fun _ => hb _, fun h4 => ?_, fun h4 => ?_⟩, fun h120 => ?_⟩⟩
        · have hx := charL_esc hp (by omega) (escL_x (q := p + 1) (by omega) (by omega))
          rw [if_pos (by rw [decide_eq_true h4.1.2, decide_eq_true h4.2]; rfl)] at hx
          have hb1 : Lib.indexByte hexL (s.getD (p + 2) 0) < 16 := idx_lt _ hexL
          have hb2 : Lib.indexByte hexL (s.getD (p + 3) 0) < 16 := idx_lt _ hexL
          have h41 := h4.1.2
          have h42 := h4.2
          refine WP_drawQ pu9 (by kernel_rfl) (by kernel_rfl) (by kernel_rfl) ?_
          simp only [go_sem, ↓reduceIte, or_true, or_false, true_or, false_or, Option.some.injEq, exists_eq_left, exists_eq_left', Nat.reduceBEq, Nat.reduceAdd, Nat.reduceMul, Nat.reduceSub, Nat.reduceEqDiff, Nat.reduceLT, Nat.reduceLeDiff, Option.map, Option.bind, List.map, List.length, true_implies, true_and, and_true, Bool.and_true, Bool.true_and, Bool.or_false, Bool.false_or, Bool.not_true, Bool.not_false, Bool.and_false, Bool.false_and, List.cons_append, List.nil_append, List.append_nil, mk_eq_bs, tl_bs, List.getElem?_cons_zero, List.getElem?_cons_succ, eq_self, reduceCtorEq, implies_true, false_implies, decide_eq_true_eq, decide_eq_false_iff_not, Bool.and_eq_true, Bool.or_eq_true, Bool.not_eq_true', Bool.and_eq_false_iff, Bool.or_eq_false_iff, Bool.not_eq_false', Option.toList, SV.v.injEq, Value.int.injEq, Value.bool.injEq, Value.string.injEq, Option.getD, List.contains_cons, List.contains_nil, beq_self_eq_true, Nat.max_def, List.set, List.drop, List.take, Int.toNat_natCast, Nat.mul_one, Int.toNat_zero, List.drop_zero, Bx.mk.injEq, Vc.mk.injEq, List.cons.injEq, List.take_length, List.getElem?_nil, List.getD_cons_zero, List.getD_cons_succ, Int.reduceToNat, not_false_eq_true, Nat.le_refl, e1, e2, e3, hexR_eq]
          rw [hx]
          unfold hexI at h41 h42 ⊢
          refine ⟨by unfold I64; omega, by omega, hb _, by unfold I64; omega, by unfold I64; omega, by omega, hb _, by unfold I64; omega, ?_⟩
          rw [Int.mul_comm]; rfl
        · rcases Nat.lt_or_ge (p + 3) s.length with h5 | h5
          · rw [charL_esc hp (by omega) (escL_x (q := p + 1) (by omega) (by omega)), if_neg]
            · rfl
            · simp only [Bool.and_eq_true, decide_eq_true_eq]
              rintro ⟨x, y⟩
              rcases h4 with (h4 | h4) | h4
              · omega
              · exact h4 x
              · exact h4 y
          · rw [charL_esc hp (by omega) (escL_short (q := p + 1) (by omega) (by omega) (by omega))]; rfl
        · rw [charL_esc hp (by omega) (escL_no hq (by omega) (by omega) (by omega))]; rfl
end Go.Proofs.YtmkifodpkcmgoaaDoor.E

/- lex, part O: the reference: strings, operators, white space. -/
set_option linter.unusedSimpArgs false
set_option linter.unusedVariables false
namespace Go.Proofs.YtmkifodpkcmgoaaDoor.E
open Go

/-- What the reference's scanners answer. -/
def RN (p : Nat) (o : Option (Int × List UInt8 × Int × Nat)) (r : SV) : Prop :=
  ∃ (t : Tk) (e : Int) (b : Bool), r = .tup [Tk.sv t, .v (.int .i64 e), .v (.bool b)] ∧
    match o with
    | some (k, tt, n, len) => b = true ∧ t = ⟨k, tt, n, p⟩ ∧ e = (p + len : Nat)
    | none => b = false
theorem charL_len (l : List UInt8) : (charL l).2 ≤ l.length := by
  cases l with
  | nil => simp [charL]
  | cons c r =>
    have := (escL_len r).1
    simp only [charL, List.length_cons]
    split
    · omega
    · split
      · omega
      · split <;> simp only <;> omega
theorem charL_byte (l : List UInt8) : ∃ x : UInt8, (charL l).1 = x.toNat := by
  cases l with
  | nil => exact ⟨0, rfl⟩
  | cons c r =>
    simp only [charL]
    split
    · exact ⟨0, rfl⟩
    · split
      · exact ⟨c, rfl⟩
      · split
        · exact escL_byte r
        · exact ⟨0, rfl⟩
theorem qScan_step {f : Nat} {c : UInt8} {r : List UInt8} {x : UInt8} (hc : c.toNat ≠ 34) (hx : (charL (c :: r)).1 = x.toNat) :
    qScanF (f + 1) (c :: r) = if (charL (c :: r)).2 = 0 then none else (qScanF f ((c :: r).drop (charL (c :: r)).2)).map fun y => (x :: y.1, (charL (c :: r)).2 + y.2) := by
  simp only [qScanF]
  rw [if_neg hc]
  by_cases h1 : c.toNat < 32 ∨ 126 < c.toNat
  · have hch : charL (c :: r) = (0, 0) := by simp only [charL]; rw [if_pos (.inl h1)]
    rw [if_pos h1, hch]; rfl
  · rw [if_neg h1]
    by_cases h2 : c.toNat = 92
    · rw [if_pos h2]
      by_cases h3 : (escL r).2.2 = true
      · have h4 := (escL_len r).2 h3
        have hch : charL (c :: r) = ((escL r).2.1, 1 + (escL r).1) := by simp only [charL]; rw [if_neg (by omega), if_neg (by omega), if_pos h3]
        rw [hch] at hx ⊢
        have hx : (escL r).2.1 = x.toNat := hx
        rw [if_pos h3, hx]
        have e1 : UInt8.ofNat ((x.toNat : Nat) : Int).toNat = x := by simp
        have e2 : (c :: r).drop (1 + (escL r).1) = r.drop (escL r).1 := by rw [Nat.add_comm, List.drop_succ_cons]
        show _ = if 1 + (escL r).1 = 0 then none else (qScanF f ((c :: r).drop (1 + (escL r).1))).map fun y => (x :: y.1, 1 + (escL r).1 + y.2)
        rw [if_neg (by omega), e1, e2]
      · have hch : charL (c :: r) = (0, 0) := by simp only [charL]; rw [if_neg (by omega), if_neg (by omega), if_neg h3]
        rw [if_neg h3, hch]; rfl
    · rw [if_neg h2]
      have hch : charL (c :: r) = ((c.toNat : Int), 1) := by simp only [charL]; rw [if_neg (by omega), if_pos h2]
      rw [hch] at hx ⊢
      have hx : (c.toNat : Int) = x.toNat := hx
      have e1 : c = x := UInt8.toNat_inj.1 (by omega)
      show _ = if 1 = 0 then none else (qScanF f ((c :: r).drop 1)).map fun y => (x :: y.1, 1 + y.2)
      rw [if_neg (by decide), List.drop_succ_cons, List.drop_zero, e1]
set_option maxHeartbeats 4000000 in
set_option maxRecDepth 20000 in
theorem text_spec (s : List UInt8) (p : Nat) (m : Mem) (hp : p < s.length) (hs : s.length ≤ 1000000) :
    FnH Tryd.prog 52 [.v (.string (bs s)), .v (.int .i64 p)] ⟨[], []⟩ m fun r H' m' => m' = m ∧ H' = ⟨[], []⟩ ∧
      RN p (match qScan (s.drop (p + 1)) with
        | some (b, n) => if b.length ≤ 1024 then some (5, b, 0, 1 + n) else none
        | none => none) r := by
  refine enter cf9 pu9 Tryd.func52 rfl rfl (by kernel_rfl) rfl ?_ ?_
  · simp only [go_sem, ↓reduceIte, or_true, or_false, true_or, false_or, Option.some.injEq, exists_eq_left, exists_eq_left', Nat.reduceBEq, Nat.reduceAdd, Nat.reduceMul, Nat.reduceSub, Nat.reduceEqDiff, Nat.reduceLT, Nat.reduceLeDiff, Option.map, Option.bind, List.map, List.length, true_implies, true_and, and_true, Bool.and_true, Bool.true_and, Bool.or_false, Bool.false_or, Bool.not_true, Bool.not_false, Bool.and_false, Bool.false_and, List.cons_append, List.nil_append, List.append_nil, mk_eq_bs, tl_bs, List.getElem?_cons_zero, List.getElem?_cons_succ, eq_self, reduceCtorEq, implies_true, false_implies, decide_eq_true_eq, decide_eq_false_iff_not, Bool.and_eq_true, Bool.or_eq_true, Bool.not_eq_true', Bool.and_eq_false_iff, Bool.or_eq_false_iff, Bool.not_eq_false', Option.toList, SV.v.injEq, Value.int.injEq, Value.bool.injEq, Value.string.injEq, Option.getD, List.contains_cons, List.contains_nil, beq_self_eq_true, Nat.max_def, List.set, List.drop, List.take, Int.toNat_natCast, Nat.mul_one, Int.toNat_zero, List.drop_zero, Bx.mk.injEq, Vc.mk.injEq, List.cons.injEq, List.take_length, List.getElem?_nil, List.getD_cons_zero, List.getD_cons_succ, Int.reduceToNat, not_false_eq_true, Nat.le_refl]
  · simp only [go_sem, ↓reduceIte, or_true, or_false, true_or, false_or, Option.some.injEq, exists_eq_left, exists_eq_left', Nat.reduceBEq, Nat.reduceAdd, Nat.reduceMul, Nat.reduceSub, Nat.reduceEqDiff, Nat.reduceLT, Nat.reduceLeDiff, Option.map, Option.bind, List.map, List.length, true_implies, true_and, and_true, Bool.and_true, Bool.true_and, Bool.or_false, Bool.false_or, Bool.not_true, Bool.not_false, Bool.and_false, Bool.false_and, List.cons_append, List.nil_append, List.append_nil, mk_eq_bs, tl_bs, List.getElem?_cons_zero, List.getElem?_cons_succ, eq_self, reduceCtorEq, implies_true, false_implies, decide_eq_true_eq, decide_eq_false_iff_not, Bool.and_eq_true, Bool.or_eq_true, Bool.not_eq_true', Bool.and_eq_false_iff, Bool.or_eq_false_iff, Bool.not_eq_false', Option.toList, SV.v.injEq, Value.int.injEq, Value.bool.injEq, Value.string.injEq, Option.getD, List.contains_cons, List.contains_nil, beq_self_eq_true, Nat.max_def, List.set, List.drop, List.take, Int.toNat_natCast, Nat.mul_one, Int.toNat_zero, List.drop_zero, Bx.mk.injEq, Vc.mk.injEq, List.cons.injEq, List.take_length, List.getElem?_nil, List.getD_cons_zero, List.getD_cons_succ, Int.reduceToNat, not_false_eq_true, Nat.le_refl]
    refine ⟨by unfold I64; omega, ?_⟩
    refine WP_loop pu9 (fun x : Nat × List UInt8 × Nat => ⟨[⟨0, [], .v (.string (bs s))⟩, ⟨1, [], .v (.int .i64 p)⟩, ⟨4, [], .box 0 0⟩, ⟨7, [], .vec 1 x.2.2⟩, ⟨8, [], .v (.int .i64 x.1)⟩], [], [⟨0, 27, Tk0.cells⟩], [⟨1, x.2.2, 5, 1, x.2.1.length, u8s x.2.1⟩], 2, m⟩)
      (fun x => p + 1 ≤ x.1 ∧ x.1 ≤ s.length ∧ x.2.1.length ≤ x.1 ∧ ∃ f, s.length - x.1 < f ∧ qScan (s.drop (p + 1)) = (qScanF f (s.drop x.1)).map fun y => (x.2.1 ++ y.1, x.1 - (p + 1) + y.2)) (fun x => s.length - x.1) (p + 1, [], 0) (by kernel_rfl) (fun _ _ => Nat.le_refl _) (fun _ _ => .inl rfl) (fun _ => ?_) ?_ ?_ ?_
    · simp only [go_sem, ↓reduceIte, or_true, or_false, true_or, false_or, Option.some.injEq, exists_eq_left, exists_eq_left', Nat.reduceBEq, Nat.reduceAdd, Nat.reduceMul, Nat.reduceSub, Nat.reduceEqDiff, Nat.reduceLT, Nat.reduceLeDiff, Option.map, Option.bind, List.map, List.length, true_implies, true_and, and_true, Bool.and_true, Bool.true_and, Bool.or_false, Bool.false_or, Bool.not_true, Bool.not_false, Bool.and_false, Bool.false_and, List.cons_append, List.nil_append, List.append_nil, mk_eq_bs, tl_bs, List.getElem?_cons_zero, List.getElem?_cons_succ, eq_self, reduceCtorEq, implies_true, false_implies, decide_eq_true_eq, decide_eq_false_iff_not, Bool.and_eq_true, Bool.or_eq_true, Bool.not_eq_true', Bool.and_eq_false_iff, Bool.or_eq_false_iff, Bool.not_eq_false', Option.toList, SV.v.injEq, Value.int.injEq, Value.bool.injEq, Value.string.injEq, Option.getD, List.contains_cons, List.contains_nil, beq_self_eq_true, Nat.max_def, List.set, List.drop, List.take, Int.toNat_natCast, Nat.mul_one, Int.toNat_zero, List.drop_zero, Bx.mk.injEq, Vc.mk.injEq, List.cons.injEq, List.take_length, List.getElem?_nil, List.getD_cons_zero, List.getD_cons_succ, Int.reduceToNat, not_false_eq_true, Nat.le_refl]
    · simp only [go_sem, ↓reduceIte, or_true, or_false, true_or, false_or, Option.some.injEq, exists_eq_left, exists_eq_left', Nat.reduceBEq, Nat.reduceAdd, Nat.reduceMul, Nat.reduceSub, Nat.reduceEqDiff, Nat.reduceLT, Nat.reduceLeDiff, Option.map, Option.bind, List.map, List.length, true_implies, true_and, and_true, Bool.and_true, Bool.true_and, Bool.or_false, Bool.false_or, Bool.not_true, Bool.not_false, Bool.and_false, Bool.false_and, List.cons_append, List.nil_append, List.append_nil, mk_eq_bs, tl_bs, List.getElem?_cons_zero, List.getElem?_cons_succ, eq_self, reduceCtorEq, implies_true, false_implies, decide_eq_true_eq, decide_eq_false_iff_not, Bool.and_eq_true, Bool.or_eq_true, Bool.not_eq_true', Bool.and_eq_false_iff, Bool.or_eq_false_iff, Bool.not_eq_false', Option.toList, SV.v.injEq, Value.int.injEq, Value.bool.injEq, Value.string.injEq, Option.getD, List.contains_cons, List.contains_nil, beq_self_eq_true, Nat.max_def, List.set, List.drop, List.take, Int.toNat_natCast, Nat.mul_one, Int.toNat_zero, List.drop_zero, Bx.mk.injEq, Vc.mk.injEq, List.cons.injEq, List.take_length, List.getElem?_nil, List.getD_cons_zero, List.getD_cons_succ, Int.reduceToNat, not_false_eq_true, Nat.le_refl]
      exact ⟨rfl, rfl⟩
    · refine ⟨Nat.le_refl _, hp, Nat.zero_le _, (s.drop (p + 1)).length + 1, by rw [List.length_drop]; omega, ?_⟩
      show qScan _ = (qScan _).map _
      cases qScan (s.drop (p + 1)) with
      | none => rfl
      | some x => simp
    · rintro ⟨q, b, v⟩ ⟨h1, h2, h3, f, hf, hq⟩
      simp only at h1 h2 h3 hf hq
      have ef : f = (f - 1) + 1 := by omega
      rw [ef] at hq
      simp only [go_sem, ↓reduceIte, or_true, or_false, true_or, false_or, Option.some.injEq, exists_eq_left, exists_eq_left', Nat.reduceBEq, Nat.reduceAdd, Nat.reduceMul, Nat.reduceSub, Nat.reduceEqDiff, Nat.reduceLT, Nat.reduceLeDiff, Option.map, Option.bind, List.map, List.length, true_implies, true_and, and_true, Bool.and_true, Bool.true_and, Bool.or_false, Bool.false_or, Bool.not_true, Bool.not_false, Bool.and_false, Bool.false_and, List.cons_append, List.nil_append, List.append_nil, mk_eq_bs, tl_bs, List.getElem?_cons_zero, List.getElem?_cons_succ, eq_self, reduceCtorEq, implies_true, false_implies, decide_eq_true_eq, decide_eq_false_iff_not, Bool.and_eq_true, Bool.or_eq_true, Bool.not_eq_true', Bool.and_eq_false_iff, Bool.or_eq_false_iff, Bool.not_eq_false', Option.toList, SV.v.injEq, Value.int.injEq, Value.bool.injEq, Value.string.injEq, Option.getD, List.contains_cons, List.contains_nil, beq_self_eq_true, Nat.max_def, List.set, List.drop, List.take, Int.toNat_natCast, Nat.mul_one, Int.toNat_zero, List.drop_zero, Bx.mk.injEq, Vc.mk.injEq, List.cons.injEq, List.take_length, List.getElem?_nil, List.getD_cons_zero, List.getD_cons_succ, Int.reduceToNat, not_false_eq_true, Nat.le_refl]
      refine ⟨fun h => by omega, fun h => ⟨by kernel_rfl, FnV_of ((char_spec s q m (by omega) hs).mono ?_)⟩, fun h => ⟨b, rfl, by unfold I64; omega, ?_⟩⟩
      · rintro r H' m' hm ⟨rfl, rfl, rfl⟩
        simp only [go_sem, ↓reduceIte, or_true, or_false, true_or, false_or, Option.some.injEq, exists_eq_left, exists_eq_left', Nat.reduceBEq, Nat.reduceAdd, Nat.reduceMul, Nat.reduceSub, Nat.reduceEqDiff, Nat.reduceLT, Nat.reduceLeDiff, Option.map, Option.bind, List.map, List.length, true_implies, true_and, and_true, Bool.and_true, Bool.true_and, Bool.or_false, Bool.false_or, Bool.not_true, Bool.not_false, Bool.and_false, Bool.false_and, List.cons_append, List.nil_append, List.append_nil, mk_eq_bs, tl_bs, List.getElem?_cons_zero, List.getElem?_cons_succ, eq_self, reduceCtorEq, implies_true, false_implies, decide_eq_true_eq, decide_eq_false_iff_not, Bool.and_eq_true, Bool.or_eq_true, Bool.not_eq_true', Bool.and_eq_false_iff, Bool.or_eq_false_iff, Bool.not_eq_false', Option.toList, SV.v.injEq, Value.int.injEq, Value.bool.injEq, Value.string.injEq, Option.getD, List.contains_cons, List.contains_nil, beq_self_eq_true, Nat.max_def, List.set, List.drop, List.take, Int.toNat_natCast, Nat.mul_one, Int.toNat_zero, List.drop_zero, Bx.mk.injEq, Vc.mk.injEq, List.cons.injEq, List.take_length, List.getElem?_nil, List.getD_cons_zero, List.getD_cons_succ, Int.reduceToNat, not_false_eq_true, Nat.le_refl]
        have hql : q < s.length := by omega
        have hcl := charL_len (s.drop q)
        rw [List.length_drop] at hcl
        obtain ⟨x, hx⟩ := charL_byte (s.drop q)
        have hst : qScanF (f - 1 + 1) (s.drop q) = if (charL (s.drop q)).2 = 0 then none else (qScanF (f - 1) ((s.drop q).drop (charL (s.drop q)).2)).map fun y => (x :: y.1, (charL (s.drop q)).2 + y.2) := by
          rw [drop_at hql] at hx ⊢
          exact qScan_step (by omega) hx
        rw [hst, List.drop_drop] at hq
        rw [hx]
        generalize (charL (s.drop q)).2 = n at hq hcl ⊢
        refine ⟨fun h0 => ?_, fun h0 => ⟨⟨by omega, by simp only [maxLen]; omega⟩, by unfold I64; omega, (q + n, b ++ [x], v + 1), ⟨⟨rfl, rfl⟩, rfl, by simp, by rw [u8s_app]; rfl⟩, ⟨by simp only; omega, by simp only; omega, by simp only [List.length_append, List.length_singleton]; omega, f - 1, by simp only; omega, ?_⟩, by simp only; omega⟩⟩
        · rw [if_pos (by omega)] at hq
          have hq : qScan (s.drop (p + 1)) = none := hq
          rw [hq]
          exact ⟨Tk0, 0, false, rfl, rfl⟩
        · rw [if_neg (by omega)] at hq
          rw [hq]
          cases qScanF (f - 1) (s.drop (q + n)) with
          | none => rfl
          | some y =>
            have : q - (p + 1) + (n + y.2) = q + n - (p + 1) + y.2 := by omega
            simp [this]
      · rcases Nat.lt_or_ge q s.length with hl | hl
        · have h34 : (s.getD q 0).toNat = 34 := by omega
          rw [drop_at hl] at hq
          simp only [qScanF] at hq
          rw [if_pos h34] at hq
          have hq : qScan (s.drop (p + 1)) = some (b ++ [], q - (p + 1) + 1) := hq
          rw [hq, List.append_nil, decide_eq_true (by omega : (q : Int) < s.length), Bool.true_and]
          refine ⟨⟨5, b, 0, p⟩, _, _, rfl, ?_⟩
          by_cases hb : b.length ≤ 1024
          · simp only [if_pos hb]
            exact ⟨decide_eq_true (by omega), trivial, by omega⟩
          · simp only [if_neg hb]
            exact decide_eq_false (by omega)
        · rw [List.drop_of_length_le hl] at hq
          have hq : qScan (s.drop (p + 1)) = none := hq
          rw [hq, decide_eq_false (by omega : ¬ (q : Int) < s.length), Bool.false_and]
          refine ⟨⟨5, b, 0, p⟩, _, false, rfl, ?_⟩
          rfl
def pIs (B : List UInt8 → Int → List UInt8 → Prop) (F : List UInt8 → Int → List UInt8 → Value) : List Value → Option (Prop × Value)
  | [.string a, .int .i64 c, .string b] => some (B (tl a) c (tl b), F (tl a) c (tl b))
  | _ => none
theorem pureIs {P : Program} {f : FuncId} {B : List UInt8 → Int → List UInt8 → Prop} {F : List UInt8 → Int → List UInt8 → Value}
    (h : ∀ a c b m, B a c b → FnH P f [.v (.string (bs a)), .v (.int .i64 c), .v (.string (bs b))] ⟨[], []⟩ m fun r H' _ => r = .v (F a c b) ∧ H' = ⟨[], []⟩) :
    Pure0 P f (pIs B F) := fun vals y hy hB m => by
  unfold pIs at hy
  split at hy
  · rename_i a c b
    cases hy
    have := h (tl a) c (tl b) m hB
    rwa [bs_tl, bs_tl] at this
  · cases hy
attribute [go_sem] pIs.eq_1
abbrev isB (s : List UInt8) (i : Int) (b : List UInt8) : Prop := 0 ≤ i ∧ i ≤ s.length ∧ s.length ≤ 4611686018427387904 ∧ b.length ≤ 1000
abbrev cfA : Cfg := mkCf (fun _ => false) [(47, pIs isB fun s i b => .bool (isAt s i b)), (48, pf1 isStartB), (50, pf1 isDigitB)]
theorem puA : PureOk cfA Tryd.prog := pure_cons (by kernel_rfl) (fun vals y hy hB m => pureIs (fun a c b m h => is_spec a b c m h.1 h.2.1 h.2.2.1 h.2.2.2) vals y hy hB m) (pure_cons (by kernel_rfl) (pure1 letter_spec) (pure_cons (by kernel_rfl) (pure1 digit_spec) pure_nil))
theorem isAt_pre {s b : List UInt8} {q : Nat} (h : q ≤ s.length) : isAt s q b = hasPre (s.drop q) b := by
  unfold isAt hasPre
  have e1 : decide ((b.length : Int) ≤ s.length - q) = decide ((b.length : Int) ≤ (s.drop q).length) := by rw [decide_eq_decide, List.length_drop]; omega
  have e2 : ((q : Int) + b.length).toNat = q + b.length := by omega
  rw [e1, e2, Int.toNat_natCast, List.drop_take]
  have e3 : q + b.length - q = b.length := by omega
  rw [e3]
set_option maxHeartbeats 4000000 in
set_option maxRecDepth 20000 in
theorem skip_spec (s : List UInt8) (p : Nat) (m : Mem) (hp : p ≤ s.length) (hs : s.length ≤ 1000000) :
    FnH Tryd.prog 23 [.v (.string (bs s)), .v (.int .i64 p)] ⟨[], []⟩ m fun r H' m' => r = .v (.int .i64 (p + skipW false (s.drop p) : Nat)) ∧ H' = ⟨[], []⟩ ∧ m' = m := by
  refine enter cfA puA Tryd.func23 rfl rfl (by kernel_rfl) rfl ?_ ?_
  · simp only [go_sem, ↓reduceIte, or_true, or_false, true_or, false_or, Option.some.injEq, exists_eq_left, exists_eq_left', Nat.reduceBEq, Nat.reduceAdd, Nat.reduceMul, Nat.reduceSub, Nat.reduceEqDiff, Nat.reduceLT, Nat.reduceLeDiff, Option.map, Option.bind, List.map, List.length, true_implies, true_and, and_true, Bool.and_true, Bool.true_and, Bool.or_false, Bool.false_or, Bool.not_true, Bool.not_false, Bool.and_false, Bool.false_and, List.cons_append, List.nil_append, List.append_nil, mk_eq_bs, tl_bs, List.getElem?_cons_zero, List.getElem?_cons_succ, eq_self, reduceCtorEq, implies_true, false_implies, decide_eq_true_eq, decide_eq_false_iff_not, Bool.and_eq_true, Bool.or_eq_true, Bool.not_eq_true', Bool.and_eq_false_iff, Bool.or_eq_false_iff, Bool.not_eq_false', Option.toList, SV.v.injEq, Value.int.injEq, Value.bool.injEq, Value.string.injEq, Option.getD, List.contains_cons, List.contains_nil, beq_self_eq_true, Nat.max_def, List.set, List.drop, List.take, Int.toNat_natCast, Nat.mul_one, Int.toNat_zero, List.drop_zero, Bx.mk.injEq, Vc.mk.injEq, List.cons.injEq, List.take_length, List.getElem?_nil, List.getD_cons_zero, List.getD_cons_succ, Int.reduceToNat, not_false_eq_true, Nat.le_refl]
  · simp only [go_sem, ↓reduceIte, or_true, or_false, true_or, false_or, Option.some.injEq, exists_eq_left, exists_eq_left', Nat.reduceBEq, Nat.reduceAdd, Nat.reduceMul, Nat.reduceSub, Nat.reduceEqDiff, Nat.reduceLT, Nat.reduceLeDiff, Option.map, Option.bind, List.map, List.length, true_implies, true_and, and_true, Bool.and_true, Bool.true_and, Bool.or_false, Bool.false_or, Bool.not_true, Bool.not_false, Bool.and_false, Bool.false_and, List.cons_append, List.nil_append, List.append_nil, mk_eq_bs, tl_bs, List.getElem?_cons_zero, List.getElem?_cons_succ, eq_self, reduceCtorEq, implies_true, false_implies, decide_eq_true_eq, decide_eq_false_iff_not, Bool.and_eq_true, Bool.or_eq_true, Bool.not_eq_true', Bool.and_eq_false_iff, Bool.or_eq_false_iff, Bool.not_eq_false', Option.toList, SV.v.injEq, Value.int.injEq, Value.bool.injEq, Value.string.injEq, Option.getD, List.contains_cons, List.contains_nil, beq_self_eq_true, Nat.max_def, List.set, List.drop, List.take, Int.toNat_natCast, Nat.mul_one, Int.toNat_zero, List.drop_zero, Bx.mk.injEq, Vc.mk.injEq, List.cons.injEq, List.take_length, List.getElem?_nil, List.getD_cons_zero, List.getD_cons_succ, Int.reduceToNat, not_false_eq_true, Nat.le_refl]
    refine WP_loop puA (fun k : Nat => ⟨[⟨0, [], .v (.string (bs s))⟩, ⟨1, [], .v (.int .i64 k)⟩], [], [], [], 0, m⟩)
      (fun k => p ≤ k ∧ k ≤ s.length ∧ p + skipW false (s.drop p) = k + skipW false (s.drop k)) (fun k => s.length - k) p (by kernel_rfl) (fun _ _ => Nat.le_refl _) (fun _ _ => .inl rfl) (fun _ => ?_) ?_ ?_ ?_
    · simp only [go_sem, ↓reduceIte, or_true, or_false, true_or, false_or, Option.some.injEq, exists_eq_left, exists_eq_left', Nat.reduceBEq, Nat.reduceAdd, Nat.reduceMul, Nat.reduceSub, Nat.reduceEqDiff, Nat.reduceLT, Nat.reduceLeDiff, Option.map, Option.bind, List.map, List.length, true_implies, true_and, and_true, Bool.and_true, Bool.true_and, Bool.or_false, Bool.false_or, Bool.not_true, Bool.not_false, Bool.and_false, Bool.false_and, List.cons_append, List.nil_append, List.append_nil, mk_eq_bs, tl_bs, List.getElem?_cons_zero, List.getElem?_cons_succ, eq_self, reduceCtorEq, implies_true, false_implies, decide_eq_true_eq, decide_eq_false_iff_not, Bool.and_eq_true, Bool.or_eq_true, Bool.not_eq_true', Bool.and_eq_false_iff, Bool.or_eq_false_iff, Bool.not_eq_false', Option.toList, SV.v.injEq, Value.int.injEq, Value.bool.injEq, Value.string.injEq, Option.getD, List.contains_cons, List.contains_nil, beq_self_eq_true, Nat.max_def, List.set, List.drop, List.take, Int.toNat_natCast, Nat.mul_one, Int.toNat_zero, List.drop_zero, Bx.mk.injEq, Vc.mk.injEq, List.cons.injEq, List.take_length, List.getElem?_nil, List.getD_cons_zero, List.getD_cons_succ, Int.reduceToNat, not_false_eq_true, Nat.le_refl]
    · simp only [go_sem, ↓reduceIte, or_true, or_false, true_or, false_or, Option.some.injEq, exists_eq_left, exists_eq_left', Nat.reduceBEq, Nat.reduceAdd, Nat.reduceMul, Nat.reduceSub, Nat.reduceEqDiff, Nat.reduceLT, Nat.reduceLeDiff, Option.map, Option.bind, List.map, List.length, true_implies, true_and, and_true, Bool.and_true, Bool.true_and, Bool.or_false, Bool.false_or, Bool.not_true, Bool.not_false, Bool.and_false, Bool.false_and, List.cons_append, List.nil_append, List.append_nil, mk_eq_bs, tl_bs, List.getElem?_cons_zero, List.getElem?_cons_succ, eq_self, reduceCtorEq, implies_true, false_implies, decide_eq_true_eq, decide_eq_false_iff_not, Bool.and_eq_true, Bool.or_eq_true, Bool.not_eq_true', Bool.and_eq_false_iff, Bool.or_eq_false_iff, Bool.not_eq_false', Option.toList, SV.v.injEq, Value.int.injEq, Value.bool.injEq, Value.string.injEq, Option.getD, List.contains_cons, List.contains_nil, beq_self_eq_true, Nat.max_def, List.set, List.drop, List.take, Int.toNat_natCast, Nat.mul_one, Int.toNat_zero, List.drop_zero, Bx.mk.injEq, Vc.mk.injEq, List.cons.injEq, List.take_length, List.getElem?_nil, List.getD_cons_zero, List.getD_cons_succ, Int.reduceToNat, not_false_eq_true, Nat.le_refl]
    · exact ⟨Nat.le_refl _, hp, rfl⟩
    · rintro k ⟨h1, h2, h3⟩
      simp only [go_sem, ↓reduceIte, or_true, or_false, true_or, false_or, Option.some.injEq, exists_eq_left, exists_eq_left', Nat.reduceBEq, Nat.reduceAdd, Nat.reduceMul, Nat.reduceSub, Nat.reduceEqDiff, Nat.reduceLT, Nat.reduceLeDiff, Option.map, Option.bind, List.map, List.length, true_implies, true_and, and_true, Bool.and_true, Bool.true_and, Bool.or_false, Bool.false_or, Bool.not_true, Bool.not_false, Bool.and_false, Bool.false_and, List.cons_append, List.nil_append, List.append_nil, mk_eq_bs, tl_bs, List.getElem?_cons_zero, List.getElem?_cons_succ, eq_self, reduceCtorEq, implies_true, false_implies, decide_eq_true_eq, decide_eq_false_iff_not, Bool.and_eq_true, Bool.or_eq_true, Bool.not_eq_true', Bool.and_eq_false_iff, Bool.or_eq_false_iff, Bool.not_eq_false', Option.toList, SV.v.injEq, Value.int.injEq, Value.bool.injEq, Value.string.injEq, Option.getD, List.contains_cons, List.contains_nil, beq_self_eq_true, Nat.max_def, List.set, List.drop, List.take, Int.toNat_natCast, Nat.mul_one, Int.toNat_zero, List.drop_zero, Bx.mk.injEq, Vc.mk.injEq, List.cons.injEq, List.take_length, List.getElem?_nil, List.getD_cons_zero, List.getD_cons_succ, Int.reduceToNat, not_false_eq_true, Nat.le_refl]
      refine ⟨fun hlt => ?_, fun hge => ?_⟩
      · have hkl : k < s.length := by omega
        rw [drop_at hkl] at h3
        simp only [skipW] at h3
        refine ⟨by omega, fun hw => ⟨by unfold I64; omega, k + 1, rfl, ⟨by omega, hkl, ?_⟩, by omega⟩, fun hw => ⟨⟨by omega, by omega, by omega, by simp⟩, fun hi => ?_, fun hi => ?_⟩⟩
        · rw [if_pos (by omega)] at h3
          omega
        · rw [isAt_pre h2, drop_at hkl] at hi
          rw [if_neg (by omega), if_neg (fun hh => by rw [hasPre_two.2 hh] at hi; cases hi)] at h3
          rw [h3]; rfl
        · rw [isAt_pre h2, drop_at hkl] at hi
          rw [if_neg (by omega), if_pos (hasPre_two.1 hi)] at h3
          have hst : p + skipW false (s.drop p) = k + skipW true (s.drop k) := by
            rw [h3, drop_at hkl]
            simp only [skipW]
            rw [if_neg (by have := (hasPre_two.1 hi).1; omega)]
          refine WP_loop puA (fun j : Nat => ⟨[⟨0, [], .v (.string (bs s))⟩, ⟨1, [], .v (.int .i64 j)⟩], [], [], [], 0, m⟩)
            (fun j => k ≤ j ∧ j ≤ s.length ∧ p + skipW false (s.drop p) = j + skipW true (s.drop j)) (fun j => s.length - j) k (by kernel_rfl) (fun _ _ => Nat.le_refl _) (fun _ _ => .inl rfl) (fun _ => ?_) ?_ ?_ ?_
          · simp only [go_sem, ↓reduceIte, or_true, or_false, true_or, false_or, Option.some.injEq, exists_eq_left, exists_eq_left', Nat.reduceBEq, Nat.reduceAdd, Nat.reduceMul, Nat.reduceSub, Nat.reduceEqDiff, Nat.reduceLT, Nat.reduceLeDiff, Option.map, Option.bind, List.map, List.length, true_implies, true_and, and_true, Bool.and_true, Bool.true_and, Bool.or_false, Bool.false_or, Bool.not_true, Bool.not_false, Bool.and_false, Bool.false_and, List.cons_append, List.nil_append, List.append_nil, mk_eq_bs, tl_bs, List.getElem?_cons_zero, List.getElem?_cons_succ, eq_self, reduceCtorEq, implies_true, false_implies, decide_eq_true_eq, decide_eq_false_iff_not, Bool.and_eq_true, Bool.or_eq_true, Bool.not_eq_true', Bool.and_eq_false_iff, Bool.or_eq_false_iff, Bool.not_eq_false', Option.toList, SV.v.injEq, Value.int.injEq, Value.bool.injEq, Value.string.injEq, Option.getD, List.contains_cons, List.contains_nil, beq_self_eq_true, Nat.max_def, List.set, List.drop, List.take, Int.toNat_natCast, Nat.mul_one, Int.toNat_zero, List.drop_zero, Bx.mk.injEq, Vc.mk.injEq, List.cons.injEq, List.take_length, List.getElem?_nil, List.getD_cons_zero, List.getD_cons_succ, Int.reduceToNat, not_false_eq_true, Nat.le_refl]
          · simp only [go_sem, ↓reduceIte, or_true, or_false, true_or, false_or, Option.some.injEq, exists_eq_left, exists_eq_left', Nat.reduceBEq, Nat.reduceAdd, Nat.reduceMul, Nat.reduceSub, Nat.reduceEqDiff, Nat.reduceLT, Nat.reduceLeDiff, Option.map, Option.bind, List.map, List.length, true_implies, true_and, and_true, Bool.and_true, Bool.true_and, Bool.or_false, Bool.false_or, Bool.not_true, Bool.not_false, Bool.and_false, Bool.false_and, List.cons_append, List.nil_append, List.append_nil, mk_eq_bs, tl_bs, List.getElem?_cons_zero, List.getElem?_cons_succ, eq_self, reduceCtorEq, implies_true, false_implies, decide_eq_true_eq, decide_eq_false_iff_not, Bool.and_eq_true, Bool.or_eq_true, Bool.not_eq_true', Bool.and_eq_false_iff, Bool.or_eq_false_iff, Bool.not_eq_false', Option.toList, SV.v.injEq, Value.int.injEq, Value.bool.injEq, Value.string.injEq, Option.getD, List.contains_cons, List.contains_nil, beq_self_eq_true, Nat.max_def, List.set, List.drop, List.take, Int.toNat_natCast, Nat.mul_one, Int.toNat_zero, List.drop_zero, Bx.mk.injEq, Vc.mk.injEq, List.cons.injEq, List.take_length, List.getElem?_nil, List.getD_cons_zero, List.getD_cons_succ, Int.reduceToNat, not_false_eq_true, Nat.le_refl]
          · exact ⟨Nat.le_refl _, h2, hst⟩
          · rintro j ⟨g1, g2, g3⟩
            simp only [go_sem, ↓reduceIte, or_true, or_false, true_or, false_or, Option.some.injEq, exists_eq_left, exists_eq_left', Nat.reduceBEq, Nat.reduceAdd, Nat.reduceMul, Nat.reduceSub, Nat.reduceEqDiff, Nat.reduceLT, Nat.reduceLeDiff, Option.map, Option.bind, List.map, List.length, true_implies, true_and, and_true, Bool.and_true, Bool.true_and, Bool.or_false, Bool.false_or, Bool.not_true, Bool.not_false, Bool.and_false, Bool.false_and, List.cons_append, List.nil_append, List.append_nil, mk_eq_bs, tl_bs, List.getElem?_cons_zero, List.getElem?_cons_succ, eq_self, reduceCtorEq, implies_true, false_implies, decide_eq_true_eq, decide_eq_false_iff_not, Bool.and_eq_true, Bool.or_eq_true, Bool.not_eq_true', Bool.and_eq_false_iff, Bool.or_eq_false_iff, Bool.not_eq_false', Option.toList, SV.v.injEq, Value.int.injEq, Value.bool.injEq, Value.string.injEq, Option.getD, List.contains_cons, List.contains_nil, beq_self_eq_true, Nat.max_def, List.set, List.drop, List.take, Int.toNat_natCast, Nat.mul_one, Int.toNat_zero, List.drop_zero, Bx.mk.injEq, Vc.mk.injEq, List.cons.injEq, List.take_length, List.getElem?_nil, List.getD_cons_zero, List.getD_cons_succ, Int.reduceToNat, not_false_eq_true, Nat.le_refl]
            refine ⟨fun h => by omega, fun h => ⟨by unfold I64; omega, j + 1, rfl, ⟨by omega, by omega, ?_⟩, by omega⟩, fun h => ⟨j, rfl, ⟨by omega, g2, ?_⟩, ?_⟩⟩
            · rw [g3, drop_at (by omega)]
              simp only [skipW]
              rw [if_neg (by omega)]
              omega
            · rcases Nat.lt_or_ge j s.length with g4 | g4
              · rw [g3, drop_at g4]
                simp only [skipW]
                rw [if_pos (by omega), if_pos (by omega)]
              · rw [g3, List.drop_of_length_le g4]; rfl
            · rcases Nat.lt_or_ge k j with g4 | g4
              · omega
              · have := (hasPre_two.1 hi).1
                obtain rfl : j = k := by omega
                omega
      · have e : s.drop k = [] := List.drop_of_length_le (by omega)
        rw [e] at h3
        rw [h3]; rfl
end Go.Proofs.YtmkifodpkcmgoaaDoor.E

/- lex, part P: the reference: operators, numbers. -/
set_option linter.unusedSimpArgs false
set_option linter.unusedVariables false
namespace Go.Proofs.YtmkifodpkcmgoaaDoor.E
open Go

set_option maxHeartbeats 4000000 in
set_option maxRecDepth 20000 in
theorem roperator_spec (s : List UInt8) (p : Nat) (m : Mem) (hp : p ≤ s.length) (hs : s.length ≤ 1000000) :
    FnH Tryd.prog 53 [.v (.string (bs s)), .v (.int .i64 p)] ⟨[], []⟩ m fun r H' m' => m' = m ∧ H' = ⟨[], []⟩ ∧ RN p ((signAt (s.drop p)).map fun o => (6, o, 0, o.length)) r := by
  refine enter cfA puA Tryd.func53 rfl rfl (by kernel_rfl) rfl ?_ ?_
  · simp only [go_sem, ↓reduceIte, or_true, or_false, true_or, false_or, Option.some.injEq, exists_eq_left, exists_eq_left', Nat.reduceBEq, Nat.reduceAdd, Nat.reduceMul, Nat.reduceSub, Nat.reduceEqDiff, Nat.reduceLT, Nat.reduceLeDiff, Option.map, Option.bind, List.map, List.length, true_implies, true_and, and_true, Bool.and_true, Bool.true_and, Bool.or_false, Bool.false_or, Bool.not_true, Bool.not_false, Bool.and_false, Bool.false_and, List.cons_append, List.nil_append, List.append_nil, mk_eq_bs, tl_bs, List.getElem?_cons_zero, List.getElem?_cons_succ, eq_self, reduceCtorEq, implies_true, false_implies, decide_eq_true_eq, decide_eq_false_iff_not, Bool.and_eq_true, Bool.or_eq_true, Bool.not_eq_true', Bool.and_eq_false_iff, Bool.or_eq_false_iff, Bool.not_eq_false', Option.toList, SV.v.injEq, Value.int.injEq, Value.bool.injEq, Value.string.injEq, Option.getD, List.contains_cons, List.contains_nil, beq_self_eq_true, Nat.max_def, List.set, List.drop, List.take, Int.toNat_natCast, Nat.mul_one, Int.toNat_zero, List.drop_zero, Bx.mk.injEq, Vc.mk.injEq, List.cons.injEq, List.take_length, List.getElem?_nil, List.getD_cons_zero, List.getD_cons_succ, Int.reduceToNat, not_false_eq_true, Nat.le_refl]
  · simp only [go_sem, ↓reduceIte, or_true, or_false, true_or, false_or, Option.some.injEq, exists_eq_left, exists_eq_left', Nat.reduceBEq, Nat.reduceAdd, Nat.reduceMul, Nat.reduceSub, Nat.reduceEqDiff, Nat.reduceLT, Nat.reduceLeDiff, Option.map, Option.bind, List.map, List.length, true_implies, true_and, and_true, Bool.and_true, Bool.true_and, Bool.or_false, Bool.false_or, Bool.not_true, Bool.not_false, Bool.and_false, Bool.false_and, List.cons_append, List.nil_append, List.append_nil, mk_eq_bs, tl_bs, List.getElem?_cons_zero, List.getElem?_cons_succ, eq_self, reduceCtorEq, implies_true, false_implies, decide_eq_true_eq, decide_eq_false_iff_not, Bool.and_eq_true, Bool.or_eq_true, Bool.not_eq_true', Bool.and_eq_false_iff, Bool.or_eq_false_iff, Bool.not_eq_false', Option.toList, SV.v.injEq, Value.int.injEq, Value.bool.injEq, Value.string.injEq, Option.getD, List.contains_cons, List.contains_nil, beq_self_eq_true, Nat.max_def, List.set, List.drop, List.take, Int.toNat_natCast, Nat.mul_one, Int.toNat_zero, List.drop_zero, Bx.mk.injEq, Vc.mk.injEq, List.cons.injEq, List.take_length, List.getElem?_nil, List.getD_cons_zero, List.getD_cons_succ, Int.reduceToNat, not_false_eq_true, Nat.le_refl]
    refine ⟨by kernel_rfl, FnV_of ((rsigns_spec m).mono ?_)⟩
    rintro r H' m' hm ⟨rfl, rfl, rfl⟩
    simp only [go_sem, ↓reduceIte, or_true, or_false, true_or, false_or, Option.some.injEq, exists_eq_left, exists_eq_left', Nat.reduceBEq, Nat.reduceAdd, Nat.reduceMul, Nat.reduceSub, Nat.reduceEqDiff, Nat.reduceLT, Nat.reduceLeDiff, Option.map, Option.bind, List.map, List.length, true_implies, true_and, and_true, Bool.and_true, Bool.true_and, Bool.or_false, Bool.false_or, Bool.not_true, Bool.not_false, Bool.and_false, Bool.false_and, List.cons_append, List.nil_append, List.append_nil, mk_eq_bs, tl_bs, List.getElem?_cons_zero, List.getElem?_cons_succ, eq_self, reduceCtorEq, implies_true, false_implies, decide_eq_true_eq, decide_eq_false_iff_not, Bool.and_eq_true, Bool.or_eq_true, Bool.not_eq_true', Bool.and_eq_false_iff, Bool.or_eq_false_iff, Bool.not_eq_false', Option.toList, SV.v.injEq, Value.int.injEq, Value.bool.injEq, Value.string.injEq, Option.getD, List.contains_cons, List.contains_nil, beq_self_eq_true, Nat.max_def, List.set, List.drop, List.take, Int.toNat_natCast, Nat.mul_one, Int.toNat_zero, List.drop_zero, Bx.mk.injEq, Vc.mk.injEq, List.cons.injEq, List.take_length, List.getElem?_nil, List.getD_cons_zero, List.getD_cons_succ, Int.reduceToNat, not_false_eq_true, Nat.le_refl]
    refine WP_loop puA (fun k : Nat => ⟨[⟨0, [], .v (.string (bs s))⟩, ⟨1, [], .v (.int .i64 p)⟩, ⟨4, [], .box 0 0⟩, ⟨7, [], .vec 1 0⟩, ⟨8, [], .v (.int .i64 k)⟩], [], [⟨0, 27, Tk0.cells⟩], [⟨1, 0, 9, 1, 30, strs signsL⟩], 2, m'⟩)
      (fun k => k ≤ 30 ∧ signAt (s.drop p) = (signsL.drop k).find? fun o => hasPre (s.drop p) o) (fun k => 30 - k) 0 (by kernel_rfl) (fun _ _ => Nat.le_refl _) (fun _ _ => .inl rfl) (fun _ => ?_) ?_ ?_ ?_
    · simp only [go_sem, ↓reduceIte, or_true, or_false, true_or, false_or, Option.some.injEq, exists_eq_left, exists_eq_left', Nat.reduceBEq, Nat.reduceAdd, Nat.reduceMul, Nat.reduceSub, Nat.reduceEqDiff, Nat.reduceLT, Nat.reduceLeDiff, Option.map, Option.bind, List.map, List.length, true_implies, true_and, and_true, Bool.and_true, Bool.true_and, Bool.or_false, Bool.false_or, Bool.not_true, Bool.not_false, Bool.and_false, Bool.false_and, List.cons_append, List.nil_append, List.append_nil, mk_eq_bs, tl_bs, List.getElem?_cons_zero, List.getElem?_cons_succ, eq_self, reduceCtorEq, implies_true, false_implies, decide_eq_true_eq, decide_eq_false_iff_not, Bool.and_eq_true, Bool.or_eq_true, Bool.not_eq_true', Bool.and_eq_false_iff, Bool.or_eq_false_iff, Bool.not_eq_false', Option.toList, SV.v.injEq, Value.int.injEq, Value.bool.injEq, Value.string.injEq, Option.getD, List.contains_cons, List.contains_nil, beq_self_eq_true, Nat.max_def, List.set, List.drop, List.take, Int.toNat_natCast, Nat.mul_one, Int.toNat_zero, List.drop_zero, Bx.mk.injEq, Vc.mk.injEq, List.cons.injEq, List.take_length, List.getElem?_nil, List.getD_cons_zero, List.getD_cons_succ, Int.reduceToNat, not_false_eq_true, Nat.le_refl]
    · simp only [go_sem, ↓reduceIte, or_true, or_false, true_or, false_or, Option.some.injEq, exists_eq_left, exists_eq_left', Nat.reduceBEq, Nat.reduceAdd, Nat.reduceMul, Nat.reduceSub, Nat.reduceEqDiff, Nat.reduceLT, Nat.reduceLeDiff, Option.map, Option.bind, List.map, List.length, true_implies, true_and, and_true, Bool.and_true, Bool.true_and, Bool.or_false, Bool.false_or, Bool.not_true, Bool.not_false, Bool.and_false, Bool.false_and, List.cons_append, List.nil_append, List.append_nil, mk_eq_bs, tl_bs, List.getElem?_cons_zero, List.getElem?_cons_succ, eq_self, reduceCtorEq, implies_true, false_implies, decide_eq_true_eq, decide_eq_false_iff_not, Bool.and_eq_true, Bool.or_eq_true, Bool.not_eq_true', Bool.and_eq_false_iff, Bool.or_eq_false_iff, Bool.not_eq_false', Option.toList, SV.v.injEq, Value.int.injEq, Value.bool.injEq, Value.string.injEq, Option.getD, List.contains_cons, List.contains_nil, beq_self_eq_true, Nat.max_def, List.set, List.drop, List.take, Int.toNat_natCast, Nat.mul_one, Int.toNat_zero, List.drop_zero, Bx.mk.injEq, Vc.mk.injEq, List.cons.injEq, List.take_length, List.getElem?_nil, List.getD_cons_zero, List.getD_cons_succ, Int.reduceToNat, not_false_eq_true, Nat.le_refl]
      rfl
    · exact ⟨by omega, rfl⟩
    · rintro k ⟨hk, hf⟩
      have hsl : signsL.length = 30 := rfl
      have hst : (strs signsL).length = 30 := rfl
      refine Classical.byCases (fun hlt : k < 30 => ?_) (fun hge : ¬ k < 30 => ?_)
      · have hk30 : k < signsL.length := hlt
        have e : (strs signsL).getD k undef = .string (bs signsL[k]) := by
          rw [List.getD_eq_getElem?_getD, strs, List.getElem?_map, List.getElem?_eq_getElem hk30]; rfl
        have hol : signsL[k].length ≤ 3 := (by decide : ∀ o ∈ signsL, o.length ≤ 3) _ (List.getElem_mem hk30)
        rw [List.drop_eq_getElem_cons hk30, List.find?_cons] at hf
        simp only [go_sem, ↓reduceIte, or_true, or_false, true_or, false_or, Option.some.injEq, exists_eq_left, exists_eq_left', Nat.reduceBEq, Nat.reduceAdd, Nat.reduceMul, Nat.reduceSub, Nat.reduceEqDiff, Nat.reduceLT, Nat.reduceLeDiff, Option.map, Option.bind, List.map, List.length, true_implies, true_and, and_true, Bool.and_true, Bool.true_and, Bool.or_false, Bool.false_or, Bool.not_true, Bool.not_false, Bool.and_false, Bool.false_and, List.cons_append, List.nil_append, List.append_nil, mk_eq_bs, tl_bs, List.getElem?_cons_zero, List.getElem?_cons_succ, eq_self, reduceCtorEq, implies_true, false_implies, decide_eq_true_eq, decide_eq_false_iff_not, Bool.and_eq_true, Bool.or_eq_true, Bool.not_eq_true', Bool.and_eq_false_iff, Bool.or_eq_false_iff, Bool.not_eq_false', Option.toList, SV.v.injEq, Value.int.injEq, Value.bool.injEq, Value.string.injEq, Option.getD, List.contains_cons, List.contains_nil, beq_self_eq_true, Nat.max_def, List.set, List.drop, List.take, Int.toNat_natCast, Nat.mul_one, Int.toNat_zero, List.drop_zero, Bx.mk.injEq, Vc.mk.injEq, List.cons.injEq, List.take_length, List.getElem?_nil, List.getD_cons_zero, List.getD_cons_succ, Int.reduceToNat, not_false_eq_true, Nat.le_refl, e]
        rw [isAt_pre hp]
        refine ⟨fun h => ⟨by omega, by omega, ⟨by omega, by omega, by omega, by omega⟩, fun hi => ?_, fun hi => ⟨by unfold I64; omega, k + 1, rfl, ⟨by omega, ?_⟩, by omega⟩⟩, fun h => by omega⟩
        · have hf' : signAt (s.drop p) = some signsL[k] := by rw [hf, hi]
          refine WP_draw (.hoist 0 (.hoist 1 (.hoist 2 (.hoist 3 (.hoist 4 (.hoist 5 (.hoist 6 (.hoist 7 (.hoist 8 (.hoist 9 (.hoist 10 (.hoist 11 (.hoist 12 (.alt 13 [12, 11, 10, 9, 8, 7, 6] (.hoist 14 (.hoist 15 .done)) .stop)))))))))))))) puA (by kernel_rfl) (by kernel_rfl) ?_
          simp only [go_sem, ↓reduceIte, or_true, or_false, true_or, false_or, Option.some.injEq, exists_eq_left, exists_eq_left', Nat.reduceBEq, Nat.reduceAdd, Nat.reduceMul, Nat.reduceSub, Nat.reduceEqDiff, Nat.reduceLT, Nat.reduceLeDiff, Option.map, Option.bind, List.map, List.length, true_implies, true_and, and_true, Bool.and_true, Bool.true_and, Bool.or_false, Bool.false_or, Bool.not_true, Bool.not_false, Bool.and_false, Bool.false_and, List.cons_append, List.nil_append, List.append_nil, mk_eq_bs, tl_bs, List.getElem?_cons_zero, List.getElem?_cons_succ, eq_self, reduceCtorEq, implies_true, false_implies, decide_eq_true_eq, decide_eq_false_iff_not, Bool.and_eq_true, Bool.or_eq_true, Bool.not_eq_true', Bool.and_eq_false_iff, Bool.or_eq_false_iff, Bool.not_eq_false', Option.toList, SV.v.injEq, Value.int.injEq, Value.bool.injEq, Value.string.injEq, Option.getD, List.contains_cons, List.contains_nil, beq_self_eq_true, Nat.max_def, List.set, List.drop, List.take, Int.toNat_natCast, Nat.mul_one, Int.toNat_zero, List.drop_zero, Bx.mk.injEq, Vc.mk.injEq, List.cons.injEq, List.take_length, List.getElem?_nil, List.getD_cons_zero, List.getD_cons_succ, Int.reduceToNat, not_false_eq_true, Nat.le_refl, e]
          rw [hf']
          exact ⟨by omega, by omega, by omega, by omega, by unfold I64; omega, ⟨6, signsL[k], 0, p⟩, _, _, rfl, rfl, rfl, rfl⟩
        · rw [hf, hi]
      · simp only [go_sem, ↓reduceIte, or_true, or_false, true_or, false_or, Option.some.injEq, exists_eq_left, exists_eq_left', Nat.reduceBEq, Nat.reduceAdd, Nat.reduceMul, Nat.reduceSub, Nat.reduceEqDiff, Nat.reduceLT, Nat.reduceLeDiff, Option.map, Option.bind, List.map, List.length, true_implies, true_and, and_true, Bool.and_true, Bool.true_and, Bool.or_false, Bool.false_or, Bool.not_true, Bool.not_false, Bool.and_false, Bool.false_and, List.cons_append, List.nil_append, List.append_nil, mk_eq_bs, tl_bs, List.getElem?_cons_zero, List.getElem?_cons_succ, eq_self, reduceCtorEq, implies_true, false_implies, decide_eq_true_eq, decide_eq_false_iff_not, Bool.and_eq_true, Bool.or_eq_true, Bool.not_eq_true', Bool.and_eq_false_iff, Bool.or_eq_false_iff, Bool.not_eq_false', Option.toList, SV.v.injEq, Value.int.injEq, Value.bool.injEq, Value.string.injEq, Option.getD, List.contains_cons, List.contains_nil, beq_self_eq_true, Nat.max_def, List.set, List.drop, List.take, Int.toNat_natCast, Nat.mul_one, Int.toNat_zero, List.drop_zero, Bx.mk.injEq, Vc.mk.injEq, List.cons.injEq, List.take_length, List.getElem?_nil, List.getD_cons_zero, List.getD_cons_succ, Int.reduceToNat, not_false_eq_true, Nat.le_refl]
        refine ⟨fun h => by omega, fun h => ?_⟩
        obtain rfl : k = 30 := by omega
        have e : signsL.drop 30 = [] := rfl
        rw [e] at hf
        have hf : signAt (s.drop p) = none := hf
        rw [hf]
        exact ⟨Tk0, 0, false, rfl, rfl⟩
/-- Decimal digits that spell an int64. -/
def refDig : Nat → List UInt8 → Option Nat
  | n, [] => some n
  | n, c :: r => if n ≤ (9223372036854775807 - (c.toNat - 48)) / 10 then refDig (n * 10 + (c.toNat - 48)) r else none
theorem uintM_ge {M : Nat} : ∀ (l : List UInt8) (acc u : Nat), Lib.parseUintM M acc l = .ok u → acc ≤ u
  | [], acc, u, h => by simp only [Lib.parseUintM, Lib.NumEnd.ok.injEq] at h; omega
  | c :: r, acc, u, h => by
    simp only [Lib.parseUintM] at h
    split at h
    · split at h
      · cases h
      · split at h
        · cases h
        · have := uintM_ge r _ u h
          omega
    · cases h
theorem refDig_uint : ∀ (l : List UInt8) (n : Nat), n ≤ 9223372036854775807 → (∀ c ∈ l, isDigitB c.toNat = true) →
    match refDig n l with
    | some v => Lib.parseUintM 18446744073709551615 n l = .ok v ∧ v ≤ 9223372036854775807
    | none => ∀ u, Lib.parseUintM 18446744073709551615 n l = .ok u → 9223372036854775808 ≤ u
  | [], n, hn, _ => ⟨rfl, hn⟩
  | c :: r, n, hn, hd => by
    have hc := (dig_iff _).1 (hd c (List.mem_cons_self ..))
    have hr := fun x hx => hd x (List.mem_cons_of_mem _ hx)
    simp only [refDig]
    by_cases h : n ≤ (9223372036854775807 - (c.toNat - 48)) / 10
    · rw [if_pos h]
      have ih := refDig_uint r (n * 10 + (c.toNat - 48)) (by omega) hr
      have e : Lib.parseUintM 18446744073709551615 n (c :: r) = Lib.parseUintM 18446744073709551615 (n * 10 + (c.toNat - 48)) r := by
        simp only [Lib.parseUintM]
        rw [if_pos (by omega), if_neg (by omega), if_neg (by omega)]
      rw [e]
      exact ih
    · rw [if_neg h]
      intro u hu
      simp only [Lib.parseUintM] at hu
      rw [if_pos (by omega)] at hu
      split at hu
      · cases hu
      · split at hu
        · cases hu
        · have := uintM_ge r _ u hu
          omega
theorem parseN_ref {l : List UInt8} (hne : l ≠ []) (hd : ∀ c ∈ l, isDigitB c.toNat = true) :
    match refDig 0 l with
    | some v => parseN l = ((v : Int), true) ∧ v ≤ 9223372036854775807
    | none => (parseN l).2 = false := by
  have h := refDig_uint l 0 (by omega) hd
  cases l with
  | nil => exact absurd rfl hne
  | cons c r =>
    have hc := (dig_iff _).1 (hd c (List.mem_cons_self ..))
    have e : parseN (c :: r) = match Lib.parseUintM 18446744073709551615 0 (c :: r) with
      | .ok u => if 9223372036854775808 ≤ u then (Lib.intSat 64 (c :: r), false) else ((u : Int), true)
      | .range => (Lib.intSat 64 (c :: r), false)
      | _ => (0, false) := by
      unfold parseN Lib.parseIntB
      simp only [Lib.parseUintB]
      have h43 : ¬ (c.toNat = 43 ∨ c.toNat = 45) := by omega
      have h45 : ¬ c.toNat = 45 := by omega
      rw [if_neg h43, if_neg (List.cons_ne_nil _ _)]
      cases Lib.parseUintM (2 ^ 64 - 1) 0 (c :: r) with
      | ok u =>
        by_cases hu : 9223372036854775808 ≤ u
        · simp [h45, hu]
        · simp [h45, hu]
      | range => rfl
      | _ => rfl
    rw [e]
    cases hr : refDig 0 (c :: r) with
    | some v =>
      rw [hr] at h
      rw [h.1]
      simp only
      rw [if_neg (by omega)]
      exact ⟨rfl, h.2⟩
    | none =>
      rw [hr] at h
      cases hm : Lib.parseUintM 18446744073709551615 0 (c :: r) with
      | ok u =>
        have := h u hm
        simp only
        rw [if_pos this]
      | range => rfl
      | _ => rfl
theorem dig_all : ∀ (l : List UInt8), ∀ c ∈ l.take (digL l), isDigitB c.toNat = true
  | [], c, h => by simp at h
  | d :: r, c, h => by
    simp only [digL] at h
    split at h
    · rename_i hd
      rw [Nat.add_comm, List.take_succ_cons] at h
      rcases List.mem_cons.1 h with rfl | h
      · exact hd
      · exact dig_all r c h
    · simp at h
set_option maxHeartbeats 4000000 in
set_option maxRecDepth 20000 in
theorem rnumber_spec (s : List UInt8) (p : Nat) (m : Mem) (hp : p < s.length) (hs : s.length ≤ 1000000) (hd : isDigitB (s.getD p 0).toNat = true) :
    FnH Tryd.prog 51 [.v (.string (bs s)), .v (.int .i64 p)] ⟨[], []⟩ m fun r H' m' => m' = m ∧ H' = ⟨[], []⟩ ∧
      RN p (if (numL (s.drop p)).2.2.2 = true then some (if (numL (s.drop p)).1 = true then 4 else 3, [], (numL (s.drop p)).2.1, (numL (s.drop p)).2.2.1) else none) r := by
  refine enter cf8 pu8 Tryd.func51 rfl rfl (by kernel_rfl) rfl ?_ ?_
  · simp only [go_sem, ↓reduceIte, or_true, or_false, true_or, false_or, Option.some.injEq, exists_eq_left, exists_eq_left', Nat.reduceBEq, Nat.reduceAdd, Nat.reduceMul, Nat.reduceSub, Nat.reduceEqDiff, Nat.reduceLT, Nat.reduceLeDiff, Option.map, Option.bind, List.map, List.length, true_implies, true_and, and_true, Bool.and_true, Bool.true_and, Bool.or_false, Bool.false_or, Bool.not_true, Bool.not_false, Bool.and_false, Bool.false_and, List.cons_append, List.nil_append, List.append_nil, mk_eq_bs, tl_bs, List.getElem?_cons_zero, List.getElem?_cons_succ, eq_self, reduceCtorEq, implies_true, false_implies, decide_eq_true_eq, decide_eq_false_iff_not, Bool.and_eq_true, Bool.or_eq_true, Bool.not_eq_true', Bool.and_eq_false_iff, Bool.or_eq_false_iff, Bool.not_eq_false', Option.toList, SV.v.injEq, Value.int.injEq, Value.bool.injEq, Value.string.injEq, Option.getD, List.contains_cons, List.contains_nil, beq_self_eq_true, Nat.max_def, List.set, List.drop, List.take, Int.toNat_natCast, Nat.mul_one, Int.toNat_zero, List.drop_zero, Bx.mk.injEq, Vc.mk.injEq, List.cons.injEq, List.take_length, List.getElem?_nil, List.getD_cons_zero, List.getD_cons_succ, Int.reduceToNat, not_false_eq_true, Nat.le_refl]
  · simp only [go_sem, ↓reduceIte, or_true, or_false, true_or, false_or, Option.some.injEq, exists_eq_left, exists_eq_left', Nat.reduceBEq, Nat.reduceAdd, Nat.reduceMul, Nat.reduceSub, Nat.reduceEqDiff, Nat.reduceLT, Nat.reduceLeDiff, Option.map, Option.bind, List.map, List.length, true_implies, true_and, and_true, Bool.and_true, Bool.true_and, Bool.or_false, Bool.false_or, Bool.not_true, Bool.not_false, Bool.and_false, Bool.false_and, List.cons_append, List.nil_append, List.append_nil, mk_eq_bs, tl_bs, List.getElem?_cons_zero, List.getElem?_cons_succ, eq_self, reduceCtorEq, implies_true, false_implies, decide_eq_true_eq, decide_eq_false_iff_not, Bool.and_eq_true, Bool.or_eq_true, Bool.not_eq_true', Bool.and_eq_false_iff, Bool.or_eq_false_iff, Bool.not_eq_false', Option.toList, SV.v.injEq, Value.int.injEq, Value.bool.injEq, Value.string.injEq, Option.getD, List.contains_cons, List.contains_nil, beq_self_eq_true, Nat.max_def, List.set, List.drop, List.take, Int.toNat_natCast, Nat.mul_one, Int.toNat_zero, List.drop_zero, Bx.mk.injEq, Vc.mk.injEq, List.cons.injEq, List.take_length, List.getElem?_nil, List.getD_cons_zero, List.getD_cons_succ, Int.reduceToNat, not_false_eq_true, Nat.le_refl]
    refine WP_loop pu8 (fun x : Nat × Nat × Bool => ⟨[⟨0, [], .v (.string (bs s))⟩, ⟨1, [], .v (.int .i64 p)⟩, ⟨4, [], .box 0 0⟩, ⟨7, [], .v (.int .i64 x.1)⟩, ⟨8, [], .v (.int .i64 x.2.1)⟩, ⟨9, [], .v (.bool x.2.2)⟩], [], [⟨0, 27, Tk0.cells⟩], [], 1, m⟩)
      (fun x => p ≤ x.1 ∧ x.1 ≤ s.length ∧ p + digL (s.drop p) = x.1 + digL (s.drop x.1) ∧ x.2.1 ≤ 9223372036854775807 ∧ refDig 0 (numT s p) = if x.2.2 = true then refDig x.2.1 ((s.drop x.1).take (digL (s.drop x.1))) else none) (fun x => s.length - x.1) (p, 0, true) (by kernel_rfl) (fun _ _ => Nat.le_refl _) (fun _ _ => .inl rfl) (fun _ => ?_) ?_ ?_ ?_
    · simp only [go_sem, ↓reduceIte, or_true, or_false, true_or, false_or, Option.some.injEq, exists_eq_left, exists_eq_left', Nat.reduceBEq, Nat.reduceAdd, Nat.reduceMul, Nat.reduceSub, Nat.reduceEqDiff, Nat.reduceLT, Nat.reduceLeDiff, Option.map, Option.bind, List.map, List.length, true_implies, true_and, and_true, Bool.and_true, Bool.true_and, Bool.or_false, Bool.false_or, Bool.not_true, Bool.not_false, Bool.and_false, Bool.false_and, List.cons_append, List.nil_append, List.append_nil, mk_eq_bs, tl_bs, List.getElem?_cons_zero, List.getElem?_cons_succ, eq_self, reduceCtorEq, implies_true, false_implies, decide_eq_true_eq, decide_eq_false_iff_not, Bool.and_eq_true, Bool.or_eq_true, Bool.not_eq_true', Bool.and_eq_false_iff, Bool.or_eq_false_iff, Bool.not_eq_false', Option.toList, SV.v.injEq, Value.int.injEq, Value.bool.injEq, Value.string.injEq, Option.getD, List.contains_cons, List.contains_nil, beq_self_eq_true, Nat.max_def, List.set, List.drop, List.take, Int.toNat_natCast, Nat.mul_one, Int.toNat_zero, List.drop_zero, Bx.mk.injEq, Vc.mk.injEq, List.cons.injEq, List.take_length, List.getElem?_nil, List.getD_cons_zero, List.getD_cons_succ, Int.reduceToNat, not_false_eq_true, Nat.le_refl]
    · simp only [go_sem, ↓reduceIte, or_true, or_false, true_or, false_or, Option.some.injEq, exists_eq_left, exists_eq_left', Nat.reduceBEq, Nat.reduceAdd, Nat.reduceMul, Nat.reduceSub, Nat.reduceEqDiff, Nat.reduceLT, Nat.reduceLeDiff, Option.map, Option.bind, List.map, List.length, true_implies, true_and, and_true, Bool.and_true, Bool.true_and, Bool.or_false, Bool.false_or, Bool.not_true, Bool.not_false, Bool.and_false, Bool.false_and, List.cons_append, List.nil_append, List.append_nil, mk_eq_bs, tl_bs, List.getElem?_cons_zero, List.getElem?_cons_succ, eq_self, reduceCtorEq, implies_true, false_implies, decide_eq_true_eq, decide_eq_false_iff_not, Bool.and_eq_true, Bool.or_eq_true, Bool.not_eq_true', Bool.and_eq_false_iff, Bool.or_eq_false_iff, Bool.not_eq_false', Option.toList, SV.v.injEq, Value.int.injEq, Value.bool.injEq, Value.string.injEq, Option.getD, List.contains_cons, List.contains_nil, beq_self_eq_true, Nat.max_def, List.set, List.drop, List.take, Int.toNat_natCast, Nat.mul_one, Int.toNat_zero, List.drop_zero, Bx.mk.injEq, Vc.mk.injEq, List.cons.injEq, List.take_length, List.getElem?_nil, List.getD_cons_zero, List.getD_cons_succ, Int.reduceToNat, not_false_eq_true, Nat.le_refl]
      rfl
    · exact ⟨Nat.le_refl _, by omega, rfl, by simp, rfl⟩
    · rintro ⟨k, n, ok⟩ ⟨h1, h2, h3, h4, h5⟩
      simp only at h1 h2 h3 h4 h5
      simp only [go_sem, ↓reduceIte, or_true, or_false, true_or, false_or, Option.some.injEq, exists_eq_left, exists_eq_left', Nat.reduceBEq, Nat.reduceAdd, Nat.reduceMul, Nat.reduceSub, Nat.reduceEqDiff, Nat.reduceLT, Nat.reduceLeDiff, Option.map, Option.bind, List.map, List.length, true_implies, true_and, and_true, Bool.and_true, Bool.true_and, Bool.or_false, Bool.false_or, Bool.not_true, Bool.not_false, Bool.and_false, Bool.false_and, List.cons_append, List.nil_append, List.append_nil, mk_eq_bs, tl_bs, List.getElem?_cons_zero, List.getElem?_cons_succ, eq_self, reduceCtorEq, implies_true, false_implies, decide_eq_true_eq, decide_eq_false_iff_not, Bool.and_eq_true, Bool.or_eq_true, Bool.not_eq_true', Bool.and_eq_false_iff, Bool.or_eq_false_iff, Bool.not_eq_false', Option.toList, SV.v.injEq, Value.int.injEq, Value.bool.injEq, Value.string.injEq, Option.getD, List.contains_cons, List.contains_nil, beq_self_eq_true, Nat.max_def, List.set, List.drop, List.take, Int.toNat_natCast, Nat.mul_one, Int.toNat_zero, List.drop_zero, Bx.mk.injEq, Vc.mk.injEq, List.cons.injEq, List.take_length, List.getElem?_nil, List.getD_cons_zero, List.getD_cons_succ, Int.reduceToNat, not_false_eq_true, Nat.le_refl]
      refine ⟨fun h => by omega, fun h => ?_, fun h => ?_⟩
      · have hkl : k < s.length := by omega
        have hdg := (dig_iff _).1 h.2
        have hds : digL (s.drop k) = 1 + digL (s.drop (k + 1)) := by
          rw [drop_at hkl]; simp only [digL]; rw [if_pos h.2]
        have htk : (s.drop k).take (digL (s.drop k)) = s.getD k 0 :: (s.drop (k + 1)).take (digL (s.drop (k + 1))) := by
          rw [hds, drop_at hkl, Nat.add_comm, List.take_succ_cons]
        rw [htk] at h5
        simp only [refDig] at h5
        generalize s.getD k 0 = c at hdg h5 ⊢
        have hW : IntKind.i64.wrap (IntKind.u8.wrap ((c.toNat : Int) - 48)) = ((c.toNat - 48 : Nat) : Int) := by
          rw [wrap_u8_eq, wrap_i64_eq (by omega)]; omega
        have hT : ((9223372036854775807 : Int) - ((c.toNat - 48 : Nat) : Int)).tdiv 10 = (((9223372036854775807 - (c.toNat - 48)) / 10 : Nat) : Int) := by
          rw [Int.tdiv_eq_ediv_of_nonneg (by omega)]; omega
        rw [hW, hT]
        generalize hdd : c.toNat - 48 = d at h5 ⊢
        have hd9 : d ≤ 9 := by omega
        have hle : decide ((n : Int) ≤ (((9223372036854775807 - d) / 10 : Nat) : Int)) = decide (n ≤ (9223372036854775807 - d) / 10) := by rw [decide_eq_decide]; omega
        rw [hle]
        refine ⟨by omega, fun _ => by unfold I64; omega, fun _ => by decide, fun _ => by unfold I64; omega, fun hy => ⟨by unfold I64; omega, by unfold I64; omega, by unfold I64; omega, (k + 1, n * 10 + d, true), ⟨rfl, by simp only; omega, ?_⟩, ⟨by simp only; omega, by simp only; omega, by simp only; omega, by simp only; omega, ?_⟩, by simp only; omega⟩,
          fun hno => ⟨by unfold I64; omega, (k + 1, n, false), ⟨rfl, rfl, ?_⟩, ⟨by simp only; omega, by simp only; omega, by simp only; omega, h4, ?_⟩, by simp only; omega⟩⟩
        · rw [hy.1, decide_eq_true (by omega : n ≤ (9223372036854775807 - d) / 10)]; rfl
        · rw [h5, hy.1, if_pos rfl, if_pos (by omega : n ≤ (9223372036854775807 - d) / 10), if_pos rfl]
        · rcases hno with h' | h'
          · rw [h']; rfl
          · rw [decide_eq_false (by omega : ¬ n ≤ (9223372036854775807 - d) / 10), Bool.and_false]
        · rw [h5]
          rcases hno with h' | h'
          · rw [h']; rfl
          · rw [if_neg (by omega : ¬ n ≤ (9223372036854775807 - d) / 10)]; simp
      · have hend : digL (s.drop k) = 0 := by
          rcases h with h | h
          · rw [List.drop_of_length_le (by omega)]; rfl
          · rcases Nat.lt_or_ge k s.length with h' | h'
            · rw [drop_at h']; simp only [digL]; rw [h]; rfl
            · rw [List.drop_of_length_le h']; rfl
        have hk0 : k = p + digL (s.drop p) := by omega
        have hpos : p < k := by
          have : digL (s.drop p) = 1 + digL (s.drop (p + 1)) := by rw [drop_at hp]; simp only [digL]; rw [if_pos hd]
          omega
        rw [hend, List.take_zero] at h5
        simp only [refDig] at h5
        obtain ⟨hdt, hdl, hnum⟩ := num_at hp h2 hk0 hpos
        have hne : numT s p ≠ [] := fun e => by rw [e] at hdl; simp at hdl; omega
        have hpr := parseN_ref hne (fun c hc => dig_all (s.drop p) c hc)
        have hg0 : (numT s p).getD 0 0 = s.getD p 0 := by
          rw [numT, List.getD_eq_getElem?_getD, List.getElem?_take, if_pos (by omega), drop_at hp]; rfl
        rw [hg0] at hnum
        rw [hdl] at hnum
        have hz : (!decide ((((s.getD p 0).toNat : Nat) : Int) = 48) || decide ((k : Int) = p + 1)) = (decide ((s.getD p 0).toNat ≠ 48) || decide (k - p = 1)) := by
          have e1 : decide ((((s.getD p 0).toNat : Nat) : Int) = 48) = decide ((s.getD p 0).toNat = 48) := by rw [decide_eq_decide]; omega
          have e2 : decide ((k : Int) = p + 1) = decide (k - p = 1) := by rw [decide_eq_decide]; omega
          rw [e1, e2]
          simp
        refine ⟨fun _ => by omega, fun _ => by unfold I64; omega, fun h => by omega, fun h => ⟨by unfold I64; omega, ?_⟩, fun h => ?_⟩
        · rw [hnum]
          simp only [if_pos h, decide_eq_true h]
          rw [hz]
          cases ok with
          | false =>
            have h5 : refDig 0 (numT s p) = none := h5
            rw [h5] at hpr
            rw [hpr]
            exact ⟨⟨4, [], n, p⟩, _, false, rfl, rfl⟩
          | true =>
            have h5 : refDig 0 (numT s p) = some n := h5
            rw [h5] at hpr
            rw [hpr.1]
            simp only [decide_eq_true (by omega : (n : Int) ≤ 9223372036854775807), Bool.true_and]
            refine ⟨⟨4, [], n, p⟩, _, _, rfl, ?_⟩
            by_cases hzz : (decide ((s.getD p 0).toNat ≠ 48) || decide (k - p = 1)) = true
            · rw [if_pos hzz]
              exact ⟨hzz, rfl, by omega⟩
            · rw [if_neg hzz]
              simpa using hzz
        · have h' : ¬ ((k : Int) < s.length ∧ (((s.getD k 0).toNat : Nat) : Int) = 76) := fun x => h.elim (fun y => y x.1) (fun y => y x.2)
          rw [hnum]
          simp only [if_neg h', decide_eq_false h']
          rw [hz]
          cases ok with
          | false =>
            have h5 : refDig 0 (numT s p) = none := h5
            rw [h5] at hpr
            rw [hpr]
            exact ⟨⟨3, [], n, p⟩, _, false, rfl, rfl⟩
          | true =>
            have h5 : refDig 0 (numT s p) = some n := h5
            rw [h5] at hpr
            rw [hpr.1]
            simp only [Bool.true_and]
            refine ⟨⟨3, [], n, p⟩, _, _, rfl, ?_⟩
            by_cases hzz : (decide ((n : Int) ≤ 2147483647) && (decide ((s.getD p 0).toNat ≠ 48) || decide (k - p = 1))) = true
            · rw [if_pos hzz]
              exact ⟨by rw [Bool.and_comm]; exact hzz, rfl, by omega⟩
            · rw [if_neg hzz]
              rw [Bool.and_comm]
              simpa using hzz
end Go.Proofs.YtmkifodpkcmgoaaDoor.E

/- lex, part Q: the reference: identifiers. -/
set_option linter.unusedSimpArgs false
set_option linter.unusedVariables false
namespace Go.Proofs.YtmkifodpkcmgoaaDoor.E
open Go

abbrev cfB : Cfg := mkCf (fun _ => false) [(47, pIs isB fun s i b => .bool (isAt s i b)), (48, pf1 isStartB), (50, pf1 isDigitB), (37, pS1 BL fun s => .bool (isName s))]
theorem puB : PureOk cfB Tryd.prog := pure_cons (by kernel_rfl) (fun vals y hy hB m => pureIs (fun a c b m h => is_spec a b c m h.1 h.2.1 h.2.2.1 h.2.2.2) vals y hy hB m) (pure_cons (by kernel_rfl) (pure1 letter_spec) (pure_cons (by kernel_rfl) (pure1 digit_spec) (pure_cons (by kernel_rfl) (pureS risName_spec) pure_nil)))
theorem part_no58 : ∀ (b : Bool) (l : List UInt8), ∀ c ∈ l.take (partL b l), c ≠ 58
  | _, [], c, h => by simp at h
  | b, d :: r, c, h => by
    simp only [partL] at h
    split at h
    · rename_i hd
      rw [Nat.add_comm, List.take_succ_cons] at h
      rcases List.mem_cons.1 h with rfl | h
      · rintro rfl
        revert hd
        cases b <;> decide
      · exact part_no58 false r c h
    · simp at h
theorem index_no : ∀ (A : List UInt8), (∀ c ∈ A, c ≠ 58) → Lib.index A [58, 58] = -1
  | [], _ => rfl
  | a :: A, h => by
    have ih := index_no A fun c hc => h c (List.mem_cons_of_mem _ hc)
    have ha := h a (List.mem_cons_self ..)
    have hp : List.isPrefixOf [58, 58] (a :: A) = false := by
      simp only [List.isPrefixOf, Bool.and_eq_false_iff]
      left; exact beq_eq_false_iff_ne.2 fun e => ha e.symm
    simp only [Lib.index, hp, ih]
    rfl
theorem index_at : ∀ (A r : List UInt8), (∀ c ∈ A, c ≠ 58) → Lib.index (A ++ 58 :: 58 :: r) [58, 58] = A.length
  | [], r, _ => by simp [Lib.index, List.isPrefixOf]
  | a :: A, r, h => by
    have ih := index_at A r fun c hc => h c (List.mem_cons_of_mem _ hc)
    have ha := h a (List.mem_cons_self ..)
    have hp : List.isPrefixOf [58, 58] (a :: (A ++ 58 :: 58 :: r)) = false := by
      simp only [List.isPrefixOf, Bool.and_eq_false_iff]
      left; exact beq_eq_false_iff_ne.2 fun e => ha e.symm
    simp only [List.cons_append, Lib.index, hp, ih]
    rw [if_neg (by decide), if_neg (by simp), List.length_cons]
    rfl
def repF (F : Nat) (s : List UInt8) : List UInt8 := Lib.replaceK [58, 58] [47] (Lib.countFrom [58, 58] F s) s
theorem repF_no {F : Nat} {A : List UInt8} (h : ∀ c ∈ A, c ≠ 58) : repF (F + 1) A = A := by
  unfold repF Lib.countFrom
  rw [index_no A h]
  rfl
theorem repF_at {F : Nat} {A r : List UInt8} (h : ∀ c ∈ A, c ≠ 58) : repF (F + 1) (A ++ 58 :: 58 :: r) = A ++ 47 :: repF F r := by
  have hi := index_at A r h
  have hd : (A ++ 58 :: 58 :: r).drop (A.length + ([58, 58] : List UInt8).length) = r := by
    rw [List.drop_append]
    simp
  unfold repF
  have hc : Lib.countFrom [58, 58] (F + 1) (A ++ 58 :: 58 :: r) = Lib.countFrom [58, 58] F r + 1 := by
    simp only [Lib.countFrom]
    rw [hi, if_neg (by simp), Int.toNat_natCast, hd]
    omega
  rw [hc, Lib.replaceK_hit _ _ _ _ _ hi, hd]
  simp
/-- The further parts of a name. -/
def idTF : Nat → List UInt8 → List UInt8
  | 0, _ => []
  | f + 1, l => if hasPre l [58, 58] = true ∧ partL true (l.drop 2) ≠ 0 then 47 :: ((l.drop 2).take (partL true (l.drop 2)) ++ idTF f (l.drop (2 + partL true (l.drop 2)))) else []
theorem rep_id : ∀ (f : Nat) (l A : List UInt8) (F : Nat), (∀ c ∈ A, c ≠ 58) → (A ++ l.take (idRF f l)).length < F → repF F (A ++ l.take (idRF f l)) = A ++ idTF f l
  | 0, l, A, F, hA, hF => by
    obtain ⟨F, rfl⟩ : ∃ g, F = g + 1 := ⟨F - 1, by omega⟩
    simp only [idRF, idTF, List.take_zero, List.append_nil]
    exact repF_no hA
  | f + 1, l, A, F, hA, hF => by
    obtain ⟨F, rfl⟩ : ∃ g, F = g + 1 := ⟨F - 1, by omega⟩
    simp only [idRF] at hF
    simp only [idRF, idTF]
    by_cases h : hasPre l [58, 58] = true ∧ partL true (l.drop 2) ≠ 0
    · rw [if_pos h] at hF
      rw [if_pos h, if_pos h]
      obtain ⟨r, hr⟩ := hasPre_iff.1 h.1
      subst hr
      have e2 : ([58, 58] ++ r).drop 2 = r := rfl
      have e3 : ([58, 58] ++ r).drop (2 + partL true r) = r.drop (partL true r) := by
        rw [← List.drop_drop, e2]
      rw [e2, e3] at hF
      rw [e2, e3]
      have e4 : ([58, 58] ++ r).take (2 + partL true r + idRF f (r.drop (partL true r))) = 58 :: 58 :: (r.take (partL true r) ++ (r.drop (partL true r)).take (idRF f (r.drop (partL true r)))) := by
        rw [Nat.add_assoc, Nat.add_comm 2]
        show 58 :: 58 :: r.take (partL true r + idRF f (r.drop (partL true r))) = _
        rw [List.take_add]
      rw [e4] at hF
      have ih := rep_id f (r.drop (partL true r)) (r.take (partL true r)) F (part_no58 true r) (by rw [List.length_append, List.length_cons, List.length_cons] at hF; omega)
      rw [e4, repF_at hA, ih]
    · rw [if_neg h, if_neg h, List.take_zero, List.append_nil]
      exact repF_no hA
theorem idS_eq (l : List UInt8) : idS l = l.take (partL true l) ++ idTF (l.length + 1) (l.drop (partL true l)) := by
  have e : ∀ s, Lib.replaceAll s [58, 58] [47] = repF (s.length + 1) s := fun s => by
    unfold Lib.replaceAll Lib.replace repF
    rw [if_neg (by decide)]
    have : Lib.replaceNum s [58, 58] (-1) = Lib.count s [58, 58] := by simp [Lib.replaceNum]
    rw [this]; rfl
  have h1 : l.take (idN l) = l.take (partL true l) ++ (l.drop (partL true l)).take (idRF (l.length + 1) (l.drop (partL true l))) := by
    unfold idN; rw [List.take_add]
  unfold idS
  rw [e, h1]
  exact rep_id _ _ _ _ (part_no58 true l) (Nat.lt_succ_self _)
theorem kw_name {s : List UInt8} (h : keywordsL.contains s = true) : isName s = true :=
  (by decide : ∀ k ∈ keywordsL, isName k = true) s (by simpa using h)
theorem start_nodig {c : Int} (h : isStartB c = true) : isDigitB c = false := by
  cases hd : isDigitB c with
  | false => rfl
  | true =>
    have := (dig_iff _).1 hd
    simp only [isStartB, Bool.or_eq_true, Bool.and_eq_true, decide_eq_true_eq] at h
    omega
theorem part_zero {c : UInt8} {r : List UInt8} : partL true (c :: r) ≠ 0 ↔ isStartB c.toNat = true := by
  simp only [partL]
  cases h : isStartB c.toNat
  · simp
  · simp
set_option maxHeartbeats 4000000 in
set_option maxRecDepth 20000 in
theorem ridentifier_spec (s : List UInt8) (p : Nat) (m : Mem) (hp : p < s.length) (hs : s.length ≤ 1000000) (hst : isStartB (s.getD p 0).toNat = true) :
    FnH Tryd.prog 49 [.v (.string (bs s)), .v (.int .i64 p)] ⟨[], []⟩ m fun r H' m' => m.le m' ∧ H' = ⟨[], []⟩ ∧
      RN p (if isName (idS (s.drop p)) = true then some (if keywordsL.contains (idS (s.drop p)) = true then 2 else 1, idS (s.drop p), 0, idN (s.drop p)) else none) r := by
  have hds : isDigitB (s.getD p 0).toNat = false := by
    cases hd : isDigitB (s.getD p 0).toNat with
    | false => rfl
    | true =>
      have := (dig_iff _).1 hd
      simp only [isStartB, Bool.or_eq_true, Bool.and_eq_true, decide_eq_true_eq] at hst
      omega
  have hpl := part_le true (s.drop p)
  rw [List.length_drop] at hpl
  refine enter cfB puB Tryd.func49 rfl rfl (by kernel_rfl) rfl ?_ ?_
  · simp only [go_sem, ↓reduceIte, or_true, or_false, true_or, false_or, Option.some.injEq, exists_eq_left, exists_eq_left', Nat.reduceBEq, Nat.reduceAdd, Nat.reduceMul, Nat.reduceSub, Nat.reduceEqDiff, Nat.reduceLT, Nat.reduceLeDiff, Option.map, Option.bind, List.map, List.length, true_implies, true_and, and_true, Bool.and_true, Bool.true_and, Bool.or_false, Bool.false_or, Bool.not_true, Bool.not_false, Bool.and_false, Bool.false_and, List.cons_append, List.nil_append, List.append_nil, mk_eq_bs, tl_bs, List.getElem?_cons_zero, List.getElem?_cons_succ, eq_self, reduceCtorEq, implies_true, false_implies, decide_eq_true_eq, decide_eq_false_iff_not, Bool.and_eq_true, Bool.or_eq_true, Bool.not_eq_true', Bool.and_eq_false_iff, Bool.or_eq_false_iff, Bool.not_eq_false', Option.toList, SV.v.injEq, Value.int.injEq, Value.bool.injEq, Value.string.injEq, Option.getD, List.contains_cons, List.contains_nil, beq_self_eq_true, Nat.max_def, List.set, List.drop, List.take, Int.toNat_natCast, Nat.mul_one, Int.toNat_zero, List.drop_zero, Bx.mk.injEq, Vc.mk.injEq, List.cons.injEq, List.take_length, List.getElem?_nil, List.getD_cons_zero, List.getD_cons_succ, Int.reduceToNat, not_false_eq_true, Nat.le_refl]
  · simp only [go_sem, ↓reduceIte, or_true, or_false, true_or, false_or, Option.some.injEq, exists_eq_left, exists_eq_left', Nat.reduceBEq, Nat.reduceAdd, Nat.reduceMul, Nat.reduceSub, Nat.reduceEqDiff, Nat.reduceLT, Nat.reduceLeDiff, Option.map, Option.bind, List.map, List.length, true_implies, true_and, and_true, Bool.and_true, Bool.true_and, Bool.or_false, Bool.false_or, Bool.not_true, Bool.not_false, Bool.and_false, Bool.false_and, List.cons_append, List.nil_append, List.append_nil, mk_eq_bs, tl_bs, List.getElem?_cons_zero, List.getElem?_cons_succ, eq_self, reduceCtorEq, implies_true, false_implies, decide_eq_true_eq, decide_eq_false_iff_not, Bool.and_eq_true, Bool.or_eq_true, Bool.not_eq_true', Bool.and_eq_false_iff, Bool.or_eq_false_iff, Bool.not_eq_false', Option.toList, SV.v.injEq, Value.int.injEq, Value.bool.injEq, Value.string.injEq, Option.getD, List.contains_cons, List.contains_nil, beq_self_eq_true, Nat.max_def, List.set, List.drop, List.take, Int.toNat_natCast, Nat.mul_one, Int.toNat_zero, List.drop_zero, Bx.mk.injEq, Vc.mk.injEq, List.cons.injEq, List.take_length, List.getElem?_nil, List.getD_cons_zero, List.getD_cons_succ, Int.reduceToNat, not_false_eq_true, Nat.le_refl]
    refine ⟨by kernel_rfl, FnV_of ((rpart_spec s p m (by omega) hs (fun _ => hds)).mono ?_)⟩
    rintro r H' m' hm ⟨rfl, rfl, rfl⟩
    have hdt : (s.take (p + partL true (s.drop p))).drop p = (s.drop p).take (partL true (s.drop p)) := by
      rw [List.drop_take]; congr 1; omega
    simp only [go_sem, ↓reduceIte, or_true, or_false, true_or, false_or, Option.some.injEq, exists_eq_left, exists_eq_left', Nat.reduceBEq, Nat.reduceAdd, Nat.reduceMul, Nat.reduceSub, Nat.reduceEqDiff, Nat.reduceLT, Nat.reduceLeDiff, Option.map, Option.bind, List.map, List.length, true_implies, true_and, and_true, Bool.and_true, Bool.true_and, Bool.or_false, Bool.false_or, Bool.not_true, Bool.not_false, Bool.and_false, Bool.false_and, List.cons_append, List.nil_append, List.append_nil, mk_eq_bs, tl_bs, List.getElem?_cons_zero, List.getElem?_cons_succ, eq_self, reduceCtorEq, implies_true, false_implies, decide_eq_true_eq, decide_eq_false_iff_not, Bool.and_eq_true, Bool.or_eq_true, Bool.not_eq_true', Bool.and_eq_false_iff, Bool.or_eq_false_iff, Bool.not_eq_false', Option.toList, SV.v.injEq, Value.int.injEq, Value.bool.injEq, Value.string.injEq, Option.getD, List.contains_cons, List.contains_nil, beq_self_eq_true, Nat.max_def, List.set, List.drop, List.take, Int.toNat_natCast, Nat.mul_one, Int.toNat_zero, List.drop_zero, Bx.mk.injEq, Vc.mk.injEq, List.cons.injEq, List.take_length, List.getElem?_nil, List.getD_cons_zero, List.getD_cons_succ, Int.reduceToNat, not_false_eq_true, Nat.le_refl, hdt]
    refine ⟨⟨by omega, by omega, by omega⟩, ?_⟩
    refine WP_loop puB (fun x : Nat × List UInt8 × Nat => ⟨[⟨0, [], .v (.string (bs s))⟩, ⟨1, [], .v (.int .i64 p)⟩, ⟨4, [], .box 0 0⟩, ⟨7, [], .v (.int .i64 x.1)⟩, ⟨8, [], .v (.string (bs x.2.1))⟩], [], [⟨0, 27, Tk0.cells⟩], [], 1, m'⟩)
      (fun x => p ≤ x.1 ∧ x.1 ≤ s.length ∧ x.2.1.length ≤ x.1 ∧ s.length - x.1 < x.2.2 ∧ idS (s.drop p) = x.2.1 ++ idTF x.2.2 (s.drop x.1) ∧ p + idN (s.drop p) = x.1 + idRF x.2.2 (s.drop x.1)) (fun x => s.length - x.1)
      (p + partL true (s.drop p), (s.drop p).take (partL true (s.drop p)), (s.drop p).length + 1) (by kernel_rfl) (fun _ _ => Nat.le_refl _) (fun _ _ => .inl rfl) (fun _ => ?_) ?_ ?_ ?_
    · simp only [go_sem, ↓reduceIte, or_true, or_false, true_or, false_or, Option.some.injEq, exists_eq_left, exists_eq_left', Nat.reduceBEq, Nat.reduceAdd, Nat.reduceMul, Nat.reduceSub, Nat.reduceEqDiff, Nat.reduceLT, Nat.reduceLeDiff, Option.map, Option.bind, List.map, List.length, true_implies, true_and, and_true, Bool.and_true, Bool.true_and, Bool.or_false, Bool.false_or, Bool.not_true, Bool.not_false, Bool.and_false, Bool.false_and, List.cons_append, List.nil_append, List.append_nil, mk_eq_bs, tl_bs, List.getElem?_cons_zero, List.getElem?_cons_succ, eq_self, reduceCtorEq, implies_true, false_implies, decide_eq_true_eq, decide_eq_false_iff_not, Bool.and_eq_true, Bool.or_eq_true, Bool.not_eq_true', Bool.and_eq_false_iff, Bool.or_eq_false_iff, Bool.not_eq_false', Option.toList, SV.v.injEq, Value.int.injEq, Value.bool.injEq, Value.string.injEq, Option.getD, List.contains_cons, List.contains_nil, beq_self_eq_true, Nat.max_def, List.set, List.drop, List.take, Int.toNat_natCast, Nat.mul_one, Int.toNat_zero, List.drop_zero, Bx.mk.injEq, Vc.mk.injEq, List.cons.injEq, List.take_length, List.getElem?_nil, List.getD_cons_zero, List.getD_cons_succ, Int.reduceToNat, not_false_eq_true, Nat.le_refl]
    · simp only [go_sem, ↓reduceIte, or_true, or_false, true_or, false_or, Option.some.injEq, exists_eq_left, exists_eq_left', Nat.reduceBEq, Nat.reduceAdd, Nat.reduceMul, Nat.reduceSub, Nat.reduceEqDiff, Nat.reduceLT, Nat.reduceLeDiff, Option.map, Option.bind, List.map, List.length, true_implies, true_and, and_true, Bool.and_true, Bool.true_and, Bool.or_false, Bool.false_or, Bool.not_true, Bool.not_false, Bool.and_false, Bool.false_and, List.cons_append, List.nil_append, List.append_nil, mk_eq_bs, tl_bs, List.getElem?_cons_zero, List.getElem?_cons_succ, eq_self, reduceCtorEq, implies_true, false_implies, decide_eq_true_eq, decide_eq_false_iff_not, Bool.and_eq_true, Bool.or_eq_true, Bool.not_eq_true', Bool.and_eq_false_iff, Bool.or_eq_false_iff, Bool.not_eq_false', Option.toList, SV.v.injEq, Value.int.injEq, Value.bool.injEq, Value.string.injEq, Option.getD, List.contains_cons, List.contains_nil, beq_self_eq_true, Nat.max_def, List.set, List.drop, List.take, Int.toNat_natCast, Nat.mul_one, Int.toNat_zero, List.drop_zero, Bx.mk.injEq, Vc.mk.injEq, List.cons.injEq, List.take_length, List.getElem?_nil, List.getD_cons_zero, List.getD_cons_succ, Int.reduceToNat, not_false_eq_true, Nat.le_refl]
    · refine ⟨Nat.le_add_right _ _, by simp only; omega, by simp only [List.length_take]; omega, by simp only [List.length_drop]; omega, ?_, ?_⟩
      · rw [idS_eq, List.drop_drop]
      · simp only [idN, List.drop_drop]; omega
    · rintro ⟨e, t, f⟩ ⟨h1, h2, h3, h4, h5, h6⟩
      simp only at h1 h2 h3 h4 h5 h6
      have ef : f = (f - 1) + 1 := by omega
      rw [ef] at h5 h6
      simp only [idTF] at h5
      simp only [idRF] at h6
      have e2 : ((e : Int) + 2).toNat = e + 2 := by omega
      have h2c : (e : Int) + 2 = ((e + 2 : Nat) : Int) := by omega
      have hn58 := pre_len (a := s.drop e) (b := [58, 58])
      rw [List.length_drop] at hn58
      simp only [go_sem, ↓reduceIte, or_true, or_false, true_or, false_or, Option.some.injEq, exists_eq_left, exists_eq_left', Nat.reduceBEq, Nat.reduceAdd, Nat.reduceMul, Nat.reduceSub, Nat.reduceEqDiff, Nat.reduceLT, Nat.reduceLeDiff, Option.map, Option.bind, List.map, List.length, true_implies, true_and, and_true, Bool.and_true, Bool.true_and, Bool.or_false, Bool.false_or, Bool.not_true, Bool.not_false, Bool.and_false, Bool.false_and, List.cons_append, List.nil_append, List.append_nil, mk_eq_bs, tl_bs, List.getElem?_cons_zero, List.getElem?_cons_succ, eq_self, reduceCtorEq, implies_true, false_implies, decide_eq_true_eq, decide_eq_false_iff_not, Bool.and_eq_true, Bool.or_eq_true, Bool.not_eq_true', Bool.and_eq_false_iff, Bool.or_eq_false_iff, Bool.not_eq_false', Option.toList, SV.v.injEq, Value.int.injEq, Value.bool.injEq, Value.string.injEq, Option.getD, List.contains_cons, List.contains_nil, beq_self_eq_true, Nat.max_def, List.set, List.drop, List.take, Int.toNat_natCast, Nat.mul_one, Int.toNat_zero, List.drop_zero, Bx.mk.injEq, Vc.mk.injEq, List.cons.injEq, List.take_length, List.getElem?_nil, List.getD_cons_zero, List.getD_cons_succ, Int.reduceToNat, not_false_eq_true, Nat.le_refl, e2, isAt_pre h2]
      rw [List.drop_drop] at h5 h6
      rw [List.drop_drop] at h5 h6
      refine ⟨⟨by omega, by omega, by omega, by simp⟩, fun _ => by unfold I64; omega, fun _ => by unfold I64; omega, fun h => by omega, fun h => ⟨by unfold I64; omega, by kernel_rfl, ?_⟩, fun h => ⟨by kernel_rfl, ?_⟩⟩
      · have hl2 : e + 2 < s.length := by omega
        have hrp := rpart_spec s (e + 2) m' (by omega) hs (fun _ => start_nodig h.2)
        rw [← h2c] at hrp
        have hn0 : partL true (s.drop (e + 2)) ≠ 0 := by rw [drop_at hl2]; exact part_zero.2 h.2
        have hpl2 := part_le true (s.drop (e + 2))
        rw [List.length_drop] at hpl2
        have hdt2 : (s.take (e + 2 + partL true (s.drop (e + 2)))).drop (e + 2) = (s.drop (e + 2)).take (partL true (s.drop (e + 2))) := by
          rw [List.drop_take]; congr 1; omega
        rw [if_pos ⟨h.1.1, hn0⟩] at h5 h6
        refine FnV_of (hrp.mono ?_)
        rintro r H' m'' hm2 ⟨rfl, rfl, rfl⟩
        clear hrp
        simp only [go_sem, ↓reduceIte, or_true, or_false, true_or, false_or, Option.some.injEq, exists_eq_left, exists_eq_left', Nat.reduceBEq, Nat.reduceAdd, Nat.reduceMul, Nat.reduceSub, Nat.reduceEqDiff, Nat.reduceLT, Nat.reduceLeDiff, Option.map, Option.bind, List.map, List.length, true_implies, true_and, and_true, Bool.and_true, Bool.true_and, Bool.or_false, Bool.false_or, Bool.not_true, Bool.not_false, Bool.and_false, Bool.false_and, List.cons_append, List.nil_append, List.append_nil, mk_eq_bs, tl_bs, List.getElem?_cons_zero, List.getElem?_cons_succ, eq_self, reduceCtorEq, implies_true, false_implies, decide_eq_true_eq, decide_eq_false_iff_not, Bool.and_eq_true, Bool.or_eq_true, Bool.not_eq_true', Bool.and_eq_false_iff, Bool.or_eq_false_iff, Bool.not_eq_false', Option.toList, SV.v.injEq, Value.int.injEq, Value.bool.injEq, Value.string.injEq, Option.getD, List.contains_cons, List.contains_nil, beq_self_eq_true, Nat.max_def, List.set, List.drop, List.take, Int.toNat_natCast, Nat.mul_one, Int.toNat_zero, List.drop_zero, Bx.mk.injEq, Vc.mk.injEq, List.cons.injEq, List.take_length, List.getElem?_nil, List.getD_cons_zero, List.getD_cons_succ, Int.reduceToNat, not_false_eq_true, Nat.le_refl, e2, hdt2]
        refine ⟨by omega, by unfold I64; omega, ⟨by omega, by omega, by omega⟩, by simp only [List.length_append, List.length_take, List.length_singleton]; omega,
          (e + 2 + partL true (s.drop (e + 2)), t ++ [47] ++ (s.drop (e + 2)).take (partL true (s.drop (e + 2))), f - 1), ⟨rfl, rfl⟩, ⟨by simp only; omega, by simp only; omega, by simp only [List.length_append, List.length_take, List.length_singleton]; omega, by simp only; omega, ?_, ?_⟩, by simp only; omega⟩
        · rw [h5]
          simp only [Nat.add_assoc, List.append_assoc, List.cons_append, List.nil_append]
        · rw [h6]
          simp only [Nat.add_assoc]
      · have hno : ¬ (hasPre (s.drop e) [58, 58] = true ∧ partL true (s.drop (e + 2)) ≠ 0) := by
          rintro ⟨g1, g2⟩
          rcases h with (h | h) | h
          · rw [h] at g1; cases g1
          · rw [List.drop_of_length_le (by omega)] at g2
            exact g2 rfl
          · rcases Nat.lt_or_ge (e + 2) s.length with g3 | g3
            · rw [drop_at g3] at g2
              have := part_zero.1 g2
              rw [h] at this; cases this
            · rw [List.drop_of_length_le g3] at g2
              exact g2 rfl
        rw [if_neg hno] at h5 h6
        rw [List.append_nil] at h5
        refine FnV_of ((rkeywords_spec m').mono ?_)
        rintro r H' m'' hm2 ⟨rfl, rfl, rfl⟩
        simp only [go_sem, ↓reduceIte, or_true, or_false, true_or, false_or, Option.some.injEq, exists_eq_left, exists_eq_left', Nat.reduceBEq, Nat.reduceAdd, Nat.reduceMul, Nat.reduceSub, Nat.reduceEqDiff, Nat.reduceLT, Nat.reduceLeDiff, Option.map, Option.bind, List.map, List.length, true_implies, true_and, and_true, Bool.and_true, Bool.true_and, Bool.or_false, Bool.false_or, Bool.not_true, Bool.not_false, Bool.and_false, Bool.false_and, List.cons_append, List.nil_append, List.append_nil, mk_eq_bs, tl_bs, List.getElem?_cons_zero, List.getElem?_cons_succ, eq_self, reduceCtorEq, implies_true, false_implies, decide_eq_true_eq, decide_eq_false_iff_not, Bool.and_eq_true, Bool.or_eq_true, Bool.not_eq_true', Bool.and_eq_false_iff, Bool.or_eq_false_iff, Bool.not_eq_false', Option.toList, SV.v.injEq, Value.int.injEq, Value.bool.injEq, Value.string.injEq, Option.getD, List.contains_cons, List.contains_nil, beq_self_eq_true, Nat.max_def, List.set, List.drop, List.take, Int.toNat_natCast, Nat.mul_one, Int.toNat_zero, List.drop_zero, Bx.mk.injEq, Vc.mk.injEq, List.cons.injEq, List.take_length, List.getElem?_nil, List.getD_cons_zero, List.getD_cons_succ, Int.reduceToNat, not_false_eq_true, Nat.le_refl]
        refine ⟨by kernel_rfl, fun ad cp m1 hm1 hcp hrd => FnV_of ((has_spec keywordsL t ad 28 cp m1 hrd (by decide)).mono ?_)⟩
        rintro r H' m4 hm4 ⟨rfl, rfl⟩
        simp only [go_sem, ↓reduceIte, or_true, or_false, true_or, false_or, Option.some.injEq, exists_eq_left, exists_eq_left', Nat.reduceBEq, Nat.reduceAdd, Nat.reduceMul, Nat.reduceSub, Nat.reduceEqDiff, Nat.reduceLT, Nat.reduceLeDiff, Option.map, Option.bind, List.map, List.length, true_implies, true_and, and_true, Bool.and_true, Bool.true_and, Bool.or_false, Bool.false_or, Bool.not_true, Bool.not_false, Bool.and_false, Bool.false_and, List.cons_append, List.nil_append, List.append_nil, mk_eq_bs, tl_bs, List.getElem?_cons_zero, List.getElem?_cons_succ, eq_self, reduceCtorEq, implies_true, false_implies, decide_eq_true_eq, decide_eq_false_iff_not, Bool.and_eq_true, Bool.or_eq_true, Bool.not_eq_true', Bool.and_eq_false_iff, Bool.or_eq_false_iff, Bool.not_eq_false', Option.toList, SV.v.injEq, Value.int.injEq, Value.bool.injEq, Value.string.injEq, Option.getD, List.contains_cons, List.contains_nil, beq_self_eq_true, Nat.max_def, List.set, List.drop, List.take, Int.toNat_natCast, Nat.mul_one, Int.toNat_zero, List.drop_zero, Bx.mk.injEq, Vc.mk.injEq, List.cons.injEq, List.take_length, List.getElem?_nil, List.getD_cons_zero, List.getD_cons_succ, Int.reduceToNat, not_false_eq_true, Nat.le_refl]
        rw [h5]
        have he : p + idN (s.drop p) = e := h6
        refine ⟨fun hk => ⟨Mem.le_trans hm1 hm4, ?_⟩, fun hk => ⟨by unfold BL; omega, Mem.le_trans hm1 hm4, ?_⟩⟩
        · rw [if_pos (kw_name hk), if_pos hk]
          exact ⟨⟨2, t, 0, p⟩, _, true, rfl, rfl, rfl, by omega⟩
        · have hkk : (if keywordsL.contains t = true then (2 : Int) else 1) = 1 := if_neg (by rw [hk]; exact Bool.false_ne_true)
          rw [hkk]
          cases hn : isName t with
          | true => exact ⟨⟨1, t, 0, p⟩, _, true, rfl, rfl, rfl, by omega⟩
          | false => exact ⟨⟨1, t, 0, p⟩, _, false, rfl, rfl⟩
end Go.Proofs.YtmkifodpkcmgoaaDoor.E

/- lex, part R: the reference: Tokenize. -/
set_option linter.unusedSimpArgs false
set_option linter.unusedVariables false
namespace Go.Proofs.YtmkifodpkcmgoaaDoor.E
open Go

theorem tokL_id {s : List UInt8} {p : Nat} (hp : p < s.length) (h1 : isStartB (s.getD p 0).toNat = true) :
    tokL (s.drop p) = if isName (idS (s.drop p)) = true then some (if keywordsL.contains (idS (s.drop p)) = true then 2 else 1, idS (s.drop p), 0, idN (s.drop p)) else none := by
  rw [drop_at hp]
  show (if isStartB (s.getD p 0).toNat = true then _ else _) = _
  rw [if_pos h1]
theorem tokL_num {s : List UInt8} {p : Nat} (hp : p < s.length) (h1 : isStartB (s.getD p 0).toNat = false) (h2 : isDigitB (s.getD p 0).toNat = true) :
    tokL (s.drop p) = if (numL (s.drop p)).2.2.2 = true then some (if (numL (s.drop p)).1 = true then 4 else 3, [], (numL (s.drop p)).2.1, (numL (s.drop p)).2.2.1) else none := by
  rw [drop_at hp]
  show (if isStartB (s.getD p 0).toNat = true then _ else if isDigitB (s.getD p 0).toNat = true then _ else _) = _
  rw [if_neg (by rw [h1]; exact Bool.false_ne_true), if_pos h2]
theorem tokL_quo {s : List UInt8} {p : Nat} (hp : p < s.length) (h1 : isStartB (s.getD p 0).toNat = false) (h2 : isDigitB (s.getD p 0).toNat = false) (h3 : (((s.getD p 0).toNat : Nat) : Int) = 34) :
    tokL (s.drop p) = match qScan (s.drop (p + 1)) with
      | some (b, n) => if b.length ≤ 1024 then some (5, b, 0, 1 + n) else none
      | none => none := by
  rw [drop_at hp]
  show (if isStartB (s.getD p 0).toNat = true then _ else if isDigitB (s.getD p 0).toNat = true then _ else if (s.getD p 0).toNat = 34 then _ else _) = _
  rw [if_neg (by rw [h1]; exact Bool.false_ne_true), if_neg (by rw [h2]; exact Bool.false_ne_true), if_pos (by omega)]
  rfl
theorem tokL_op {s : List UInt8} {p : Nat} (hp : p < s.length) (h1 : isStartB (s.getD p 0).toNat = false) (h2 : isDigitB (s.getD p 0).toNat = false) (h3 : ¬ (((s.getD p 0).toNat : Nat) : Int) = 34) :
    tokL (s.drop p) = (signAt (s.drop p)).map fun o => (6, o, 0, o.length) := by
  rw [drop_at hp]
  show (if isStartB (s.getD p 0).toNat = true then _ else if isDigitB (s.getD p 0).toNat = true then _ else if (s.getD p 0).toNat = 34 then _ else _) = _
  rw [if_neg (by rw [h1]; exact Bool.false_ne_true), if_neg (by rw [h2]; exact Bool.false_ne_true), if_neg (by omega)]
set_option maxHeartbeats 4000000 in
set_option maxRecDepth 20000 in
theorem scan_spec (s : List UInt8) (p : Nat) (m : Mem) (hp : p < s.length) (hs : s.length ≤ 1000000) :
    FnH Tryd.prog 24 [.v (.string (bs s)), .v (.int .i64 p)] ⟨[], []⟩ m fun r H' m' => m.le m' ∧ H' = ⟨[], []⟩ ∧ RN p (tokL (s.drop p)) r := by
  refine enter cfA puA Tryd.func24 rfl rfl (by kernel_rfl) rfl ?_ ?_
  · simp only [go_sem, ↓reduceIte, or_true, or_false, true_or, false_or, Option.some.injEq, exists_eq_left, exists_eq_left', Nat.reduceBEq, Nat.reduceAdd, Nat.reduceMul, Nat.reduceSub, Nat.reduceEqDiff, Nat.reduceLT, Nat.reduceLeDiff, Option.map, Option.bind, List.map, List.length, true_implies, true_and, and_true, Bool.and_true, Bool.true_and, Bool.or_false, Bool.false_or, Bool.not_true, Bool.not_false, Bool.and_false, Bool.false_and, List.cons_append, List.nil_append, List.append_nil, mk_eq_bs, tl_bs, List.getElem?_cons_zero, List.getElem?_cons_succ, eq_self, reduceCtorEq, implies_true, false_implies, decide_eq_true_eq, decide_eq_false_iff_not, Bool.and_eq_true, Bool.or_eq_true, Bool.not_eq_true', Bool.and_eq_false_iff, Bool.or_eq_false_iff, Bool.not_eq_false', Option.toList, SV.v.injEq, Value.int.injEq, Value.bool.injEq, Value.string.injEq, Option.getD, List.contains_cons, List.contains_nil, beq_self_eq_true, Nat.max_def, List.set, List.drop, List.take, Int.toNat_natCast, Nat.mul_one, Int.toNat_zero, List.drop_zero, Bx.mk.injEq, Vc.mk.injEq, List.cons.injEq, List.take_length, List.getElem?_nil, List.getD_cons_zero, List.getD_cons_succ, Int.reduceToNat, not_false_eq_true, Nat.le_refl]
  · simp only [go_sem, ↓reduceIte, or_true, or_false, true_or, false_or, Option.some.injEq, exists_eq_left, exists_eq_left', Nat.reduceBEq, Nat.reduceAdd, Nat.reduceMul, Nat.reduceSub, Nat.reduceEqDiff, Nat.reduceLT, Nat.reduceLeDiff, Option.map, Option.bind, List.map, List.length, true_implies, true_and, and_true, Bool.and_true, Bool.true_and, Bool.or_false, Bool.false_or, Bool.not_true, Bool.not_false, Bool.and_false, Bool.false_and, List.cons_append, List.nil_append, List.append_nil, mk_eq_bs, tl_bs, List.getElem?_cons_zero, List.getElem?_cons_succ, eq_self, reduceCtorEq, implies_true, false_implies, decide_eq_true_eq, decide_eq_false_iff_not, Bool.and_eq_true, Bool.or_eq_true, Bool.not_eq_true', Bool.and_eq_false_iff, Bool.or_eq_false_iff, Bool.not_eq_false', Option.toList, SV.v.injEq, Value.int.injEq, Value.bool.injEq, Value.string.injEq, Option.getD, List.contains_cons, List.contains_nil, beq_self_eq_true, Nat.max_def, List.set, List.drop, List.take, Int.toNat_natCast, Nat.mul_one, Int.toNat_zero, List.drop_zero, Bx.mk.injEq, Vc.mk.injEq, List.cons.injEq, List.take_length, List.getElem?_nil, List.getD_cons_zero, List.getD_cons_succ, Int.reduceToNat, not_false_eq_true, Nat.le_refl]
    refine ⟨by omega, fun h1 => ⟨by kernel_rfl, FnV_of ((ridentifier_spec s p m hp hs h1).mono ?_)⟩, fun h1 => ⟨fun h2 => ⟨by kernel_rfl, FnV_of ((rnumber_spec s p m hp hs h2).mono ?_)⟩,
      fun h2 => ⟨fun h3 => ⟨by kernel_rfl, FnV_of ((text_spec s p m hp hs).mono ?_)⟩, fun h3 => ⟨by kernel_rfl, FnV_of ((roperator_spec s p m (by omega) hs).mono ?_)⟩⟩⟩⟩
    · rintro r H' m' hm ⟨_, rfl, t, e, b, rfl, hN⟩
      rw [← tokL_id hp h1] at hN
      simp only [go_sem, ↓reduceIte, or_true, or_false, true_or, false_or, Option.some.injEq, exists_eq_left, exists_eq_left', Nat.reduceBEq, Nat.reduceAdd, Nat.reduceMul, Nat.reduceSub, Nat.reduceEqDiff, Nat.reduceLT, Nat.reduceLeDiff, Option.map, Option.bind, List.map, List.length, true_implies, true_and, and_true, Bool.and_true, Bool.true_and, Bool.or_false, Bool.false_or, Bool.not_true, Bool.not_false, Bool.and_false, Bool.false_and, List.cons_append, List.nil_append, List.append_nil, mk_eq_bs, tl_bs, List.getElem?_cons_zero, List.getElem?_cons_succ, eq_self, reduceCtorEq, implies_true, false_implies, decide_eq_true_eq, decide_eq_false_iff_not, Bool.and_eq_true, Bool.or_eq_true, Bool.not_eq_true', Bool.and_eq_false_iff, Bool.or_eq_false_iff, Bool.not_eq_false', Option.toList, SV.v.injEq, Value.int.injEq, Value.bool.injEq, Value.string.injEq, Option.getD, List.contains_cons, List.contains_nil, beq_self_eq_true, Nat.max_def, List.set, List.drop, List.take, Int.toNat_natCast, Nat.mul_one, Int.toNat_zero, List.drop_zero, Bx.mk.injEq, Vc.mk.injEq, List.cons.injEq, List.take_length, List.getElem?_nil, List.getD_cons_zero, List.getD_cons_succ, Int.reduceToNat, not_false_eq_true, Nat.le_refl, Tk.sv, Tk.cells]
      exact ⟨hm, t, e, b, rfl, hN⟩
    · rintro r H' m' hm ⟨_, rfl, t, e, b, rfl, hN⟩
      rw [← tokL_num hp h1 h2] at hN
      simp only [go_sem, ↓reduceIte, or_true, or_false, true_or, false_or, Option.some.injEq, exists_eq_left, exists_eq_left', Nat.reduceBEq, Nat.reduceAdd, Nat.reduceMul, Nat.reduceSub, Nat.reduceEqDiff, Nat.reduceLT, Nat.reduceLeDiff, Option.map, Option.bind, List.map, List.length, true_implies, true_and, and_true, Bool.and_true, Bool.true_and, Bool.or_false, Bool.false_or, Bool.not_true, Bool.not_false, Bool.and_false, Bool.false_and, List.cons_append, List.nil_append, List.append_nil, mk_eq_bs, tl_bs, List.getElem?_cons_zero, List.getElem?_cons_succ, eq_self, reduceCtorEq, implies_true, false_implies, decide_eq_true_eq, decide_eq_false_iff_not, Bool.and_eq_true, Bool.or_eq_true, Bool.not_eq_true', Bool.and_eq_false_iff, Bool.or_eq_false_iff, Bool.not_eq_false', Option.toList, SV.v.injEq, Value.int.injEq, Value.bool.injEq, Value.string.injEq, Option.getD, List.contains_cons, List.contains_nil, beq_self_eq_true, Nat.max_def, List.set, List.drop, List.take, Int.toNat_natCast, Nat.mul_one, Int.toNat_zero, List.drop_zero, Bx.mk.injEq, Vc.mk.injEq, List.cons.injEq, List.take_length, List.getElem?_nil, List.getD_cons_zero, List.getD_cons_succ, Int.reduceToNat, not_false_eq_true, Nat.le_refl, Tk.sv, Tk.cells]
      exact ⟨hm, t, e, b, rfl, hN⟩
    · rintro r H' m' hm ⟨_, rfl, t, e, b, rfl, hN⟩
      simp only [go_sem, ↓reduceIte, or_true, or_false, true_or, false_or, Option.some.injEq, exists_eq_left, exists_eq_left', Nat.reduceBEq, Nat.reduceAdd, Nat.reduceMul, Nat.reduceSub, Nat.reduceEqDiff, Nat.reduceLT, Nat.reduceLeDiff, Option.map, Option.bind, List.map, List.length, true_implies, true_and, and_true, Bool.and_true, Bool.true_and, Bool.or_false, Bool.false_or, Bool.not_true, Bool.not_false, Bool.and_false, Bool.false_and, List.cons_append, List.nil_append, List.append_nil, mk_eq_bs, tl_bs, List.getElem?_cons_zero, List.getElem?_cons_succ, eq_self, reduceCtorEq, implies_true, false_implies, decide_eq_true_eq, decide_eq_false_iff_not, Bool.and_eq_true, Bool.or_eq_true, Bool.not_eq_true', Bool.and_eq_false_iff, Bool.or_eq_false_iff, Bool.not_eq_false', Option.toList, SV.v.injEq, Value.int.injEq, Value.bool.injEq, Value.string.injEq, Option.getD, List.contains_cons, List.contains_nil, beq_self_eq_true, Nat.max_def, List.set, List.drop, List.take, Int.toNat_natCast, Nat.mul_one, Int.toNat_zero, List.drop_zero, Bx.mk.injEq, Vc.mk.injEq, List.cons.injEq, List.take_length, List.getElem?_nil, List.getD_cons_zero, List.getD_cons_succ, Int.reduceToNat, not_false_eq_true, Nat.le_refl, Tk.sv, Tk.cells]
      exact ⟨hm, t, e, b, rfl, by rw [tokL_quo hp h1 h2 h3]; exact hN⟩
    · rintro r H' m' hm ⟨_, rfl, t, e, b, rfl, hN⟩
      rw [← tokL_op hp h1 h2 h3] at hN
      simp only [go_sem, ↓reduceIte, or_true, or_false, true_or, false_or, Option.some.injEq, exists_eq_left, exists_eq_left', Nat.reduceBEq, Nat.reduceAdd, Nat.reduceMul, Nat.reduceSub, Nat.reduceEqDiff, Nat.reduceLT, Nat.reduceLeDiff, Option.map, Option.bind, List.map, List.length, true_implies, true_and, and_true, Bool.and_true, Bool.true_and, Bool.or_false, Bool.false_or, Bool.not_true, Bool.not_false, Bool.and_false, Bool.false_and, List.cons_append, List.nil_append, List.append_nil, mk_eq_bs, tl_bs, List.getElem?_cons_zero, List.getElem?_cons_succ, eq_self, reduceCtorEq, implies_true, false_implies, decide_eq_true_eq, decide_eq_false_iff_not, Bool.and_eq_true, Bool.or_eq_true, Bool.not_eq_true', Bool.and_eq_false_iff, Bool.or_eq_false_iff, Bool.not_eq_false', Option.toList, SV.v.injEq, Value.int.injEq, Value.bool.injEq, Value.string.injEq, Option.getD, List.contains_cons, List.contains_nil, beq_self_eq_true, Nat.max_def, List.set, List.drop, List.take, Int.toNat_natCast, Nat.mul_one, Int.toNat_zero, List.drop_zero, Bx.mk.injEq, Vc.mk.injEq, List.cons.injEq, List.take_length, List.getElem?_nil, List.getD_cons_zero, List.getD_cons_succ, Int.reduceToNat, not_false_eq_true, Nat.le_refl, Tk.sv, Tk.cells]
      exact ⟨hm, t, e, b, rfl, hN⟩
def lenOf : Option (Int × List UInt8 × Int × Nat) → Nat
  | some x => x.2.2.2
  | none => 0
theorem RN_yes {o : Option (Int × List UInt8 × Int × Nat)} {t : Tk} {e : Int} {b : Bool} {q : Nat}
    (h : match o with
      | some (k, tt, n, len) => b = true ∧ t = ⟨k, tt, n, q⟩ ∧ e = (q + len : Nat)
      | none => b = false) (hb : b = true) : o = some (t.k, t.s, t.n, lenOf o) ∧ t.at_ = q ∧ e = (q + lenOf o : Nat) := by
  cases o with
  | none => rw [hb] at h; cases h
  | some x =>
    obtain ⟨k, tt, n, len⟩ := x
    obtain ⟨_, rfl, rfl⟩ := h
    exact ⟨rfl, rfl, rfl⟩
set_option maxHeartbeats 4000000 in
set_option maxRecDepth 20000 in
theorem rtokenize_spec (s : List UInt8) (m : Mem) (hs : s.length ≤ 4611686018427387904) :
    FnH Tryd.prog 9 [.v (.string (bs s))] ⟨[], []⟩ m fun r H' m' => leM m m' ∧ ROut (tokenizeL s) r H' := by
  refine enter cfA puA Tryd.func9 rfl rfl (by kernel_rfl) rfl ?_ ?_
  · simp only [go_sem, ↓reduceIte, or_true, or_false, true_or, false_or, Option.some.injEq, exists_eq_left, exists_eq_left', Nat.reduceBEq, Nat.reduceAdd, Nat.reduceMul, Nat.reduceSub, Nat.reduceEqDiff, Nat.reduceLT, Nat.reduceLeDiff, Option.map, Option.bind, List.map, List.length, true_implies, true_and, and_true, Bool.and_true, Bool.true_and, Bool.or_false, Bool.false_or, Bool.not_true, Bool.not_false, Bool.and_false, Bool.false_and, List.cons_append, List.nil_append, List.append_nil, mk_eq_bs, tl_bs, List.getElem?_cons_zero, List.getElem?_cons_succ, eq_self, reduceCtorEq, implies_true, false_implies, decide_eq_true_eq, decide_eq_false_iff_not, Bool.and_eq_true, Bool.or_eq_true, Bool.not_eq_true', Bool.and_eq_false_iff, Bool.or_eq_false_iff, Bool.not_eq_false', Option.toList, SV.v.injEq, Value.int.injEq, Value.bool.injEq, Value.string.injEq, Option.getD, List.contains_cons, List.contains_nil, beq_self_eq_true, Nat.max_def, List.set, List.drop, List.take, Int.toNat_natCast, Nat.mul_one, Int.toNat_zero, List.drop_zero, Bx.mk.injEq, Vc.mk.injEq, List.cons.injEq, List.take_length, List.getElem?_nil, List.getD_cons_zero, List.getD_cons_succ, Int.reduceToNat, not_false_eq_true, Nat.le_refl]
  · simp only [go_sem, ↓reduceIte, or_true, or_false, true_or, false_or, Option.some.injEq, exists_eq_left, exists_eq_left', Nat.reduceBEq, Nat.reduceAdd, Nat.reduceMul, Nat.reduceSub, Nat.reduceEqDiff, Nat.reduceLT, Nat.reduceLeDiff, Option.map, Option.bind, List.map, List.length, true_implies, true_and, and_true, Bool.and_true, Bool.true_and, Bool.or_false, Bool.false_or, Bool.not_true, Bool.not_false, Bool.and_false, Bool.false_and, List.cons_append, List.nil_append, List.append_nil, mk_eq_bs, tl_bs, List.getElem?_cons_zero, List.getElem?_cons_succ, eq_self, reduceCtorEq, implies_true, false_implies, decide_eq_true_eq, decide_eq_false_iff_not, Bool.and_eq_true, Bool.or_eq_true, Bool.not_eq_true', Bool.and_eq_false_iff, Bool.or_eq_false_iff, Bool.not_eq_false', Option.toList, SV.v.injEq, Value.int.injEq, Value.bool.injEq, Value.string.injEq, Option.getD, List.contains_cons, List.contains_nil, beq_self_eq_true, Nat.max_def, List.set, List.drop, List.take, Int.toNat_natCast, Nat.mul_one, Int.toNat_zero, List.drop_zero, Bx.mk.injEq, Vc.mk.injEq, List.cons.injEq, List.take_length, List.getElem?_nil, List.getD_cons_zero, List.getD_cons_succ, Int.reduceToNat, not_false_eq_true, Nat.le_refl]
    refine ⟨fun h => ?_, fun h => ⟨by kernel_rfl, FnV_of ((skip_spec s 0 m (Nat.zero_le _) (by omega)).mono ?_)⟩⟩
    · have e : tokenizeL s = ([], 0, 8) := if_pos (by omega)
      rw [e]
      exact .inr ⟨by decide, rfl, rfl, rfl⟩
    · rintro r H' m' hm ⟨rfl, rfl, rfl⟩
      simp only [go_sem, ↓reduceIte, or_true, or_false, true_or, false_or, Option.some.injEq, exists_eq_left, exists_eq_left', Nat.reduceBEq, Nat.reduceAdd, Nat.reduceMul, Nat.reduceSub, Nat.reduceEqDiff, Nat.reduceLT, Nat.reduceLeDiff, Option.map, Option.bind, List.map, List.length, true_implies, true_and, and_true, Bool.and_true, Bool.true_and, Bool.or_false, Bool.false_or, Bool.not_true, Bool.not_false, Bool.and_false, Bool.false_and, List.cons_append, List.nil_append, List.append_nil, mk_eq_bs, tl_bs, List.getElem?_cons_zero, List.getElem?_cons_succ, eq_self, reduceCtorEq, implies_true, false_implies, decide_eq_true_eq, decide_eq_false_iff_not, Bool.and_eq_true, Bool.or_eq_true, Bool.not_eq_true', Bool.and_eq_false_iff, Bool.or_eq_false_iff, Bool.not_eq_false', Option.toList, SV.v.injEq, Value.int.injEq, Value.bool.injEq, Value.string.injEq, Option.getD, List.contains_cons, List.contains_nil, beq_self_eq_true, Nat.max_def, List.set, List.drop, List.take, Int.toNat_natCast, Nat.mul_one, Int.toNat_zero, List.drop_zero, Bx.mk.injEq, Vc.mk.injEq, List.cons.injEq, List.take_length, List.getElem?_nil, List.getD_cons_zero, List.getD_cons_succ, Int.reduceToNat, not_false_eq_true, Nat.le_refl]
      refine WP_adopt 5 27 4 (by decide) rfl ?_
      have hts : tokenizeL s = lexF s (s.length + 1) 0 [] := if_neg (by omega)
      have hsk0 := skip_le false (s.drop 0)
      rw [List.length_drop] at hsk0
      refine WP_loop puA (fun x : Nat × List Tk × Nat × Mem × Nat × Nat => ⟨[⟨0, [], .v (.string (bs s))⟩, ⟨5, [], .vec 0 x.2.2.1⟩, ⟨6, [], .v (.int .i64 x.2.2.2.2.2)⟩], [], [], [⟨0, x.2.2.1, 27, 4, x.2.1.length, tkCells x.2.1⟩], 1, x.2.2.2.1⟩)
        (fun x => leM m' x.2.2.2.1 ∧ x.1 ≤ s.length ∧ x.2.1.length ≤ 5000 ∧ s.length - x.1 < x.2.2.2.2.1 ∧ tokenizeL s = lexF s x.2.2.2.2.1 x.1 x.2.1 ∧ x.2.2.2.2.2 = x.1 + skipW false (s.drop x.1)) (fun x => s.length - x.1) (0, [], 0, m', s.length + 1, 0 + skipW false (s.drop 0)) (by kernel_rfl) (fun _ _ => Nat.le_refl _) (fun x hx => hx.1) (fun _ => ?_) ?_ ?_ ?_
      · simp only [go_sem, ↓reduceIte, or_true, or_false, true_or, false_or, Option.some.injEq, exists_eq_left, exists_eq_left', Nat.reduceBEq, Nat.reduceAdd, Nat.reduceMul, Nat.reduceSub, Nat.reduceEqDiff, Nat.reduceLT, Nat.reduceLeDiff, Option.map, Option.bind, List.map, List.length, true_implies, true_and, and_true, Bool.and_true, Bool.true_and, Bool.or_false, Bool.false_or, Bool.not_true, Bool.not_false, Bool.and_false, Bool.false_and, List.cons_append, List.nil_append, List.append_nil, mk_eq_bs, tl_bs, List.getElem?_cons_zero, List.getElem?_cons_succ, eq_self, reduceCtorEq, implies_true, false_implies, decide_eq_true_eq, decide_eq_false_iff_not, Bool.and_eq_true, Bool.or_eq_true, Bool.not_eq_true', Bool.and_eq_false_iff, Bool.or_eq_false_iff, Bool.not_eq_false', Option.toList, SV.v.injEq, Value.int.injEq, Value.bool.injEq, Value.string.injEq, Option.getD, List.contains_cons, List.contains_nil, beq_self_eq_true, Nat.max_def, List.set, List.drop, List.take, Int.toNat_natCast, Nat.mul_one, Int.toNat_zero, List.drop_zero, Bx.mk.injEq, Vc.mk.injEq, List.cons.injEq, List.take_length, List.getElem?_nil, List.getD_cons_zero, List.getD_cons_succ, Int.reduceToNat, not_false_eq_true, Nat.le_refl]
      · simp only [go_sem, ↓reduceIte, or_true, or_false, true_or, false_or, Option.some.injEq, exists_eq_left, exists_eq_left', Nat.reduceBEq, Nat.reduceAdd, Nat.reduceMul, Nat.reduceSub, Nat.reduceEqDiff, Nat.reduceLT, Nat.reduceLeDiff, Option.map, Option.bind, List.map, List.length, true_implies, true_and, and_true, Bool.and_true, Bool.true_and, Bool.or_false, Bool.false_or, Bool.not_true, Bool.not_false, Bool.and_false, Bool.false_and, List.cons_append, List.nil_append, List.append_nil, mk_eq_bs, tl_bs, List.getElem?_cons_zero, List.getElem?_cons_succ, eq_self, reduceCtorEq, implies_true, false_implies, decide_eq_true_eq, decide_eq_false_iff_not, Bool.and_eq_true, Bool.or_eq_true, Bool.not_eq_true', Bool.and_eq_false_iff, Bool.or_eq_false_iff, Bool.not_eq_false', Option.toList, SV.v.injEq, Value.int.injEq, Value.bool.injEq, Value.string.injEq, Option.getD, List.contains_cons, List.contains_nil, beq_self_eq_true, Nat.max_def, List.set, List.drop, List.take, Int.toNat_natCast, Nat.mul_one, Int.toNat_zero, List.drop_zero, Bx.mk.injEq, Vc.mk.injEq, List.cons.injEq, List.take_length, List.getElem?_nil, List.getD_cons_zero, List.getD_cons_succ, Int.reduceToNat, not_false_eq_true, Nat.le_refl]
        rfl
      · exact ⟨.inl rfl, Nat.zero_le _, Nat.zero_le _, by simp only; omega, hts, rfl⟩
      · rintro ⟨p, acc, u, mm, f, q⟩ ⟨h1, h3, h4, h5, h6, hq⟩
        simp only at h1 h3 h4 h5 h6 hq
        have ef : f = (f - 1) + 1 := by omega
        rw [ef] at h6
        simp only [lexF] at h6
        have hsk := skip_le false (s.drop p)
        rw [List.length_drop] at hsk
        rw [← hq] at h6
        have hqs : q ≤ s.length := by omega
        simp only [go_sem, ↓reduceIte, or_true, or_false, true_or, false_or, Option.some.injEq, exists_eq_left, exists_eq_left', Nat.reduceBEq, Nat.reduceAdd, Nat.reduceMul, Nat.reduceSub, Nat.reduceEqDiff, Nat.reduceLT, Nat.reduceLeDiff, Option.map, Option.bind, List.map, List.length, true_implies, true_and, and_true, Bool.and_true, Bool.true_and, Bool.or_false, Bool.false_or, Bool.not_true, Bool.not_false, Bool.and_false, Bool.false_and, List.cons_append, List.nil_append, List.append_nil, mk_eq_bs, tl_bs, List.getElem?_cons_zero, List.getElem?_cons_succ, eq_self, reduceCtorEq, implies_true, false_implies, decide_eq_true_eq, decide_eq_false_iff_not, Bool.and_eq_true, Bool.or_eq_true, Bool.not_eq_true', Bool.and_eq_false_iff, Bool.or_eq_false_iff, Bool.not_eq_false', Option.toList, SV.v.injEq, Value.int.injEq, Value.bool.injEq, Value.string.injEq, Option.getD, List.contains_cons, List.contains_nil, beq_self_eq_true, Nat.max_def, List.set, List.drop, List.take, Int.toNat_natCast, Nat.mul_one, Int.toNat_zero, List.drop_zero, Bx.mk.injEq, Vc.mk.injEq, List.cons.injEq, List.take_length, List.getElem?_nil, List.getD_cons_zero, List.getD_cons_succ, Int.reduceToNat, not_false_eq_true, Nat.le_refl]
        refine ⟨fun hlt => ⟨fun h5k => ⟨h1, ?_⟩, fun h5k => ⟨by kernel_rfl, FnV_of ((scan_spec s q mm (by omega) (by omega)).mono ?_)⟩⟩, fun hge => ⟨h1, ?_⟩⟩
        · rw [h6, if_neg (by omega), if_pos (by omega)]
          exact .inr ⟨by decide, rfl, rfl, rfl⟩
        · rintro r H' m'' hm2 ⟨hle, rfl, t, e, b, rfl, hN⟩
          simp only [go_sem, ↓reduceIte, or_true, or_false, true_or, false_or, Option.some.injEq, exists_eq_left, exists_eq_left', Nat.reduceBEq, Nat.reduceAdd, Nat.reduceMul, Nat.reduceSub, Nat.reduceEqDiff, Nat.reduceLT, Nat.reduceLeDiff, Option.map, Option.bind, List.map, List.length, true_implies, true_and, and_true, Bool.and_true, Bool.true_and, Bool.or_false, Bool.false_or, Bool.not_true, Bool.not_false, Bool.and_false, Bool.false_and, List.cons_append, List.nil_append, List.append_nil, mk_eq_bs, tl_bs, List.getElem?_cons_zero, List.getElem?_cons_succ, eq_self, reduceCtorEq, implies_true, false_implies, decide_eq_true_eq, decide_eq_false_iff_not, Bool.and_eq_true, Bool.or_eq_true, Bool.not_eq_true', Bool.and_eq_false_iff, Bool.or_eq_false_iff, Bool.not_eq_false', Option.toList, SV.v.injEq, Value.int.injEq, Value.bool.injEq, Value.string.injEq, Option.getD, List.contains_cons, List.contains_nil, beq_self_eq_true, Nat.max_def, List.set, List.drop, List.take, Int.toNat_natCast, Nat.mul_one, Int.toNat_zero, List.drop_zero, Bx.mk.injEq, Vc.mk.injEq, List.cons.injEq, List.take_length, List.getElem?_nil, List.getD_cons_zero, List.getD_cons_succ, Int.reduceToNat, not_false_eq_true, Nat.le_refl, Tk.sv, Tk.cells]
          refine ⟨fun hb => ⟨leM_trans h1 hle, ?_⟩, fun hb => ⟨⟨by omega, by simp only [maxLen]; omega⟩, by kernel_rfl, ?_⟩⟩
          · rw [h6, if_neg (by omega), if_neg (by omega)]
            cases ht : tokL (s.drop q) with
            | none => exact .inr ⟨by simp, rfl, rfl, rfl⟩
            | some x =>
              rw [ht] at hN
              rw [hN.1] at hb
              cases hb
          · have hy := RN_yes hN hb
            have hlen := tokL_len hy.1
            rw [List.length_drop] at hlen
            rw [hy.1, if_neg (by omega), if_neg (by omega)] at h6
            have hsp := skip_spec s (q + lenOf (tokL (s.drop q))) m'' (by omega) (by omega)
            rw [← hy.2.2] at hsp
            have et : (⟨t.k, t.s, t.n, q⟩ : Tk) = t := by rw [← hy.2.1]
            have h6 : tokenizeL s = lexF s (f - 1) (q + lenOf (tokL (s.drop q))) (acc ++ [⟨t.k, t.s, t.n, q⟩]) := h6
            rw [et] at h6
            have happ := tkCells_app acc t
            refine FnV_of (hsp.mono ?_)
            rintro r H' m3 hm3 ⟨rfl, rfl, rfl⟩
            clear hsp
            simp only [go_sem, ↓reduceIte, or_true, or_false, true_or, false_or, Option.some.injEq, exists_eq_left, exists_eq_left', Nat.reduceBEq, Nat.reduceAdd, Nat.reduceMul, Nat.reduceSub, Nat.reduceEqDiff, Nat.reduceLT, Nat.reduceLeDiff, Option.map, Option.bind, List.map, List.length, true_implies, true_and, and_true, Bool.and_true, Bool.true_and, Bool.or_false, Bool.false_or, Bool.not_true, Bool.not_false, Bool.and_false, Bool.false_and, List.cons_append, List.nil_append, List.append_nil, mk_eq_bs, tl_bs, List.getElem?_cons_zero, List.getElem?_cons_succ, eq_self, reduceCtorEq, implies_true, false_implies, decide_eq_true_eq, decide_eq_false_iff_not, Bool.and_eq_true, Bool.or_eq_true, Bool.not_eq_true', Bool.and_eq_false_iff, Bool.or_eq_false_iff, Bool.not_eq_false', Option.toList, SV.v.injEq, Value.int.injEq, Value.bool.injEq, Value.string.injEq, Option.getD, List.contains_cons, List.contains_nil, beq_self_eq_true, Nat.max_def, List.set, List.drop, List.take, Int.toNat_natCast, Nat.mul_one, Int.toNat_zero, List.drop_zero, Bx.mk.injEq, Vc.mk.injEq, List.cons.injEq, List.take_length, List.getElem?_nil, List.getD_cons_zero, List.getD_cons_succ, Int.reduceToNat, not_false_eq_true, Nat.le_refl, Tk.sv, Tk.cells]
            exact ⟨(q + lenOf (tokL (s.drop q)), acc ++ [t], u + 1, m3, f - 1, q + lenOf (tokL (s.drop q)) + skipW false (s.drop (q + lenOf (tokL (s.drop q))))), ⟨⟨rfl, rfl⟩, ⟨rfl, by simp, happ⟩, .inl rfl⟩,
              ⟨leM_trans h1 hle, by simp only; omega, by simp only [List.length_append, List.length_singleton]; omega, by simp only; omega, h6, rfl⟩, by simp only; omega⟩
        · rw [h6, if_pos (by omega)]
          exact .inl ⟨rfl, _, _, rfl, rfl⟩
end Go.Proofs.YtmkifodpkcmgoaaDoor.E

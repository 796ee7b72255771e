/- lex, part N: the reference: parts, escapes, strings, operators. -/
import Derived.Test.YtmkifodpkcmgoaaDoorLexM
namespace Go.Proofs.YtmkifodpkcmgoaaDoor.E
open Go

theorem cv53 : cvK Tryd.prog 5 3 = .int .i64 := by kernel_rfl
attribute [go_sem] cv53
/-- Hexadecimal digits, as the reference reckons them. -/
def hexR (c : Int) : Int := if isDigitB c then c - 48 else if 97 ≤ c ∧ c ≤ 102 then c - 97 + 10 else -1
set_option maxRecDepth 20000 in
theorem hexR_eq (c : UInt8) : hexR c.toNat = hexI c := by
  have h : ∀ n : Nat, n < 256 → hexR (n : Int) = hexI (UInt8.ofNat n) := by decide
  have := h c.toNat c.toNat_lt
  simpa using this
theorem wrap_u8_eq (n : Int) : IntKind.u8.wrap n = n % 256 := by simp [IntKind.wrap, IntKind.bits, IntKind.signed]
theorem wrap_i64_eq {n : Int} (h : 0 ≤ n ∧ n < 1000) : IntKind.i64.wrap n = n := by
  simp [IntKind.wrap, IntKind.bits, IntKind.signed]
  omega
theorem dig_iff (c : Int) : isDigitB c = true ↔ 48 ≤ c ∧ c ≤ 57 := by simp [isDigitB]
abbrev cf8 : Cfg := mkCf (fun _ => false) [(48, pf1 isStartB), (50, pf1 isDigitB)]
theorem pu8 : PureOk cf8 Tryd.prog := pure_cons (by kernel_rfl) (pure1 letter_spec) (pure_cons (by kernel_rfl) (pure1 digit_spec) pure_nil)
def pI8U (F : Int → Value) : List Value → Option (Prop × Value)
  | [.int .u8 c] => some (0 ≤ c ∧ c ≤ 255, F c)
  | _ => none
attribute [go_sem] pI8U.eq_1
set_option maxRecDepth 20000 in
theorem hex_spec (c : Int) (m : Mem) (hc : 0 ≤ c ∧ c ≤ 255) : FnH Tryd.prog 84 [.v (.int .u8 c)] ⟨[], []⟩ m fun r H' _ => r = .v (.int .i64 (hexR c)) ∧ H' = ⟨[], []⟩ := by
  refine enter cf8 pu8 Tryd.func84 rfl rfl (by kernel_rfl) rfl ?_ ?_
  · simp only [go_sem, ↓reduceIte, or_true, or_false, true_or, false_or, Option.some.injEq, exists_eq_left, exists_eq_left', Nat.reduceBEq, Nat.reduceAdd, Nat.reduceMul, Nat.reduceSub, Nat.reduceEqDiff, Nat.reduceLT, Nat.reduceLeDiff, Option.map, Option.bind, List.map, List.length, true_implies, true_and, and_true, Bool.and_true, Bool.true_and, Bool.or_false, Bool.false_or, Bool.not_true, Bool.not_false, Bool.and_false, Bool.false_and, List.cons_append, List.nil_append, List.append_nil, mk_eq_bs, tl_bs, List.getElem?_cons_zero, List.getElem?_cons_succ, eq_self, reduceCtorEq, implies_true, false_implies, decide_eq_true_eq, decide_eq_false_iff_not, Bool.and_eq_true, Bool.or_eq_true, Bool.not_eq_true', Bool.and_eq_false_iff, Bool.or_eq_false_iff, Bool.not_eq_false', Option.toList, SV.v.injEq, Value.int.injEq, Value.bool.injEq, Value.string.injEq, Option.getD, List.contains_cons, List.contains_nil, beq_self_eq_true, Nat.max_def, List.set, List.drop, List.take, Int.toNat_natCast, Nat.mul_one, Int.toNat_zero, List.drop_zero, Bx.mk.injEq, Vc.mk.injEq, List.cons.injEq, List.take_length, List.getElem?_nil, List.getD_cons_zero, List.getD_cons_succ, Int.reduceToNat, not_false_eq_true, Nat.le_refl]
  · simp only [go_sem, ↓reduceIte, or_true, or_false, true_or, false_or, Option.some.injEq, exists_eq_left, exists_eq_left', Nat.reduceBEq, Nat.reduceAdd, Nat.reduceMul, Nat.reduceSub, Nat.reduceEqDiff, Nat.reduceLT, Nat.reduceLeDiff, Option.map, Option.bind, List.map, List.length, true_implies, true_and, and_true, Bool.and_true, Bool.true_and, Bool.or_false, Bool.false_or, Bool.not_true, Bool.not_false, Bool.and_false, Bool.false_and, List.cons_append, List.nil_append, List.append_nil, mk_eq_bs, tl_bs, List.getElem?_cons_zero, List.getElem?_cons_succ, eq_self, reduceCtorEq, implies_true, false_implies, decide_eq_true_eq, decide_eq_false_iff_not, Bool.and_eq_true, Bool.or_eq_true, Bool.not_eq_true', Bool.and_eq_false_iff, Bool.or_eq_false_iff, Bool.not_eq_false', Option.toList, SV.v.injEq, Value.int.injEq, Value.bool.injEq, Value.string.injEq, Option.getD, List.contains_cons, List.contains_nil, beq_self_eq_true, Nat.max_def, List.set, List.drop, List.take, Int.toNat_natCast, Nat.mul_one, Int.toNat_zero, List.drop_zero, Bx.mk.injEq, Vc.mk.injEq, List.cons.injEq, List.take_length, List.getElem?_nil, List.getD_cons_zero, List.getD_cons_succ, Int.reduceToNat, not_false_eq_true, Nat.le_refl]
    unfold hexR
    refine ⟨fun h => ?_, fun h => ⟨fun h2 => ?_, fun h2 => ?_⟩⟩
    · rw [if_pos h]
      have := (dig_iff c).1 h
      rw [wrap_u8_eq, wrap_i64_eq (by omega)]
      omega
    · rw [if_neg (by rw [h]; exact Bool.false_ne_true), if_pos h2, wrap_u8_eq, wrap_i64_eq (by omega)]
      exact ⟨by unfold I64; omega, by omega⟩
    · rw [if_neg (by rw [h]; exact Bool.false_ne_true), if_neg (by omega)]
set_option maxRecDepth 20000 in
theorem rpart_spec (s : List UInt8) (p : Nat) (m : Mem) (hp : p ≤ s.length) (hs : s.length ≤ 1000000) (hd : p < s.length → isDigitB (s.getD p 0).toNat = false) :
    FnH Tryd.prog 71 [.v (.string (bs s)), .v (.int .i64 p)] ⟨[], []⟩ m fun r H' m' => r = .v (.int .i64 (p + partL true (s.drop p) : Nat)) ∧ H' = ⟨[], []⟩ ∧ m' = m := by
  refine enter cf8 pu8 Tryd.func71 rfl rfl (by kernel_rfl) rfl ?_ ?_
  · simp only [go_sem, ↓reduceIte, or_true, or_false, true_or, false_or, Option.some.injEq, exists_eq_left, exists_eq_left', Nat.reduceBEq, Nat.reduceAdd, Nat.reduceMul, Nat.reduceSub, Nat.reduceEqDiff, Nat.reduceLT, Nat.reduceLeDiff, Option.map, Option.bind, List.map, List.length, true_implies, true_and, and_true, Bool.and_true, Bool.true_and, Bool.or_false, Bool.false_or, Bool.not_true, Bool.not_false, Bool.and_false, Bool.false_and, List.cons_append, List.nil_append, List.append_nil, mk_eq_bs, tl_bs, List.getElem?_cons_zero, List.getElem?_cons_succ, eq_self, reduceCtorEq, implies_true, false_implies, decide_eq_true_eq, decide_eq_false_iff_not, Bool.and_eq_true, Bool.or_eq_true, Bool.not_eq_true', Bool.and_eq_false_iff, Bool.or_eq_false_iff, Bool.not_eq_false', Option.toList, SV.v.injEq, Value.int.injEq, Value.bool.injEq, Value.string.injEq, Option.getD, List.contains_cons, List.contains_nil, beq_self_eq_true, Nat.max_def, List.set, List.drop, List.take, Int.toNat_natCast, Nat.mul_one, Int.toNat_zero, List.drop_zero, Bx.mk.injEq, Vc.mk.injEq, List.cons.injEq, List.take_length, List.getElem?_nil, List.getD_cons_zero, List.getD_cons_succ, Int.reduceToNat, not_false_eq_true, Nat.le_refl]
  · simp only [go_sem, ↓reduceIte, or_true, or_false, true_or, false_or, Option.some.injEq, exists_eq_left, exists_eq_left', Nat.reduceBEq, Nat.reduceAdd, Nat.reduceMul, Nat.reduceSub, Nat.reduceEqDiff, Nat.reduceLT, Nat.reduceLeDiff, Option.map, Option.bind, List.map, List.length, true_implies, true_and, and_true, Bool.and_true, Bool.true_and, Bool.or_false, Bool.false_or, Bool.not_true, Bool.not_false, Bool.and_false, Bool.false_and, List.cons_append, List.nil_append, List.append_nil, mk_eq_bs, tl_bs, List.getElem?_cons_zero, List.getElem?_cons_succ, eq_self, reduceCtorEq, implies_true, false_implies, decide_eq_true_eq, decide_eq_false_iff_not, Bool.and_eq_true, Bool.or_eq_true, Bool.not_eq_true', Bool.and_eq_false_iff, Bool.or_eq_false_iff, Bool.not_eq_false', Option.toList, SV.v.injEq, Value.int.injEq, Value.bool.injEq, Value.string.injEq, Option.getD, List.contains_cons, List.contains_nil, beq_self_eq_true, Nat.max_def, List.set, List.drop, List.take, Int.toNat_natCast, Nat.mul_one, Int.toNat_zero, List.drop_zero, Bx.mk.injEq, Vc.mk.injEq, List.cons.injEq, List.take_length, List.getElem?_nil, List.getD_cons_zero, List.getD_cons_succ, Int.reduceToNat, not_false_eq_true, Nat.le_refl]
    refine WP_loop pu8 (fun k : Nat => ⟨[⟨0, [], .v (.string (bs s))⟩, ⟨1, [], .v (.int .i64 k)⟩], [], [], [], 0, m⟩)
      (fun k => p ≤ k ∧ k ≤ s.length ∧ p + partL true (s.drop p) = k + partL (k == p) (s.drop k)) (fun k => s.length - k) p (by kernel_rfl) (fun _ _ => Nat.le_refl _) (fun _ _ => .inl rfl) (fun _ => ?_) ?_ ?_ ?_
    · simp only [go_sem, ↓reduceIte, or_true, or_false, true_or, false_or, Option.some.injEq, exists_eq_left, exists_eq_left', Nat.reduceBEq, Nat.reduceAdd, Nat.reduceMul, Nat.reduceSub, Nat.reduceEqDiff, Nat.reduceLT, Nat.reduceLeDiff, Option.map, Option.bind, List.map, List.length, true_implies, true_and, and_true, Bool.and_true, Bool.true_and, Bool.or_false, Bool.false_or, Bool.not_true, Bool.not_false, Bool.and_false, Bool.false_and, List.cons_append, List.nil_append, List.append_nil, mk_eq_bs, tl_bs, List.getElem?_cons_zero, List.getElem?_cons_succ, eq_self, reduceCtorEq, implies_true, false_implies, decide_eq_true_eq, decide_eq_false_iff_not, Bool.and_eq_true, Bool.or_eq_true, Bool.not_eq_true', Bool.and_eq_false_iff, Bool.or_eq_false_iff, Bool.not_eq_false', Option.toList, SV.v.injEq, Value.int.injEq, Value.bool.injEq, Value.string.injEq, Option.getD, List.contains_cons, List.contains_nil, beq_self_eq_true, Nat.max_def, List.set, List.drop, List.take, Int.toNat_natCast, Nat.mul_one, Int.toNat_zero, List.drop_zero, Bx.mk.injEq, Vc.mk.injEq, List.cons.injEq, List.take_length, List.getElem?_nil, List.getD_cons_zero, List.getD_cons_succ, Int.reduceToNat, not_false_eq_true, Nat.le_refl]
    · simp only [go_sem, ↓reduceIte, or_true, or_false, true_or, false_or, Option.some.injEq, exists_eq_left, exists_eq_left', Nat.reduceBEq, Nat.reduceAdd, Nat.reduceMul, Nat.reduceSub, Nat.reduceEqDiff, Nat.reduceLT, Nat.reduceLeDiff, Option.map, Option.bind, List.map, List.length, true_implies, true_and, and_true, Bool.and_true, Bool.true_and, Bool.or_false, Bool.false_or, Bool.not_true, Bool.not_false, Bool.and_false, Bool.false_and, List.cons_append, List.nil_append, List.append_nil, mk_eq_bs, tl_bs, List.getElem?_cons_zero, List.getElem?_cons_succ, eq_self, reduceCtorEq, implies_true, false_implies, decide_eq_true_eq, decide_eq_false_iff_not, Bool.and_eq_true, Bool.or_eq_true, Bool.not_eq_true', Bool.and_eq_false_iff, Bool.or_eq_false_iff, Bool.not_eq_false', Option.toList, SV.v.injEq, Value.int.injEq, Value.bool.injEq, Value.string.injEq, Option.getD, List.contains_cons, List.contains_nil, beq_self_eq_true, Nat.max_def, List.set, List.drop, List.take, Int.toNat_natCast, Nat.mul_one, Int.toNat_zero, List.drop_zero, Bx.mk.injEq, Vc.mk.injEq, List.cons.injEq, List.take_length, List.getElem?_nil, List.getD_cons_zero, List.getD_cons_succ, Int.reduceToNat, not_false_eq_true, Nat.le_refl]
    · exact ⟨Nat.le_refl _, hp, by simp⟩
    · rintro k ⟨h1, h2, h3⟩
      simp only [go_sem, ↓reduceIte, or_true, or_false, true_or, false_or, Option.some.injEq, exists_eq_left, exists_eq_left', Nat.reduceBEq, Nat.reduceAdd, Nat.reduceMul, Nat.reduceSub, Nat.reduceEqDiff, Nat.reduceLT, Nat.reduceLeDiff, Option.map, Option.bind, List.map, List.length, true_implies, true_and, and_true, Bool.and_true, Bool.true_and, Bool.or_false, Bool.false_or, Bool.not_true, Bool.not_false, Bool.and_false, Bool.false_and, List.cons_append, List.nil_append, List.append_nil, mk_eq_bs, tl_bs, List.getElem?_cons_zero, List.getElem?_cons_succ, eq_self, reduceCtorEq, implies_true, false_implies, decide_eq_true_eq, decide_eq_false_iff_not, Bool.and_eq_true, Bool.or_eq_true, Bool.not_eq_true', Bool.and_eq_false_iff, Bool.or_eq_false_iff, Bool.not_eq_false', Option.toList, SV.v.injEq, Value.int.injEq, Value.bool.injEq, Value.string.injEq, Option.getD, List.contains_cons, List.contains_nil, beq_self_eq_true, Nat.max_def, List.set, List.drop, List.take, Int.toNat_natCast, Nat.mul_one, Int.toNat_zero, List.drop_zero, Bx.mk.injEq, Vc.mk.injEq, List.cons.injEq, List.take_length, List.getElem?_nil, List.getD_cons_zero, List.getD_cons_succ, Int.reduceToNat, not_false_eq_true, Nat.le_refl]
      refine ⟨fun h => ⟨by omega, h⟩, fun h => ⟨by omega, h.2⟩, fun h => ⟨by unfold I64; omega, k + 1, rfl, ⟨by omega, by omega, ?_⟩, by omega⟩, fun h => ?_⟩
      · rw [h3, drop_at (by omega)]
        have hne : (k + 1 == p) = false := by rw [beq_eq_false_iff_ne]; omega
        simp only [partL, hne]
        rw [if_pos]
        · omega
        · rcases h.2 with h' | h'
          · rw [h']; rfl
          · rcases Nat.lt_or_ge p k with h4 | h4
            · have : (k == p) = false := by rw [beq_eq_false_iff_ne]; omega
              rw [this, h']; simp
            · obtain rfl : p = k := by omega
              rw [hd (by omega)] at h'
              cases h'
      · have h0 : partL (k == p) (s.drop k) = 0 := by
          rcases Nat.lt_or_ge k s.length with h4 | h4
          · rw [drop_at h4]
            simp only [partL]
            rcases h with h | h
            · omega
            · rw [if_neg]
              rw [h.1, h.2]
              simp
          · rw [List.drop_of_length_le h4]; cases (k == p) <;> rfl
        rw [h3, h0]
        rfl
theorem pureU8 {P : Program} {f : FuncId} {F : Int → Value} (h : ∀ c m, 0 ≤ c ∧ c ≤ 255 → FnH P f [.v (.int .u8 c)] ⟨[], []⟩ m fun r H' _ => r = .v (F c) ∧ H' = ⟨[], []⟩) : Pure0 P f (pI8U F) := fun vals y hy hB m => by
  unfold pI8U at hy
  split at hy
  · cases hy; exact h _ m hB
  · cases hy
abbrev cf9 : Cfg := mkCf (fun _ => false) [(84, pI8U fun c => .int .i64 (hexR c)), (48, pf1 isStartB), (50, pf1 isDigitB)]
theorem pu9 : PureOk cf9 Tryd.prog := pure_cons (by kernel_rfl) (pureU8 hex_spec) (pure_cons (by kernel_rfl) (pure1 letter_spec) (pure_cons (by kernel_rfl) (pure1 digit_spec) pure_nil))
/-- The next character of a string: its byte, how long it is (0: none). -/
def charL : List UInt8 → Int × Nat
  | [] => (0, 0)
  | c :: r => if (c.toNat < 32 ∨ 126 < c.toNat) ∨ c.toNat = 34 then (0, 0) else if c.toNat ≠ 92 then (c.toNat, 1) else if (escL r).2.2 = true then ((escL r).2.1, 1 + (escL r).1) else (0, 0)
theorem escL_end {s : List UInt8} {q : Nat} (h : s.length ≤ q) : escL (s.drop q) = (0, 0, false) := by
  rw [List.drop_of_length_le h]; rfl
theorem escL_self {s : List UInt8} {q : Nat} (h : q < s.length) (hc : (s.getD q 0).toNat = 34 ∨ (s.getD q 0).toNat = 92) : escL (s.drop q) = (1, ((s.getD q 0).toNat : Int), true) := by
  rw [drop_at h]; simp only [escL]; rw [if_pos hc]
theorem escL_n {s : List UInt8} {q : Nat} (h : q < s.length) (hc : (s.getD q 0).toNat = 110) : escL (s.drop q) = (1, 10, true) := by
  rw [drop_at h]; simp only [escL]; rw [if_neg (by omega), if_pos hc]
theorem escL_x {s : List UInt8} {q : Nat} (h : q + 2 < s.length) (hc : (s.getD q 0).toNat = 120) :
    escL (s.drop q) = (3, IntKind.u8.wrap (16 * hexI (s.getD (q + 1) 0) + hexI (s.getD (q + 2) 0)), decide (0 ≤ hexI (s.getD (q + 1) 0)) && decide (0 ≤ hexI (s.getD (q + 2) 0))) := by
  rw [drop_at (by omega), drop_at (k := q + 1) (by omega), drop_at (k := q + 1 + 1) (by omega)]; simp only [escL]; rw [if_neg (by omega), if_neg (by omega), if_pos hc]
theorem escL_short {s : List UInt8} {q : Nat} (h : q < s.length) (hs : s.length ≤ q + 2) (hc : (s.getD q 0).toNat = 120) : escL (s.drop q) = (0, 0, false) := by
  rw [drop_at h]; simp only [escL]; rw [if_neg (by omega), if_neg (by omega), if_pos hc]
  have hl : (s.drop (q + 1)).length ≤ 1 := by rw [List.length_drop]; omega
  split
  · rename_i h l t e
    rw [e] at hl
    simp at hl
  · rfl
theorem escL_no {s : List UInt8} {q : Nat} (h : q < s.length) (h1 : ¬ ((s.getD q 0).toNat = 34 ∨ (s.getD q 0).toNat = 92)) (h2 : ¬ (s.getD q 0).toNat = 110) (h3 : ¬ (s.getD q 0).toNat = 120) : escL (s.drop q) = (0, 0, false) := by
  rw [drop_at h]; simp only [escL]; rw [if_neg h1, if_neg h2, if_neg h3]
theorem charL_bad {s : List UInt8} {p : Nat} (h : p < s.length) (hc : ((s.getD p 0).toNat < 32 ∨ 126 < (s.getD p 0).toNat) ∨ (s.getD p 0).toNat = 34) : charL (s.drop p) = (0, 0) := by
  rw [drop_at h]; simp only [charL]; rw [if_pos hc]
theorem charL_plain {s : List UInt8} {p : Nat} (h : p < s.length) (hc : ¬ (((s.getD p 0).toNat < 32 ∨ 126 < (s.getD p 0).toNat) ∨ (s.getD p 0).toNat = 34)) (h2 : (s.getD p 0).toNat ≠ 92) : charL (s.drop p) = (((s.getD p 0).toNat : Int), 1) := by
  rw [drop_at h]; simp only [charL]; rw [if_neg hc, if_pos h2]
theorem charL_esc {s : List UInt8} {p : Nat} (h : p < s.length) (h2 : (s.getD p 0).toNat = 92) {x : Nat × Int × Bool} (he : escL (s.drop (p + 1)) = x) : charL (s.drop p) = if x.2.2 = true then (x.2.1, 1 + x.1) else (0, 0) := by
  rw [drop_at h]; simp only [charL]; rw [if_neg (by omega), if_neg (by omega), he]
set_option maxHeartbeats 4000000 in
set_option maxRecDepth 20000 in
theorem char_spec (s : List UInt8) (p : Nat) (m : Mem) (hp : p < s.length) (hs : s.length ≤ 1000000) :
    FnH Tryd.prog 72 [.v (.string (bs s)), .v (.int .i64 p)] ⟨[], []⟩ m fun r H' m' => r = .tup [.v (.int .u8 (charL (s.drop p)).1), .v (.int .i64 (charL (s.drop p)).2)] ∧ H' = ⟨[], []⟩ ∧ m' = m := by
  have e1 : ((p : Int) + 1).toNat = p + 1 := by omega
  have e2 : ((p : Int) + 2).toNat = p + 2 := by omega
  have e3 : ((p : Int) + 3).toNat = p + 3 := by omega
  have hb : ∀ x : UInt8, (0 : Int) ≤ x.toNat ∧ (x.toNat : Int) ≤ 255 := fun x => by have := x.toNat_lt; omega
  refine enter cf9 pu9 Tryd.func72 rfl rfl (by kernel_rfl) rfl ?_ ?_
  · simp only [go_sem, ↓reduceIte, or_true, or_false, true_or, false_or, Option.some.injEq, exists_eq_left, exists_eq_left', Nat.reduceBEq, Nat.reduceAdd, Nat.reduceMul, Nat.reduceSub, Nat.reduceEqDiff, Nat.reduceLT, Nat.reduceLeDiff, Option.map, Option.bind, List.map, List.length, true_implies, true_and, and_true, Bool.and_true, Bool.true_and, Bool.or_false, Bool.false_or, Bool.not_true, Bool.not_false, Bool.and_false, Bool.false_and, List.cons_append, List.nil_append, List.append_nil, mk_eq_bs, tl_bs, List.getElem?_cons_zero, List.getElem?_cons_succ, eq_self, reduceCtorEq, implies_true, false_implies, decide_eq_true_eq, decide_eq_false_iff_not, Bool.and_eq_true, Bool.or_eq_true, Bool.not_eq_true', Bool.and_eq_false_iff, Bool.or_eq_false_iff, Bool.not_eq_false', Option.toList, SV.v.injEq, Value.int.injEq, Value.bool.injEq, Value.string.injEq, Option.getD, List.contains_cons, List.contains_nil, beq_self_eq_true, Nat.max_def, List.set, List.drop, List.take, Int.toNat_natCast, Nat.mul_one, Int.toNat_zero, List.drop_zero, Bx.mk.injEq, Vc.mk.injEq, List.cons.injEq, List.take_length, List.getElem?_nil, List.getD_cons_zero, List.getD_cons_succ, Int.reduceToNat, not_false_eq_true, Nat.le_refl]
  · simp only [go_sem, ↓reduceIte, or_true, or_false, true_or, false_or, Option.some.injEq, exists_eq_left, exists_eq_left', Nat.reduceBEq, Nat.reduceAdd, Nat.reduceMul, Nat.reduceSub, Nat.reduceEqDiff, Nat.reduceLT, Nat.reduceLeDiff, Option.map, Option.bind, List.map, List.length, true_implies, true_and, and_true, Bool.and_true, Bool.true_and, Bool.or_false, Bool.false_or, Bool.not_true, Bool.not_false, Bool.and_false, Bool.false_and, List.cons_append, List.nil_append, List.append_nil, mk_eq_bs, tl_bs, List.getElem?_cons_zero, List.getElem?_cons_succ, eq_self, reduceCtorEq, implies_true, false_implies, decide_eq_true_eq, decide_eq_false_iff_not, Bool.and_eq_true, Bool.or_eq_true, Bool.not_eq_true', Bool.and_eq_false_iff, Bool.or_eq_false_iff, Bool.not_eq_false', Option.toList, SV.v.injEq, Value.int.injEq, Value.bool.injEq, Value.string.injEq, Option.getD, List.contains_cons, List.contains_nil, beq_self_eq_true, Nat.max_def, List.set, List.drop, List.take, Int.toNat_natCast, Nat.mul_one, Int.toNat_zero, List.drop_zero, Bx.mk.injEq, Vc.mk.injEq, List.cons.injEq, List.take_length, List.getElem?_nil, List.getD_cons_zero, List.getD_cons_succ, Int.reduceToNat, not_false_eq_true, Nat.le_refl, e1, e2, e3, hexR_eq]
    have hI : ∀ n : Int, 0 ≤ n → n ≤ 2000000 → I64 n := fun n _ _ => by unfold I64; omega
    refine ⟨by omega, fun h => by rw [charL_bad hp (by omega)]; rfl, fun h => ⟨fun h2 => by rw [charL_plain hp (by omega) (by omega)]; rfl, fun h92 => ⟨by unfold I64; omega, fun hsh => ?_, fun hsh => ?_⟩⟩⟩
    · rw [charL_esc hp (by omega) (escL_end (by omega))]; rfl
    · have hq : p + 1 < s.length := by omega
      refine ⟨by unfold I64; omega, by omega, fun h34 => ⟨fun _ => ⟨by unfold I64; omega, by omega, ?_⟩, fun h => absurd h34 h⟩, fun h34 => ⟨fun h => ?_, fun h => ?_⟩⟩
      · rw [charL_esc hp (by omega) (escL_self hq (by omega))]; rfl
      · rw [charL_esc hp (by omega) (escL_self hq (by omega))]; exact ⟨by unfold I64; omega, by omega, rfl⟩
      · refine ⟨fun h110 => by rw [charL_esc hp (by omega) (escL_n hq (by omega))]; rfl, fun h110 => ⟨fun h120 => ⟨by unfold I64; omega, fun _ => by unfold I64; omega, fun _ => by omega, fun _ => hb _, fun _ => by unfold I64; omega, fun _ => by omega, fun _ => hb _, fun h4 => ?_, fun h4 => ?_⟩, fun h120 => ?_⟩⟩
        · have hx := charL_esc hp (by omega) (escL_x (q := p + 1) (by omega) (by omega))
          rw [if_pos (by rw [decide_eq_true h4.1.2, decide_eq_true h4.2]; rfl)] at hx
          have hb1 : Lib.indexByte hexL (s.getD (p + 2) 0) < 16 := idx_lt _ hexL
          have hb2 : Lib.indexByte hexL (s.getD (p + 3) 0) < 16 := idx_lt _ hexL
          have h41 := h4.1.2
          have h42 := h4.2
          refine WP_drawQ pu9 (by kernel_rfl) (by kernel_rfl) (by kernel_rfl) ?_
          simp only [go_sem, ↓reduceIte, or_true, or_false, true_or, false_or, Option.some.injEq, exists_eq_left, exists_eq_left', Nat.reduceBEq, Nat.reduceAdd, Nat.reduceMul, Nat.reduceSub, Nat.reduceEqDiff, Nat.reduceLT, Nat.reduceLeDiff, Option.map, Option.bind, List.map, List.length, true_implies, true_and, and_true, Bool.and_true, Bool.true_and, Bool.or_false, Bool.false_or, Bool.not_true, Bool.not_false, Bool.and_false, Bool.false_and, List.cons_append, List.nil_append, List.append_nil, mk_eq_bs, tl_bs, List.getElem?_cons_zero, List.getElem?_cons_succ, eq_self, reduceCtorEq, implies_true, false_implies, decide_eq_true_eq, decide_eq_false_iff_not, Bool.and_eq_true, Bool.or_eq_true, Bool.not_eq_true', Bool.and_eq_false_iff, Bool.or_eq_false_iff, Bool.not_eq_false', Option.toList, SV.v.injEq, Value.int.injEq, Value.bool.injEq, Value.string.injEq, Option.getD, List.contains_cons, List.contains_nil, beq_self_eq_true, Nat.max_def, List.set, List.drop, List.take, Int.toNat_natCast, Nat.mul_one, Int.toNat_zero, List.drop_zero, Bx.mk.injEq, Vc.mk.injEq, List.cons.injEq, List.take_length, List.getElem?_nil, List.getD_cons_zero, List.getD_cons_succ, Int.reduceToNat, not_false_eq_true, Nat.le_refl, e1, e2, e3, hexR_eq]
          rw [hx]
          unfold hexI at h41 h42 ⊢
          refine ⟨by unfold I64; omega, by omega, hb _, by unfold I64; omega, by unfold I64; omega, by omega, hb _, by unfold I64; omega, ?_⟩
          rw [Int.mul_comm]; rfl
        · rcases Nat.lt_or_ge (p + 3) s.length with h5 | h5
          · rw [charL_esc hp (by omega) (escL_x (q := p + 1) (by omega) (by omega)), if_neg]
            · rfl
            · simp only [Bool.and_eq_true, decide_eq_true_eq]
              rintro ⟨x, y⟩
              rcases h4 with (h4 | h4) | h4
              · omega
              · exact h4 x
              · exact h4 y
          · rw [charL_esc hp (by omega) (escL_short (q := p + 1) (by omega) (by omega) (by omega))]; rfl
        · rw [charL_esc hp (by omega) (escL_no hq (by omega) (by omega) (by omega))]; rfl
end Go.Proofs.YtmkifodpkcmgoaaDoor.E

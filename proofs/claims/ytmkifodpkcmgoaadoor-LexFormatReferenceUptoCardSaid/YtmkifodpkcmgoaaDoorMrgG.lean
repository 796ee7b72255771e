/- Several texts in one: LexS, LexT, LexU, LexV, LexW, LexX. -/
import Derived.Test.YtmkifodpkcmgoaaDoorMrgF
import Derived.Laws.StructEq
/- lex, part S: the text of a string. -/
set_option linter.unusedSimpArgs false
set_option linter.unusedVariables false
namespace Go.Proofs.YtmkifodpkcmgoaaDoor.E
open Go

def escB (c : UInt8) : List UInt8 :=
  if c.toNat = 34 ∨ c.toNat = 92 then [92, c] else if c.toNat = 10 then [92, 110] else if c.toNat < 32 ∨ 126 < c.toNat then [92, 120, hexL.getD (c.toNat / 16) 0, hexL.getD (c.toNat % 16) 0] else [c]
def escapedL (s : List UInt8) : List UInt8 := 34 :: (s.map escB).flatten ++ [34]
set_option maxRecDepth 20000 in
theorem and15 (c : UInt8) : bits .and .u8 (c.toNat : Int) 15 = ((c.toNat % 16 : Nat) : Int) := by
  have h : ∀ n : Nat, n < 256 → bits .and .u8 (n : Int) 15 = ((n % 16 : Nat) : Int) := by decide
  exact h c.toNat c.toNat_lt
theorem escB_len (c : UInt8) : (escB c).length ≤ 4 := by
  unfold escB; split
  · simp
  · split
    · simp
    · split <;> simp
theorem escFlat_len : ∀ (s : List UInt8), ((s.map escB).flatten).length ≤ 4 * s.length
  | [] => by simp
  | c :: r => by
    have h1 := escB_len c
    have h2 := escFlat_len r
    simp only [List.map_cons, List.flatten_cons, List.length_append, List.length_cons]
    omega
set_option maxHeartbeats 4000000 in
set_option maxRecDepth 20000 in
theorem escaped_spec (s : List UInt8) (m : Mem) (hs : s.length ≤ 2000000) :
    FnH Tryd.prog 30 [.v (.string (bs s))] ⟨[], []⟩ m fun r H' m' => r = .v (.string (bs (escapedL s))) ∧ H' = ⟨[], []⟩ ∧ m' = m := by
  refine enter cfN puN Tryd.func30 rfl rfl (by kernel_rfl) rfl ?_ ?_
  · simp only [go_sem, ↓reduceIte, or_true, or_false, true_or, false_or, Option.some.injEq, exists_eq_left, exists_eq_left', Nat.reduceBEq, Nat.reduceAdd, Nat.reduceMul, Nat.reduceSub, Nat.reduceEqDiff, Nat.reduceLT, Nat.reduceLeDiff, Option.map, Option.bind, List.map, List.length, true_implies, true_and, and_true, Bool.and_true, Bool.true_and, Bool.or_false, Bool.false_or, Bool.not_true, Bool.not_false, Bool.and_false, Bool.false_and, List.cons_append, List.nil_append, List.append_nil, mk_eq_bs, tl_bs, List.getElem?_cons_zero, List.getElem?_cons_succ, eq_self, reduceCtorEq, implies_true, false_implies, decide_eq_true_eq, decide_eq_false_iff_not, Bool.and_eq_true, Bool.or_eq_true, Bool.not_eq_true', Bool.and_eq_false_iff, Bool.or_eq_false_iff, Bool.not_eq_false', Option.toList, SV.v.injEq, Value.int.injEq, Value.bool.injEq, Value.string.injEq, Option.getD, List.contains_cons, List.contains_nil, beq_self_eq_true, Nat.max_def, List.set, List.drop, List.take, Int.toNat_natCast, Nat.mul_one, Int.toNat_zero, List.drop_zero, Bx.mk.injEq, Vc.mk.injEq, List.cons.injEq, List.take_length, List.getElem?_nil, List.getD_cons_zero, List.getD_cons_succ, Int.reduceToNat, not_false_eq_true, Nat.le_refl]
  · simp only [go_sem, ↓reduceIte, or_true, or_false, true_or, false_or, Option.some.injEq, exists_eq_left, exists_eq_left', Nat.reduceBEq, Nat.reduceAdd, Nat.reduceMul, Nat.reduceSub, Nat.reduceEqDiff, Nat.reduceLT, Nat.reduceLeDiff, Option.map, Option.bind, List.map, List.length, true_implies, true_and, and_true, Bool.and_true, Bool.true_and, Bool.or_false, Bool.false_or, Bool.not_true, Bool.not_false, Bool.and_false, Bool.false_and, List.cons_append, List.nil_append, List.append_nil, mk_eq_bs, tl_bs, List.getElem?_cons_zero, List.getElem?_cons_succ, eq_self, reduceCtorEq, implies_true, false_implies, decide_eq_true_eq, decide_eq_false_iff_not, Bool.and_eq_true, Bool.or_eq_true, Bool.not_eq_true', Bool.and_eq_false_iff, Bool.or_eq_false_iff, Bool.not_eq_false', Option.toList, SV.v.injEq, Value.int.injEq, Value.bool.injEq, Value.string.injEq, Option.getD, List.contains_cons, List.contains_nil, beq_self_eq_true, Nat.max_def, List.set, List.drop, List.take, Int.toNat_natCast, Nat.mul_one, Int.toNat_zero, List.drop_zero, Bx.mk.injEq, Vc.mk.injEq, List.cons.injEq, List.take_length, List.getElem?_nil, List.getD_cons_zero, List.getD_cons_succ, Int.reduceToNat, not_false_eq_true, Nat.le_refl]
    refine WP_loop puN (fun x : Nat × Nat × List UInt8 => ⟨[⟨0, [], .v (.string (bs s))⟩, ⟨3, [], .vec 0 x.2.1⟩, ⟨8, [], .v (.int .i64 s.length)⟩, ⟨9, [], .v (.int .i64 x.1)⟩], [], [], [⟨0, x.2.1, 5, 1, x.2.2.length, u8s x.2.2⟩], 1, m⟩)
      (fun x => x.1 ≤ s.length ∧ x.2.2 = 34 :: ((s.take x.1).map escB).flatten) (fun x => s.length - x.1) (0, 0, [34]) (by kernel_rfl) (fun _ _ => Nat.le_refl _) (fun _ _ => .inl rfl) (fun _ => ?_) ?_ ?_ ?_
    · simp only [go_sem, ↓reduceIte, or_true, or_false, true_or, false_or, Option.some.injEq, exists_eq_left, exists_eq_left', Nat.reduceBEq, Nat.reduceAdd, Nat.reduceMul, Nat.reduceSub, Nat.reduceEqDiff, Nat.reduceLT, Nat.reduceLeDiff, Option.map, Option.bind, List.map, List.length, true_implies, true_and, and_true, Bool.and_true, Bool.true_and, Bool.or_false, Bool.false_or, Bool.not_true, Bool.not_false, Bool.and_false, Bool.false_and, List.cons_append, List.nil_append, List.append_nil, mk_eq_bs, tl_bs, List.getElem?_cons_zero, List.getElem?_cons_succ, eq_self, reduceCtorEq, implies_true, false_implies, decide_eq_true_eq, decide_eq_false_iff_not, Bool.and_eq_true, Bool.or_eq_true, Bool.not_eq_true', Bool.and_eq_false_iff, Bool.or_eq_false_iff, Bool.not_eq_false', Option.toList, SV.v.injEq, Value.int.injEq, Value.bool.injEq, Value.string.injEq, Option.getD, List.contains_cons, List.contains_nil, beq_self_eq_true, Nat.max_def, List.set, List.drop, List.take, Int.toNat_natCast, Nat.mul_one, Int.toNat_zero, List.drop_zero, Bx.mk.injEq, Vc.mk.injEq, List.cons.injEq, List.take_length, List.getElem?_nil, List.getD_cons_zero, List.getD_cons_succ, Int.reduceToNat, not_false_eq_true, Nat.le_refl]
    · simp only [go_sem, ↓reduceIte, or_true, or_false, true_or, false_or, Option.some.injEq, exists_eq_left, exists_eq_left', Nat.reduceBEq, Nat.reduceAdd, Nat.reduceMul, Nat.reduceSub, Nat.reduceEqDiff, Nat.reduceLT, Nat.reduceLeDiff, Option.map, Option.bind, List.map, List.length, true_implies, true_and, and_true, Bool.and_true, Bool.true_and, Bool.or_false, Bool.false_or, Bool.not_true, Bool.not_false, Bool.and_false, Bool.false_and, List.cons_append, List.nil_append, List.append_nil, mk_eq_bs, tl_bs, List.getElem?_cons_zero, List.getElem?_cons_succ, eq_self, reduceCtorEq, implies_true, false_implies, decide_eq_true_eq, decide_eq_false_iff_not, Bool.and_eq_true, Bool.or_eq_true, Bool.not_eq_true', Bool.and_eq_false_iff, Bool.or_eq_false_iff, Bool.not_eq_false', Option.toList, SV.v.injEq, Value.int.injEq, Value.bool.injEq, Value.string.injEq, Option.getD, List.contains_cons, List.contains_nil, beq_self_eq_true, Nat.max_def, List.set, List.drop, List.take, Int.toNat_natCast, Nat.mul_one, Int.toNat_zero, List.drop_zero, Bx.mk.injEq, Vc.mk.injEq, List.cons.injEq, List.take_length, List.getElem?_nil, List.getD_cons_zero, List.getD_cons_succ, Int.reduceToNat, not_false_eq_true, Nat.le_refl]
      exact ⟨rfl, rfl⟩
    · exact ⟨Nat.zero_le _, rfl⟩
    · rintro ⟨k, u, b⟩ ⟨h1, h2⟩
      simp only at h1 h2
      have hbl : b.length ≤ 1 + 4 * k := by
        rw [h2, List.length_cons]
        have := escFlat_len (s.take k)
        rw [List.length_take] at this
        omega
      have hroom : ∀ n, n ≤ 4 → room (b.length + n) 1 := fun n hn => ⟨by omega, by simp only [maxLen]; omega⟩
      have step : k < s.length → ∀ e, escB (s.getD k 0) = e → ∀ ver : Nat, ver = u + 1 → b.length + e.length = (b ++ e).length ∧ u8s b ++ u8s e = u8s (b ++ e) ∧ (k + 1 ≤ s.length ∧ b ++ e = 34 :: ((s.take (k + 1)).map escB).flatten) ∧ s.length - (k + 1) < s.length - k := fun hk e he ver _ => by
        refine ⟨(List.length_append).symm, (u8s_app b e).symm, ⟨hk, ?_⟩, by omega⟩
        rw [List.take_succ_eq_append_getElem hk, List.map_append, List.flatten_append, h2, ← he, List.getD_eq_getElem?_getD, List.getElem?_eq_getElem hk]
        simp
      simp only [go_sem, ↓reduceIte, or_true, or_false, true_or, false_or, Option.some.injEq, exists_eq_left, exists_eq_left', Nat.reduceBEq, Nat.reduceAdd, Nat.reduceMul, Nat.reduceSub, Nat.reduceEqDiff, Nat.reduceLT, Nat.reduceLeDiff, Option.map, Option.bind, List.map, List.length, true_implies, true_and, and_true, Bool.and_true, Bool.true_and, Bool.or_false, Bool.false_or, Bool.not_true, Bool.not_false, Bool.and_false, Bool.false_and, List.cons_append, List.nil_append, List.append_nil, mk_eq_bs, tl_bs, List.getElem?_cons_zero, List.getElem?_cons_succ, eq_self, reduceCtorEq, implies_true, false_implies, decide_eq_true_eq, decide_eq_false_iff_not, Bool.and_eq_true, Bool.or_eq_true, Bool.not_eq_true', Bool.and_eq_false_iff, Bool.or_eq_false_iff, Bool.not_eq_false', Option.toList, SV.v.injEq, Value.int.injEq, Value.bool.injEq, Value.string.injEq, Option.getD, List.contains_cons, List.contains_nil, beq_self_eq_true, Nat.max_def, List.set, List.drop, List.take, Int.toNat_natCast, Nat.mul_one, Int.toNat_zero, List.drop_zero, Bx.mk.injEq, Vc.mk.injEq, List.cons.injEq, List.take_length, List.getElem?_nil, List.getD_cons_zero, List.getD_cons_succ, Int.reduceToNat, not_false_eq_true, Nat.le_refl]
      refine ⟨fun hlt => ?_, fun hge => ?_⟩
      · have hk : k < s.length := by omega
        have hI : I64 (k + 1) := by unfold I64; omega
        refine ⟨by omega, fun c1 => ⟨hroom 2 (by omega), hI, ?_⟩, fun c1 => ⟨fun c2 => ⟨hroom 2 (by omega), hI, ?_⟩, fun c2 => ⟨fun c3 => ?_, fun c3 => ⟨hroom 1 (by omega), hI, ?_⟩⟩⟩⟩
        · have h := step hk [92, s.getD k 0] (by unfold escB; rw [if_pos (by omega)]) _ rfl
          exact ⟨(k + 1, u + 1, b ++ [92, s.getD k 0]), ⟨⟨rfl, rfl⟩, rfl, h.1, h.2.1⟩, h.2.2.1, h.2.2.2⟩
        · have h := step hk [92, 110] (by unfold escB; rw [if_neg (by omega), if_pos (by omega)]) _ rfl
          exact ⟨(k + 1, u + 1, b ++ [92, 110]), ⟨⟨rfl, rfl⟩, rfl, h.1, h.2.1⟩, h.2.2.1, h.2.2.2⟩
        · have h := step hk [92, 120, hexL.getD ((s.getD k 0).toNat / 16) 0, hexL.getD ((s.getD k 0).toNat % 16) 0] (by unfold escB; rw [if_neg (by omega), if_neg (by omega), if_pos (by omega)]) _ rfl
          have hc := (s.getD k 0).toNat_lt
          have e16 : ((((s.getD k 0).toNat : Nat) : Int) / 2 ^ 4).toNat = (s.getD k 0).toNat / 16 := by omega
          refine WP_draw (.hoist 0 (.hoist 1 (.hoist 2 (.hoist 3 (.hoist 4 (.hoist 5 (.hoist 6 (.alt 7 [0] (.alt 8 [] (.hoist 9 .done) .stop) .stop)))))))) puN (by kernel_rfl) (by kernel_rfl) ?_
          simp only [go_sem, ↓reduceIte, or_true, or_false, true_or, false_or, Option.some.injEq, exists_eq_left, exists_eq_left', Nat.reduceBEq, Nat.reduceAdd, Nat.reduceMul, Nat.reduceSub, Nat.reduceEqDiff, Nat.reduceLT, Nat.reduceLeDiff, Option.map, Option.bind, List.map, List.length, true_implies, true_and, and_true, Bool.and_true, Bool.true_and, Bool.or_false, Bool.false_or, Bool.not_true, Bool.not_false, Bool.and_false, Bool.false_and, List.cons_append, List.nil_append, List.append_nil, mk_eq_bs, tl_bs, List.getElem?_cons_zero, List.getElem?_cons_succ, eq_self, reduceCtorEq, implies_true, false_implies, decide_eq_true_eq, decide_eq_false_iff_not, Bool.and_eq_true, Bool.or_eq_true, Bool.not_eq_true', Bool.and_eq_false_iff, Bool.or_eq_false_iff, Bool.not_eq_false', Option.toList, SV.v.injEq, Value.int.injEq, Value.bool.injEq, Value.string.injEq, Option.getD, List.contains_cons, List.contains_nil, beq_self_eq_true, Nat.max_def, List.set, List.drop, List.take, Int.toNat_natCast, Nat.mul_one, Int.toNat_zero, List.drop_zero, Bx.mk.injEq, Vc.mk.injEq, List.cons.injEq, List.take_length, List.getElem?_nil, List.getD_cons_zero, List.getD_cons_succ, Int.reduceToNat, not_false_eq_true, Nat.le_refl, and15, e16]
          exact ⟨by omega, by omega, by omega, hroom 4 (by omega), hI, (k + 1, u + 1, b ++ [92, 120, hexL.getD ((s.getD k 0).toNat / 16) 0, hexL.getD ((s.getD k 0).toNat % 16) 0]), ⟨⟨rfl, rfl⟩, rfl, h.1, h.2.1⟩, h.2.2.1, h.2.2.2⟩
        · have h := step hk [s.getD k 0] (by unfold escB; rw [if_neg (by omega), if_neg (by omega), if_neg (by omega)]) _ rfl
          exact ⟨(k + 1, u + 1, b ++ [s.getD k 0]), ⟨⟨rfl, rfl⟩, rfl, h.1, h.2.1⟩, h.2.2.1, h.2.2.2⟩
      · have ek : k = s.length := by omega
        refine ⟨hroom 1 (by omega), b ++ [34], by rw [u8s_app]; rfl, ?_⟩
        rw [h2, ek, List.take_length]; rfl
end Go.Proofs.YtmkifodpkcmgoaaDoor.E

/- lex, part T: the text of a token; Join. -/
set_option linter.unusedSimpArgs false
set_option linter.unusedVariables false
namespace Go.Proofs.YtmkifodpkcmgoaaDoor.E
open Go

/-- The text of a token. -/
def fmtL (t : Tk) : Option (List UInt8) :=
  if t.k = 1 then (if t.n = 0 ∧ isName t.s = true ∧ keywordsL.contains t.s = false then some (Lib.replaceAll t.s [47] [58, 58]) else none)
  else if t.k = 2 then (if t.n = 0 ∧ keywordsL.contains t.s = true then some t.s else none)
  else if t.k = 3 then (if (t.s = [] ∧ 0 ≤ t.n) ∧ t.n < 2147483648 then some (Lib.itoa t.n) else none)
  else if t.k = 4 then (if t.s = [] ∧ 0 ≤ t.n then some (Lib.itoa t.n ++ [76]) else none)
  else if t.k = 5 then (if t.n = 0 ∧ t.s.length ≤ 1024 then some (escapedL t.s) else none)
  else if t.k = 6 then (if t.n = 0 ∧ signsL.contains t.s = true then some t.s else none)
  else none
def FOut (o : Option (List UInt8)) (r : SV) : Prop :=
  match o with
  | some x => r = .tup [.v (.string (bs x)), .v (.int .i64 0)]
  | none => r = .tup [.v (.string (bs [])), .v (.int .i64 1)]
def TkOk (t : Tk) : Prop := t.s.length ≤ 2000000 ∧ I64 t.n
theorem FOut_no {o : Option (List UInt8)} {c : Prop} [Decidable c] {x : List UInt8} (ho : o = if c then some x else none) (h : ¬ c) : FOut o (.tup [.v (.string (bs [])), .v (.int .i64 1)]) := by
  rw [ho, if_neg h]; rfl
theorem FOut_yes {o : Option (List UInt8)} {c : Prop} [Decidable c] {x : List UInt8} (ho : o = if c then some x else none) (h : c) : FOut o (.tup [.v (.string (bs x)), .v (.int .i64 0)]) := by
  rw [ho, if_pos h]; rfl
theorem nDigits_le : ∀ (k : Nat) (u : Nat), u < 10 ^ k → Lib.nDigits u ≤ k + 1 := by
  intro k
  induction k with
  | zero => intro u hu; rw [Lib.nDigits_small (by simp at hu; omega)]; omega
  | succ k ih =>
    intro u hu
    by_cases h : u < 10
    · rw [Lib.nDigits_small h]; omega
    · rw [Lib.nDigits_big h]
      have := ih (u / 10) (by rw [Nat.div_lt_iff_lt_mul (by omega)]; rw [Nat.pow_succ] at hu; exact hu)
      omega
theorem itoa_len {n : Int} (h : I64 n) : (Lib.itoa n).length ≤ 21 := by
  unfold Lib.itoa
  have h1 := h.1
  have h2 := h.2
  split
  · rw [List.length_cons, Lib.decDigits_length]
    have := nDigits_le 19 n.natAbs (by omega)
    omega
  · rw [Lib.decDigits_length]
    have := nDigits_le 19 n.toNat (by omega)
    omega
set_option maxHeartbeats 4000000 in
set_option maxRecDepth 20000 in
theorem format_spec (t : Tk) (m : Mem) (hg : Glob m) (ht : TkOk t) :
    FnH Tryd.prog 14 [Tk.sv t] ⟨[], []⟩ m fun r H' m' => m.le m' ∧ H' = ⟨[], []⟩ ∧ FOut (fmtL t) r := by
  have hl := ht.1
  refine enter cf6 pu6 Tryd.func14 rfl rfl (by kernel_rfl) rfl ?_ ?_
  · simp only [go_sem, ↓reduceIte, or_true, or_false, true_or, false_or, Option.some.injEq, exists_eq_left, exists_eq_left', Nat.reduceBEq, Nat.reduceAdd, Nat.reduceMul, Nat.reduceSub, Nat.reduceEqDiff, Nat.reduceLT, Nat.reduceLeDiff, Option.map, Option.bind, List.map, List.length, true_implies, true_and, and_true, Bool.and_true, Bool.true_and, Bool.or_false, Bool.false_or, Bool.not_true, Bool.not_false, Bool.and_false, Bool.false_and, List.cons_append, List.nil_append, List.append_nil, mk_eq_bs, tl_bs, List.getElem?_cons_zero, List.getElem?_cons_succ, eq_self, reduceCtorEq, implies_true, false_implies, decide_eq_true_eq, decide_eq_false_iff_not, Bool.and_eq_true, Bool.or_eq_true, Bool.not_eq_true', Bool.and_eq_false_iff, Bool.or_eq_false_iff, Bool.not_eq_false', Option.toList, SV.v.injEq, Value.int.injEq, Value.bool.injEq, Value.string.injEq, Option.getD, List.contains_cons, List.contains_nil, beq_self_eq_true, Nat.max_def, List.set, List.drop, List.take, Int.toNat_natCast, Nat.mul_one, Int.toNat_zero, List.drop_zero, Bx.mk.injEq, Vc.mk.injEq, List.cons.injEq, List.take_length, List.getElem?_nil, List.getD_cons_zero, List.getD_cons_succ, Int.reduceToNat, not_false_eq_true, Nat.le_refl, Tk.sv, Tk.cells]
  · simp only [go_sem, ↓reduceIte, or_true, or_false, true_or, false_or, Option.some.injEq, exists_eq_left, exists_eq_left', Nat.reduceBEq, Nat.reduceAdd, Nat.reduceMul, Nat.reduceSub, Nat.reduceEqDiff, Nat.reduceLT, Nat.reduceLeDiff, Option.map, Option.bind, List.map, List.length, true_implies, true_and, and_true, Bool.and_true, Bool.true_and, Bool.or_false, Bool.false_or, Bool.not_true, Bool.not_false, Bool.and_false, Bool.false_and, List.cons_append, List.nil_append, List.append_nil, mk_eq_bs, tl_bs, List.getElem?_cons_zero, List.getElem?_cons_succ, eq_self, reduceCtorEq, implies_true, false_implies, decide_eq_true_eq, decide_eq_false_iff_not, Bool.and_eq_true, Bool.or_eq_true, Bool.not_eq_true', Bool.and_eq_false_iff, Bool.or_eq_false_iff, Bool.not_eq_false', Option.toList, SV.v.injEq, Value.int.injEq, Value.bool.injEq, Value.string.injEq, Option.getD, List.contains_cons, List.contains_nil, beq_self_eq_true, Nat.max_def, List.set, List.drop, List.take, Int.toNat_natCast, Nat.mul_one, Int.toNat_zero, List.drop_zero, Bx.mk.injEq, Vc.mk.injEq, List.cons.injEq, List.take_length, List.getElem?_nil, List.getD_cons_zero, List.getD_cons_succ, Int.reduceToNat, not_false_eq_true, Nat.le_refl, Tk.sv, Tk.cells]
    refine WP_draw (.hoist 1 (.hoist 2 (.alt 0 [2, 1] (.alt 3 [] (.hoist 4 .done) .stop) .stop))) pu6 (by kernel_rfl) (by kernel_rfl) ?_
    simp only [go_sem, ↓reduceIte, or_true, or_false, true_or, false_or, Option.some.injEq, exists_eq_left, exists_eq_left', Nat.reduceBEq, Nat.reduceAdd, Nat.reduceMul, Nat.reduceSub, Nat.reduceEqDiff, Nat.reduceLT, Nat.reduceLeDiff, Option.map, Option.bind, List.map, List.length, true_implies, true_and, and_true, Bool.and_true, Bool.true_and, Bool.or_false, Bool.false_or, Bool.not_true, Bool.not_false, Bool.and_false, Bool.false_and, List.cons_append, List.nil_append, List.append_nil, mk_eq_bs, tl_bs, List.getElem?_cons_zero, List.getElem?_cons_succ, eq_self, reduceCtorEq, implies_true, false_implies, decide_eq_true_eq, decide_eq_false_iff_not, Bool.and_eq_true, Bool.or_eq_true, Bool.not_eq_true', Bool.and_eq_false_iff, Bool.or_eq_false_iff, Bool.not_eq_false', Option.toList, SV.v.injEq, Value.int.injEq, Value.bool.injEq, Value.string.injEq, Option.getD, List.contains_cons, List.contains_nil, beq_self_eq_true, Nat.max_def, List.set, List.drop, List.take, Int.toNat_natCast, Nat.mul_one, Int.toNat_zero, List.drop_zero, Bx.mk.injEq, Vc.mk.injEq, List.cons.injEq, List.take_length, List.getElem?_nil, List.getD_cons_zero, List.getD_cons_succ, Int.reduceToNat, not_false_eq_true, Nat.le_refl]
    refine ⟨by kernel_rfl, FnV_of ((keywords_spec m).mono ?_)⟩
    rintro r H' m3 hm3 ⟨rfl, rfl, rfl⟩
    simp only [go_sem, ↓reduceIte, or_true, or_false, true_or, false_or, Option.some.injEq, exists_eq_left, exists_eq_left', Nat.reduceBEq, Nat.reduceAdd, Nat.reduceMul, Nat.reduceSub, Nat.reduceEqDiff, Nat.reduceLT, Nat.reduceLeDiff, Option.map, Option.bind, List.map, List.length, true_implies, true_and, and_true, Bool.and_true, Bool.true_and, Bool.or_false, Bool.false_or, Bool.not_true, Bool.not_false, Bool.and_false, Bool.false_and, List.cons_append, List.nil_append, List.append_nil, mk_eq_bs, tl_bs, List.getElem?_cons_zero, List.getElem?_cons_succ, eq_self, reduceCtorEq, implies_true, false_implies, decide_eq_true_eq, decide_eq_false_iff_not, Bool.and_eq_true, Bool.or_eq_true, Bool.not_eq_true', Bool.and_eq_false_iff, Bool.or_eq_false_iff, Bool.not_eq_false', Option.toList, SV.v.injEq, Value.int.injEq, Value.bool.injEq, Value.string.injEq, Option.getD, List.contains_cons, List.contains_nil, beq_self_eq_true, Nat.max_def, List.set, List.drop, List.take, Int.toNat_natCast, Nat.mul_one, Int.toNat_zero, List.drop_zero, Bx.mk.injEq, Vc.mk.injEq, List.cons.injEq, List.take_length, List.getElem?_nil, List.getD_cons_zero, List.getD_cons_succ, Int.reduceToNat, not_false_eq_true, Nat.le_refl]
    refine ⟨by kernel_rfl, fun ad cp m1 hm1 hcp hrd => FnV_of ((contains_spec keywordsL t.s ad 28 cp m1 hrd (by decide)).mono ?_)⟩
    rintro r H' m4 hm4 ⟨rfl, rfl⟩
    have hm34 := Mem.le_trans hm1 hm4
    have hg4 := hg.up hm34
    simp only [go_sem, ↓reduceIte, or_true, or_false, true_or, false_or, Option.some.injEq, exists_eq_left, exists_eq_left', Nat.reduceBEq, Nat.reduceAdd, Nat.reduceMul, Nat.reduceSub, Nat.reduceEqDiff, Nat.reduceLT, Nat.reduceLeDiff, Option.map, Option.bind, List.map, List.length, true_implies, true_and, and_true, Bool.and_true, Bool.true_and, Bool.or_false, Bool.false_or, Bool.not_true, Bool.not_false, Bool.and_false, Bool.false_and, List.cons_append, List.nil_append, List.append_nil, mk_eq_bs, tl_bs, List.getElem?_cons_zero, List.getElem?_cons_succ, eq_self, reduceCtorEq, implies_true, false_implies, decide_eq_true_eq, decide_eq_false_iff_not, Bool.and_eq_true, Bool.or_eq_true, Bool.not_eq_true', Bool.and_eq_false_iff, Bool.or_eq_false_iff, Bool.not_eq_false', Option.toList, SV.v.injEq, Value.int.injEq, Value.bool.injEq, Value.string.injEq, Option.getD, List.contains_cons, List.contains_nil, beq_self_eq_true, Nat.max_def, List.set, List.drop, List.take, Int.toNat_natCast, Nat.mul_one, Int.toNat_zero, List.drop_zero, Bx.mk.injEq, Vc.mk.injEq, List.cons.injEq, List.take_length, List.getElem?_nil, List.getD_cons_zero, List.getD_cons_succ, Int.reduceToNat, not_false_eq_true, Nat.le_refl]
    refine ⟨fun k1 => ?_, fun k1 => ⟨fun k2 => ?_, fun k2 => ⟨fun k3 => ?_, fun k3 => ⟨fun k4 => ?_, fun k4 => ⟨fun k5 => ?_, fun k5 => ⟨fun k6 => ?_, fun k6 => ?_⟩⟩⟩⟩⟩⟩
    · have hf : fmtL t = if t.n = 0 ∧ isName t.s = true ∧ keywordsL.contains t.s = false then some (Lib.replaceAll t.s [47] [58, 58]) else none := if_pos k1
      have hrep := replace_spec t.s [47] [58, 58] m4 hg4 (by omega) (by simp) (by simp)
      refine WP_draw (.hoist 0 (.hoist 1 (.hoist 3 (.hoist 4 (.hoist 5 (.alt 2 [5, 4, 3] (.hoist 6 (.hoist 7 (.hoist 8 (.alt 9 [] (.hoist 10 (.hoist 11 (.hoist 12 (.hoist 13 (.hoist 14 (.hoist 15 (.hoist 16 .done))))))) .stop)))) .stop)))))) pu6 (by kernel_rfl) (by kernel_rfl) ?_
      simp only [go_sem, ↓reduceIte, or_true, or_false, true_or, false_or, Option.some.injEq, exists_eq_left, exists_eq_left', Nat.reduceBEq, Nat.reduceAdd, Nat.reduceMul, Nat.reduceSub, Nat.reduceEqDiff, Nat.reduceLT, Nat.reduceLeDiff, Option.map, Option.bind, List.map, List.length, true_implies, true_and, and_true, Bool.and_true, Bool.true_and, Bool.or_false, Bool.false_or, Bool.not_true, Bool.not_false, Bool.and_false, Bool.false_and, List.cons_append, List.nil_append, List.append_nil, mk_eq_bs, tl_bs, List.getElem?_cons_zero, List.getElem?_cons_succ, eq_self, reduceCtorEq, implies_true, false_implies, decide_eq_true_eq, decide_eq_false_iff_not, Bool.and_eq_true, Bool.or_eq_true, Bool.not_eq_true', Bool.and_eq_false_iff, Bool.or_eq_false_iff, Bool.not_eq_false', Option.toList, SV.v.injEq, Value.int.injEq, Value.bool.injEq, Value.string.injEq, Option.getD, List.contains_cons, List.contains_nil, beq_self_eq_true, Nat.max_def, List.set, List.drop, List.take, Int.toNat_natCast, Nat.mul_one, Int.toNat_zero, List.drop_zero, Bx.mk.injEq, Vc.mk.injEq, List.cons.injEq, List.take_length, List.getElem?_nil, List.getD_cons_zero, List.getD_cons_succ, Int.reduceToNat, not_false_eq_true, Nat.le_refl]
      refine ⟨by kernel_rfl, FnV_of (hrep.mono ?_)⟩
      rintro r H' m5 hm5 ⟨rfl, rfl, rfl⟩
      clear hrep
      simp only [go_sem, ↓reduceIte, or_true, or_false, true_or, false_or, Option.some.injEq, exists_eq_left, exists_eq_left', Nat.reduceBEq, Nat.reduceAdd, Nat.reduceMul, Nat.reduceSub, Nat.reduceEqDiff, Nat.reduceLT, Nat.reduceLeDiff, Option.map, Option.bind, List.map, List.length, true_implies, true_and, and_true, Bool.and_true, Bool.true_and, Bool.or_false, Bool.false_or, Bool.not_true, Bool.not_false, Bool.and_false, Bool.false_and, List.cons_append, List.nil_append, List.append_nil, mk_eq_bs, tl_bs, List.getElem?_cons_zero, List.getElem?_cons_succ, eq_self, reduceCtorEq, implies_true, false_implies, decide_eq_true_eq, decide_eq_false_iff_not, Bool.and_eq_true, Bool.or_eq_true, Bool.not_eq_true', Bool.and_eq_false_iff, Bool.or_eq_false_iff, Bool.not_eq_false', Option.toList, SV.v.injEq, Value.int.injEq, Value.bool.injEq, Value.string.injEq, Option.getD, List.contains_cons, List.contains_nil, beq_self_eq_true, Nat.max_def, List.set, List.drop, List.take, Int.toNat_natCast, Nat.mul_one, Int.toNat_zero, List.drop_zero, Bx.mk.injEq, Vc.mk.injEq, List.cons.injEq, List.take_length, List.getElem?_nil, List.getD_cons_zero, List.getD_cons_succ, Int.reduceToNat, not_false_eq_true, Nat.le_refl]
      refine ⟨fun _ => by unfold BL; omega, fun h => ⟨hm34, FOut_no hf ?_⟩, fun h => ⟨hm34, FOut_yes hf ⟨h.1.1, h.1.2, h.2⟩⟩⟩
      rintro ⟨a, b, c⟩
      rcases h with (h | h) | h
      · exact h a
      · rw [b] at h; cases h
      · rw [c] at h; cases h
    · have hf : fmtL t = if t.n = 0 ∧ keywordsL.contains t.s = true then some t.s else none := by unfold fmtL; rw [if_neg k1, if_pos k2]
      rw [hf]
      refine ⟨fun h => ⟨hm34, ?_⟩, fun h => ⟨hm34, ?_⟩⟩
      · rw [if_neg (by rintro ⟨a, b⟩; rcases h with h | h; exact h a; rw [b] at h; cases h)]; rfl
      · rw [if_pos h]; rfl
    · have hf : fmtL t = if (t.s = [] ∧ 0 ≤ t.n) ∧ t.n < 2147483648 then some (Lib.itoa t.n) else none := by unfold fmtL; rw [if_neg k1, if_neg k2, if_pos k3]
      have hit := itoa_spec t.n m4 hg4 ht.2
      refine WP_draw (.hoist 0 (.hoist 1 (.hoist 3 (.hoist 4 (.hoist 5 (.alt 2 [5, 4, 3] (.hoist 6 (.hoist 7 (.hoist 8 (.hoist 9 (.hoist 10 (.hoist 11 (.hoist 12 (.hoist 13 (.hoist 14 (.hoist 15 (.hoist 16 (.hoist 17 .done)))))))))))) .stop)))))) pu6 (by kernel_rfl) (by kernel_rfl) ?_
      simp only [go_sem, ↓reduceIte, or_true, or_false, true_or, false_or, Option.some.injEq, exists_eq_left, exists_eq_left', Nat.reduceBEq, Nat.reduceAdd, Nat.reduceMul, Nat.reduceSub, Nat.reduceEqDiff, Nat.reduceLT, Nat.reduceLeDiff, Option.map, Option.bind, List.map, List.length, true_implies, true_and, and_true, Bool.and_true, Bool.true_and, Bool.or_false, Bool.false_or, Bool.not_true, Bool.not_false, Bool.and_false, Bool.false_and, List.cons_append, List.nil_append, List.append_nil, mk_eq_bs, tl_bs, List.getElem?_cons_zero, List.getElem?_cons_succ, eq_self, reduceCtorEq, implies_true, false_implies, decide_eq_true_eq, decide_eq_false_iff_not, Bool.and_eq_true, Bool.or_eq_true, Bool.not_eq_true', Bool.and_eq_false_iff, Bool.or_eq_false_iff, Bool.not_eq_false', Option.toList, SV.v.injEq, Value.int.injEq, Value.bool.injEq, Value.string.injEq, Option.getD, List.contains_cons, List.contains_nil, beq_self_eq_true, Nat.max_def, List.set, List.drop, List.take, Int.toNat_natCast, Nat.mul_one, Int.toNat_zero, List.drop_zero, Bx.mk.injEq, Vc.mk.injEq, List.cons.injEq, List.take_length, List.getElem?_nil, List.getD_cons_zero, List.getD_cons_succ, Int.reduceToNat, not_false_eq_true, Nat.le_refl]
      refine ⟨by kernel_rfl, FnV_of (hit.mono ?_)⟩
      rintro r H' m5 hm5 ⟨rfl, rfl, rfl⟩
      clear hit
      simp only [go_sem, ↓reduceIte, or_true, or_false, true_or, false_or, Option.some.injEq, exists_eq_left, exists_eq_left', Nat.reduceBEq, Nat.reduceAdd, Nat.reduceMul, Nat.reduceSub, Nat.reduceEqDiff, Nat.reduceLT, Nat.reduceLeDiff, Option.map, Option.bind, List.map, List.length, true_implies, true_and, and_true, Bool.and_true, Bool.true_and, Bool.or_false, Bool.false_or, Bool.not_true, Bool.not_false, Bool.and_false, Bool.false_and, List.cons_append, List.nil_append, List.append_nil, mk_eq_bs, tl_bs, List.getElem?_cons_zero, List.getElem?_cons_succ, eq_self, reduceCtorEq, implies_true, false_implies, decide_eq_true_eq, decide_eq_false_iff_not, Bool.and_eq_true, Bool.or_eq_true, Bool.not_eq_true', Bool.and_eq_false_iff, Bool.or_eq_false_iff, Bool.not_eq_false', Option.toList, SV.v.injEq, Value.int.injEq, Value.bool.injEq, Value.string.injEq, Option.getD, List.contains_cons, List.contains_nil, beq_self_eq_true, Nat.max_def, List.set, List.drop, List.take, Int.toNat_natCast, Nat.mul_one, Int.toNat_zero, List.drop_zero, Bx.mk.injEq, Vc.mk.injEq, List.cons.injEq, List.take_length, List.getElem?_nil, List.getD_cons_zero, List.getD_cons_succ, Int.reduceToNat, not_false_eq_true, Nat.le_refl]
      refine ⟨fun h => ⟨hm34, FOut_no hf ?_⟩, fun h => ⟨hm34, FOut_yes hf h⟩⟩
      rintro ⟨⟨a, b⟩, c⟩
      rcases h with (h | h) | h
      · exact h a
      · exact h b
      · exact h c
    · have hf : fmtL t = if t.s = [] ∧ 0 ≤ t.n then some (Lib.itoa t.n ++ [76]) else none := by unfold fmtL; rw [if_neg k1, if_neg k2, if_neg k3, if_pos k4]
      have hit := itoa_spec t.n m4 hg4 ht.2
      refine WP_draw (.hoist 0 (.hoist 1 (.hoist 4 (.hoist 5 (.hoist 6 (.alt 2 [6, 5, 4] (.hoist 3 (.hoist 7 (.hoist 8 (.hoist 9 (.hoist 10 (.hoist 11 (.hoist 12 (.hoist 13 .done)))))))) .stop)))))) pu6 (by kernel_rfl) (by kernel_rfl) ?_
      simp only [go_sem, ↓reduceIte, or_true, or_false, true_or, false_or, Option.some.injEq, exists_eq_left, exists_eq_left', Nat.reduceBEq, Nat.reduceAdd, Nat.reduceMul, Nat.reduceSub, Nat.reduceEqDiff, Nat.reduceLT, Nat.reduceLeDiff, Option.map, Option.bind, List.map, List.length, true_implies, true_and, and_true, Bool.and_true, Bool.true_and, Bool.or_false, Bool.false_or, Bool.not_true, Bool.not_false, Bool.and_false, Bool.false_and, List.cons_append, List.nil_append, List.append_nil, mk_eq_bs, tl_bs, List.getElem?_cons_zero, List.getElem?_cons_succ, eq_self, reduceCtorEq, implies_true, false_implies, decide_eq_true_eq, decide_eq_false_iff_not, Bool.and_eq_true, Bool.or_eq_true, Bool.not_eq_true', Bool.and_eq_false_iff, Bool.or_eq_false_iff, Bool.not_eq_false', Option.toList, SV.v.injEq, Value.int.injEq, Value.bool.injEq, Value.string.injEq, Option.getD, List.contains_cons, List.contains_nil, beq_self_eq_true, Nat.max_def, List.set, List.drop, List.take, Int.toNat_natCast, Nat.mul_one, Int.toNat_zero, List.drop_zero, Bx.mk.injEq, Vc.mk.injEq, List.cons.injEq, List.take_length, List.getElem?_nil, List.getD_cons_zero, List.getD_cons_succ, Int.reduceToNat, not_false_eq_true, Nat.le_refl]
      refine ⟨by kernel_rfl, FnV_of (hit.mono ?_)⟩
      rintro r H' m5 hm5 ⟨rfl, rfl, rfl⟩
      clear hit
      simp only [go_sem, ↓reduceIte, or_true, or_false, true_or, false_or, Option.some.injEq, exists_eq_left, exists_eq_left', Nat.reduceBEq, Nat.reduceAdd, Nat.reduceMul, Nat.reduceSub, Nat.reduceEqDiff, Nat.reduceLT, Nat.reduceLeDiff, Option.map, Option.bind, List.map, List.length, true_implies, true_and, and_true, Bool.and_true, Bool.true_and, Bool.or_false, Bool.false_or, Bool.not_true, Bool.not_false, Bool.and_false, Bool.false_and, List.cons_append, List.nil_append, List.append_nil, mk_eq_bs, tl_bs, List.getElem?_cons_zero, List.getElem?_cons_succ, eq_self, reduceCtorEq, implies_true, false_implies, decide_eq_true_eq, decide_eq_false_iff_not, Bool.and_eq_true, Bool.or_eq_true, Bool.not_eq_true', Bool.and_eq_false_iff, Bool.or_eq_false_iff, Bool.not_eq_false', Option.toList, SV.v.injEq, Value.int.injEq, Value.bool.injEq, Value.string.injEq, Option.getD, List.contains_cons, List.contains_nil, beq_self_eq_true, Nat.max_def, List.set, List.drop, List.take, Int.toNat_natCast, Nat.mul_one, Int.toNat_zero, List.drop_zero, Bx.mk.injEq, Vc.mk.injEq, List.cons.injEq, List.take_length, List.getElem?_nil, List.getD_cons_zero, List.getD_cons_succ, Int.reduceToNat, not_false_eq_true, Nat.le_refl]
      refine ⟨by have := itoa_len ht.2; omega, fun h => ⟨hm34, FOut_no hf ?_⟩, fun h => ⟨hm34, FOut_yes hf h⟩⟩
      rintro ⟨a, b⟩
      rcases h with h | h
      · exact h a
      · exact h b
    · have hf : fmtL t = if t.n = 0 ∧ t.s.length ≤ 1024 then some (escapedL t.s) else none := by unfold fmtL; rw [if_neg k1, if_neg k2, if_neg k3, if_neg k4, if_pos k5]
      have hes := escaped_spec t.s m4 (by omega)
      refine WP_draw (.hoist 0 (.hoist 1 (.hoist 3 (.hoist 4 (.hoist 5 (.alt 2 [5, 4, 3] (.hoist 6 (.hoist 7 (.hoist 8 (.hoist 9 (.hoist 10 (.hoist 11 (.hoist 12 (.hoist 13 .done)))))))) .stop)))))) pu6 (by kernel_rfl) (by kernel_rfl) ?_
      simp only [go_sem, ↓reduceIte, or_true, or_false, true_or, false_or, Option.some.injEq, exists_eq_left, exists_eq_left', Nat.reduceBEq, Nat.reduceAdd, Nat.reduceMul, Nat.reduceSub, Nat.reduceEqDiff, Nat.reduceLT, Nat.reduceLeDiff, Option.map, Option.bind, List.map, List.length, true_implies, true_and, and_true, Bool.and_true, Bool.true_and, Bool.or_false, Bool.false_or, Bool.not_true, Bool.not_false, Bool.and_false, Bool.false_and, List.cons_append, List.nil_append, List.append_nil, mk_eq_bs, tl_bs, List.getElem?_cons_zero, List.getElem?_cons_succ, eq_self, reduceCtorEq, implies_true, false_implies, decide_eq_true_eq, decide_eq_false_iff_not, Bool.and_eq_true, Bool.or_eq_true, Bool.not_eq_true', Bool.and_eq_false_iff, Bool.or_eq_false_iff, Bool.not_eq_false', Option.toList, SV.v.injEq, Value.int.injEq, Value.bool.injEq, Value.string.injEq, Option.getD, List.contains_cons, List.contains_nil, beq_self_eq_true, Nat.max_def, List.set, List.drop, List.take, Int.toNat_natCast, Nat.mul_one, Int.toNat_zero, List.drop_zero, Bx.mk.injEq, Vc.mk.injEq, List.cons.injEq, List.take_length, List.getElem?_nil, List.getD_cons_zero, List.getD_cons_succ, Int.reduceToNat, not_false_eq_true, Nat.le_refl]
      refine ⟨by kernel_rfl, FnV_of (hes.mono ?_)⟩
      rintro r H' m5 hm5 ⟨rfl, rfl, rfl⟩
      clear hes
      simp only [go_sem, ↓reduceIte, or_true, or_false, true_or, false_or, Option.some.injEq, exists_eq_left, exists_eq_left', Nat.reduceBEq, Nat.reduceAdd, Nat.reduceMul, Nat.reduceSub, Nat.reduceEqDiff, Nat.reduceLT, Nat.reduceLeDiff, Option.map, Option.bind, List.map, List.length, true_implies, true_and, and_true, Bool.and_true, Bool.true_and, Bool.or_false, Bool.false_or, Bool.not_true, Bool.not_false, Bool.and_false, Bool.false_and, List.cons_append, List.nil_append, List.append_nil, mk_eq_bs, tl_bs, List.getElem?_cons_zero, List.getElem?_cons_succ, eq_self, reduceCtorEq, implies_true, false_implies, decide_eq_true_eq, decide_eq_false_iff_not, Bool.and_eq_true, Bool.or_eq_true, Bool.not_eq_true', Bool.and_eq_false_iff, Bool.or_eq_false_iff, Bool.not_eq_false', Option.toList, SV.v.injEq, Value.int.injEq, Value.bool.injEq, Value.string.injEq, Option.getD, List.contains_cons, List.contains_nil, beq_self_eq_true, Nat.max_def, List.set, List.drop, List.take, Int.toNat_natCast, Nat.mul_one, Int.toNat_zero, List.drop_zero, Bx.mk.injEq, Vc.mk.injEq, List.cons.injEq, List.take_length, List.getElem?_nil, List.getD_cons_zero, List.getD_cons_succ, Int.reduceToNat, not_false_eq_true, Nat.le_refl]
      refine ⟨fun h => ⟨hm34, FOut_no hf (fun hc => ?_)⟩, fun h => ⟨hm34, FOut_yes hf ⟨h.1, by omega⟩⟩⟩
      rcases h with h | h
      · exact h hc.1
      · exact h (by omega)
    · have hf : fmtL t = if t.n = 0 ∧ signsL.contains t.s = true then some t.s else none := by unfold fmtL; rw [if_neg k1, if_neg k2, if_neg k3, if_neg k4, if_neg k5, if_pos k6]
      refine WP_draw (.hoist 0 (.hoist 1 (.hoist 2 (.hoist 3 (.hoist 4 (.hoist 5 (.hoist 7 (.hoist 8 (.alt 6 [8, 7, 1, 0] (.alt 9 [1, 0] (.hoist 10 (.hoist 11 (.hoist 12 .done))) .stop) .stop))))))))) pu6 (by kernel_rfl) (by kernel_rfl) ?_
      simp only [go_sem, ↓reduceIte, or_true, or_false, true_or, false_or, Option.some.injEq, exists_eq_left, exists_eq_left', Nat.reduceBEq, Nat.reduceAdd, Nat.reduceMul, Nat.reduceSub, Nat.reduceEqDiff, Nat.reduceLT, Nat.reduceLeDiff, Option.map, Option.bind, List.map, List.length, true_implies, true_and, and_true, Bool.and_true, Bool.true_and, Bool.or_false, Bool.false_or, Bool.not_true, Bool.not_false, Bool.and_false, Bool.false_and, List.cons_append, List.nil_append, List.append_nil, mk_eq_bs, tl_bs, List.getElem?_cons_zero, List.getElem?_cons_succ, eq_self, reduceCtorEq, implies_true, false_implies, decide_eq_true_eq, decide_eq_false_iff_not, Bool.and_eq_true, Bool.or_eq_true, Bool.not_eq_true', Bool.and_eq_false_iff, Bool.or_eq_false_iff, Bool.not_eq_false', Option.toList, SV.v.injEq, Value.int.injEq, Value.bool.injEq, Value.string.injEq, Option.getD, List.contains_cons, List.contains_nil, beq_self_eq_true, Nat.max_def, List.set, List.drop, List.take, Int.toNat_natCast, Nat.mul_one, Int.toNat_zero, List.drop_zero, Bx.mk.injEq, Vc.mk.injEq, List.cons.injEq, List.take_length, List.getElem?_nil, List.getD_cons_zero, List.getD_cons_succ, Int.reduceToNat, not_false_eq_true, Nat.le_refl]
      refine ⟨fun k7 => ⟨by kernel_rfl, FnV_of ((operators_spec m4).mono ?_)⟩, fun k7 => ⟨hm34, FOut_no hf fun h => k7 h.1⟩⟩
      rintro r H' m5 hm5 ⟨rfl, rfl, rfl⟩
      simp only [go_sem, ↓reduceIte, or_true, or_false, true_or, false_or, Option.some.injEq, exists_eq_left, exists_eq_left', Nat.reduceBEq, Nat.reduceAdd, Nat.reduceMul, Nat.reduceSub, Nat.reduceEqDiff, Nat.reduceLT, Nat.reduceLeDiff, Option.map, Option.bind, List.map, List.length, true_implies, true_and, and_true, Bool.and_true, Bool.true_and, Bool.or_false, Bool.false_or, Bool.not_true, Bool.not_false, Bool.and_false, Bool.false_and, List.cons_append, List.nil_append, List.append_nil, mk_eq_bs, tl_bs, List.getElem?_cons_zero, List.getElem?_cons_succ, eq_self, reduceCtorEq, implies_true, false_implies, decide_eq_true_eq, decide_eq_false_iff_not, Bool.and_eq_true, Bool.or_eq_true, Bool.not_eq_true', Bool.and_eq_false_iff, Bool.or_eq_false_iff, Bool.not_eq_false', Option.toList, SV.v.injEq, Value.int.injEq, Value.bool.injEq, Value.string.injEq, Option.getD, List.contains_cons, List.contains_nil, beq_self_eq_true, Nat.max_def, List.set, List.drop, List.take, Int.toNat_natCast, Nat.mul_one, Int.toNat_zero, List.drop_zero, Bx.mk.injEq, Vc.mk.injEq, List.cons.injEq, List.take_length, List.getElem?_nil, List.getD_cons_zero, List.getD_cons_succ, Int.reduceToNat, not_false_eq_true, Nat.le_refl]
      refine ⟨by kernel_rfl, fun ad5 cp5 m6 hm6 hcp6 hrd6 => FnV_of ((contains_spec signsL t.s ad5 30 cp5 m6 hrd6 (by decide)).mono ?_)⟩
      rintro r H' m7 hm7 ⟨rfl, rfl⟩
      have hm37 := Mem.le_trans hm34 (Mem.le_trans hm6 hm7)
      simp only [go_sem, ↓reduceIte, or_true, or_false, true_or, false_or, Option.some.injEq, exists_eq_left, exists_eq_left', Nat.reduceBEq, Nat.reduceAdd, Nat.reduceMul, Nat.reduceSub, Nat.reduceEqDiff, Nat.reduceLT, Nat.reduceLeDiff, Option.map, Option.bind, List.map, List.length, true_implies, true_and, and_true, Bool.and_true, Bool.true_and, Bool.or_false, Bool.false_or, Bool.not_true, Bool.not_false, Bool.and_false, Bool.false_and, List.cons_append, List.nil_append, List.append_nil, mk_eq_bs, tl_bs, List.getElem?_cons_zero, List.getElem?_cons_succ, eq_self, reduceCtorEq, implies_true, false_implies, decide_eq_true_eq, decide_eq_false_iff_not, Bool.and_eq_true, Bool.or_eq_true, Bool.not_eq_true', Bool.and_eq_false_iff, Bool.or_eq_false_iff, Bool.not_eq_false', Option.toList, SV.v.injEq, Value.int.injEq, Value.bool.injEq, Value.string.injEq, Option.getD, List.contains_cons, List.contains_nil, beq_self_eq_true, Nat.max_def, List.set, List.drop, List.take, Int.toNat_natCast, Nat.mul_one, Int.toNat_zero, List.drop_zero, Bx.mk.injEq, Vc.mk.injEq, List.cons.injEq, List.take_length, List.getElem?_nil, List.getD_cons_zero, List.getD_cons_succ, Int.reduceToNat, not_false_eq_true, Nat.le_refl]
      refine ⟨⟨.inr (Mem.le_trans hm6 hm7), .inr (Mem.le_trans hm6 hm7)⟩, fun h => ⟨hm37, FOut_no hf fun hc => ?_⟩, fun h => ⟨hm37, FOut_yes hf ⟨k7, h⟩⟩⟩
      rw [hc.2] at h; cases h
    · have hf : fmtL t = none := by unfold fmtL; rw [if_neg k1, if_neg k2, if_neg k3, if_neg k4, if_neg k5, if_neg k6]
      rw [hf]
      exact ⟨hm34, rfl⟩
end Go.Proofs.YtmkifodpkcmgoaaDoor.E

/- lex, part U: Join. -/
set_option linter.unusedSimpArgs false
set_option linter.unusedVariables false
namespace Go.Proofs.YtmkifodpkcmgoaaDoor.E
open Go

/-- The texts of tokens. -/
def fmtsL : List Tk → Option (List (List UInt8))
  | [] => some []
  | t :: r => match fmtL t with | none => none | some x => match fmtsL r with | none => none | some y => some (x :: y)
def joinL (ts : List Tk) : List UInt8 × Int :=
  if 5000 < ts.length then ([], 5) else
    match fmtsL ts with
    | none => ([], 1)
    | some l => if 20000 < (Lib.join l [32]).length then ([], 8) else (Lib.join l [32], 0)
theorem tk_len (ts : List Tk) : (tkCells ts).length = ts.length * 4 := by
  induction ts with
  | nil => rfl
  | cons t r ih => simp only [tkCells, List.map_cons, List.flatten_cons, List.length_append, List.length_cons, List.length_nil] at ih ⊢; omega
theorem Rds_up {m m' : Mem} {a : Option Addr} {n sz : Nat} {xs : List Value} (hle : m.le m') (h : Rds m a n sz xs) : Rds m' a n sz xs := by
  refine ⟨h.1, fun h0 => ?_⟩
  obtain ⟨ad, rfl, hs, hc⟩ := h.2 h0
  refine ⟨ad, rfl, hs, fun j hj => ?_⟩
  obtain ⟨h1, h2⟩ := hc j hj
  obtain ⟨e1, e2, e3⟩ := add_parts ad j hs
  have hx : xs[j]? = some (xs[j]'(by rw [h.1]; exact hj)) := List.getElem?_eq_getElem _
  exact ⟨(cell_of_le hle e3 (by rw [e1, e2]; exact h2) (h1.trans hx)).trans hx.symm, Nat.lt_of_lt_of_le h2 (hle _).1⟩
theorem Rds_cells {m : Mem} {a : Option Addr} {n sz : Nat} {xs : List Value} (h : Rds m a n sz xs) {i : Nat} (hi : i < n) : Rd m (ptrAt a (i * sz)) ((xs.drop (i * sz)).take sz) ∧ a ≠ none := by
  have hl := h.1
  have hm : (i + 1) * sz ≤ n * sz := Nat.mul_le_mul_right _ hi
  rw [Nat.succ_mul] at hm
  obtain ⟨ad, rfl, hs, hc⟩ := h.2 (by omega)
  refine ⟨?_, by simp⟩
  obtain ⟨e1, e2, e3⟩ := add_parts ad (i * sz) hs
  refine ⟨ad.add (i * sz), rfl, e3, fun j hj => ?_⟩
  rw [List.length_take, List.length_drop] at hj
  obtain ⟨h1, h2⟩ := hc (i * sz + j) (by omega)
  obtain ⟨f1, f2, f3⟩ := add_parts (ad.add (i * sz)) j e3
  obtain ⟨g1, g2, g3⟩ := add_parts ad (i * sz + j) hs
  have hee : (ad.add (i * sz)).add j = ad.add (i * sz + j) := by
    cases hA : (ad.add (i * sz)).add j
    cases hB : ad.add (i * sz + j)
    rw [hA] at f1 f2 f3
    rw [hB] at g1 g2 g3
    simp only at f1 f2 f3 g1 g2 g3
    rw [f1, f2, f3, g1, g2, g3, e1, e2, Nat.add_assoc]
  refine ⟨?_, by rw [e1, e2, Nat.add_assoc]; exact h2⟩
  rw [hee, h1, List.getElem?_take_of_lt (by omega), List.getElem?_drop]
def tkC (t : Tk) : List Value := [Value.int .i64 t.k, .string (bs t.s), .int .i64 t.n, .int .i64 t.at_]
theorem tk_at : ∀ {ts : List Tk} {i : Nat} (hi : i < ts.length), ((tkCells ts).drop (i * 4)).take 4 = tkC ts[i]
  | [], i, hi => by simp at hi
  | t :: r, 0, hi => by simp [tkCells, tkC]
  | t :: r, i + 1, hi => by
    have e : (tkCells (t :: r)).drop ((i + 1) * 4) = (tkCells r).drop (i * 4) := by
      rw [show (i + 1) * 4 = i * 4 + 1 + 1 + 1 + 1 by omega]
      simp [tkCells]
    rw [e, tk_at (by simpa using hi)]
    rfl
theorem fmtL_len {t : Tk} (ht : TkOk t) {x : List UInt8} (h : fmtL t = some x) : x.length ≤ 10000000 := by
  have h1 := ht.1
  have h2 := itoa_len ht.2
  unfold fmtL at h
  split at h
  · split at h
    · cases h
      have := rep_len t.s [47] [58, 58] (by simp) (by omega)
      simp only [List.length_cons, List.length_nil] at this
      omega
    · cases h
  · split at h
    · split at h
      · cases h; omega
      · cases h
    · split at h
      · split at h
        · cases h; omega
        · cases h
      · split at h
        · split at h
          · cases h; simp only [List.length_append, List.length_cons, List.length_nil]; omega
          · cases h
        · split at h
          · split at h
            · cases h
              have := escFlat_len t.s
              simp only [escapedL, List.cons_append, List.length_cons, List.length_append, List.length_nil]; omega
            · cases h
          · split at h
            · split at h
              · cases h; omega
              · cases h
            · cases h
theorem fmtsL_len : ∀ {ts : List Tk} {l : List (List UInt8)}, (∀ t ∈ ts, TkOk t) → fmtsL ts = some l → l.length = ts.length ∧ ∀ x ∈ l, x.length ≤ 10000000
  | [], l, _, h => by cases h; exact ⟨rfl, fun x hx => by cases hx⟩
  | t :: r, l, ht, h => by
    simp only [fmtsL] at h
    cases h1 : fmtL t with
    | none => rw [h1] at h; cases h
    | some x =>
      rw [h1] at h
      cases h2 : fmtsL r with
      | none => rw [h2] at h; cases h
      | some y =>
        rw [h2] at h
        cases h
        obtain ⟨e1, e2⟩ := fmtsL_len (fun t ht' => ht t (List.mem_cons_of_mem _ ht')) h2
        refine ⟨by simp [e1], fun z hz => ?_⟩
        rcases List.mem_cons.1 hz with rfl | hz
        · exact fmtL_len (ht t List.mem_cons_self) h1
        · exact e2 z hz
theorem joinTail_len (sep : List UInt8) (B : Nat) : ∀ (l : List (List UInt8)), (∀ x ∈ l, x.length ≤ B) → (Lib.joinTail sep l).length ≤ l.length * (B + sep.length)
  | [], _ => by simp [Lib.joinTail]
  | x :: r, h => by
    have := joinTail_len sep B r fun y hy => h y (List.mem_cons_of_mem _ hy)
    have h1 := h x List.mem_cons_self
    simp only [Lib.joinTail, List.map_cons, List.flatten_cons, List.length_append, List.length_cons, Nat.succ_mul] at this ⊢
    omega
theorem join_len (sep : List UInt8) (B : Nat) (l : List (List UInt8)) (h : ∀ x ∈ l, x.length ≤ B) : (Lib.join l sep).length ≤ l.length * (B + sep.length) := by
  cases l with
  | nil => simp [Lib.join_nil]
  | cons x r =>
    rw [Lib.join_cons, List.length_append, List.length_cons, Nat.succ_mul]
    have := joinTail_len sep B r fun y hy => h y (List.mem_cons_of_mem _ hy)
    have h1 := h x List.mem_cons_self
    omega
theorem strs_app (a : List (List UInt8)) (x : List UInt8) : strs a ++ [.string (bs x)] = strs (a ++ [x]) := by simp [strs]
def preL (acc : List (List UInt8)) (o : Option (List (List UInt8))) : Option (List (List UInt8)) := o.map (acc ++ ·)
def FOut2 (o : Option (List UInt8)) (x : List UInt8) (e : Int) : Prop := (e = 0 ∧ o = some x) ∨ (e = 1 ∧ x = [] ∧ o = none)
theorem FOut_two {o : Option (List UInt8)} {r : SV} (h : FOut o r) : ∃ x e, r = .tup [.v (.string (bs x)), .v (.int .i64 e)] ∧ FOut2 o x e := by
  cases o with
  | none => exact ⟨[], 1, h, .inr ⟨rfl, rfl, rfl⟩⟩
  | some x => exact ⟨x, 0, h, .inl ⟨rfl, rfl⟩⟩
theorem fmts_no {ts : List Tk} {k : Nat} (h : k < ts.length) (hf : fmtL ts[k] = none) : fmtsL (ts.drop k) = none := by
  rw [List.drop_eq_getElem_cons h]
  simp only [fmtsL, hf]
theorem fmts_yes {ts : List Tk} {k : Nat} (h : k < ts.length) {x : List UInt8} (hf : fmtL ts[k] = some x) : fmtsL (ts.drop k) = (fmtsL (ts.drop (k + 1))).map (x :: ·) := by
  rw [List.drop_eq_getElem_cons h]
  simp only [fmtsL, hf]
  cases fmtsL (ts.drop (k + 1)) <;> rfl
set_option maxHeartbeats 4000000 in
set_option maxRecDepth 20000 in
theorem joinT_spec (ts : List Tk) (a : Option Addr) (n c : Nat) (m : Mem) (hg : Glob m) (h : Rds m a n 4 (tkCells ts)) (ht : ∀ t ∈ ts, TkOk t) (hn : n ≤ 4611686018427387904) :
    FnH Tryd.prog 12 [.v (.slice a n c)] ⟨[], []⟩ m fun r H' m' => leM m m' ∧ H' = ⟨[], []⟩ ∧ r = .tup [.v (.string (bs (joinL ts).1)), .v (.int .i64 (joinL ts).2)] := by
  have hl : ts.length = n := by have := h.1; rw [tk_len] at this; omega
  refine enter cf6 pu6 Tryd.func12 rfl rfl (by kernel_rfl) rfl ?_ ?_
  · simp only [go_sem, ↓reduceIte, or_true, or_false, true_or, false_or, Option.some.injEq, exists_eq_left, exists_eq_left', Nat.reduceBEq, Nat.reduceAdd, Nat.reduceMul, Nat.reduceSub, Nat.reduceEqDiff, Nat.reduceLT, Nat.reduceLeDiff, Option.map, Option.bind, List.map, List.length, true_implies, true_and, and_true, Bool.and_true, Bool.true_and, Bool.or_false, Bool.false_or, Bool.not_true, Bool.not_false, Bool.and_false, Bool.false_and, List.cons_append, List.nil_append, List.append_nil, mk_eq_bs, tl_bs, List.getElem?_cons_zero, List.getElem?_cons_succ, eq_self, reduceCtorEq, implies_true, false_implies, decide_eq_true_eq, decide_eq_false_iff_not, Bool.and_eq_true, Bool.or_eq_true, Bool.not_eq_true', Bool.and_eq_false_iff, Bool.or_eq_false_iff, Bool.not_eq_false', Option.toList, SV.v.injEq, Value.int.injEq, Value.bool.injEq, Value.string.injEq, Option.getD, List.contains_cons, List.contains_nil, beq_self_eq_true, Nat.max_def, List.set, List.drop, List.take, Int.toNat_natCast, Nat.mul_one, Int.toNat_zero, List.drop_zero, Bx.mk.injEq, Vc.mk.injEq, List.cons.injEq, List.take_length, List.getElem?_nil, List.getD_cons_zero, List.getD_cons_succ, Int.reduceToNat, not_false_eq_true, Nat.le_refl]
  · simp only [go_sem, ↓reduceIte, or_true, or_false, true_or, false_or, Option.some.injEq, exists_eq_left, exists_eq_left', Nat.reduceBEq, Nat.reduceAdd, Nat.reduceMul, Nat.reduceSub, Nat.reduceEqDiff, Nat.reduceLT, Nat.reduceLeDiff, Option.map, Option.bind, List.map, List.length, true_implies, true_and, and_true, Bool.and_true, Bool.true_and, Bool.or_false, Bool.false_or, Bool.not_true, Bool.not_false, Bool.and_false, Bool.false_and, List.cons_append, List.nil_append, List.append_nil, mk_eq_bs, tl_bs, List.getElem?_cons_zero, List.getElem?_cons_succ, eq_self, reduceCtorEq, implies_true, false_implies, decide_eq_true_eq, decide_eq_false_iff_not, Bool.and_eq_true, Bool.or_eq_true, Bool.not_eq_true', Bool.and_eq_false_iff, Bool.or_eq_false_iff, Bool.not_eq_false', Option.toList, SV.v.injEq, Value.int.injEq, Value.bool.injEq, Value.string.injEq, Option.getD, List.contains_cons, List.contains_nil, beq_self_eq_true, Nat.max_def, List.set, List.drop, List.take, Int.toNat_natCast, Nat.mul_one, Int.toNat_zero, List.drop_zero, Bx.mk.injEq, Vc.mk.injEq, List.cons.injEq, List.take_length, List.getElem?_nil, List.getD_cons_zero, List.getD_cons_succ, Int.reduceToNat, not_false_eq_true, Nat.le_refl]
    refine ⟨fun hb => ?_, fun hb => ?_⟩
    · have e : joinL ts = ([], 5) := if_pos (by omega)
      rw [e]
    · refine WP_adopt 4 9 1 (by decide) rfl ?_
      have hj : joinL ts = match fmtsL ts with | none => ([], 1) | some l => if 20000 < (Lib.join l [32]).length then ([], 8) else (Lib.join l [32], 0) := if_neg (by omega)
      refine WP_loop pu6 (fun x : Nat × List (List UInt8) × Nat × Mem => ⟨[⟨13, [], .v (.slice a n c)⟩, ⟨14, [], .v (.int .i64 n)⟩, ⟨15, [], .v (.int .i64 x.1)⟩, ⟨4, [], .vec 0 x.2.2.1⟩], [], [], [⟨0, x.2.2.1, 9, 1, x.2.1.length, strs x.2.1⟩], 1, x.2.2.2⟩)
        (fun x => leM m x.2.2.2 ∧ Glob x.2.2.2 ∧ Rds x.2.2.2 a n 4 (tkCells ts) ∧ x.1 ≤ n ∧ x.2.1.length = x.1 ∧ fmtsL ts = preL x.2.1 (fmtsL (ts.drop x.1))) (fun x => n - x.1) (0, [], 0, m) (by kernel_rfl) (fun _ _ => Nat.le_refl _) (fun x hx => hx.1) (fun _ => ?_) ?_ ?_ ?_
      · simp only [go_sem, ↓reduceIte, or_true, or_false, true_or, false_or, Option.some.injEq, exists_eq_left, exists_eq_left', Nat.reduceBEq, Nat.reduceAdd, Nat.reduceMul, Nat.reduceSub, Nat.reduceEqDiff, Nat.reduceLT, Nat.reduceLeDiff, Option.map, Option.bind, List.map, List.length, true_implies, true_and, and_true, Bool.and_true, Bool.true_and, Bool.or_false, Bool.false_or, Bool.not_true, Bool.not_false, Bool.and_false, Bool.false_and, List.cons_append, List.nil_append, List.append_nil, mk_eq_bs, tl_bs, List.getElem?_cons_zero, List.getElem?_cons_succ, eq_self, reduceCtorEq, implies_true, false_implies, decide_eq_true_eq, decide_eq_false_iff_not, Bool.and_eq_true, Bool.or_eq_true, Bool.not_eq_true', Bool.and_eq_false_iff, Bool.or_eq_false_iff, Bool.not_eq_false', Option.toList, SV.v.injEq, Value.int.injEq, Value.bool.injEq, Value.string.injEq, Option.getD, List.contains_cons, List.contains_nil, beq_self_eq_true, Nat.max_def, List.set, List.drop, List.take, Int.toNat_natCast, Nat.mul_one, Int.toNat_zero, List.drop_zero, Bx.mk.injEq, Vc.mk.injEq, List.cons.injEq, List.take_length, List.getElem?_nil, List.getD_cons_zero, List.getD_cons_succ, Int.reduceToNat, not_false_eq_true, Nat.le_refl]
      · simp only [go_sem, ↓reduceIte, or_true, or_false, true_or, false_or, Option.some.injEq, exists_eq_left, exists_eq_left', Nat.reduceBEq, Nat.reduceAdd, Nat.reduceMul, Nat.reduceSub, Nat.reduceEqDiff, Nat.reduceLT, Nat.reduceLeDiff, Option.map, Option.bind, List.map, List.length, true_implies, true_and, and_true, Bool.and_true, Bool.true_and, Bool.or_false, Bool.false_or, Bool.not_true, Bool.not_false, Bool.and_false, Bool.false_and, List.cons_append, List.nil_append, List.append_nil, mk_eq_bs, tl_bs, List.getElem?_cons_zero, List.getElem?_cons_succ, eq_self, reduceCtorEq, implies_true, false_implies, decide_eq_true_eq, decide_eq_false_iff_not, Bool.and_eq_true, Bool.or_eq_true, Bool.not_eq_true', Bool.and_eq_false_iff, Bool.or_eq_false_iff, Bool.not_eq_false', Option.toList, SV.v.injEq, Value.int.injEq, Value.bool.injEq, Value.string.injEq, Option.getD, List.contains_cons, List.contains_nil, beq_self_eq_true, Nat.max_def, List.set, List.drop, List.take, Int.toNat_natCast, Nat.mul_one, Int.toNat_zero, List.drop_zero, Bx.mk.injEq, Vc.mk.injEq, List.cons.injEq, List.take_length, List.getElem?_nil, List.getD_cons_zero, List.getD_cons_succ, Int.reduceToNat, not_false_eq_true, Nat.le_refl]
        exact ⟨rfl, rfl⟩
      · refine ⟨.inl rfl, hg, h, Nat.zero_le _, rfl, ?_⟩
        simp [preL]
      · rintro ⟨k, acc, u, mm⟩ ⟨h1, h2, h3, h4, h5, h6⟩
        simp only at h1 h2 h3 h4 h5 h6
        have hr : ∀ (hkl : k < ts.length), Rd mm (ptrAt a (k * 4)) (tkC ts[k]) ∧ a ≠ none := fun hkl => by
          have := Rds_cells h3 (i := k) (by omega)
          rwa [tk_at hkl] at this
        have hfs : ∀ (hkl : k < ts.length), _ := fun hkl => (format_spec ts[k] mm h2 (ht _ (List.getElem_mem hkl))).mono fun r H' m' _ h => And.intro h.1 (And.intro h.2.1 (FOut_two h.2.2))
        have hjs := fun hkl : k = n => show fmtsL ts = some acc by rw [h6, List.drop_eq_nil_of_le (by omega)]; simp [fmtsL, preL]
        simp only [go_sem, ↓reduceIte, or_true, or_false, true_or, false_or, Option.some.injEq, exists_eq_left, exists_eq_left', Nat.reduceBEq, Nat.reduceAdd, Nat.reduceMul, Nat.reduceSub, Nat.reduceEqDiff, Nat.reduceLT, Nat.reduceLeDiff, Option.map, Option.bind, List.map, List.length, true_implies, true_and, and_true, Bool.and_true, Bool.true_and, Bool.or_false, Bool.false_or, Bool.not_true, Bool.not_false, Bool.and_false, Bool.false_and, List.cons_append, List.nil_append, List.append_nil, mk_eq_bs, tl_bs, List.getElem?_cons_zero, List.getElem?_cons_succ, eq_self, reduceCtorEq, implies_true, false_implies, decide_eq_true_eq, decide_eq_false_iff_not, Bool.and_eq_true, Bool.or_eq_true, Bool.not_eq_true', Bool.and_eq_false_iff, Bool.or_eq_false_iff, Bool.not_eq_false', Option.toList, SV.v.injEq, Value.int.injEq, Value.bool.injEq, Value.string.injEq, Option.getD, List.contains_cons, List.contains_nil, beq_self_eq_true, Nat.max_def, List.set, List.drop, List.take, Int.toNat_natCast, Nat.mul_one, Int.toNat_zero, List.drop_zero, Bx.mk.injEq, Vc.mk.injEq, List.cons.injEq, List.take_length, List.getElem?_nil, List.getD_cons_zero, List.getD_cons_succ, Int.reduceToNat, not_false_eq_true, Nat.le_refl]
        refine ⟨fun hlt => ?_, fun hge => ?_⟩
        · have hkl : k < ts.length := by clear hr hfs; omega
          refine ⟨⟨by clear hr hfs; omega, hlt, (hr hkl).2⟩, tkC ts[k], ⟨(hr hkl).1, rfl⟩, ?_⟩
          simp only [go_sem, ↓reduceIte, or_true, or_false, true_or, false_or, Option.some.injEq, exists_eq_left, exists_eq_left', Nat.reduceBEq, Nat.reduceAdd, Nat.reduceMul, Nat.reduceSub, Nat.reduceEqDiff, Nat.reduceLT, Nat.reduceLeDiff, Option.map, Option.bind, List.map, List.length, true_implies, true_and, and_true, Bool.and_true, Bool.true_and, Bool.or_false, Bool.false_or, Bool.not_true, Bool.not_false, Bool.and_false, Bool.false_and, List.cons_append, List.nil_append, List.append_nil, mk_eq_bs, tl_bs, List.getElem?_cons_zero, List.getElem?_cons_succ, eq_self, reduceCtorEq, implies_true, false_implies, decide_eq_true_eq, decide_eq_false_iff_not, Bool.and_eq_true, Bool.or_eq_true, Bool.not_eq_true', Bool.and_eq_false_iff, Bool.or_eq_false_iff, Bool.not_eq_false', Option.toList, SV.v.injEq, Value.int.injEq, Value.bool.injEq, Value.string.injEq, Option.getD, List.contains_cons, List.contains_nil, beq_self_eq_true, Nat.max_def, List.set, List.drop, List.take, Int.toNat_natCast, Nat.mul_one, Int.toNat_zero, List.drop_zero, Bx.mk.injEq, Vc.mk.injEq, List.cons.injEq, List.take_length, List.getElem?_nil, List.getD_cons_zero, List.getD_cons_succ, Int.reduceToNat, not_false_eq_true, Nat.le_refl, tkC]
          refine ⟨by kernel_rfl, FnV_of ((hfs hkl).mono ?_)⟩
          clear hfs
          rintro r H' m' hm ⟨hle, rfl, x, e, rfl, hx⟩
          simp only [go_sem, ↓reduceIte, or_true, or_false, true_or, false_or, Option.some.injEq, exists_eq_left, exists_eq_left', Nat.reduceBEq, Nat.reduceAdd, Nat.reduceMul, Nat.reduceSub, Nat.reduceEqDiff, Nat.reduceLT, Nat.reduceLeDiff, Option.map, Option.bind, List.map, List.length, true_implies, true_and, and_true, Bool.and_true, Bool.true_and, Bool.or_false, Bool.false_or, Bool.not_true, Bool.not_false, Bool.and_false, Bool.false_and, List.cons_append, List.nil_append, List.append_nil, mk_eq_bs, tl_bs, List.getElem?_cons_zero, List.getElem?_cons_succ, eq_self, reduceCtorEq, implies_true, false_implies, decide_eq_true_eq, decide_eq_false_iff_not, Bool.and_eq_true, Bool.or_eq_true, Bool.not_eq_true', Bool.and_eq_false_iff, Bool.or_eq_false_iff, Bool.not_eq_false', Option.toList, SV.v.injEq, Value.int.injEq, Value.bool.injEq, Value.string.injEq, Option.getD, List.contains_cons, List.contains_nil, beq_self_eq_true, Nat.max_def, List.set, List.drop, List.take, Int.toNat_natCast, Nat.mul_one, Int.toNat_zero, List.drop_zero, Bx.mk.injEq, Vc.mk.injEq, List.cons.injEq, List.take_length, List.getElem?_nil, List.getD_cons_zero, List.getD_cons_succ, Int.reduceToNat, not_false_eq_true, Nat.le_refl]
          have hm' : leM m m' := leM_trans h1 hle
          refine ⟨fun he => ⟨hm', ?_⟩, fun he => ⟨⟨by clear hm'; omega, by simp only [maxLen]; omega⟩, by unfold I64; omega, (k + 1, acc ++ [x], u + 1, m'), ⟨⟨by simp, rfl⟩, ⟨rfl, by simp, strs_app acc x⟩, .inl rfl⟩, ⟨hm', h2.up hle, Rds_up hle h3, by simp only; omega, by simp only [List.length_append, List.length_singleton]; omega, ?_⟩, by simp only; omega⟩⟩
          · rcases hx with ⟨h7, _⟩ | ⟨rfl, rfl, h8⟩
            · exact absurd h7 he
            · rw [hj, h6, fmts_no hkl h8]
              rfl
          · rcases hx with ⟨_, h8⟩ | ⟨h7, _⟩
            · show fmtsL ts = preL (acc ++ [x]) (fmtsL (ts.drop (k + 1)))
              rw [h6, fmts_yes hkl h8]
              cases fmtsL (ts.drop (k + 1)) <;> simp [preL]
            · rw [he] at h7; cases h7
        · have hacc : fmtsL ts = some acc := hjs (by clear hfs; omega)
          refine ⟨by kernel_rfl, fun a2 c2 m1 hm1 hc2 hrd => FnV_of ((join_spec acc [32] a2 acc.length c2 m1 hrd hc2 (by clear hfs; omega) ?_).mono ?_)⟩
          · have := join_len [32] 10000000 acc (fmtsL_len ht hacc).2
            simp only [List.length_singleton] at this
            clear hfs
            omega
          · rintro r H' m' hm ⟨rfl, rfl, rfl⟩
            simp only [go_sem, ↓reduceIte, or_true, or_false, true_or, false_or, Option.some.injEq, exists_eq_left, exists_eq_left', Nat.reduceBEq, Nat.reduceAdd, Nat.reduceMul, Nat.reduceSub, Nat.reduceEqDiff, Nat.reduceLT, Nat.reduceLeDiff, Option.map, Option.bind, List.map, List.length, true_implies, true_and, and_true, Bool.and_true, Bool.true_and, Bool.or_false, Bool.false_or, Bool.not_true, Bool.not_false, Bool.and_false, Bool.false_and, List.cons_append, List.nil_append, List.append_nil, mk_eq_bs, tl_bs, List.getElem?_cons_zero, List.getElem?_cons_succ, eq_self, reduceCtorEq, implies_true, false_implies, decide_eq_true_eq, decide_eq_false_iff_not, Bool.and_eq_true, Bool.or_eq_true, Bool.not_eq_true', Bool.and_eq_false_iff, Bool.or_eq_false_iff, Bool.not_eq_false', Option.toList, SV.v.injEq, Value.int.injEq, Value.bool.injEq, Value.string.injEq, Option.getD, List.contains_cons, List.contains_nil, beq_self_eq_true, Nat.max_def, List.set, List.drop, List.take, Int.toNat_natCast, Nat.mul_one, Int.toNat_zero, List.drop_zero, Bx.mk.injEq, Vc.mk.injEq, List.cons.injEq, List.take_length, List.getElem?_nil, List.getD_cons_zero, List.getD_cons_succ, Int.reduceToNat, not_false_eq_true, Nat.le_refl]
            have hm' : leM m m' := leM_trans h1 hm1
            refine ⟨fun hx => ⟨hm', ?_⟩, fun hx => ⟨hm', ?_⟩⟩
            · rw [hj, hacc]
              simp only [if_pos (show 20000 < (Lib.join acc [32]).length by clear hfs; omega)]
            · rw [hj, hacc]
              simp only [if_neg (show ¬ 20000 < (Lib.join acc [32]).length by clear hfs; omega)]
end Go.Proofs.YtmkifodpkcmgoaaDoor.E

/- lex, part V: equal tokens. -/
set_option linter.unusedSimpArgs false
set_option linter.unusedVariables false
namespace Go.Proofs.YtmkifodpkcmgoaaDoor.E
open Go

theorem fit_int {k : IntKind} {n : Int} {x : Value} (h : fitC (.v (.int k n)) (.v x) = true) : ∃ a, x = .int k a := by
  cases x <;> simp only [fitC] at h
  case int k' a => exact ⟨a, by have := of_decide_eq_true h; subst this; rfl⟩
  all_goals cases h
theorem fit_str {s : ByteArray} {x : Value} (h : fitC (.v (.string s)) (.v x) = true) : ∃ a, x = .string a := by
  cases x <;> simp only [fitC] at h
  case string a => exact ⟨a, rfl⟩
  all_goals cases h
theorem eq_int {k : IntKind} {a : Int} {y : Value} {e : Bool} (h : cellEq (.v (.int k a)) (.v y) = some e) : ∃ b, y = .int k b ∧ e = decide (a = b) := by
  cases y <;> simp only [cellEq] at h
  case int k' b =>
    split at h
    · rename_i hk; subst hk; exact ⟨b, rfl, (Option.some.inj h).symm⟩
    · cases h
  all_goals cases h
theorem eq_str {a : ByteArray} {y : Value} {e : Bool} (h : cellEq (.v (.string a)) (.v y) = some e) : ∃ b, y = .string b ∧ e = decide (tl a = tl b) := by
  cases y <;> simp only [cellEq] at h
  case string b => exact ⟨b, rfl, (Option.some.inj h).symm⟩
  all_goals cases h
theorem fitL_cons {z : SV} {zs : List SV} {xs : List Value} (h : fitL (z :: zs) (xs.map .v) = true) : ∃ x r, xs = x :: r ∧ fitC z (.v x) = true ∧ fitL zs (r.map .v) = true := by
  cases xs with
  | nil => simp [fitL] at h
  | cons x r => simp only [List.map_cons, fitL, Bool.and_eq_true] at h; exact ⟨x, r, rfl, h.1, h.2⟩
theorem fitL_nil {xs : List Value} (h : fitL [] (xs.map .v) = true) : xs = [] := by
  cases xs with
  | nil => rfl
  | cons x r => simp [fitL] at h
theorem cells_cons {x : Value} {xs ys : List Value} {b : Bool} (h : cellsEq ((x :: xs).map .v) (ys.map .v) = some b) : ∃ y r e e', ys = y :: r ∧ cellEq (.v x) (.v y) = some e ∧ cellsEq (xs.map .v) (r.map .v) = some e' ∧ b = (e && e') := by
  cases ys with
  | nil => simp [cellsEq] at h
  | cons y r =>
    simp only [List.map_cons, cellsEq, Option.bind_eq_some_iff, Option.map_eq_some_iff] at h
    obtain ⟨e, he, e', he', rfl⟩ := h
    exact ⟨y, r, e, e', rfl, he, he', rfl⟩
theorem cells_nil {ys : List Value} {b : Bool} (h : cellsEq [] (ys.map .v) = some b) : ys = [] ∧ b = true := by
  cases ys with
  | nil => simp only [List.map_nil, cellsEq, Option.some.injEq] at h; exact ⟨rfl, h.symm⟩
  | cons y r => simp [cellsEq] at h
/-- The fields are plain cells, one behind the other. -/
def kindOk (P : Program) (t : TypeId) : SV → Bool
  | .v (.int _ _) => match P.underlying t with | some (.int _) => true | _ => false
  | .v (.string _) => match P.underlying t with | some .string => true | _ => false
  | .v (.bool _) => match P.underlying t with | some .bool => true | _ => false
  | _ => false
def eqFs (P : Program) : Nat → List SV → List Field → Bool
  | _, [], [] => true
  | off, z :: zs, f :: fs => f.name != "_" && decide (f.offset = off) && decide (aggN P f.type = some none) && kindOk P f.type z && eqFs P (off + 1) zs fs
  | _, _, _ => false
theorem run_eqCell {P : Program} {t : TypeId} {z : SV} {x y : Value} {e : Bool} {w : World} (d : Nat) (hk : kindOk P t z = true) (hf : fitC z (.v x) = true) (he : cellEq (.v x) (.v y) = some e) :
    (Op.equalIn (d + 1) t x y).run P w = .ok e w := by
  cases z with
  | v z =>
    cases z with
    | int k n =>
      obtain ⟨a, rfl⟩ := fit_int hf
      obtain ⟨b, rfl, rfl⟩ := eq_int he
      simp only [kindOk] at hk
      split at hk
      · rename_i k' hu
        rw [run_equalIn_int w d t k k' a b hu, Bool.beq_eq_decide_eq]
      · cases hk
    | string n =>
      obtain ⟨a, rfl⟩ := fit_str hf
      obtain ⟨b, rfl, rfl⟩ := eq_str he
      simp only [kindOk] at hk
      split at hk
      · rename_i hu
        rw [run_equalIn_string w d t a b hu, toList_tl, toList_tl, Bool.beq_eq_decide_eq]
      · cases hk
    | bool n =>
      cases x <;> simp only [fitC] at hf
      case bool a =>
        cases y <;> simp only [cellEq] at he
        case bool b =>
          cases he
          simp only [kindOk] at hk
          split at hk
          · rename_i hu
            rw [run_equalIn_bool' w d t a b hu]
          · cases hk
        all_goals cases he
      all_goals cases hf
    | _ => cases hk
  | _ => cases hk
theorem run_eqFs {P : Program} {d : Nat} {w : World} {cs ds : List Value} : ∀ {fs : List Field} {zs : List SV} {off : Nat} {us vs : List Value} {b : Bool},
    eqFs P off zs fs = true → fitL zs (us.map .v) = true → cellsEq (us.map .v) (vs.map .v) = some b → cs.drop off = us → ds.drop off = vs → (Op.eqFields (d + 1) ⟨cs⟩ ⟨ds⟩ fs).run P w = .ok b w
  | [], zs, off, us, vs, b, h, hf, he, hu, hv => by
    cases zs with
    | nil =>
      cases fitL_nil hf
      rw [List.map_nil] at he
      obtain ⟨_, rfl⟩ := cells_nil he
      rfl
    | cons z zs => cases h
  | f :: fs, zs, off, us, vs, b, h, hf, he, hu, hv => by
    cases zs with
    | nil => cases h
    | cons z zs =>
      simp only [eqFs, Bool.and_eq_true, decide_eq_true_eq, bne_iff_ne] at h
      obtain ⟨⟨⟨⟨h1, h2⟩, h3⟩, h4⟩, h5⟩ := h
      obtain ⟨x, us', rfl, g1, g2⟩ := fitL_cons hf
      obtain ⟨y, vs', e, e', rfl, g3, g4, rfl⟩ := cells_cons he
      have hx : cs[off]? = some x := by
        have := congrArg (fun l : List Value => l[0]?) hu
        simpa using this
      have hy : ds[off]? = some y := by
        have := congrArg (fun l : List Value => l[0]?) hv
        simpa using this
      have hu' : cs.drop (off + 1) = us' := by
        have := congrArg (List.drop 1) hu
        rw [List.drop_drop] at this
        simpa [Nat.add_comm] using this
      have hv' : ds.drop (off + 1) = vs' := by
        have := congrArg (List.drop 1) hv
        rw [List.drop_drop] at this
        simpa [Nat.add_comm] using this
      subst h2
      simp only [Op.eqFields, if_pos h1, Sem.run_bind, run_part h3 (show _ from hx), run_part h3 (show _ from hy), Result.andThen_ok, run_eqCell d h4 g1 g3]
      cases e with
      | false => simp
      | true =>
        simp only [Bool.not_true, Bool.false_eq_true, if_false, Bool.true_and]
        exact run_eqFs h5 g2 g4 hu' hv'
theorem eqOk_of {P : Program} {t : TypeId} {zs : List SV} {fs : List Field} (hz : zeroO P t = some zs) (hg : P.eqGuardType P.depth t = false) (hu : P.underlying t = some (.struct (P.fieldsOf t))) (hp : P.stoodInHeld t = false)
    (hfs : (P.fieldsOf t).toList = fs) (h : eqFs P 0 zs fs = true) : EqOk P t := by
  intro xs ys b w o o' op he hf
  rw [hz] at hf
  refine ⟨run_eqGuard_agg w op t o o' _ _ hg, ?_⟩
  show (Op.equalIn (9999 + 1) t _ _).run _ w = _
  rw [run_equalIn_struct w 9999 t _ _ hu hp, hfs]
  exact run_eqFs (d := 9998) h hf he rfl rfl
theorem eqOk27 : EqOk Tryd.prog 27 := eqOk_of zero27 (by kernel_rfl) (by kernel_rfl) (by kernel_rfl) rfl (by kernel_rfl)
end Go.Proofs.YtmkifodpkcmgoaaDoor.E

/- lex, part W: the worked example. -/
set_option linter.unusedSimpArgs false
set_option linter.unusedVariables false
namespace Go.Proofs.YtmkifodpkcmgoaaDoor.E
open Go

def ex1 : List UInt8 := [108, 97, 110, 103, 58, 58, 67, 111, 110, 115, 111, 108, 101, 32, 46, 32, 115, 97, 121, 32, 40, 32, 49, 76, 32, 41, 32, 47, 47, 32, 120]
def ex2 : List UInt8 := [97, 32, 48, 49]
def exT : List Tk := [⟨1, [108, 97, 110, 103, 47, 67, 111, 110, 115, 111, 108, 101], 0, 0⟩, ⟨6, [46], 0, 14⟩, ⟨1, [115, 97, 121], 0, 16⟩, ⟨6, [40], 0, 20⟩, ⟨4, [], 1, 22⟩, ⟨6, [41], 0, 25⟩]
theorem ex1_tok : tokenizeL ex1 = (exT, 0, 0) := by kernel_rfl
theorem ex2_tok : tokenizeL ex2 = ([], 2, 70) := by kernel_rfl
theorem exT_join : joinL exT = (ex1.take 26, 0) := by kernel_rfl
theorem ROut_ok {ts : List Tk} {q : Int} {r : SV} {H' : Hp} (h : ROut (ts, q, 0) r H') : ∃ k u, r = .tup [.vec k u, .v (.int .i64 q), .v (.int .i64 0)] ∧ H' = ⟨[], [⟨k, u, 27, 4, ts.length, tkCells ts⟩]⟩ := by
  rcases h with ⟨_, h⟩ | ⟨h, _⟩
  · exact h
  · exact absurd rfl h
theorem ROut_err {ts : List Tk} {q e : Int} {r : SV} {H' : Hp} (he : e ≠ 0) (h : ROut (ts, q, e) r H') : r = .tup [.v (.slice none 0 0), .v (.int .i64 q), .v (.int .i64 e)] ∧ H' = ⟨[], []⟩ := by
  rcases h with ⟨h, _⟩ | ⟨_, _, h⟩
  · exact absurd h he
  · exact h
theorem exC : tkCells exT = [.int .i64 1, .string (bs [108, 97, 110, 103, 47, 67, 111, 110, 115, 111, 108, 101]), .int .i64 0, .int .i64 0, .int .i64 6, .string (bs [46]), .int .i64 0, .int .i64 14, .int .i64 1, .string (bs [115, 97, 121]), .int .i64 0, .int .i64 16,
    .int .i64 6, .string (bs [40]), .int .i64 0, .int .i64 20, .int .i64 4, .string (bs []), .int .i64 1, .int .i64 22, .int .i64 6, .string (bs [41]), .int .i64 0, .int .i64 25] := rfl
theorem ex1_spec (m : Mem) (hg : Glob m) : FnH Tryd.prog 8 [.v (.string (bs ex1))] ⟨[], []⟩ m fun r H' m' => leM m m' ∧ ∃ k u, r = .tup [.vec k u, .v (.int .i64 0), .v (.int .i64 0)] ∧ H' = ⟨[], [⟨k, u, 27, 4, 6, tkCells exT⟩]⟩ :=
  (tokenize_spec ex1 m hg (by decide)).mono fun r H' m' _ h => ⟨h.1, by have := h.2; rw [ex1_tok] at this; exact ROut_ok this⟩
theorem ex2_spec (m : Mem) (hg : Glob m) : FnH Tryd.prog 8 [.v (.string (bs ex2))] ⟨[], []⟩ m fun r H' m' => leM m m' ∧ r = .tup [.v (.slice none 0 0), .v (.int .i64 2), .v (.int .i64 70)] ∧ H' = ⟨[], []⟩ :=
  (tokenize_spec ex2 m hg (by decide)).mono fun r H' m' _ h => ⟨h.1, by have := h.2; rw [ex2_tok] at this; exact ROut_err (by decide) this⟩
theorem exJ_spec (a : Option Addr) (c : Nat) (m : Mem) (hg : Glob m) (h : Rds m a 6 4 (tkCells exT)) : FnH Tryd.prog 12 [.v (.slice a 6 c)] ⟨[], []⟩ m fun r H' m' => leM m m' ∧ H' = ⟨[], []⟩ ∧ r = .tup [.v (.string (bs (ex1.take 26))), .v (.int .i64 0)] :=
  (joinT_spec exT a 6 c m hg h (by intro t ht; simp only [exT, List.mem_cons, List.not_mem_nil, or_false] at ht; rcases ht with rfl | rfl | rfl | rfl | rfl | rfl <;> exact ⟨by decide, by unfold I64; decide⟩) (by decide)).mono fun r H' m' _ h => by
    rw [exT_join] at h; exact h
set_option maxHeartbeats 4000000 in
set_option maxRecDepth 20000 in
theorem awake_spec (m : Mem) (hg : Glob m) : FnH Tryd.prog 10 [] ⟨[], []⟩ m fun r H' m' => r = .v (.bool true) ∧ H' = ⟨[], []⟩ := by
  refine enter cf6 pu6 Tryd.func10 rfl rfl (by kernel_rfl) rfl ?_ ?_
  · simp only [go_sem, ↓reduceIte, or_true, or_false, true_or, false_or, Option.some.injEq, exists_eq_left, exists_eq_left', Nat.reduceBEq, Nat.reduceAdd, Nat.reduceMul, Nat.reduceSub, Nat.reduceEqDiff, Nat.reduceLT, Nat.reduceLeDiff, Option.map, Option.bind, List.map, List.length, true_implies, true_and, and_true, Bool.and_true, Bool.true_and, Bool.or_false, Bool.false_or, Bool.not_true, Bool.not_false, Bool.and_false, Bool.false_and, List.cons_append, List.nil_append, List.append_nil, mk_eq_bs, tl_bs, List.getElem?_cons_zero, List.getElem?_cons_succ, eq_self, reduceCtorEq, implies_true, false_implies, decide_eq_true_eq, decide_eq_false_iff_not, Bool.and_eq_true, Bool.or_eq_true, Bool.not_eq_true', Bool.and_eq_false_iff, Bool.or_eq_false_iff, Bool.not_eq_false', Option.toList, SV.v.injEq, Value.int.injEq, Value.bool.injEq, Value.string.injEq, Option.getD, List.contains_cons, List.contains_nil, beq_self_eq_true, Nat.max_def, List.set, List.drop, List.take, Int.toNat_natCast, Nat.mul_one, Int.toNat_zero, List.drop_zero, Bx.mk.injEq, Vc.mk.injEq, List.cons.injEq, List.take_length, List.getElem?_nil, List.getD_cons_zero, List.getD_cons_succ, Int.reduceToNat, not_false_eq_true, Nat.le_refl]
  · simp only [go_sem, ↓reduceIte, or_true, or_false, true_or, false_or, Option.some.injEq, exists_eq_left, exists_eq_left', Nat.reduceBEq, Nat.reduceAdd, Nat.reduceMul, Nat.reduceSub, Nat.reduceEqDiff, Nat.reduceLT, Nat.reduceLeDiff, Option.map, Option.bind, List.map, List.length, true_implies, true_and, and_true, Bool.and_true, Bool.true_and, Bool.or_false, Bool.false_or, Bool.not_true, Bool.not_false, Bool.and_false, Bool.false_and, List.cons_append, List.nil_append, List.append_nil, mk_eq_bs, tl_bs, List.getElem?_cons_zero, List.getElem?_cons_succ, eq_self, reduceCtorEq, implies_true, false_implies, decide_eq_true_eq, decide_eq_false_iff_not, Bool.and_eq_true, Bool.or_eq_true, Bool.not_eq_true', Bool.and_eq_false_iff, Bool.or_eq_false_iff, Bool.not_eq_false', Option.toList, SV.v.injEq, Value.int.injEq, Value.bool.injEq, Value.string.injEq, Option.getD, List.contains_cons, List.contains_nil, beq_self_eq_true, Nat.max_def, List.set, List.drop, List.take, Int.toNat_natCast, Nat.mul_one, Int.toNat_zero, List.drop_zero, Bx.mk.injEq, Vc.mk.injEq, List.cons.injEq, List.take_length, List.getElem?_nil, List.getD_cons_zero, List.getD_cons_succ, Int.reduceToNat, not_false_eq_true, Nat.le_refl]
    refine ⟨by kernel_rfl, FnV_of ((ex1_spec m hg).mono ?_)⟩
    rintro r H' m1 hm1 ⟨hle1, k, u, rfl, rfl⟩
    simp only [go_sem, ↓reduceIte, or_true, or_false, true_or, false_or, Option.some.injEq, exists_eq_left, exists_eq_left', Nat.reduceBEq, Nat.reduceAdd, Nat.reduceMul, Nat.reduceSub, Nat.reduceEqDiff, Nat.reduceLT, Nat.reduceLeDiff, Option.map, Option.bind, List.map, List.length, true_implies, true_and, and_true, Bool.and_true, Bool.true_and, Bool.or_false, Bool.false_or, Bool.not_true, Bool.not_false, Bool.and_false, Bool.false_and, List.cons_append, List.nil_append, List.append_nil, mk_eq_bs, tl_bs, List.getElem?_cons_zero, List.getElem?_cons_succ, eq_self, reduceCtorEq, implies_true, false_implies, decide_eq_true_eq, decide_eq_false_iff_not, Bool.and_eq_true, Bool.or_eq_true, Bool.not_eq_true', Bool.and_eq_false_iff, Bool.or_eq_false_iff, Bool.not_eq_false', Option.toList, SV.v.injEq, Value.int.injEq, Value.bool.injEq, Value.string.injEq, Option.getD, List.contains_cons, List.contains_nil, beq_self_eq_true, Nat.max_def, List.set, List.drop, List.take, Int.toNat_natCast, Nat.mul_one, Int.toNat_zero, List.drop_zero, Bx.mk.injEq, Vc.mk.injEq, List.cons.injEq, List.take_length, List.getElem?_nil, List.getD_cons_zero, List.getD_cons_succ, Int.reduceToNat, not_false_eq_true, Nat.le_refl]
    have hk : (if k < 0 then False else True) := by simp
    have hk1 : 0 + k < 0 + (k + 1) := by omega
    refine ⟨⟨hk, hk, hk1⟩, hk1, hk1, hk1, hk1, hk1, fun h => ?_, fun _ => ⟨hk1, by kernel_rfl, fun a c m2 hm2 hc hrd => FnV_of ((exJ_spec a c m2 ((hg.up hm1).up hm2) hrd).mono ?_)⟩⟩
    · simp at h
    · rintro r H' m3 hm3 ⟨hle3, rfl, rfl⟩
      simp only [go_sem, ↓reduceIte, or_true, or_false, true_or, false_or, Option.some.injEq, exists_eq_left, exists_eq_left', Nat.reduceBEq, Nat.reduceAdd, Nat.reduceMul, Nat.reduceSub, Nat.reduceEqDiff, Nat.reduceLT, Nat.reduceLeDiff, Option.map, Option.bind, List.map, List.length, true_implies, true_and, and_true, Bool.and_true, Bool.true_and, Bool.or_false, Bool.false_or, Bool.not_true, Bool.not_false, Bool.and_false, Bool.false_and, List.cons_append, List.nil_append, List.append_nil, mk_eq_bs, tl_bs, List.getElem?_cons_zero, List.getElem?_cons_succ, eq_self, reduceCtorEq, implies_true, false_implies, decide_eq_true_eq, decide_eq_false_iff_not, Bool.and_eq_true, Bool.or_eq_true, Bool.not_eq_true', Bool.and_eq_false_iff, Bool.or_eq_false_iff, Bool.not_eq_false', Option.toList, SV.v.injEq, Value.int.injEq, Value.bool.injEq, Value.string.injEq, Option.getD, List.contains_cons, List.contains_nil, beq_self_eq_true, Nat.max_def, List.set, List.drop, List.take, Int.toNat_natCast, Nat.mul_one, Int.toNat_zero, List.drop_zero, Bx.mk.injEq, Vc.mk.injEq, List.cons.injEq, List.take_length, List.getElem?_nil, List.getD_cons_zero, List.getD_cons_succ, Int.reduceToNat, not_false_eq_true, Nat.le_refl]
      refine ⟨by kernel_rfl, FnV_of ((ex2_spec m3 (((hg.up hm1).up hm2).up hm3)).mono ?_)⟩
      rintro r H' m4 hm4 ⟨hle4, rfl, rfl⟩
      have hrd4 := Rds_up (Mem.le_trans hm3 hm4) hrd
      simp only [go_sem, ↓reduceIte, or_true, or_false, true_or, false_or, Option.some.injEq, exists_eq_left, exists_eq_left', Nat.reduceBEq, Nat.reduceAdd, Nat.reduceMul, Nat.reduceSub, Nat.reduceEqDiff, Nat.reduceLT, Nat.reduceLeDiff, Option.map, Option.bind, List.map, List.length, true_implies, true_and, and_true, Bool.and_true, Bool.true_and, Bool.or_false, Bool.false_or, Bool.not_true, Bool.not_false, Bool.and_false, Bool.false_and, List.cons_append, List.nil_append, List.append_nil, mk_eq_bs, tl_bs, List.getElem?_cons_zero, List.getElem?_cons_succ, eq_self, reduceCtorEq, implies_true, false_implies, decide_eq_true_eq, decide_eq_false_iff_not, Bool.and_eq_true, Bool.or_eq_true, Bool.not_eq_true', Bool.and_eq_false_iff, Bool.or_eq_false_iff, Bool.not_eq_false', Option.toList, SV.v.injEq, Value.int.injEq, Value.bool.injEq, Value.string.injEq, Option.getD, List.contains_cons, List.contains_nil, beq_self_eq_true, Nat.max_def, List.set, List.drop, List.take, Int.toNat_natCast, Nat.mul_one, Int.toNat_zero, List.drop_zero, Bx.mk.injEq, Vc.mk.injEq, List.cons.injEq, List.take_length, List.getElem?_nil, List.getD_cons_zero, List.getD_cons_succ, Int.reduceToNat, not_false_eq_true, Nat.le_refl, eqOk27, exC]
      have h2 : 0 + k < 0 + (k + 1) + 0 + 0 := by omega
      exact ⟨h2, ⟨by decide, by decide⟩, h2, h2, ⟨by decide, by decide⟩, h2, h2, ⟨by decide, by decide⟩, h2, h2, ⟨by decide, by decide⟩, h2, h2, rfl⟩
end Go.Proofs.YtmkifodpkcmgoaaDoor.E

/- lex, part X: the statement on the reference's Tokenize. -/
set_option linter.unusedSimpArgs false
set_option linter.unusedVariables false
namespace Go.Proofs.YtmkifodpkcmgoaaDoor.E
open Go

theorem lexF_few (s : List UInt8) : ∀ (f p : Nat) (acc : List Tk), acc.length ≤ 5000 → (lexF s f p acc).1.length ≤ 5000
  | 0, p, acc, h => h
  | f + 1, p, acc, h => by
    simp only [lexF]
    split
    · exact h
    · split
      · exact Nat.zero_le _
      · split
        · exact Nat.zero_le _
        · exact lexF_few s f _ _ (by rw [List.length_append, List.length_singleton]; omega)
theorem tok_few (s : List UInt8) : (tokenizeL s).1.length ≤ 5000 := by
  unfold tokenizeL
  split
  · exact Nat.zero_le _
  · exact lexF_few s _ _ _ (Nat.zero_le _)
set_option maxHeartbeats 4000000 in
set_option maxRecDepth 20000 in
theorem law3_spec (s : List UInt8) (m : Mem) (hg : Glob m) (hs : s.length ≤ 4611686018427387904) : FnH Tryd.prog 3 [.v (.string (bs s))] ⟨[], []⟩ m fun r H' m' => r = .v (.bool true) ∧ H' = ⟨[], []⟩ := by
  have hn := tok_few s
  rcases hx : tokenizeL s with ⟨ts, q, e⟩
  rw [hx] at hn
  simp only at hn
  have h8 : ∀ m, Glob m → FnH Tryd.prog 8 [.v (.string (bs s))] ⟨[], []⟩ m fun r H' m' => leM m m' ∧ ROut (ts, q, e) r H' := fun m hg => (tokenize_spec s m hg hs).mono fun r H' m' _ h => by rwa [hx] at h
  have h9 : ∀ m, FnH Tryd.prog 9 [.v (.string (bs s))] ⟨[], []⟩ m fun r H' m' => leM m m' ∧ ROut (ts, q, e) r H' := fun m => (rtokenize_spec s m hs).mono fun r H' m' _ h => by rwa [hx] at h
  clear hx
  by_cases he : e = 0
  · subst he
    have h8' : ∀ m, Glob m → FnH Tryd.prog 8 [.v (.string (bs s))] ⟨[], []⟩ m fun r H' m' => leM m m' ∧ ∃ k u, r = .tup [.vec k u, .v (.int .i64 q), .v (.int .i64 0)] ∧ H' = ⟨[], [⟨k, u, 27, 4, ts.length, tkCells ts⟩]⟩ := fun m hg => (h8 m hg).mono fun r H' m' _ h => ⟨h.1, ROut_ok h.2⟩
    have h9' : ∀ m, FnH Tryd.prog 9 [.v (.string (bs s))] ⟨[], []⟩ m fun r H' m' => leM m m' ∧ ∃ k u, r = .tup [.vec k u, .v (.int .i64 q), .v (.int .i64 0)] ∧ H' = ⟨[], [⟨k, u, 27, 4, ts.length, tkCells ts⟩]⟩ := fun m => (h9 m).mono fun r H' m' _ h => ⟨h.1, ROut_ok h.2⟩
    clear h8 h9
    refine enter cf6 pu6 Tryd.func3 rfl rfl (by kernel_rfl) rfl ?_ ?_
    · simp only [go_sem, ↓reduceIte, or_true, or_false, true_or, false_or, Option.some.injEq, exists_eq_left, exists_eq_left', Nat.reduceBEq, Nat.reduceAdd, Nat.reduceMul, Nat.reduceSub, Nat.reduceEqDiff, Nat.reduceLT, Nat.reduceLeDiff, Option.map, Option.bind, List.map, List.length, true_implies, true_and, and_true, Bool.and_true, Bool.true_and, Bool.or_false, Bool.false_or, Bool.not_true, Bool.not_false, Bool.and_false, Bool.false_and, List.cons_append, List.nil_append, List.append_nil, mk_eq_bs, tl_bs, List.getElem?_cons_zero, List.getElem?_cons_succ, eq_self, reduceCtorEq, implies_true, false_implies, decide_eq_true_eq, decide_eq_false_iff_not, Bool.and_eq_true, Bool.or_eq_true, Bool.not_eq_true', Bool.and_eq_false_iff, Bool.or_eq_false_iff, Bool.not_eq_false', Option.toList, SV.v.injEq, Value.int.injEq, Value.bool.injEq, Value.string.injEq, Option.getD, List.contains_cons, List.contains_nil, beq_self_eq_true, Nat.max_def, List.set, List.drop, List.take, Int.toNat_natCast, Nat.mul_one, Int.toNat_zero, List.drop_zero, Bx.mk.injEq, Vc.mk.injEq, List.cons.injEq, List.take_length, List.getElem?_nil, List.getD_cons_zero, List.getD_cons_succ, Int.reduceToNat, not_false_eq_true, Nat.le_refl]
    · simp only [go_sem, ↓reduceIte, or_true, or_false, true_or, false_or, Option.some.injEq, exists_eq_left, exists_eq_left', Nat.reduceBEq, Nat.reduceAdd, Nat.reduceMul, Nat.reduceSub, Nat.reduceEqDiff, Nat.reduceLT, Nat.reduceLeDiff, Option.map, Option.bind, List.map, List.length, true_implies, true_and, and_true, Bool.and_true, Bool.true_and, Bool.or_false, Bool.false_or, Bool.not_true, Bool.not_false, Bool.and_false, Bool.false_and, List.cons_append, List.nil_append, List.append_nil, mk_eq_bs, tl_bs, List.getElem?_cons_zero, List.getElem?_cons_succ, eq_self, reduceCtorEq, implies_true, false_implies, decide_eq_true_eq, decide_eq_false_iff_not, Bool.and_eq_true, Bool.or_eq_true, Bool.not_eq_true', Bool.and_eq_false_iff, Bool.or_eq_false_iff, Bool.not_eq_false', Option.toList, SV.v.injEq, Value.int.injEq, Value.bool.injEq, Value.string.injEq, Option.getD, List.contains_cons, List.contains_nil, beq_self_eq_true, Nat.max_def, List.set, List.drop, List.take, Int.toNat_natCast, Nat.mul_one, Int.toNat_zero, List.drop_zero, Bx.mk.injEq, Vc.mk.injEq, List.cons.injEq, List.take_length, List.getElem?_nil, List.getD_cons_zero, List.getD_cons_succ, Int.reduceToNat, not_false_eq_true, Nat.le_refl]
      refine ⟨by kernel_rfl, FnV_of ((h8' m hg).mono ?_)⟩
      rintro r H' m1 hm1 ⟨hle1, k, u, rfl, rfl⟩
      simp only [go_sem, ↓reduceIte, or_true, or_false, true_or, false_or, Option.some.injEq, exists_eq_left, exists_eq_left', Nat.reduceBEq, Nat.reduceAdd, Nat.reduceMul, Nat.reduceSub, Nat.reduceEqDiff, Nat.reduceLT, Nat.reduceLeDiff, Option.map, Option.bind, List.map, List.length, true_implies, true_and, and_true, Bool.and_true, Bool.true_and, Bool.or_false, Bool.false_or, Bool.not_true, Bool.not_false, Bool.and_false, Bool.false_and, List.cons_append, List.nil_append, List.append_nil, mk_eq_bs, tl_bs, List.getElem?_cons_zero, List.getElem?_cons_succ, eq_self, reduceCtorEq, implies_true, false_implies, decide_eq_true_eq, decide_eq_false_iff_not, Bool.and_eq_true, Bool.or_eq_true, Bool.not_eq_true', Bool.and_eq_false_iff, Bool.or_eq_false_iff, Bool.not_eq_false', Option.toList, SV.v.injEq, Value.int.injEq, Value.bool.injEq, Value.string.injEq, Option.getD, List.contains_cons, List.contains_nil, beq_self_eq_true, Nat.max_def, List.set, List.drop, List.take, Int.toNat_natCast, Nat.mul_one, Int.toNat_zero, List.drop_zero, Bx.mk.injEq, Vc.mk.injEq, List.cons.injEq, List.take_length, List.getElem?_nil, List.getD_cons_zero, List.getD_cons_succ, Int.reduceToNat, not_false_eq_true, Nat.le_refl]
      have hk1 : 0 + k < 0 + (k + 1) := by omega
      have hk : (if k < 0 then False else True) := by simp
      refine ⟨⟨hk, hk, hk1⟩, hk1, hk1, hk1, hk1, by kernel_rfl, FnV_of ((h9' m1).mono ?_)⟩
      rintro r H' m2 hm2 ⟨hle2, k2, u2, rfl, rfl⟩
      have hne : (0 + (k + 1) + k2 = 0 + k) = False := eq_false (by omega)
      have hne2 : (0 + k = 0 + (k + 1) + k2) = False := eq_false (by omega)
      have hnb : (0 + (k + 1) + k2 == 0 + k) = false := beq_eq_false_iff_ne.2 (by omega)
      have hnb2 : (0 + k == 0 + (k + 1) + k2) = false := beq_eq_false_iff_ne.2 (by omega)
      simp only [go_sem, ↓reduceIte, or_true, or_false, true_or, false_or, Option.some.injEq, exists_eq_left, exists_eq_left', Nat.reduceBEq, Nat.reduceAdd, Nat.reduceMul, Nat.reduceSub, Nat.reduceEqDiff, Nat.reduceLT, Nat.reduceLeDiff, Option.map, Option.bind, List.map, List.length, true_implies, true_and, and_true, Bool.and_true, Bool.true_and, Bool.or_false, Bool.false_or, Bool.not_true, Bool.not_false, Bool.and_false, Bool.false_and, List.cons_append, List.nil_append, List.append_nil, mk_eq_bs, tl_bs, List.getElem?_cons_zero, List.getElem?_cons_succ, eq_self, reduceCtorEq, implies_true, false_implies, decide_eq_true_eq, decide_eq_false_iff_not, Bool.and_eq_true, Bool.or_eq_true, Bool.not_eq_true', Bool.and_eq_false_iff, Bool.or_eq_false_iff, Bool.not_eq_false', Option.toList, SV.v.injEq, Value.int.injEq, Value.bool.injEq, Value.string.injEq, Option.getD, List.contains_cons, List.contains_nil, beq_self_eq_true, Nat.max_def, List.set, List.drop, List.take, Int.toNat_natCast, Nat.mul_one, Int.toNat_zero, List.drop_zero, Bx.mk.injEq, Vc.mk.injEq, List.cons.injEq, List.take_length, List.getElem?_nil, List.getD_cons_zero, List.getD_cons_succ, Int.reduceToNat, not_false_eq_true, Nat.le_refl, hne, hne2]
      have h0 : ∀ a b : Nat, (if a < b then False else True) = ¬ a < b := fun a b => by simp
      have a1 : 0 + (k + 1) + k2 < 0 + (k + 1) + (k2 + 1) := by omega
      have a2 : 0 + k < 0 + (k + 1) + (k2 + 1) := by omega
      refine ⟨⟨by simp, by simp, a1⟩, a1, a1, a1, a1, a2, a1, fun h => by simp at h, ?_⟩
      refine WP_loop pu6 (fun j : Nat => ⟨[⟨3, [], .vec (0 + k) u⟩, ⟨6, [], .vec (0 + (k + 1) + k2) u2⟩, ⟨9, [], .v (.int .i64 j)⟩], [], [], [⟨0 + (k + 1) + k2, u2, 27, 4, ts.length, tkCells ts⟩, ⟨0 + k, u, 27, 4, ts.length, tkCells ts⟩], 0 + (k + 1) + (k2 + 1), m2⟩)
        (fun j => j ≤ ts.length) (fun j => ts.length - j) 0 (by kernel_rfl) (fun _ _ => Nat.le_refl _) (fun _ _ => .inl rfl) (fun j => ?_) ?_ (Nat.zero_le _) ?_
      · simp only [go_sem, ↓reduceIte, or_true, or_false, true_or, false_or, Option.some.injEq, exists_eq_left, exists_eq_left', Nat.reduceBEq, Nat.reduceAdd, Nat.reduceMul, Nat.reduceSub, Nat.reduceEqDiff, Nat.reduceLT, Nat.reduceLeDiff, Option.map, Option.bind, List.map, List.length, true_implies, true_and, and_true, Bool.and_true, Bool.true_and, Bool.or_false, Bool.false_or, Bool.not_true, Bool.not_false, Bool.and_false, Bool.false_and, List.cons_append, List.nil_append, List.append_nil, mk_eq_bs, tl_bs, List.getElem?_cons_zero, List.getElem?_cons_succ, eq_self, reduceCtorEq, implies_true, false_implies, decide_eq_true_eq, decide_eq_false_iff_not, Bool.and_eq_true, Bool.or_eq_true, Bool.not_eq_true', Bool.and_eq_false_iff, Bool.or_eq_false_iff, Bool.not_eq_false', Option.toList, SV.v.injEq, Value.int.injEq, Value.bool.injEq, Value.string.injEq, Option.getD, List.contains_cons, List.contains_nil, beq_self_eq_true, Nat.max_def, List.set, List.drop, List.take, Int.toNat_natCast, Nat.mul_one, Int.toNat_zero, List.drop_zero, Bx.mk.injEq, Vc.mk.injEq, List.cons.injEq, List.take_length, List.getElem?_nil, List.getD_cons_zero, List.getD_cons_succ, Int.reduceToNat, not_false_eq_true, Nat.le_refl, hne, hne2]
        exact ⟨⟨a2, a1⟩, a1, a2⟩
      · simp only [go_sem, ↓reduceIte, or_true, or_false, true_or, false_or, Option.some.injEq, exists_eq_left, exists_eq_left', Nat.reduceBEq, Nat.reduceAdd, Nat.reduceMul, Nat.reduceSub, Nat.reduceEqDiff, Nat.reduceLT, Nat.reduceLeDiff, Option.map, Option.bind, List.map, List.length, true_implies, true_and, and_true, Bool.and_true, Bool.true_and, Bool.or_false, Bool.false_or, Bool.not_true, Bool.not_false, Bool.and_false, Bool.false_and, List.cons_append, List.nil_append, List.append_nil, mk_eq_bs, tl_bs, List.getElem?_cons_zero, List.getElem?_cons_succ, eq_self, reduceCtorEq, implies_true, false_implies, decide_eq_true_eq, decide_eq_false_iff_not, Bool.and_eq_true, Bool.or_eq_true, Bool.not_eq_true', Bool.and_eq_false_iff, Bool.or_eq_false_iff, Bool.not_eq_false', Option.toList, SV.v.injEq, Value.int.injEq, Value.bool.injEq, Value.string.injEq, Option.getD, List.contains_cons, List.contains_nil, beq_self_eq_true, Nat.max_def, List.set, List.drop, List.take, Int.toNat_natCast, Nat.mul_one, Int.toNat_zero, List.drop_zero, Bx.mk.injEq, Vc.mk.injEq, List.cons.injEq, List.take_length, List.getElem?_nil, List.getD_cons_zero, List.getD_cons_succ, Int.reduceToNat, not_false_eq_true, Nat.le_refl, hne, hne2]
        rfl
      · intro j hj
        have hgl := (hg.up hm1).up hm2
        clear h8' h9'
        simp only [go_sem, ↓reduceIte, or_true, or_false, true_or, false_or, Option.some.injEq, exists_eq_left, exists_eq_left', Nat.reduceBEq, Nat.reduceAdd, Nat.reduceMul, Nat.reduceSub, Nat.reduceEqDiff, Nat.reduceLT, Nat.reduceLeDiff, Option.map, Option.bind, List.map, List.length, true_implies, true_and, and_true, Bool.and_true, Bool.true_and, Bool.or_false, Bool.false_or, Bool.not_true, Bool.not_false, Bool.and_false, Bool.false_and, List.cons_append, List.nil_append, List.append_nil, mk_eq_bs, tl_bs, List.getElem?_cons_zero, List.getElem?_cons_succ, eq_self, reduceCtorEq, implies_true, false_implies, decide_eq_true_eq, decide_eq_false_iff_not, Bool.and_eq_true, Bool.or_eq_true, Bool.not_eq_true', Bool.and_eq_false_iff, Bool.or_eq_false_iff, Bool.not_eq_false', Option.toList, SV.v.injEq, Value.int.injEq, Value.bool.injEq, Value.string.injEq, Option.getD, List.contains_cons, List.contains_nil, beq_self_eq_true, Nat.max_def, List.set, List.drop, List.take, Int.toNat_natCast, Nat.mul_one, Int.toNat_zero, List.drop_zero, Bx.mk.injEq, Vc.mk.injEq, List.cons.injEq, List.take_length, List.getElem?_nil, List.getD_cons_zero, List.getD_cons_succ, Int.reduceToNat, not_false_eq_true, Nat.le_refl, hne, hne2]
        refine ⟨a2, fun hlt => ?_, fun _ => ?_⟩
        · have hjl : j < ts.length := by omega
          have hat := tk_at hjl
          refine WP_draw (.hoist 0 (.hoist 1 (.hoist 2 (.hoist 3 (.hoist 4 (.hoist 5 (.hoist 6 (.hoist 7 (.hoist 8 .done))))))))) pu6 (by kernel_rfl) (by kernel_rfl) ?_
          simp only [go_sem, ↓reduceIte, or_true, or_false, true_or, false_or, Option.some.injEq, exists_eq_left, exists_eq_left', Nat.reduceBEq, Nat.reduceAdd, Nat.reduceMul, Nat.reduceSub, Nat.reduceEqDiff, Nat.reduceLT, Nat.reduceLeDiff, Option.map, Option.bind, List.map, List.length, true_implies, true_and, and_true, Bool.and_true, Bool.true_and, Bool.or_false, Bool.false_or, Bool.not_true, Bool.not_false, Bool.and_false, Bool.false_and, List.cons_append, List.nil_append, List.append_nil, mk_eq_bs, tl_bs, List.getElem?_cons_zero, List.getElem?_cons_succ, eq_self, reduceCtorEq, implies_true, false_implies, decide_eq_true_eq, decide_eq_false_iff_not, Bool.and_eq_true, Bool.or_eq_true, Bool.not_eq_true', Bool.and_eq_false_iff, Bool.or_eq_false_iff, Bool.not_eq_false', Option.toList, SV.v.injEq, Value.int.injEq, Value.bool.injEq, Value.string.injEq, Option.getD, List.contains_cons, List.contains_nil, beq_self_eq_true, Nat.max_def, List.set, List.drop, List.take, Int.toNat_natCast, Nat.mul_one, Int.toNat_zero, List.drop_zero, Bx.mk.injEq, Vc.mk.injEq, List.cons.injEq, List.take_length, List.getElem?_nil, List.getD_cons_zero, List.getD_cons_succ, Int.reduceToNat, not_false_eq_true, Nat.le_refl, hne, hne2, hnb, hnb2, eqOk27, hat, tkC]
          have a3 : (0 : Int) ≤ (j : Int) ∧ (j : Int) < (ts.length : Int) := ⟨by omega, hlt⟩
          have a4 : j * 4 + 4 ≤ (tkCells ts).length := by rw [tk_len]; omega
          exact ⟨a2, a3, a2, a4, a1, a3, a1, a4, fun h => by simp at h, by unfold I64; omega, j + 1, rfl, hjl, by omega⟩
        · refine ⟨by kernel_rfl, FnV_of ((awake_spec m2 hgl).mono ?_)⟩
          rintro r H' m3 hm3 ⟨rfl, rfl⟩
          simp only [go_sem, ↓reduceIte, or_true, or_false, true_or, false_or, Option.some.injEq, exists_eq_left, exists_eq_left', Nat.reduceBEq, Nat.reduceAdd, Nat.reduceMul, Nat.reduceSub, Nat.reduceEqDiff, Nat.reduceLT, Nat.reduceLeDiff, Option.map, Option.bind, List.map, List.length, true_implies, true_and, and_true, Bool.and_true, Bool.true_and, Bool.or_false, Bool.false_or, Bool.not_true, Bool.not_false, Bool.and_false, Bool.false_and, List.cons_append, List.nil_append, List.append_nil, mk_eq_bs, tl_bs, List.getElem?_cons_zero, List.getElem?_cons_succ, eq_self, reduceCtorEq, implies_true, false_implies, decide_eq_true_eq, decide_eq_false_iff_not, Bool.and_eq_true, Bool.or_eq_true, Bool.not_eq_true', Bool.and_eq_false_iff, Bool.or_eq_false_iff, Bool.not_eq_false', Option.toList, SV.v.injEq, Value.int.injEq, Value.bool.injEq, Value.string.injEq, Option.getD, List.contains_cons, List.contains_nil, beq_self_eq_true, Nat.max_def, List.set, List.drop, List.take, Int.toNat_natCast, Nat.mul_one, Int.toNat_zero, List.drop_zero, Bx.mk.injEq, Vc.mk.injEq, List.cons.injEq, List.take_length, List.getElem?_nil, List.getD_cons_zero, List.getD_cons_succ, Int.reduceToNat, not_false_eq_true, Nat.le_refl]
  · have h8' : ∀ m, Glob m → FnH Tryd.prog 8 [.v (.string (bs s))] ⟨[], []⟩ m fun r H' m' => leM m m' ∧ r = .tup [.v (.slice none 0 0), .v (.int .i64 q), .v (.int .i64 e)] ∧ H' = ⟨[], []⟩ := fun m hg => (h8 m hg).mono fun r H' m' _ h => ⟨h.1, ROut_err he h.2⟩
    have h9' : ∀ m, FnH Tryd.prog 9 [.v (.string (bs s))] ⟨[], []⟩ m fun r H' m' => leM m m' ∧ r = .tup [.v (.slice none 0 0), .v (.int .i64 q), .v (.int .i64 e)] ∧ H' = ⟨[], []⟩ := fun m => (h9 m).mono fun r H' m' _ h => ⟨h.1, ROut_err he h.2⟩
    clear h8 h9
    refine enter cf6 pu6 Tryd.func3 rfl rfl (by kernel_rfl) rfl ?_ ?_
    · simp only [go_sem, ↓reduceIte, or_true, or_false, true_or, false_or, Option.some.injEq, exists_eq_left, exists_eq_left', Nat.reduceBEq, Nat.reduceAdd, Nat.reduceMul, Nat.reduceSub, Nat.reduceEqDiff, Nat.reduceLT, Nat.reduceLeDiff, Option.map, Option.bind, List.map, List.length, true_implies, true_and, and_true, Bool.and_true, Bool.true_and, Bool.or_false, Bool.false_or, Bool.not_true, Bool.not_false, Bool.and_false, Bool.false_and, List.cons_append, List.nil_append, List.append_nil, mk_eq_bs, tl_bs, List.getElem?_cons_zero, List.getElem?_cons_succ, eq_self, reduceCtorEq, implies_true, false_implies, decide_eq_true_eq, decide_eq_false_iff_not, Bool.and_eq_true, Bool.or_eq_true, Bool.not_eq_true', Bool.and_eq_false_iff, Bool.or_eq_false_iff, Bool.not_eq_false', Option.toList, SV.v.injEq, Value.int.injEq, Value.bool.injEq, Value.string.injEq, Option.getD, List.contains_cons, List.contains_nil, beq_self_eq_true, Nat.max_def, List.set, List.drop, List.take, Int.toNat_natCast, Nat.mul_one, Int.toNat_zero, List.drop_zero, Bx.mk.injEq, Vc.mk.injEq, List.cons.injEq, List.take_length, List.getElem?_nil, List.getD_cons_zero, List.getD_cons_succ, Int.reduceToNat, not_false_eq_true, Nat.le_refl]
    · simp only [go_sem, ↓reduceIte, or_true, or_false, true_or, false_or, Option.some.injEq, exists_eq_left, exists_eq_left', Nat.reduceBEq, Nat.reduceAdd, Nat.reduceMul, Nat.reduceSub, Nat.reduceEqDiff, Nat.reduceLT, Nat.reduceLeDiff, Option.map, Option.bind, List.map, List.length, true_implies, true_and, and_true, Bool.and_true, Bool.true_and, Bool.or_false, Bool.false_or, Bool.not_true, Bool.not_false, Bool.and_false, Bool.false_and, List.cons_append, List.nil_append, List.append_nil, mk_eq_bs, tl_bs, List.getElem?_cons_zero, List.getElem?_cons_succ, eq_self, reduceCtorEq, implies_true, false_implies, decide_eq_true_eq, decide_eq_false_iff_not, Bool.and_eq_true, Bool.or_eq_true, Bool.not_eq_true', Bool.and_eq_false_iff, Bool.or_eq_false_iff, Bool.not_eq_false', Option.toList, SV.v.injEq, Value.int.injEq, Value.bool.injEq, Value.string.injEq, Option.getD, List.contains_cons, List.contains_nil, beq_self_eq_true, Nat.max_def, List.set, List.drop, List.take, Int.toNat_natCast, Nat.mul_one, Int.toNat_zero, List.drop_zero, Bx.mk.injEq, Vc.mk.injEq, List.cons.injEq, List.take_length, List.getElem?_nil, List.getD_cons_zero, List.getD_cons_succ, Int.reduceToNat, not_false_eq_true, Nat.le_refl]
      refine ⟨by kernel_rfl, FnV_of ((h8' m hg).mono ?_)⟩
      rintro r H' m1 hm1 ⟨hle1, rfl, rfl⟩
      simp only [go_sem, ↓reduceIte, or_true, or_false, true_or, false_or, Option.some.injEq, exists_eq_left, exists_eq_left', Nat.reduceBEq, Nat.reduceAdd, Nat.reduceMul, Nat.reduceSub, Nat.reduceEqDiff, Nat.reduceLT, Nat.reduceLeDiff, Option.map, Option.bind, List.map, List.length, true_implies, true_and, and_true, Bool.and_true, Bool.true_and, Bool.or_false, Bool.false_or, Bool.not_true, Bool.not_false, Bool.and_false, Bool.false_and, List.cons_append, List.nil_append, List.append_nil, mk_eq_bs, tl_bs, List.getElem?_cons_zero, List.getElem?_cons_succ, eq_self, reduceCtorEq, implies_true, false_implies, decide_eq_true_eq, decide_eq_false_iff_not, Bool.and_eq_true, Bool.or_eq_true, Bool.not_eq_true', Bool.and_eq_false_iff, Bool.or_eq_false_iff, Bool.not_eq_false', Option.toList, SV.v.injEq, Value.int.injEq, Value.bool.injEq, Value.string.injEq, Option.getD, List.contains_cons, List.contains_nil, beq_self_eq_true, Nat.max_def, List.set, List.drop, List.take, Int.toNat_natCast, Nat.mul_one, Int.toNat_zero, List.drop_zero, Bx.mk.injEq, Vc.mk.injEq, List.cons.injEq, List.take_length, List.getElem?_nil, List.getD_cons_zero, List.getD_cons_succ, Int.reduceToNat, not_false_eq_true, Nat.le_refl]
      refine ⟨by kernel_rfl, FnV_of ((h9' m1).mono ?_)⟩
      rintro r H' m2 hm2 ⟨hle2, rfl, rfl⟩
      simp only [go_sem, ↓reduceIte, or_true, or_false, true_or, false_or, Option.some.injEq, exists_eq_left, exists_eq_left', Nat.reduceBEq, Nat.reduceAdd, Nat.reduceMul, Nat.reduceSub, Nat.reduceEqDiff, Nat.reduceLT, Nat.reduceLeDiff, Option.map, Option.bind, List.map, List.length, true_implies, true_and, and_true, Bool.and_true, Bool.true_and, Bool.or_false, Bool.false_or, Bool.not_true, Bool.not_false, Bool.and_false, Bool.false_and, List.cons_append, List.nil_append, List.append_nil, mk_eq_bs, tl_bs, List.getElem?_cons_zero, List.getElem?_cons_succ, eq_self, reduceCtorEq, implies_true, false_implies, decide_eq_true_eq, decide_eq_false_iff_not, Bool.and_eq_true, Bool.or_eq_true, Bool.not_eq_true', Bool.and_eq_false_iff, Bool.or_eq_false_iff, Bool.not_eq_false', Option.toList, SV.v.injEq, Value.int.injEq, Value.bool.injEq, Value.string.injEq, Option.getD, List.contains_cons, List.contains_nil, beq_self_eq_true, Nat.max_def, List.set, List.drop, List.take, Int.toNat_natCast, Nat.mul_one, Int.toNat_zero, List.drop_zero, Bx.mk.injEq, Vc.mk.injEq, List.cons.injEq, List.take_length, List.getElem?_nil, List.getD_cons_zero, List.getD_cons_succ, Int.reduceToNat, not_false_eq_true, Nat.le_refl]
      refine ⟨fun h => by simp at h, ?_⟩
      refine WP_loop pu6 (fun _ : Unit => ⟨[⟨3, [], .v (.slice none 0 0)⟩, ⟨9, [], .v (.int .i64 0)⟩], [], [], [], 0, m2⟩) (fun _ => True) (fun _ => 0) () (by kernel_rfl) (fun _ _ => Nat.le_refl _) (fun _ _ => .inl rfl) (fun _ => ?_) ?_ trivial ?_
      · simp only [go_sem, ↓reduceIte, or_true, or_false, true_or, false_or, Option.some.injEq, exists_eq_left, exists_eq_left', Nat.reduceBEq, Nat.reduceAdd, Nat.reduceMul, Nat.reduceSub, Nat.reduceEqDiff, Nat.reduceLT, Nat.reduceLeDiff, Option.map, Option.bind, List.map, List.length, true_implies, true_and, and_true, Bool.and_true, Bool.true_and, Bool.or_false, Bool.false_or, Bool.not_true, Bool.not_false, Bool.and_false, Bool.false_and, List.cons_append, List.nil_append, List.append_nil, mk_eq_bs, tl_bs, List.getElem?_cons_zero, List.getElem?_cons_succ, eq_self, reduceCtorEq, implies_true, false_implies, decide_eq_true_eq, decide_eq_false_iff_not, Bool.and_eq_true, Bool.or_eq_true, Bool.not_eq_true', Bool.and_eq_false_iff, Bool.or_eq_false_iff, Bool.not_eq_false', Option.toList, SV.v.injEq, Value.int.injEq, Value.bool.injEq, Value.string.injEq, Option.getD, List.contains_cons, List.contains_nil, beq_self_eq_true, Nat.max_def, List.set, List.drop, List.take, Int.toNat_natCast, Nat.mul_one, Int.toNat_zero, List.drop_zero, Bx.mk.injEq, Vc.mk.injEq, List.cons.injEq, List.take_length, List.getElem?_nil, List.getD_cons_zero, List.getD_cons_succ, Int.reduceToNat, not_false_eq_true, Nat.le_refl]
      · simp only [go_sem, ↓reduceIte, or_true, or_false, true_or, false_or, Option.some.injEq, exists_eq_left, exists_eq_left', Nat.reduceBEq, Nat.reduceAdd, Nat.reduceMul, Nat.reduceSub, Nat.reduceEqDiff, Nat.reduceLT, Nat.reduceLeDiff, Option.map, Option.bind, List.map, List.length, true_implies, true_and, and_true, Bool.and_true, Bool.true_and, Bool.or_false, Bool.false_or, Bool.not_true, Bool.not_false, Bool.and_false, Bool.false_and, List.cons_append, List.nil_append, List.append_nil, mk_eq_bs, tl_bs, List.getElem?_cons_zero, List.getElem?_cons_succ, eq_self, reduceCtorEq, implies_true, false_implies, decide_eq_true_eq, decide_eq_false_iff_not, Bool.and_eq_true, Bool.or_eq_true, Bool.not_eq_true', Bool.and_eq_false_iff, Bool.or_eq_false_iff, Bool.not_eq_false', Option.toList, SV.v.injEq, Value.int.injEq, Value.bool.injEq, Value.string.injEq, Option.getD, List.contains_cons, List.contains_nil, beq_self_eq_true, Nat.max_def, List.set, List.drop, List.take, Int.toNat_natCast, Nat.mul_one, Int.toNat_zero, List.drop_zero, Bx.mk.injEq, Vc.mk.injEq, List.cons.injEq, List.take_length, List.getElem?_nil, List.getD_cons_zero, List.getD_cons_succ, Int.reduceToNat, not_false_eq_true, Nat.le_refl]
      · rintro _ _
        have hgl := (hg.up hm1).up hm2
        simp only [go_sem, ↓reduceIte, or_true, or_false, true_or, false_or, Option.some.injEq, exists_eq_left, exists_eq_left', Nat.reduceBEq, Nat.reduceAdd, Nat.reduceMul, Nat.reduceSub, Nat.reduceEqDiff, Nat.reduceLT, Nat.reduceLeDiff, Option.map, Option.bind, List.map, List.length, true_implies, true_and, and_true, Bool.and_true, Bool.true_and, Bool.or_false, Bool.false_or, Bool.not_true, Bool.not_false, Bool.and_false, Bool.false_and, List.cons_append, List.nil_append, List.append_nil, mk_eq_bs, tl_bs, List.getElem?_cons_zero, List.getElem?_cons_succ, eq_self, reduceCtorEq, implies_true, false_implies, decide_eq_true_eq, decide_eq_false_iff_not, Bool.and_eq_true, Bool.or_eq_true, Bool.not_eq_true', Bool.and_eq_false_iff, Bool.or_eq_false_iff, Bool.not_eq_false', Option.toList, SV.v.injEq, Value.int.injEq, Value.bool.injEq, Value.string.injEq, Option.getD, List.contains_cons, List.contains_nil, beq_self_eq_true, Nat.max_def, List.set, List.drop, List.take, Int.toNat_natCast, Nat.mul_one, Int.toNat_zero, List.drop_zero, Bx.mk.injEq, Vc.mk.injEq, List.cons.injEq, List.take_length, List.getElem?_nil, List.getD_cons_zero, List.getD_cons_succ, Int.reduceToNat, not_false_eq_true, Nat.le_refl]
        refine ⟨fun h => by simp at h, fun _ => ⟨by kernel_rfl, FnV_of ((awake_spec m2 hgl).mono ?_)⟩⟩
        rintro r H' m3 hm3 ⟨rfl, rfl⟩
        simp only [go_sem, ↓reduceIte, or_true, or_false, true_or, false_or, Option.some.injEq, exists_eq_left, exists_eq_left', Nat.reduceBEq, Nat.reduceAdd, Nat.reduceMul, Nat.reduceSub, Nat.reduceEqDiff, Nat.reduceLT, Nat.reduceLeDiff, Option.map, Option.bind, List.map, List.length, true_implies, true_and, and_true, Bool.and_true, Bool.true_and, Bool.or_false, Bool.false_or, Bool.not_true, Bool.not_false, Bool.and_false, Bool.false_and, List.cons_append, List.nil_append, List.append_nil, mk_eq_bs, tl_bs, List.getElem?_cons_zero, List.getElem?_cons_succ, eq_self, reduceCtorEq, implies_true, false_implies, decide_eq_true_eq, decide_eq_false_iff_not, Bool.and_eq_true, Bool.or_eq_true, Bool.not_eq_true', Bool.and_eq_false_iff, Bool.or_eq_false_iff, Bool.not_eq_false', Option.toList, SV.v.injEq, Value.int.injEq, Value.bool.injEq, Value.string.injEq, Option.getD, List.contains_cons, List.contains_nil, beq_self_eq_true, Nat.max_def, List.set, List.drop, List.take, Int.toNat_natCast, Nat.mul_one, Int.toNat_zero, List.drop_zero, Bx.mk.injEq, Vc.mk.injEq, List.cons.injEq, List.take_length, List.getElem?_nil, List.getD_cons_zero, List.getD_cons_succ, Int.reduceToNat, not_false_eq_true, Nat.le_refl]
end Go.Proofs.YtmkifodpkcmgoaaDoor.E

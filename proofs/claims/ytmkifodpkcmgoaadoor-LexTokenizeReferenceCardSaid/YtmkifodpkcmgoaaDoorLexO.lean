/- lex, part O: the reference: strings, operators, white space. -/
import Derived.Test.YtmkifodpkcmgoaaDoorLexN
namespace Go.Proofs.YtmkifodpkcmgoaaDoor.E
open Go

/-- What the reference's scanners answer. -/
def RN (p : Nat) (o : Option (Int × List UInt8 × Int × Nat)) (r : SV) : Prop :=
  ∃ (t : Tk) (e : Int) (b : Bool), r = .tup [Tk.sv t, .v (.int .i64 e), .v (.bool b)] ∧
    match o with
    | some (k, tt, n, len) => b = true ∧ t = ⟨k, tt, n, p⟩ ∧ e = (p + len : Nat)
    | none => b = false
theorem charL_len (l : List UInt8) : (charL l).2 ≤ l.length := by
  cases l with
  | nil => simp [charL]
  | cons c r =>
    have := (escL_len r).1
    simp only [charL, List.length_cons]
    split
    · omega
    · split
      · omega
      · split <;> simp only <;> omega
theorem charL_byte (l : List UInt8) : ∃ x : UInt8, (charL l).1 = x.toNat := by
  cases l with
  | nil => exact ⟨0, rfl⟩
  | cons c r =>
    simp only [charL]
    split
    · exact ⟨0, rfl⟩
    · split
      · exact ⟨c, rfl⟩
      · split
        · exact escL_byte r
        · exact ⟨0, rfl⟩
theorem qScan_step {f : Nat} {c : UInt8} {r : List UInt8} {x : UInt8} (hc : c.toNat ≠ 34) (hx : (charL (c :: r)).1 = x.toNat) :
    qScanF (f + 1) (c :: r) = if (charL (c :: r)).2 = 0 then none else (qScanF f ((c :: r).drop (charL (c :: r)).2)).map fun y => (x :: y.1, (charL (c :: r)).2 + y.2) := by
  simp only [qScanF]
  rw [if_neg hc]
  by_cases h1 : c.toNat < 32 ∨ 126 < c.toNat
  · have hch : charL (c :: r) = (0, 0) := by simp only [charL]; rw [if_pos (.inl h1)]
    rw [if_pos h1, hch]; rfl
  · rw [if_neg h1]
    by_cases h2 : c.toNat = 92
    · rw [if_pos h2]
      by_cases h3 : (escL r).2.2 = true
      · have h4 := (escL_len r).2 h3
        have hch : charL (c :: r) = ((escL r).2.1, 1 + (escL r).1) := by simp only [charL]; rw [if_neg (by omega), if_neg (by omega), if_pos h3]
        rw [hch] at hx ⊢
        have hx : (escL r).2.1 = x.toNat := hx
        rw [if_pos h3, hx]
        have e1 : UInt8.ofNat ((x.toNat : Nat) : Int).toNat = x := by simp
        have e2 : (c :: r).drop (1 + (escL r).1) = r.drop (escL r).1 := by rw [Nat.add_comm, List.drop_succ_cons]
        show _ = if 1 + (escL r).1 = 0 then none else (qScanF f ((c :: r).drop (1 + (escL r).1))).map fun y => (x :: y.1, 1 + (escL r).1 + y.2)
        rw [if_neg (by omega), e1, e2]
      · have hch : charL (c :: r) = (0, 0) := by simp only [charL]; rw [if_neg (by omega), if_neg (by omega), if_neg h3]
        rw [if_neg h3, hch]; rfl
    · rw [if_neg h2]
      have hch : charL (c :: r) = ((c.toNat : Int), 1) := by simp only [charL]; rw [if_neg (by omega), if_pos h2]
      rw [hch] at hx ⊢
      have hx : (c.toNat : Int) = x.toNat := hx
      have e1 : c = x := UInt8.toNat_inj.1 (by omega)
      show _ = if 1 = 0 then none else (qScanF f ((c :: r).drop 1)).map fun y => (x :: y.1, 1 + y.2)
      rw [if_neg (by decide), List.drop_succ_cons, List.drop_zero, e1]
set_option maxHeartbeats 4000000 in
set_option maxRecDepth 20000 in
theorem text_spec (s : List UInt8) (p : Nat) (m : Mem) (hp : p < s.length) (hs : s.length ≤ 1000000) :
    FnH Tryd.prog 52 [.v (.string (bs s)), .v (.int .i64 p)] ⟨[], []⟩ m fun r H' m' => m' = m ∧ H' = ⟨[], []⟩ ∧
      RN p (match qScan (s.drop (p + 1)) with
        | some (b, n) => if b.length ≤ 1024 then some (5, b, 0, 1 + n) else none
        | none => none) r := by
  refine enter cf9 pu9 Tryd.func52 rfl rfl (by kernel_rfl) rfl ?_ ?_
  · simp only [go_sem, ↓reduceIte, or_true, or_false, true_or, false_or, Option.some.injEq, exists_eq_left, exists_eq_left', Nat.reduceBEq, Nat.reduceAdd, Nat.reduceMul, Nat.reduceSub, Nat.reduceEqDiff, Nat.reduceLT, Nat.reduceLeDiff, Option.map, Option.bind, List.map, List.length, true_implies, true_and, and_true, Bool.and_true, Bool.true_and, Bool.or_false, Bool.false_or, Bool.not_true, Bool.not_false, Bool.and_false, Bool.false_and, List.cons_append, List.nil_append, List.append_nil, mk_eq_bs, tl_bs, List.getElem?_cons_zero, List.getElem?_cons_succ, eq_self, reduceCtorEq, implies_true, false_implies, decide_eq_true_eq, decide_eq_false_iff_not, Bool.and_eq_true, Bool.or_eq_true, Bool.not_eq_true', Bool.and_eq_false_iff, Bool.or_eq_false_iff, Bool.not_eq_false', Option.toList, SV.v.injEq, Value.int.injEq, Value.bool.injEq, Value.string.injEq, Option.getD, List.contains_cons, List.contains_nil, beq_self_eq_true, Nat.max_def, List.set, List.drop, List.take, Int.toNat_natCast, Nat.mul_one, Int.toNat_zero, List.drop_zero, Bx.mk.injEq, Vc.mk.injEq, List.cons.injEq, List.take_length, List.getElem?_nil, List.getD_cons_zero, List.getD_cons_succ, Int.reduceToNat, not_false_eq_true, Nat.le_refl]
  · simp only [go_sem, ↓reduceIte, or_true, or_false, true_or, false_or, Option.some.injEq, exists_eq_left, exists_eq_left', Nat.reduceBEq, Nat.reduceAdd, Nat.reduceMul, Nat.reduceSub, Nat.reduceEqDiff, Nat.reduceLT, Nat.reduceLeDiff, Option.map, Option.bind, List.map, List.length, true_implies, true_and, and_true, Bool.and_true, Bool.true_and, Bool.or_false, Bool.false_or, Bool.not_true, Bool.not_false, Bool.and_false, Bool.false_and, List.cons_append, List.nil_append, List.append_nil, mk_eq_bs, tl_bs, List.getElem?_cons_zero, List.getElem?_cons_succ, eq_self, reduceCtorEq, implies_true, false_implies, decide_eq_true_eq, decide_eq_false_iff_not, Bool.and_eq_true, Bool.or_eq_true, Bool.not_eq_true', Bool.and_eq_false_iff, Bool.or_eq_false_iff, Bool.not_eq_false', Option.toList, SV.v.injEq, Value.int.injEq, Value.bool.injEq, Value.string.injEq, Option.getD, List.contains_cons, List.contains_nil, beq_self_eq_true, Nat.max_def, List.set, List.drop, List.take, Int.toNat_natCast, Nat.mul_one, Int.toNat_zero, List.drop_zero, Bx.mk.injEq, Vc.mk.injEq, List.cons.injEq, List.take_length, List.getElem?_nil, List.getD_cons_zero, List.getD_cons_succ, Int.reduceToNat, not_false_eq_true, Nat.le_refl]
    refine ⟨by unfold I64; omega, ?_⟩
    refine WP_loop pu9 (fun x : Nat × List UInt8 × Nat => ⟨[⟨0, [], .v (.string (bs s))⟩, ⟨1, [], .v (.int .i64 p)⟩, ⟨4, [], .box 0 0⟩, ⟨7, [], .vec 1 x.2.2⟩, ⟨8, [], .v (.int .i64 x.1)⟩], [], [⟨0, 27, Tk0.cells⟩], [⟨1, x.2.2, 5, 1, x.2.1.length, u8s x.2.1⟩], 2, m⟩)
      (fun x => p + 1 ≤ x.1 ∧ x.1 ≤ s.length ∧ x.2.1.length ≤ x.1 ∧ ∃ f, s.length - x.1 < f ∧ qScan (s.drop (p + 1)) = (qScanF f (s.drop x.1)).map fun y => (x.2.1 ++ y.1, x.1 - (p + 1) + y.2)) (fun x => s.length - x.1) (p + 1, [], 0) (by kernel_rfl) (fun _ _ => Nat.le_refl _) (fun _ _ => .inl rfl) (fun _ => ?_) ?_ ?_ ?_
    · simp only [go_sem, ↓reduceIte, or_true, or_false, true_or, false_or, Option.some.injEq, exists_eq_left, exists_eq_left', Nat.reduceBEq, Nat.reduceAdd, Nat.reduceMul, Nat.reduceSub, Nat.reduceEqDiff, Nat.reduceLT, Nat.reduceLeDiff, Option.map, Option.bind, List.map, List.length, true_implies, true_and, and_true, Bool.and_true, Bool.true_and, Bool.or_false, Bool.false_or, Bool.not_true, Bool.not_false, Bool.and_false, Bool.false_and, List.cons_append, List.nil_append, List.append_nil, mk_eq_bs, tl_bs, List.getElem?_cons_zero, List.getElem?_cons_succ, eq_self, reduceCtorEq, implies_true, false_implies, decide_eq_true_eq, decide_eq_false_iff_not, Bool.and_eq_true, Bool.or_eq_true, Bool.not_eq_true', Bool.and_eq_false_iff, Bool.or_eq_false_iff, Bool.not_eq_false', Option.toList, SV.v.injEq, Value.int.injEq, Value.bool.injEq, Value.string.injEq, Option.getD, List.contains_cons, List.contains_nil, beq_self_eq_true, Nat.max_def, List.set, List.drop, List.take, Int.toNat_natCast, Nat.mul_one, Int.toNat_zero, List.drop_zero, Bx.mk.injEq, Vc.mk.injEq, List.cons.injEq, List.take_length, List.getElem?_nil, List.getD_cons_zero, List.getD_cons_succ, Int.reduceToNat, not_false_eq_true, Nat.le_refl]
    · simp only [go_sem, ↓reduceIte, or_true, or_false, true_or, false_or, Option.some.injEq, exists_eq_left, exists_eq_left', Nat.reduceBEq, Nat.reduceAdd, Nat.reduceMul, Nat.reduceSub, Nat.reduceEqDiff, Nat.reduceLT, Nat.reduceLeDiff, Option.map, Option.bind, List.map, List.length, true_implies, true_and, and_true, Bool.and_true, Bool.true_and, Bool.or_false, Bool.false_or, Bool.not_true, Bool.not_false, Bool.and_false, Bool.false_and, List.cons_append, List.nil_append, List.append_nil, mk_eq_bs, tl_bs, List.getElem?_cons_zero, List.getElem?_cons_succ, eq_self, reduceCtorEq, implies_true, false_implies, decide_eq_true_eq, decide_eq_false_iff_not, Bool.and_eq_true, Bool.or_eq_true, Bool.not_eq_true', Bool.and_eq_false_iff, Bool.or_eq_false_iff, Bool.not_eq_false', Option.toList, SV.v.injEq, Value.int.injEq, Value.bool.injEq, Value.string.injEq, Option.getD, List.contains_cons, List.contains_nil, beq_self_eq_true, Nat.max_def, List.set, List.drop, List.take, Int.toNat_natCast, Nat.mul_one, Int.toNat_zero, List.drop_zero, Bx.mk.injEq, Vc.mk.injEq, List.cons.injEq, List.take_length, List.getElem?_nil, List.getD_cons_zero, List.getD_cons_succ, Int.reduceToNat, not_false_eq_true, Nat.le_refl]
      exact ⟨rfl, rfl⟩
    · refine ⟨Nat.le_refl _, hp, Nat.zero_le _, (s.drop (p + 1)).length + 1, by rw [List.length_drop]; omega, ?_⟩
      show qScan _ = (qScan _).map _
      cases qScan (s.drop (p + 1)) with
      | none => rfl
      | some x => simp
    · rintro ⟨q, b, v⟩ ⟨h1, h2, h3, f, hf, hq⟩
      simp only at h1 h2 h3 hf hq
      have ef : f = (f - 1) + 1 := by omega
      rw [ef] at hq
      simp only [go_sem, ↓reduceIte, or_true, or_false, true_or, false_or, Option.some.injEq, exists_eq_left, exists_eq_left', Nat.reduceBEq, Nat.reduceAdd, Nat.reduceMul, Nat.reduceSub, Nat.reduceEqDiff, Nat.reduceLT, Nat.reduceLeDiff, Option.map, Option.bind, List.map, List.length, true_implies, true_and, and_true, Bool.and_true, Bool.true_and, Bool.or_false, Bool.false_or, Bool.not_true, Bool.not_false, Bool.and_false, Bool.false_and, List.cons_append, List.nil_append, List.append_nil, mk_eq_bs, tl_bs, List.getElem?_cons_zero, List.getElem?_cons_succ, eq_self, reduceCtorEq, implies_true, false_implies, decide_eq_true_eq, decide_eq_false_iff_not, Bool.and_eq_true, Bool.or_eq_true, Bool.not_eq_true', Bool.and_eq_false_iff, Bool.or_eq_false_iff, Bool.not_eq_false', Option.toList, SV.v.injEq, Value.int.injEq, Value.bool.injEq, Value.string.injEq, Option.getD, List.contains_cons, List.contains_nil, beq_self_eq_true, Nat.max_def, List.set, List.drop, List.take, Int.toNat_natCast, Nat.mul_one, Int.toNat_zero, List.drop_zero, Bx.mk.injEq, Vc.mk.injEq, List.cons.injEq, List.take_length, List.getElem?_nil, List.getD_cons_zero, List.getD_cons_succ, Int.reduceToNat, not_false_eq_true, Nat.le_refl]
      refine ⟨fun h => by omega, fun h => ⟨by kernel_rfl, FnV_of ((char_spec s q m (by omega) hs).mono ?_)⟩, fun h => ⟨b, rfl, by unfold I64; omega, ?_⟩⟩
      · rintro r H' m' hm ⟨rfl, rfl, rfl⟩
        simp only [go_sem, ↓reduceIte, or_true, or_false, true_or, false_or, Option.some.injEq, exists_eq_left, exists_eq_left', Nat.reduceBEq, Nat.reduceAdd, Nat.reduceMul, Nat.reduceSub, Nat.reduceEqDiff, Nat.reduceLT, Nat.reduceLeDiff, Option.map, Option.bind, List.map, List.length, true_implies, true_and, and_true, Bool.and_true, Bool.true_and, Bool.or_false, Bool.false_or, Bool.not_true, Bool.not_false, Bool.and_false, Bool.false_and, List.cons_append, List.nil_append, List.append_nil, mk_eq_bs, tl_bs, List.getElem?_cons_zero, List.getElem?_cons_succ, eq_self, reduceCtorEq, implies_true, false_implies, decide_eq_true_eq, decide_eq_false_iff_not, Bool.and_eq_true, Bool.or_eq_true, Bool.not_eq_true', Bool.and_eq_false_iff, Bool.or_eq_false_iff, Bool.not_eq_false', Option.toList, SV.v.injEq, Value.int.injEq, Value.bool.injEq, Value.string.injEq, Option.getD, List.contains_cons, List.contains_nil, beq_self_eq_true, Nat.max_def, List.set, List.drop, List.take, Int.toNat_natCast, Nat.mul_one, Int.toNat_zero, List.drop_zero, Bx.mk.injEq, Vc.mk.injEq, List.cons.injEq, List.take_length, List.getElem?_nil, List.getD_cons_zero, List.getD_cons_succ, Int.reduceToNat, not_false_eq_true, Nat.le_refl]
        have hql : q < s.length := by omega
        have hcl := charL_len (s.drop q)
        rw [List.length_drop] at hcl
        obtain ⟨x, hx⟩ := charL_byte (s.drop q)
        have hst : qScanF (f - 1 + 1) (s.drop q) = if (charL (s.drop q)).2 = 0 then none else (qScanF (f - 1) ((s.drop q).drop (charL (s.drop q)).2)).map fun y => (x :: y.1, (charL (s.drop q)).2 + y.2) := by
          rw [drop_at hql] at hx ⊢
          exact qScan_step (by omega) hx
        rw [hst, List.drop_drop] at hq
        rw [hx]
        generalize (charL (s.drop q)).2 = n at hq hcl ⊢
        refine ⟨fun h0 => ?_, fun h0 => ⟨⟨by omega, by simp only [maxLen]; omega⟩, by unfold I64; omega, (q + n, b ++ [x], v + 1), ⟨⟨rfl, rfl⟩, rfl, by simp, by rw [u8s_app]; rfl⟩, ⟨by simp only; omega, by simp only; omega, by simp only [List.length_append, List.length_singleton]; omega, f - 1, by simp only; omega, ?_⟩, by simp only; omega⟩⟩
        · rw [if_pos (by omega)] at hq
          have hq : qScan (s.drop (p + 1)) = none := hq
          rw [hq]
          exact ⟨Tk0, 0, false, rfl, rfl⟩
        · rw [if_neg (by omega)] at hq
          rw [hq]
          cases qScanF (f - 1) (s.drop (q + n)) with
          | none => rfl
          | some y =>
            have : q - (p + 1) + (n + y.2) = q + n - (p + 1) + y.2 := by omega
            simp [this]
      · rcases Nat.lt_or_ge q s.length with hl | hl
        · have h34 : (s.getD q 0).toNat = 34 := by omega
          rw [drop_at hl] at hq
          simp only [qScanF] at hq
          rw [if_pos h34] at hq
          have hq : qScan (s.drop (p + 1)) = some (b ++ [], q - (p + 1) + 1) := hq
          rw [hq, List.append_nil, decide_eq_true (by omega : (q : Int) < s.length), Bool.true_and]
          refine ⟨⟨5, b, 0, p⟩, _, _, rfl, ?_⟩
          by_cases hb : b.length ≤ 1024
          · simp only [if_pos hb]
            exact ⟨decide_eq_true (by omega), trivial, by omega⟩
          · simp only [if_neg hb]
            exact decide_eq_false (by omega)
        · rw [List.drop_of_length_le hl] at hq
          have hq : qScan (s.drop (p + 1)) = none := hq
          rw [hq, decide_eq_false (by omega : ¬ (q : Int) < s.length), Bool.false_and]
          refine ⟨⟨5, b, 0, p⟩, _, false, rfl, ?_⟩
          rfl
def pIs (B : List UInt8 → Int → List UInt8 → Prop) (F : List UInt8 → Int → List UInt8 → Value) : List Value → Option (Prop × Value)
  | [.string a, .int .i64 c, .string b] => some (B (tl a) c (tl b), F (tl a) c (tl b))
  | _ => none
theorem pureIs {P : Program} {f : FuncId} {B : List UInt8 → Int → List UInt8 → Prop} {F : List UInt8 → Int → List UInt8 → Value}
    (h : ∀ a c b m, B a c b → FnH P f [.v (.string (bs a)), .v (.int .i64 c), .v (.string (bs b))] ⟨[], []⟩ m fun r H' _ => r = .v (F a c b) ∧ H' = ⟨[], []⟩) :
    Pure0 P f (pIs B F) := fun vals y hy hB m => by
  unfold pIs at hy
  split at hy
  · rename_i a c b
    cases hy
    have := h (tl a) c (tl b) m hB
    rwa [bs_tl, bs_tl] at this
  · cases hy
attribute [go_sem] pIs.eq_1
abbrev isB (s : List UInt8) (i : Int) (b : List UInt8) : Prop := 0 ≤ i ∧ i ≤ s.length ∧ s.length ≤ 4611686018427387904 ∧ b.length ≤ 1000
abbrev cfA : Cfg := mkCf (fun _ => false) [(47, pIs isB fun s i b => .bool (isAt s i b)), (48, pf1 isStartB), (50, pf1 isDigitB)]
theorem puA : PureOk cfA Tryd.prog := pure_cons (by kernel_rfl) (fun vals y hy hB m => pureIs (fun a c b m h => is_spec a b c m h.1 h.2.1 h.2.2.1 h.2.2.2) vals y hy hB m) (pure_cons (by kernel_rfl) (pure1 letter_spec) (pure_cons (by kernel_rfl) (pure1 digit_spec) pure_nil))
theorem isAt_pre {s b : List UInt8} {q : Nat} (h : q ≤ s.length) : isAt s q b = hasPre (s.drop q) b := by
  unfold isAt hasPre
  have e1 : decide ((b.length : Int) ≤ s.length - q) = decide ((b.length : Int) ≤ (s.drop q).length) := by rw [decide_eq_decide, List.length_drop]; omega
  have e2 : ((q : Int) + b.length).toNat = q + b.length := by omega
  rw [e1, e2, Int.toNat_natCast, List.drop_take]
  have e3 : q + b.length - q = b.length := by omega
  rw [e3]
set_option maxHeartbeats 4000000 in
set_option maxRecDepth 20000 in
theorem skip_spec (s : List UInt8) (p : Nat) (m : Mem) (hp : p ≤ s.length) (hs : s.length ≤ 1000000) :
    FnH Tryd.prog 23 [.v (.string (bs s)), .v (.int .i64 p)] ⟨[], []⟩ m fun r H' m' => r = .v (.int .i64 (p + skipW false (s.drop p) : Nat)) ∧ H' = ⟨[], []⟩ ∧ m' = m := by
  refine enter cfA puA Tryd.func23 rfl rfl (by kernel_rfl) rfl ?_ ?_
  · simp only [go_sem, ↓reduceIte, or_true, or_false, true_or, false_or, Option.some.injEq, exists_eq_left, exists_eq_left', Nat.reduceBEq, Nat.reduceAdd, Nat.reduceMul, Nat.reduceSub, Nat.reduceEqDiff, Nat.reduceLT, Nat.reduceLeDiff, Option.map, Option.bind, List.map, List.length, true_implies, true_and, and_true, Bool.and_true, Bool.true_and, Bool.or_false, Bool.false_or, Bool.not_true, Bool.not_false, Bool.and_false, Bool.false_and, List.cons_append, List.nil_append, List.append_nil, mk_eq_bs, tl_bs, List.getElem?_cons_zero, List.getElem?_cons_succ, eq_self, reduceCtorEq, implies_true, false_implies, decide_eq_true_eq, decide_eq_false_iff_not, Bool.and_eq_true, Bool.or_eq_true, Bool.not_eq_true', Bool.and_eq_false_iff, Bool.or_eq_false_iff, Bool.not_eq_false', Option.toList, SV.v.injEq, Value.int.injEq, Value.bool.injEq, Value.string.injEq, Option.getD, List.contains_cons, List.contains_nil, beq_self_eq_true, Nat.max_def, List.set, List.drop, List.take, Int.toNat_natCast, Nat.mul_one, Int.toNat_zero, List.drop_zero, Bx.mk.injEq, Vc.mk.injEq, List.cons.injEq, List.take_length, List.getElem?_nil, List.getD_cons_zero, List.getD_cons_succ, Int.reduceToNat, not_false_eq_true, Nat.le_refl]
  · simp only [go_sem, ↓reduceIte, or_true, or_false, true_or, false_or, Option.some.injEq, exists_eq_left, exists_eq_left', Nat.reduceBEq, Nat.reduceAdd, Nat.reduceMul, Nat.reduceSub, Nat.reduceEqDiff, Nat.reduceLT, Nat.reduceLeDiff, Option.map, Option.bind, List.map, List.length, true_implies, true_and, and_true, Bool.and_true, Bool.true_and, Bool.or_false, Bool.false_or, Bool.not_true, Bool.not_false, Bool.and_false, Bool.false_and, List.cons_append, List.nil_append, List.append_nil, mk_eq_bs, tl_bs, List.getElem?_cons_zero, List.getElem?_cons_succ, eq_self, reduceCtorEq, implies_true, false_implies, decide_eq_true_eq, decide_eq_false_iff_not, Bool.and_eq_true, Bool.or_eq_true, Bool.not_eq_true', Bool.and_eq_false_iff, Bool.or_eq_false_iff, Bool.not_eq_false', Option.toList, SV.v.injEq, Value.int.injEq, Value.bool.injEq, Value.string.injEq, Option.getD, List.contains_cons, List.contains_nil, beq_self_eq_true, Nat.max_def, List.set, List.drop, List.take, Int.toNat_natCast, Nat.mul_one, Int.toNat_zero, List.drop_zero, Bx.mk.injEq, Vc.mk.injEq, List.cons.injEq, List.take_length, List.getElem?_nil, List.getD_cons_zero, List.getD_cons_succ, Int.reduceToNat, not_false_eq_true, Nat.le_refl]
    refine WP_loop puA (fun k : Nat => ⟨[⟨0, [], .v (.string (bs s))⟩, ⟨1, [], .v (.int .i64 k)⟩], [], [], [], 0, m⟩)
      (fun k => p ≤ k ∧ k ≤ s.length ∧ p + skipW false (s.drop p) = k + skipW false (s.drop k)) (fun k => s.length - k) p (by kernel_rfl) (fun _ _ => Nat.le_refl _) (fun _ _ => .inl rfl) (fun _ => ?_) ?_ ?_ ?_
    · simp only [go_sem, ↓reduceIte, or_true, or_false, true_or, false_or, Option.some.injEq, exists_eq_left, exists_eq_left', Nat.reduceBEq, Nat.reduceAdd, Nat.reduceMul, Nat.reduceSub, Nat.reduceEqDiff, Nat.reduceLT, Nat.reduceLeDiff, Option.map, Option.bind, List.map, List.length, true_implies, true_and, and_true, Bool.and_true, Bool.true_and, Bool.or_false, Bool.false_or, Bool.not_true, Bool.not_false, Bool.and_false, Bool.false_and, List.cons_append, List.nil_append, List.append_nil, mk_eq_bs, tl_bs, List.getElem?_cons_zero, List.getElem?_cons_succ, eq_self, reduceCtorEq, implies_true, false_implies, decide_eq_true_eq, decide_eq_false_iff_not, Bool.and_eq_true, Bool.or_eq_true, Bool.not_eq_true', Bool.and_eq_false_iff, Bool.or_eq_false_iff, Bool.not_eq_false', Option.toList, SV.v.injEq, Value.int.injEq, Value.bool.injEq, Value.string.injEq, Option.getD, List.contains_cons, List.contains_nil, beq_self_eq_true, Nat.max_def, List.set, List.drop, List.take, Int.toNat_natCast, Nat.mul_one, Int.toNat_zero, List.drop_zero, Bx.mk.injEq, Vc.mk.injEq, List.cons.injEq, List.take_length, List.getElem?_nil, List.getD_cons_zero, List.getD_cons_succ, Int.reduceToNat, not_false_eq_true, Nat.le_refl]
    · simp only [go_sem, ↓reduceIte, or_true, or_false, true_or, false_or, Option.some.injEq, exists_eq_left, exists_eq_left', Nat.reduceBEq, Nat.reduceAdd, Nat.reduceMul, Nat.reduceSub, Nat.reduceEqDiff, Nat.reduceLT, Nat.reduceLeDiff, Option.map, Option.bind, List.map, List.length, true_implies, true_and, and_true, Bool.and_true, Bool.true_and, Bool.or_false, Bool.false_or, Bool.not_true, Bool.not_false, Bool.and_false, Bool.false_and, List.cons_append, List.nil_append, List.append_nil, mk_eq_bs, tl_bs, List.getElem?_cons_zero, List.getElem?_cons_succ, eq_self, reduceCtorEq, implies_true, false_implies, decide_eq_true_eq, decide_eq_false_iff_not, Bool.and_eq_true, Bool.or_eq_true, Bool.not_eq_true', Bool.and_eq_false_iff, Bool.or_eq_false_iff, Bool.not_eq_false', Option.toList, SV.v.injEq, Value.int.injEq, Value.bool.injEq, Value.string.injEq, Option.getD, List.contains_cons, List.contains_nil, beq_self_eq_true, Nat.max_def, List.set, List.drop, List.take, Int.toNat_natCast, Nat.mul_one, Int.toNat_zero, List.drop_zero, Bx.mk.injEq, Vc.mk.injEq, List.cons.injEq, List.take_length, List.getElem?_nil, List.getD_cons_zero, List.getD_cons_succ, Int.reduceToNat, not_false_eq_true, Nat.le_refl]
    · exact ⟨Nat.le_refl _, hp, rfl⟩
    · rintro k ⟨h1, h2, h3⟩
      simp only [go_sem, ↓reduceIte, or_true, or_false, true_or, false_or, Option.some.injEq, exists_eq_left, exists_eq_left', Nat.reduceBEq, Nat.reduceAdd, Nat.reduceMul, Nat.reduceSub, Nat.reduceEqDiff, Nat.reduceLT, Nat.reduceLeDiff, Option.map, Option.bind, List.map, List.length, true_implies, true_and, and_true, Bool.and_true, Bool.true_and, Bool.or_false, Bool.false_or, Bool.not_true, Bool.not_false, Bool.and_false, Bool.false_and, List.cons_append, List.nil_append, List.append_nil, mk_eq_bs, tl_bs, List.getElem?_cons_zero, List.getElem?_cons_succ, eq_self, reduceCtorEq, implies_true, false_implies, decide_eq_true_eq, decide_eq_false_iff_not, Bool.and_eq_true, Bool.or_eq_true, Bool.not_eq_true', Bool.and_eq_false_iff, Bool.or_eq_false_iff, Bool.not_eq_false', Option.toList, SV.v.injEq, Value.int.injEq, Value.bool.injEq, Value.string.injEq, Option.getD, List.contains_cons, List.contains_nil, beq_self_eq_true, Nat.max_def, List.set, List.drop, List.take, Int.toNat_natCast, Nat.mul_one, Int.toNat_zero, List.drop_zero, Bx.mk.injEq, Vc.mk.injEq, List.cons.injEq, List.take_length, List.getElem?_nil, List.getD_cons_zero, List.getD_cons_succ, Int.reduceToNat, not_false_eq_true, Nat.le_refl]
      refine ⟨fun hlt => ?_, fun hge => ?_⟩
      · have hkl : k < s.length := by omega
        rw [drop_at hkl] at h3
        simp only [skipW] at h3
        refine ⟨by omega, fun hw => ⟨by unfold I64; omega, k + 1, rfl, ⟨by omega, hkl, ?_⟩, by omega⟩, fun hw => ⟨⟨by omega, by omega, by omega, by simp⟩, fun hi => ?_, fun hi => ?_⟩⟩
        · rw [if_pos (by omega)] at h3
          omega
        · rw [isAt_pre h2, drop_at hkl] at hi
          rw [if_neg (by omega), if_neg (fun hh => by rw [hasPre_two.2 hh] at hi; cases hi)] at h3
          rw [h3]; rfl
        · rw [isAt_pre h2, drop_at hkl] at hi
          rw [if_neg (by omega), if_pos (hasPre_two.1 hi)] at h3
          have hst : p + skipW false (s.drop p) = k + skipW true (s.drop k) := by
            rw [h3, drop_at hkl]
            simp only [skipW]
            rw [if_neg (by have := (hasPre_two.1 hi).1; omega)]
          refine WP_loop puA (fun j : Nat => ⟨[⟨0, [], .v (.string (bs s))⟩, ⟨1, [], .v (.int .i64 j)⟩], [], [], [], 0, m⟩)
            (fun j => k ≤ j ∧ j ≤ s.length ∧ p + skipW false (s.drop p) = j + skipW true (s.drop j)) (fun j => s.length - j) k (by kernel_rfl) (fun _ _ => Nat.le_refl _) (fun _ _ => .inl rfl) (fun _ => ?_) ?_ ?_ ?_
          · simp only [go_sem, ↓reduceIte, or_true, or_false, true_or, false_or, Option.some.injEq, exists_eq_left, exists_eq_left', Nat.reduceBEq, Nat.reduceAdd, Nat.reduceMul, Nat.reduceSub, Nat.reduceEqDiff, Nat.reduceLT, Nat.reduceLeDiff, Option.map, Option.bind, List.map, List.length, true_implies, true_and, and_true, Bool.and_true, Bool.true_and, Bool.or_false, Bool.false_or, Bool.not_true, Bool.not_false, Bool.and_false, Bool.false_and, List.cons_append, List.nil_append, List.append_nil, mk_eq_bs, tl_bs, List.getElem?_cons_zero, List.getElem?_cons_succ, eq_self, reduceCtorEq, implies_true, false_implies, decide_eq_true_eq, decide_eq_false_iff_not, Bool.and_eq_true, Bool.or_eq_true, Bool.not_eq_true', Bool.and_eq_false_iff, Bool.or_eq_false_iff, Bool.not_eq_false', Option.toList, SV.v.injEq, Value.int.injEq, Value.bool.injEq, Value.string.injEq, Option.getD, List.contains_cons, List.contains_nil, beq_self_eq_true, Nat.max_def, List.set, List.drop, List.take, Int.toNat_natCast, Nat.mul_one, Int.toNat_zero, List.drop_zero, Bx.mk.injEq, Vc.mk.injEq, List.cons.injEq, List.take_length, List.getElem?_nil, List.getD_cons_zero, List.getD_cons_succ, Int.reduceToNat, not_false_eq_true, Nat.le_refl]
          · simp only [go_sem, ↓reduceIte, or_true, or_false, true_or, false_or, Option.some.injEq, exists_eq_left, exists_eq_left', Nat.reduceBEq, Nat.reduceAdd, Nat.reduceMul, Nat.reduceSub, Nat.reduceEqDiff, Nat.reduceLT, Nat.reduceLeDiff, Option.map, Option.bind, List.map, List.length, true_implies, true_and, and_true, Bool.and_true, Bool.true_and, Bool.or_false, Bool.false_or, Bool.not_true, Bool.not_false, Bool.and_false, Bool.false_and, List.cons_append, List.nil_append, List.append_nil, mk_eq_bs, tl_bs, List.getElem?_cons_zero, List.getElem?_cons_succ, eq_self, reduceCtorEq, implies_true, false_implies, decide_eq_true_eq, decide_eq_false_iff_not, Bool.and_eq_true, Bool.or_eq_true, Bool.not_eq_true', Bool.and_eq_false_iff, Bool.or_eq_false_iff, Bool.not_eq_false', Option.toList, SV.v.injEq, Value.int.injEq, Value.bool.injEq, Value.string.injEq, Option.getD, List.contains_cons, List.contains_nil, beq_self_eq_true, Nat.max_def, List.set, List.drop, List.take, Int.toNat_natCast, Nat.mul_one, Int.toNat_zero, List.drop_zero, Bx.mk.injEq, Vc.mk.injEq, List.cons.injEq, List.take_length, List.getElem?_nil, List.getD_cons_zero, List.getD_cons_succ, Int.reduceToNat, not_false_eq_true, Nat.le_refl]
          · exact ⟨Nat.le_refl _, h2, hst⟩
          · rintro j ⟨g1, g2, g3⟩
            simp only [go_sem, ↓reduceIte, or_true, or_false, true_or, false_or, Option.some.injEq, exists_eq_left, exists_eq_left', Nat.reduceBEq, Nat.reduceAdd, Nat.reduceMul, Nat.reduceSub, Nat.reduceEqDiff, Nat.reduceLT, Nat.reduceLeDiff, Option.map, Option.bind, List.map, List.length, true_implies, true_and, and_true, Bool.and_true, Bool.true_and, Bool.or_false, Bool.false_or, Bool.not_true, Bool.not_false, Bool.and_false, Bool.false_and, List.cons_append, List.nil_append, List.append_nil, mk_eq_bs, tl_bs, List.getElem?_cons_zero, List.getElem?_cons_succ, eq_self, reduceCtorEq, implies_true, false_implies, decide_eq_true_eq, decide_eq_false_iff_not, Bool.and_eq_true, Bool.or_eq_true, Bool.not_eq_true', Bool.and_eq_false_iff, Bool.or_eq_false_iff, Bool.not_eq_false', Option.toList, SV.v.injEq, Value.int.injEq, Value.bool.injEq, Value.string.injEq, Option.getD, List.contains_cons, List.contains_nil, beq_self_eq_true, Nat.max_def, List.set, List.drop, List.take, Int.toNat_natCast, Nat.mul_one, Int.toNat_zero, List.drop_zero, Bx.mk.injEq, Vc.mk.injEq, List.cons.injEq, List.take_length, List.getElem?_nil, List.getD_cons_zero, List.getD_cons_succ, Int.reduceToNat, not_false_eq_true, Nat.le_refl]
            refine ⟨fun h => by omega, fun h => ⟨by unfold I64; omega, j + 1, rfl, ⟨by omega, by omega, ?_⟩, by omega⟩, fun h => ⟨j, rfl, ⟨by omega, g2, ?_⟩, ?_⟩⟩
            · rw [g3, drop_at (by omega)]
              simp only [skipW]
              rw [if_neg (by omega)]
              omega
            · rcases Nat.lt_or_ge j s.length with g4 | g4
              · rw [g3, drop_at g4]
                simp only [skipW]
                rw [if_pos (by omega), if_pos (by omega)]
              · rw [g3, List.drop_of_length_le g4]; rfl
            · rcases Nat.lt_or_ge k j with g4 | g4
              · omega
              · have := (hasPre_two.1 hi).1
                obtain rfl : j = k := by omega
                omega
      · have e : s.drop k = [] := List.drop_of_length_le (by omega)
        rw [e] at h3
        rw [h3]; rfl
end Go.Proofs.YtmkifodpkcmgoaaDoor.E

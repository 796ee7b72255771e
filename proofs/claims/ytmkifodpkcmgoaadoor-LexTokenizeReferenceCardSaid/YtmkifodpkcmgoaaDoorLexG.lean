/- lex, part G: the scanner: white space. -/
import Derived.Test.YtmkifodpkcmgoaaDoorEngZ
import Derived.Test.YtmkifodpkcmgoaaDoorLexF
namespace Go.Proofs.YtmkifodpkcmgoaaDoor.E
open Go

/-- How many bytes are skipped ('true': inside of a comment). -/
def skipW : Bool → List UInt8 → Nat
  | _, [] => 0
  | true, c :: r => if c.toNat = 10 then 1 + skipW false r else 1 + skipW true r
  | false, c :: r => if c.toNat = 9 ∨ c.toNat = 10 ∨ c.toNat = 13 ∨ c.toNat = 32 then 1 + skipW false r else if c.toNat = 47 ∧ r.head?.map UInt8.toNat = some 47 then 1 + skipW true r else 0
theorem skip_le : ∀ (b : Bool) (l : List UInt8), skipW b l ≤ l.length
  | _, [] => by simp [skipW]
  | true, c :: r => by
    have h1 := skip_le false r; have h2 := skip_le true r
    simp only [skipW, List.length_cons]; split <;> omega
  | false, c :: r => by
    have h1 := skip_le false r; have h2 := skip_le true r
    simp only [skipW, List.length_cons]; split
    · omega
    · split <;> omega
theorem hasPre_iff {a b : List UInt8} : hasPre a b = true ↔ ∃ r, a = b ++ r := by
  simp only [hasPre, Bool.and_eq_true, decide_eq_true_eq]
  constructor
  · rintro ⟨_, h⟩
    exact ⟨a.drop b.length, by conv => lhs; rw [← List.take_append_drop b.length a, h]⟩
  · rintro ⟨r, rfl⟩
    exact ⟨by rw [List.length_append]; omega, by simp⟩
theorem u8_eq {c : UInt8} {n : Nat} (h : c.toNat = n) : c = UInt8.ofNat n := by rw [← h]; simp
theorem hasPre_two {c : UInt8} {r : List UInt8} : hasPre (c :: r) [47, 47] = true ↔ c.toNat = 47 ∧ r.head?.map UInt8.toNat = some 47 := by
  rw [hasPre_iff]
  constructor
  · rintro ⟨t, h⟩
    simp only [List.cons_append, List.nil_append, List.cons.injEq] at h
    rw [h.1, h.2]
    simp
  · rintro ⟨h1, h2⟩
    cases r with
    | nil => simp at h2
    | cons d r =>
      simp only [List.head?_cons, Option.map_some, Option.some.injEq] at h2
      exact ⟨r, by rw [u8_eq h1, u8_eq h2]; rfl⟩
/-- A comment reaches to the end of its line. -/
theorem skip_line : ∀ (l : List UInt8), skipW true l = (if Lib.indexByte l 10 < 0 then l.length else (Lib.indexByte l 10).toNat + skipW false (l.drop (Lib.indexByte l 10).toNat))
  | [] => rfl
  | c :: r => by
    have ih := skip_line r
    have hge := Lib.indexByte_ge r 10
    simp only [skipW, Lib.indexByte, beq_iff_eq]
    by_cases h : c.toNat = 10
    · have : c = 10 := u8_eq h
      subst this
      simp [skipW]
    · have h' : ¬ c = 10 := fun e => h (by rw [e]; rfl)
      rw [if_neg h, if_neg h', ih]
      by_cases hn : Lib.indexByte r 10 = -1
      · rw [if_pos hn, if_pos (by omega), if_pos (by omega), List.length_cons]; omega
      · rw [if_neg hn, if_neg (by omega), if_neg (by omega)]
        have e : (Lib.indexByte r 10 + 1).toNat = (Lib.indexByte r 10).toNat + 1 := by omega
        rw [e, List.drop_succ_cons]; omega
theorem idx_lt (c : UInt8) : ∀ (l : List UInt8), Lib.indexByte l c < l.length
  | [] => by simp [Lib.indexByte]
  | d :: r => by
    have := idx_lt c r
    simp only [Lib.indexByte, List.length_cons]
    split
    · omega
    · split <;> omega
def ixB (s : List UInt8) (c : Int) : Int := Lib.indexByte s c.toNat.toUInt8
theorem ixB_at (s : List UInt8) (c : UInt8) : ixB s c.toNat = Lib.indexByte s c := by unfold ixB; rw [Int.toNat_natCast]; simp
abbrev pIB : List Value → Option (Prop × Value) := pSB (fun _ _ => True) fun s c => .int .i64 (ixB s c)
abbrev cf7 : Cfg := mkCf (fun f => f == 68 || f == 70 || f == 42 || f == 44 || f == 45 || f == 46 || f == 21 || f == 22) [(41, pf1 isStartB), (43, pf1 isDigitB), (39, pSS (fun _ _ => True) fun a b => .bool (hasPre a b)), (40, pIB), (28, pS1 BL fun s => .bool (isName s))]
theorem pu7 : PureOk cf7 Tryd.prog := by
  refine pure_cons (by kernel_rfl) (pure1 isStart_spec) (pure_cons (by kernel_rfl) (pure1 isDigit_spec) (pure_cons (by kernel_rfl) (pureSS fun a b m _ => hasPrefix_spec a b m) (pure_cons (by kernel_rfl) (pureSB fun a c m _ => indexByte_spec a c m) (pure_cons (by kernel_rfl) (pureS isName_spec) pure_nil))))
set_option maxRecDepth 20000 in
theorem blank_spec (s : List UInt8) (p : Nat) (m : Mem) (hp : p ≤ s.length) (hs : s.length ≤ 1000000) :
    FnH Tryd.prog 21 [.box 0 0] ⟨[⟨0, 41, [.v (.string (bs s)), .v (.int .i64 p)]⟩], []⟩ m fun r H' m' => r = .tup [] ∧ H' = ⟨[⟨0, 41, [.v (.string (bs s)), .v (.int .i64 (p + skipW false (s.drop p) : Nat))]⟩], []⟩ ∧ m' = m := by
  refine enter cf7 pu7 Tryd.func21 rfl rfl (by kernel_rfl) rfl ?_ ?_
  · simp only [go_sem, ↓reduceIte, or_true, or_false, true_or, false_or, Option.some.injEq, exists_eq_left, exists_eq_left', Nat.reduceBEq, Nat.reduceAdd, Nat.reduceMul, Nat.reduceSub, Nat.reduceEqDiff, Nat.reduceLT, Nat.reduceLeDiff, Option.map, Option.bind, List.map, List.length, true_implies, true_and, and_true, Bool.and_true, Bool.true_and, Bool.or_false, Bool.false_or, Bool.not_true, Bool.not_false, Bool.and_false, Bool.false_and, List.cons_append, List.nil_append, List.append_nil, mk_eq_bs, tl_bs, List.getElem?_cons_zero, List.getElem?_cons_succ, eq_self, reduceCtorEq, implies_true, false_implies, decide_eq_true_eq, decide_eq_false_iff_not, Bool.and_eq_true, Bool.or_eq_true, Bool.not_eq_true', Bool.and_eq_false_iff, Bool.or_eq_false_iff, Bool.not_eq_false', Option.toList, SV.v.injEq, Value.int.injEq, Value.bool.injEq, Value.string.injEq, Option.getD, List.contains_cons, List.contains_nil, beq_self_eq_true, Nat.max_def, List.set, List.drop, List.take, Int.toNat_natCast, Nat.mul_one, Int.toNat_zero, List.drop_zero, Bx.mk.injEq, Vc.mk.injEq, List.cons.injEq, List.take_length, List.getElem?_nil, List.getD_cons_zero, List.getD_cons_succ, Int.reduceToNat, not_false_eq_true, Nat.le_refl]
  · simp only [go_sem, ↓reduceIte, or_true, or_false, true_or, false_or, Option.some.injEq, exists_eq_left, exists_eq_left', Nat.reduceBEq, Nat.reduceAdd, Nat.reduceMul, Nat.reduceSub, Nat.reduceEqDiff, Nat.reduceLT, Nat.reduceLeDiff, Option.map, Option.bind, List.map, List.length, true_implies, true_and, and_true, Bool.and_true, Bool.true_and, Bool.or_false, Bool.false_or, Bool.not_true, Bool.not_false, Bool.and_false, Bool.false_and, List.cons_append, List.nil_append, List.append_nil, mk_eq_bs, tl_bs, List.getElem?_cons_zero, List.getElem?_cons_succ, eq_self, reduceCtorEq, implies_true, false_implies, decide_eq_true_eq, decide_eq_false_iff_not, Bool.and_eq_true, Bool.or_eq_true, Bool.not_eq_true', Bool.and_eq_false_iff, Bool.or_eq_false_iff, Bool.not_eq_false', Option.toList, SV.v.injEq, Value.int.injEq, Value.bool.injEq, Value.string.injEq, Option.getD, List.contains_cons, List.contains_nil, beq_self_eq_true, Nat.max_def, List.set, List.drop, List.take, Int.toNat_natCast, Nat.mul_one, Int.toNat_zero, List.drop_zero, Bx.mk.injEq, Vc.mk.injEq, List.cons.injEq, List.take_length, List.getElem?_nil, List.getD_cons_zero, List.getD_cons_succ, Int.reduceToNat, not_false_eq_true, Nat.le_refl]
    refine WP_scope1 pu7 (fun k : Nat => ⟨[⟨0, [], .box 0 0⟩], [], [⟨0, 41, [.v (.string (bs s)), .v (.int .i64 k)]⟩], [], 1, m⟩)
      (fun k => k ≤ s.length ∧ p + skipW false (s.drop p) = k + skipW false (s.drop k)) (fun k => s.length - k) p (by kernel_rfl) (fun _ _ => Nat.le_refl _) (fun _ _ => .inl rfl) (fun _ => ?_) ?_ ?_ ?_
    · simp only [go_sem, ↓reduceIte, or_true, or_false, true_or, false_or, Option.some.injEq, exists_eq_left, exists_eq_left', Nat.reduceBEq, Nat.reduceAdd, Nat.reduceMul, Nat.reduceSub, Nat.reduceEqDiff, Nat.reduceLT, Nat.reduceLeDiff, Option.map, Option.bind, List.map, List.length, true_implies, true_and, and_true, Bool.and_true, Bool.true_and, Bool.or_false, Bool.false_or, Bool.not_true, Bool.not_false, Bool.and_false, Bool.false_and, List.cons_append, List.nil_append, List.append_nil, mk_eq_bs, tl_bs, List.getElem?_cons_zero, List.getElem?_cons_succ, eq_self, reduceCtorEq, implies_true, false_implies, decide_eq_true_eq, decide_eq_false_iff_not, Bool.and_eq_true, Bool.or_eq_true, Bool.not_eq_true', Bool.and_eq_false_iff, Bool.or_eq_false_iff, Bool.not_eq_false', Option.toList, SV.v.injEq, Value.int.injEq, Value.bool.injEq, Value.string.injEq, Option.getD, List.contains_cons, List.contains_nil, beq_self_eq_true, Nat.max_def, List.set, List.drop, List.take, Int.toNat_natCast, Nat.mul_one, Int.toNat_zero, List.drop_zero, Bx.mk.injEq, Vc.mk.injEq, List.cons.injEq, List.take_length, List.getElem?_nil, List.getD_cons_zero, List.getD_cons_succ, Int.reduceToNat, not_false_eq_true, Nat.le_refl]
    · simp only [go_sem, ↓reduceIte, or_true, or_false, true_or, false_or, Option.some.injEq, exists_eq_left, exists_eq_left', Nat.reduceBEq, Nat.reduceAdd, Nat.reduceMul, Nat.reduceSub, Nat.reduceEqDiff, Nat.reduceLT, Nat.reduceLeDiff, Option.map, Option.bind, List.map, List.length, true_implies, true_and, and_true, Bool.and_true, Bool.true_and, Bool.or_false, Bool.false_or, Bool.not_true, Bool.not_false, Bool.and_false, Bool.false_and, List.cons_append, List.nil_append, List.append_nil, mk_eq_bs, tl_bs, List.getElem?_cons_zero, List.getElem?_cons_succ, eq_self, reduceCtorEq, implies_true, false_implies, decide_eq_true_eq, decide_eq_false_iff_not, Bool.and_eq_true, Bool.or_eq_true, Bool.not_eq_true', Bool.and_eq_false_iff, Bool.or_eq_false_iff, Bool.not_eq_false', Option.toList, SV.v.injEq, Value.int.injEq, Value.bool.injEq, Value.string.injEq, Option.getD, List.contains_cons, List.contains_nil, beq_self_eq_true, Nat.max_def, List.set, List.drop, List.take, Int.toNat_natCast, Nat.mul_one, Int.toNat_zero, List.drop_zero, Bx.mk.injEq, Vc.mk.injEq, List.cons.injEq, List.take_length, List.getElem?_nil, List.getD_cons_zero, List.getD_cons_succ, Int.reduceToNat, not_false_eq_true, Nat.le_refl]
    · exact ⟨hp, rfl⟩
    · rintro k0 ⟨hk0, hp0⟩
      simp only [go_sem, ↓reduceIte, or_true, or_false, true_or, false_or, Option.some.injEq, exists_eq_left, exists_eq_left', Nat.reduceBEq, Nat.reduceAdd, Nat.reduceMul, Nat.reduceSub, Nat.reduceEqDiff, Nat.reduceLT, Nat.reduceLeDiff, Option.map, Option.bind, List.map, List.length, true_implies, true_and, and_true, Bool.and_true, Bool.true_and, Bool.or_false, Bool.false_or, Bool.not_true, Bool.not_false, Bool.and_false, Bool.false_and, List.cons_append, List.nil_append, List.append_nil, mk_eq_bs, tl_bs, List.getElem?_cons_zero, List.getElem?_cons_succ, eq_self, reduceCtorEq, implies_true, false_implies, decide_eq_true_eq, decide_eq_false_iff_not, Bool.and_eq_true, Bool.or_eq_true, Bool.not_eq_true', Bool.and_eq_false_iff, Bool.or_eq_false_iff, Bool.not_eq_false', Option.toList, SV.v.injEq, Value.int.injEq, Value.bool.injEq, Value.string.injEq, Option.getD, List.contains_cons, List.contains_nil, beq_self_eq_true, Nat.max_def, List.set, List.drop, List.take, Int.toNat_natCast, Nat.mul_one, Int.toNat_zero, List.drop_zero, Bx.mk.injEq, Vc.mk.injEq, List.cons.injEq, List.take_length, List.getElem?_nil, List.getD_cons_zero, List.getD_cons_succ, Int.reduceToNat, not_false_eq_true, Nat.le_refl]
      refine WP_loop pu7 (fun k : Nat => ⟨[⟨0, [], .box 0 0⟩], [], [⟨0, 41, [.v (.string (bs s)), .v (.int .i64 k)]⟩], [], 1, m⟩)
        (fun k => k0 ≤ k ∧ k ≤ s.length ∧ p + skipW false (s.drop p) = k + skipW false (s.drop k)) (fun k => s.length - k) k0 (by kernel_rfl) (fun _ _ => Nat.le_refl _) (fun _ _ => .inl rfl) (fun _ => ?_) ?_ ?_ ?_
      · simp only [go_sem, ↓reduceIte, or_true, or_false, true_or, false_or, Option.some.injEq, exists_eq_left, exists_eq_left', Nat.reduceBEq, Nat.reduceAdd, Nat.reduceMul, Nat.reduceSub, Nat.reduceEqDiff, Nat.reduceLT, Nat.reduceLeDiff, Option.map, Option.bind, List.map, List.length, true_implies, true_and, and_true, Bool.and_true, Bool.true_and, Bool.or_false, Bool.false_or, Bool.not_true, Bool.not_false, Bool.and_false, Bool.false_and, List.cons_append, List.nil_append, List.append_nil, mk_eq_bs, tl_bs, List.getElem?_cons_zero, List.getElem?_cons_succ, eq_self, reduceCtorEq, implies_true, false_implies, decide_eq_true_eq, decide_eq_false_iff_not, Bool.and_eq_true, Bool.or_eq_true, Bool.not_eq_true', Bool.and_eq_false_iff, Bool.or_eq_false_iff, Bool.not_eq_false', Option.toList, SV.v.injEq, Value.int.injEq, Value.bool.injEq, Value.string.injEq, Option.getD, List.contains_cons, List.contains_nil, beq_self_eq_true, Nat.max_def, List.set, List.drop, List.take, Int.toNat_natCast, Nat.mul_one, Int.toNat_zero, List.drop_zero, Bx.mk.injEq, Vc.mk.injEq, List.cons.injEq, List.take_length, List.getElem?_nil, List.getD_cons_zero, List.getD_cons_succ, Int.reduceToNat, not_false_eq_true, Nat.le_refl]
      · simp only [go_sem, ↓reduceIte, or_true, or_false, true_or, false_or, Option.some.injEq, exists_eq_left, exists_eq_left', Nat.reduceBEq, Nat.reduceAdd, Nat.reduceMul, Nat.reduceSub, Nat.reduceEqDiff, Nat.reduceLT, Nat.reduceLeDiff, Option.map, Option.bind, List.map, List.length, true_implies, true_and, and_true, Bool.and_true, Bool.true_and, Bool.or_false, Bool.false_or, Bool.not_true, Bool.not_false, Bool.and_false, Bool.false_and, List.cons_append, List.nil_append, List.append_nil, mk_eq_bs, tl_bs, List.getElem?_cons_zero, List.getElem?_cons_succ, eq_self, reduceCtorEq, implies_true, false_implies, decide_eq_true_eq, decide_eq_false_iff_not, Bool.and_eq_true, Bool.or_eq_true, Bool.not_eq_true', Bool.and_eq_false_iff, Bool.or_eq_false_iff, Bool.not_eq_false', Option.toList, SV.v.injEq, Value.int.injEq, Value.bool.injEq, Value.string.injEq, Option.getD, List.contains_cons, List.contains_nil, beq_self_eq_true, Nat.max_def, List.set, List.drop, List.take, Int.toNat_natCast, Nat.mul_one, Int.toNat_zero, List.drop_zero, Bx.mk.injEq, Vc.mk.injEq, List.cons.injEq, List.take_length, List.getElem?_nil, List.getD_cons_zero, List.getD_cons_succ, Int.reduceToNat, not_false_eq_true, Nat.le_refl]
      · exact ⟨Nat.le_refl _, hk0, hp0⟩
      · rintro k ⟨hkk, hk, hpk⟩
        simp only [go_sem, ↓reduceIte, or_true, or_false, true_or, false_or, Option.some.injEq, exists_eq_left, exists_eq_left', Nat.reduceBEq, Nat.reduceAdd, Nat.reduceMul, Nat.reduceSub, Nat.reduceEqDiff, Nat.reduceLT, Nat.reduceLeDiff, Option.map, Option.bind, List.map, List.length, true_implies, true_and, and_true, Bool.and_true, Bool.true_and, Bool.or_false, Bool.false_or, Bool.not_true, Bool.not_false, Bool.and_false, Bool.false_and, List.cons_append, List.nil_append, List.append_nil, mk_eq_bs, tl_bs, List.getElem?_cons_zero, List.getElem?_cons_succ, eq_self, reduceCtorEq, implies_true, false_implies, decide_eq_true_eq, decide_eq_false_iff_not, Bool.and_eq_true, Bool.or_eq_true, Bool.not_eq_true', Bool.and_eq_false_iff, Bool.or_eq_false_iff, Bool.not_eq_false', Option.toList, SV.v.injEq, Value.int.injEq, Value.bool.injEq, Value.string.injEq, Option.getD, List.contains_cons, List.contains_nil, beq_self_eq_true, Nat.max_def, List.set, List.drop, List.take, Int.toNat_natCast, Nat.mul_one, Int.toNat_zero, List.drop_zero, Bx.mk.injEq, Vc.mk.injEq, List.cons.injEq, List.take_length, List.getElem?_nil, List.getD_cons_zero, List.getD_cons_succ, Int.reduceToNat, not_false_eq_true, Nat.le_refl]
        refine WP_drawQ pu7 (by kernel_rfl) (by kernel_rfl) (by kernel_rfl) ?_
        simp only [go_sem, ↓reduceIte, or_true, or_false, true_or, false_or, Option.some.injEq, exists_eq_left, exists_eq_left', Nat.reduceBEq, Nat.reduceAdd, Nat.reduceMul, Nat.reduceSub, Nat.reduceEqDiff, Nat.reduceLT, Nat.reduceLeDiff, Option.map, Option.bind, List.map, List.length, true_implies, true_and, and_true, Bool.and_true, Bool.true_and, Bool.or_false, Bool.false_or, Bool.not_true, Bool.not_false, Bool.and_false, Bool.false_and, List.cons_append, List.nil_append, List.append_nil, mk_eq_bs, tl_bs, List.getElem?_cons_zero, List.getElem?_cons_succ, eq_self, reduceCtorEq, implies_true, false_implies, decide_eq_true_eq, decide_eq_false_iff_not, Bool.and_eq_true, Bool.or_eq_true, Bool.not_eq_true', Bool.and_eq_false_iff, Bool.or_eq_false_iff, Bool.not_eq_false', Option.toList, SV.v.injEq, Value.int.injEq, Value.bool.injEq, Value.string.injEq, Option.getD, List.contains_cons, List.contains_nil, beq_self_eq_true, Nat.max_def, List.set, List.drop, List.take, Int.toNat_natCast, Nat.mul_one, Int.toNat_zero, List.drop_zero, Bx.mk.injEq, Vc.mk.injEq, List.cons.injEq, List.take_length, List.getElem?_nil, List.getD_cons_zero, List.getD_cons_succ, Int.reduceToNat, not_false_eq_true, Nat.le_refl]
        refine ⟨fun hlt => ?_, fun hge => ?_⟩
        · refine WP_drawQ pu7 (by kernel_rfl) (by kernel_rfl) (by kernel_rfl) ?_
          simp only [go_sem, ↓reduceIte, or_true, or_false, true_or, false_or, Option.some.injEq, exists_eq_left, exists_eq_left', Nat.reduceBEq, Nat.reduceAdd, Nat.reduceMul, Nat.reduceSub, Nat.reduceEqDiff, Nat.reduceLT, Nat.reduceLeDiff, Option.map, Option.bind, List.map, List.length, true_implies, true_and, and_true, Bool.and_true, Bool.true_and, Bool.or_false, Bool.false_or, Bool.not_true, Bool.not_false, Bool.and_false, Bool.false_and, List.cons_append, List.nil_append, List.append_nil, mk_eq_bs, tl_bs, List.getElem?_cons_zero, List.getElem?_cons_succ, eq_self, reduceCtorEq, implies_true, false_implies, decide_eq_true_eq, decide_eq_false_iff_not, Bool.and_eq_true, Bool.or_eq_true, Bool.not_eq_true', Bool.and_eq_false_iff, Bool.or_eq_false_iff, Bool.not_eq_false', Option.toList, SV.v.injEq, Value.int.injEq, Value.bool.injEq, Value.string.injEq, Option.getD, List.contains_cons, List.contains_nil, beq_self_eq_true, Nat.max_def, List.set, List.drop, List.take, Int.toNat_natCast, Nat.mul_one, Int.toNat_zero, List.drop_zero, Bx.mk.injEq, Vc.mk.injEq, List.cons.injEq, List.take_length, List.getElem?_nil, List.getD_cons_zero, List.getD_cons_succ, Int.reduceToNat, not_false_eq_true, Nat.le_refl]
          refine ⟨⟨by omega, hlt⟩, ?_⟩
          have hkl : k < s.length := by omega
          have hI : I64 (k + 1) := by unfold I64; omega
          rw [drop_at hkl] at hpk
          simp only [skipW] at hpk
          have ws : ((s.getD k 0).toNat = 9 ∨ (s.getD k 0).toNat = 10 ∨ (s.getD k 0).toNat = 13 ∨ (s.getD k 0).toNat = 32) →
              ∃ x' : Nat, (k : Int) + 1 = x' ∧ (k0 ≤ x' ∧ x' ≤ s.length ∧ p + skipW false (s.drop p) = x' + skipW false (s.drop x')) ∧ s.length - x' < s.length - k := fun hc => by
            rw [if_pos hc] at hpk
            exact ⟨k + 1, rfl, ⟨by omega, hkl, by omega⟩, by omega⟩
          refine ⟨fun h => ⟨fun _ => ⟨hI, ws (by omega)⟩, fun h' => absurd h h'⟩, fun h9 => ⟨fun h => ⟨fun _ => ⟨hI, ws (by omega)⟩, fun h' => absurd h h'⟩, fun h10 => ⟨fun h => ⟨fun _ => ⟨hI, ws (by omega)⟩, fun h' => absurd h h'⟩,
            fun h13 => ⟨fun h => ⟨hI, ws (by omega)⟩, fun h32 => ?_⟩⟩⟩⟩
          rw [if_neg (by omega)] at hpk
          refine WP_drawQ pu7 (by kernel_rfl) (by kernel_rfl) (by kernel_rfl) ?_
          simp only [go_sem, ↓reduceIte, or_true, or_false, true_or, false_or, Option.some.injEq, exists_eq_left, exists_eq_left', Nat.reduceBEq, Nat.reduceAdd, Nat.reduceMul, Nat.reduceSub, Nat.reduceEqDiff, Nat.reduceLT, Nat.reduceLeDiff, Option.map, Option.bind, List.map, List.length, true_implies, true_and, and_true, Bool.and_true, Bool.true_and, Bool.or_false, Bool.false_or, Bool.not_true, Bool.not_false, Bool.and_false, Bool.false_and, List.cons_append, List.nil_append, List.append_nil, mk_eq_bs, tl_bs, List.getElem?_cons_zero, List.getElem?_cons_succ, eq_self, reduceCtorEq, implies_true, false_implies, decide_eq_true_eq, decide_eq_false_iff_not, Bool.and_eq_true, Bool.or_eq_true, Bool.not_eq_true', Bool.and_eq_false_iff, Bool.or_eq_false_iff, Bool.not_eq_false', Option.toList, SV.v.injEq, Value.int.injEq, Value.bool.injEq, Value.string.injEq, Option.getD, List.contains_cons, List.contains_nil, beq_self_eq_true, Nat.max_def, List.set, List.drop, List.take, Int.toNat_natCast, Nat.mul_one, Int.toNat_zero, List.drop_zero, Bx.mk.injEq, Vc.mk.injEq, List.cons.injEq, List.take_length, List.getElem?_nil, List.getD_cons_zero, List.getD_cons_succ, Int.reduceToNat, not_false_eq_true, Nat.le_refl]
          refine ⟨⟨by omega, by omega, by omega⟩, fun hc => ?_, fun hc => ?_⟩
          · have e10 : ixB (s.drop k) 10 = Lib.indexByte (s.drop k) 10 := rfl
            have hh : (s.getD k 0).toNat = 47 ∧ (s.drop (k + 1)).head?.map UInt8.toNat = some 47 := hasPre_two.1 (by rw [← drop_at hkl]; exact hc)
            rw [if_pos hh] at hpk
            have hst : p + skipW false (s.drop p) = k + skipW true (s.drop k) := by
              rw [hpk, drop_at hkl]
              simp only [skipW]
              rw [if_neg (by omega)]
            have hi : Lib.indexByte (s.drop k) 10 ≠ 0 := by
              rw [drop_at hkl]
              have hge := Lib.indexByte_ge (s.drop (k + 1)) 10
              simp only [Lib.indexByte, beq_iff_eq]
              rw [if_neg (fun e => by rw [e] at hh; exact absurd hh.1 (by decide))]
              split <;> omega
            have hge := Lib.indexByte_ge (s.drop k) 10
            have hlt2 := idx_lt 10 (s.drop k)
            rw [List.length_drop] at hlt2
            have hsl := skip_line (s.drop k)
            refine WP_drawQ pu7 (by kernel_rfl) (by kernel_rfl) (by kernel_rfl) ?_
            simp only [go_sem, ↓reduceIte, or_true, or_false, true_or, false_or, Option.some.injEq, exists_eq_left, exists_eq_left', Nat.reduceBEq, Nat.reduceAdd, Nat.reduceMul, Nat.reduceSub, Nat.reduceEqDiff, Nat.reduceLT, Nat.reduceLeDiff, Option.map, Option.bind, List.map, List.length, true_implies, true_and, and_true, Bool.and_true, Bool.true_and, Bool.or_false, Bool.false_or, Bool.not_true, Bool.not_false, Bool.and_false, Bool.false_and, List.cons_append, List.nil_append, List.append_nil, mk_eq_bs, tl_bs, List.getElem?_cons_zero, List.getElem?_cons_succ, eq_self, reduceCtorEq, implies_true, false_implies, decide_eq_true_eq, decide_eq_false_iff_not, Bool.and_eq_true, Bool.or_eq_true, Bool.not_eq_true', Bool.and_eq_false_iff, Bool.or_eq_false_iff, Bool.not_eq_false', Option.toList, SV.v.injEq, Value.int.injEq, Value.bool.injEq, Value.string.injEq, Option.getD, List.contains_cons, List.contains_nil, beq_self_eq_true, Nat.max_def, List.set, List.drop, List.take, Int.toNat_natCast, Nat.mul_one, Int.toNat_zero, List.drop_zero, Bx.mk.injEq, Vc.mk.injEq, List.cons.injEq, List.take_length, List.getElem?_nil, List.getD_cons_zero, List.getD_cons_succ, Int.reduceToNat, not_false_eq_true, Nat.le_refl, e10]
            refine ⟨⟨by omega, by omega, by omega⟩, fun hn => ?_, fun hn => ⟨by unfold I64; omega, k + (Lib.indexByte (s.drop k) 10).toNat, by omega, ⟨by omega, ?_⟩, by omega⟩⟩
            · refine WP_drawQ pu7 (by kernel_rfl) (by kernel_rfl) (by kernel_rfl) ?_
              simp only [go_sem, ↓reduceIte, or_true, or_false, true_or, false_or, Option.some.injEq, exists_eq_left, exists_eq_left', Nat.reduceBEq, Nat.reduceAdd, Nat.reduceMul, Nat.reduceSub, Nat.reduceEqDiff, Nat.reduceLT, Nat.reduceLeDiff, Option.map, Option.bind, List.map, List.length, true_implies, true_and, and_true, Bool.and_true, Bool.true_and, Bool.or_false, Bool.false_or, Bool.not_true, Bool.not_false, Bool.and_false, Bool.false_and, List.cons_append, List.nil_append, List.append_nil, mk_eq_bs, tl_bs, List.getElem?_cons_zero, List.getElem?_cons_succ, eq_self, reduceCtorEq, implies_true, false_implies, decide_eq_true_eq, decide_eq_false_iff_not, Bool.and_eq_true, Bool.or_eq_true, Bool.not_eq_true', Bool.and_eq_false_iff, Bool.or_eq_false_iff, Bool.not_eq_false', Option.toList, SV.v.injEq, Value.int.injEq, Value.bool.injEq, Value.string.injEq, Option.getD, List.contains_cons, List.contains_nil, beq_self_eq_true, Nat.max_def, List.set, List.drop, List.take, Int.toNat_natCast, Nat.mul_one, Int.toNat_zero, List.drop_zero, Bx.mk.injEq, Vc.mk.injEq, List.cons.injEq, List.take_length, List.getElem?_nil, List.getD_cons_zero, List.getD_cons_succ, Int.reduceToNat, not_false_eq_true, Nat.le_refl]
              refine ⟨by unfold I64; omega, by unfold I64; omega, s.length, by omega, ⟨Nat.le_refl _, ?_⟩, by omega⟩
              rw [if_pos hn, List.length_drop] at hsl
              rw [List.drop_length]
              simp only [skipW]
              omega
            · rw [if_neg hn, List.drop_drop] at hsl
              omega
          · have : p + skipW false (s.drop p) = k := by
              rw [hpk, if_neg, Nat.add_zero]
              rintro ⟨e1, e2⟩
              rw [drop_at hkl, hasPre_two.2 ⟨e1, e2⟩] at hc
              cases hc
            rw [this]
        · have e : s.drop k = [] := List.drop_of_length_le (by omega)
          rw [e] at hpk
          rw [hpk]
          rfl
end Go.Proofs.YtmkifodpkcmgoaaDoor.E

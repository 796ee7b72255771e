/- lex, part D: names of classes. -/
import Derived.Test.YtmkifodpkcmgoaaDoorLexC
namespace Go.Proofs.YtmkifodpkcmgoaaDoor.E
open Go

def pS1 (B : List UInt8 → Prop) (F : List UInt8 → Value) : List Value → Option (Prop × Value)
  | [.string a] => some (B (tl a), F (tl a))
  | _ => none
def pSB (B : List UInt8 → Int → Prop) (F : List UInt8 → Int → Value) : List Value → Option (Prop × Value)
  | [.string a, .int .u8 c] => some (B (tl a) c, F (tl a) c)
  | _ => none
attribute [go_sem] pS1.eq_1 pSB.eq_1
def Pure0 (P : Program) (f : FuncId) (G : List Value → Option (Prop × Value)) : Prop := ∀ vals y, G vals = some y → y.1 → ∀ m, FnH P f (vals.map SV.v) ⟨[], []⟩ m (fun r H' _ => r = .v y.2 ∧ H' = ⟨[], []⟩)
theorem pure1 {P : Program} {f : FuncId} {F : Int → Bool} (h : ∀ c m, FnH P f [.v (.int .u8 c)] ⟨[], []⟩ m fun r H' _ => r = .v (.bool (F c)) ∧ H' = ⟨[], []⟩) : Pure0 P f (pf1 F) := fun vals y hy _ m => by
  obtain ⟨c, rfl, rfl⟩ := pf1_some hy
  exact h c m
theorem pureSS {P : Program} {f : FuncId} {B : List UInt8 → List UInt8 → Prop} {F : List UInt8 → List UInt8 → Value} (h : ∀ a b m, B a b → FnH P f [.v (.string (bs a)), .v (.string (bs b))] ⟨[], []⟩ m fun r H' _ => r = .v (F a b) ∧ H' = ⟨[], []⟩) : Pure0 P f (pSS B F) := fun vals y hy hB m => by
  obtain ⟨a, b, rfl, rfl⟩ := pSS_some hy
  exact h a b m hB
theorem pureS {P : Program} {f : FuncId} {B : List UInt8 → Prop} {F : List UInt8 → Value} (h : ∀ a m, B a → FnH P f [.v (.string (bs a))] ⟨[], []⟩ m fun r H' _ => r = .v (F a) ∧ H' = ⟨[], []⟩) : Pure0 P f (pS1 B F) := fun vals y hy hB m => by
  unfold pS1 at hy
  split at hy
  · rename_i a
    cases hy
    have := h (tl a) m hB
    rwa [bs_tl] at this
  · cases hy
theorem pureSB {P : Program} {f : FuncId} {B : List UInt8 → Int → Prop} {F : List UInt8 → Int → Value} (h : ∀ a c m, B a c → FnH P f [.v (.string (bs a)), .v (.int .u8 c)] ⟨[], []⟩ m fun r H' _ => r = .v (F a c) ∧ H' = ⟨[], []⟩) : Pure0 P f (pSB B F) := fun vals y hy hB m => by
  unfold pSB at hy
  split at hy
  · rename_i a c
    cases hy
    have := h (tl a) c m hB
    rwa [bs_tl] at this
  · cases hy

/-- The class of a byte, for the package of names. -/
def classI (c : Int) : Int := if isStartB c then 1 else if isDigitB c then 2 else 0
theorem classI_eq (c : Int) : classI c = if 97 ≤ c ∧ c ≤ 122 ∨ 65 ≤ c ∧ c ≤ 90 ∨ c = 95 ∨ c = 36 then 1 else if 48 ≤ c ∧ c ≤ 57 then 2 else 0 := by
  simp [classI, isStartB, isDigitB, or_assoc]
set_option maxRecDepth 20000 in
theorem class_spec (c : Int) (m : Mem) : FnH Tryd.prog 59 [.v (.int .u8 c)] ⟨[], []⟩ m fun r H' _ => r = .v (.int .i64 (classI c)) ∧ H' = ⟨[], []⟩ := by
  refine enter cfN puN Tryd.func59 rfl rfl (by kernel_rfl) rfl ?_ ?_
  · simp only [go_sem, ↓reduceIte, or_true, or_false, true_or, false_or, Option.some.injEq, exists_eq_left, exists_eq_left', Nat.reduceBEq, Nat.reduceAdd, Nat.reduceMul, Nat.reduceSub, Nat.reduceEqDiff, Nat.reduceLT, Nat.reduceLeDiff, Option.map, Option.bind, List.map, List.length, true_implies, true_and, and_true, Bool.and_true, Bool.true_and, Bool.or_false, Bool.false_or, Bool.not_true, Bool.not_false, Bool.and_false, Bool.false_and, List.cons_append, List.nil_append, List.append_nil, mk_eq_bs, tl_bs, List.getElem?_cons_zero, List.getElem?_cons_succ, eq_self, reduceCtorEq, implies_true, false_implies, decide_eq_true_eq, decide_eq_false_iff_not, Bool.and_eq_true, Bool.or_eq_true, Bool.not_eq_true', Bool.and_eq_false_iff, Bool.or_eq_false_iff, Bool.not_eq_false', Option.toList, SV.v.injEq, Value.int.injEq, Value.bool.injEq, Value.string.injEq, Option.getD, List.contains_cons, List.contains_nil, beq_self_eq_true, Nat.max_def, List.set, List.drop, List.take, Int.toNat_natCast, Nat.mul_one, Int.toNat_zero, List.drop_zero, Bx.mk.injEq, Vc.mk.injEq, List.cons.injEq, List.take_length, List.getElem?_nil, List.getD_cons_zero, List.getD_cons_succ, Int.reduceToNat, not_false_eq_true, Nat.le_refl]
  · simp only [go_sem, ↓reduceIte, or_true, or_false, true_or, false_or, Option.some.injEq, exists_eq_left, exists_eq_left', Nat.reduceBEq, Nat.reduceAdd, Nat.reduceMul, Nat.reduceSub, Nat.reduceEqDiff, Nat.reduceLT, Nat.reduceLeDiff, Option.map, Option.bind, List.map, List.length, true_implies, true_and, and_true, Bool.and_true, Bool.true_and, Bool.or_false, Bool.false_or, Bool.not_true, Bool.not_false, Bool.and_false, Bool.false_and, List.cons_append, List.nil_append, List.append_nil, mk_eq_bs, tl_bs, List.getElem?_cons_zero, List.getElem?_cons_succ, eq_self, reduceCtorEq, implies_true, false_implies, decide_eq_true_eq, decide_eq_false_iff_not, Bool.and_eq_true, Bool.or_eq_true, Bool.not_eq_true', Bool.and_eq_false_iff, Bool.or_eq_false_iff, Bool.not_eq_false', Option.toList, SV.v.injEq, Value.int.injEq, Value.bool.injEq, Value.string.injEq, Option.getD, List.contains_cons, List.contains_nil, beq_self_eq_true, Nat.max_def, List.set, List.drop, List.take, Int.toNat_natCast, Nat.mul_one, Int.toNat_zero, List.drop_zero, Bx.mk.injEq, Vc.mk.injEq, List.cons.injEq, List.take_length, List.getElem?_nil, List.getD_cons_zero, List.getD_cons_succ, Int.reduceToNat, not_false_eq_true, Nat.le_refl]
    rw [classI_eq]
    split
    · omega
    · split <;> omega
def pI8 (F : Int → Value) : List Value → Option (Prop × Value)
  | [.int .u8 c] => some (True, F c)
  | _ => none
attribute [go_sem] pI8.eq_1
theorem pureI8 {P : Program} {f : FuncId} {F : Int → Value} (h : ∀ c m, FnH P f [.v (.int .u8 c)] ⟨[], []⟩ m fun r H' _ => r = .v (F c) ∧ H' = ⟨[], []⟩) : Pure0 P f (pI8 F) := fun vals y hy _ m => by
  unfold pI8 at hy
  split at hy
  · cases hy; exact h _ m
  · cases hy
theorem class_one (c : Int) : classI c = 1 ↔ isStartB c = true := by
  unfold classI; split
  · simp_all
  · split <;> simp_all
theorem class_two (c : Int) : classI c = 2 ↔ ¬ isStartB c = true ∧ isDigitB c = true := by
  unfold classI; split
  · simp_all
  · split <;> simp_all
/-- A name of a class: parts with slashes between. -/
def nmScan : Bool → List UInt8 → Bool
  | start, [] => !start
  | start, c :: r => if c.toNat = 47 ∧ start = false then nmScan true r else if isStartB c.toNat = true ∨ (isDigitB c.toNat = true ∧ start = false) then nmScan false r else false
def isName (s : List UInt8) : Bool := decide (s.length ≤ 64) && nmScan true s
abbrev cf3 : Cfg := mkCf (fun _ => false) [(59, pI8 fun c => .int .i64 (classI c))]
theorem pu3 : PureOk cf3 Tryd.prog := pure_cons (by kernel_rfl) (pureI8 class_spec) pure_nil
theorem drop_at {s : List UInt8} {k : Nat} (h : k < s.length) : s.drop k = s.getD k 0 :: s.drop (k + 1) := by
  rw [List.drop_eq_getElem_cons h, List.getD_eq_getElem?_getD, List.getElem?_eq_getElem h]
  rfl
set_option maxRecDepth 20000 in
theorem isName_spec (s : List UInt8) (m : Mem) (hs : s.length ≤ 4611686018427387904) : FnH Tryd.prog 28 [.v (.string (bs s))] ⟨[], []⟩ m fun r H' _ => r = .v (.bool (isName s)) ∧ H' = ⟨[], []⟩ := by
  refine enter cf3 pu3 Tryd.func28 rfl rfl (by kernel_rfl) rfl ?_ ?_
  · simp only [go_sem, ↓reduceIte, or_true, or_false, true_or, false_or, Option.some.injEq, exists_eq_left, exists_eq_left', Nat.reduceBEq, Nat.reduceAdd, Nat.reduceMul, Nat.reduceSub, Nat.reduceEqDiff, Nat.reduceLT, Nat.reduceLeDiff, Option.map, Option.bind, List.map, List.length, true_implies, true_and, and_true, Bool.and_true, Bool.true_and, Bool.or_false, Bool.false_or, Bool.not_true, Bool.not_false, Bool.and_false, Bool.false_and, List.cons_append, List.nil_append, List.append_nil, mk_eq_bs, tl_bs, List.getElem?_cons_zero, List.getElem?_cons_succ, eq_self, reduceCtorEq, implies_true, false_implies, decide_eq_true_eq, decide_eq_false_iff_not, Bool.and_eq_true, Bool.or_eq_true, Bool.not_eq_true', Bool.and_eq_false_iff, Bool.or_eq_false_iff, Bool.not_eq_false', Option.toList, SV.v.injEq, Value.int.injEq, Value.bool.injEq, Value.string.injEq, Option.getD, List.contains_cons, List.contains_nil, beq_self_eq_true, Nat.max_def, List.set, List.drop, List.take, Int.toNat_natCast, Nat.mul_one, Int.toNat_zero, List.drop_zero, Bx.mk.injEq, Vc.mk.injEq, List.cons.injEq, List.take_length, List.getElem?_nil, List.getD_cons_zero, List.getD_cons_succ, Int.reduceToNat, not_false_eq_true, Nat.le_refl]
  · simp only [go_sem, ↓reduceIte, or_true, or_false, true_or, false_or, Option.some.injEq, exists_eq_left, exists_eq_left', Nat.reduceBEq, Nat.reduceAdd, Nat.reduceMul, Nat.reduceSub, Nat.reduceEqDiff, Nat.reduceLT, Nat.reduceLeDiff, Option.map, Option.bind, List.map, List.length, true_implies, true_and, and_true, Bool.and_true, Bool.true_and, Bool.or_false, Bool.false_or, Bool.not_true, Bool.not_false, Bool.and_false, Bool.false_and, List.cons_append, List.nil_append, List.append_nil, mk_eq_bs, tl_bs, List.getElem?_cons_zero, List.getElem?_cons_succ, eq_self, reduceCtorEq, implies_true, false_implies, decide_eq_true_eq, decide_eq_false_iff_not, Bool.and_eq_true, Bool.or_eq_true, Bool.not_eq_true', Bool.and_eq_false_iff, Bool.or_eq_false_iff, Bool.not_eq_false', Option.toList, SV.v.injEq, Value.int.injEq, Value.bool.injEq, Value.string.injEq, Option.getD, List.contains_cons, List.contains_nil, beq_self_eq_true, Nat.max_def, List.set, List.drop, List.take, Int.toNat_natCast, Nat.mul_one, Int.toNat_zero, List.drop_zero, Bx.mk.injEq, Vc.mk.injEq, List.cons.injEq, List.take_length, List.getElem?_nil, List.getD_cons_zero, List.getD_cons_succ, Int.reduceToNat, not_false_eq_true, Nat.le_refl]
    refine ⟨fun h => ?_, fun h => ?_⟩
    · rcases h with rfl | h
      · rfl
      · have : ¬ s.length ≤ 64 := by omega
        simp [isName, this]
    · refine WP_loop pu3 (fun x : Nat × Bool => ⟨[⟨0, [], .v (.string (bs s))⟩, ⟨3, [], .v (.bool x.2)⟩, ⟨14, [], .v (.int .i64 s.length)⟩, ⟨15, [], .v (.int .i64 x.1)⟩], [], [], [], 0, m⟩)
        (fun x => x.1 ≤ s.length ∧ nmScan true s = nmScan x.2 (s.drop x.1)) (fun x => s.length - x.1) (0, true) (by kernel_rfl) (fun _ _ => Nat.le_refl _) (fun _ _ => .inl rfl) (fun _ => ?_) ?_ ?_ ?_
      · simp only [go_sem, ↓reduceIte, or_true, or_false, true_or, false_or, Option.some.injEq, exists_eq_left, exists_eq_left', Nat.reduceBEq, Nat.reduceAdd, Nat.reduceMul, Nat.reduceSub, Nat.reduceEqDiff, Nat.reduceLT, Nat.reduceLeDiff, Option.map, Option.bind, List.map, List.length, true_implies, true_and, and_true, Bool.and_true, Bool.true_and, Bool.or_false, Bool.false_or, Bool.not_true, Bool.not_false, Bool.and_false, Bool.false_and, List.cons_append, List.nil_append, List.append_nil, mk_eq_bs, tl_bs, List.getElem?_cons_zero, List.getElem?_cons_succ, eq_self, reduceCtorEq, implies_true, false_implies, decide_eq_true_eq, decide_eq_false_iff_not, Bool.and_eq_true, Bool.or_eq_true, Bool.not_eq_true', Bool.and_eq_false_iff, Bool.or_eq_false_iff, Bool.not_eq_false', Option.toList, SV.v.injEq, Value.int.injEq, Value.bool.injEq, Value.string.injEq, Option.getD, List.contains_cons, List.contains_nil, beq_self_eq_true, Nat.max_def, List.set, List.drop, List.take, Int.toNat_natCast, Nat.mul_one, Int.toNat_zero, List.drop_zero, Bx.mk.injEq, Vc.mk.injEq, List.cons.injEq, List.take_length, List.getElem?_nil, List.getD_cons_zero, List.getD_cons_succ, Int.reduceToNat, not_false_eq_true, Nat.le_refl]
      · simp only [go_sem, ↓reduceIte, or_true, or_false, true_or, false_or, Option.some.injEq, exists_eq_left, exists_eq_left', Nat.reduceBEq, Nat.reduceAdd, Nat.reduceMul, Nat.reduceSub, Nat.reduceEqDiff, Nat.reduceLT, Nat.reduceLeDiff, Option.map, Option.bind, List.map, List.length, true_implies, true_and, and_true, Bool.and_true, Bool.true_and, Bool.or_false, Bool.false_or, Bool.not_true, Bool.not_false, Bool.and_false, Bool.false_and, List.cons_append, List.nil_append, List.append_nil, mk_eq_bs, tl_bs, List.getElem?_cons_zero, List.getElem?_cons_succ, eq_self, reduceCtorEq, implies_true, false_implies, decide_eq_true_eq, decide_eq_false_iff_not, Bool.and_eq_true, Bool.or_eq_true, Bool.not_eq_true', Bool.and_eq_false_iff, Bool.or_eq_false_iff, Bool.not_eq_false', Option.toList, SV.v.injEq, Value.int.injEq, Value.bool.injEq, Value.string.injEq, Option.getD, List.contains_cons, List.contains_nil, beq_self_eq_true, Nat.max_def, List.set, List.drop, List.take, Int.toNat_natCast, Nat.mul_one, Int.toNat_zero, List.drop_zero, Bx.mk.injEq, Vc.mk.injEq, List.cons.injEq, List.take_length, List.getElem?_nil, List.getD_cons_zero, List.getD_cons_succ, Int.reduceToNat, not_false_eq_true, Nat.le_refl]
        rfl
      · simp
      · rintro ⟨k, st⟩ ⟨hk, hp⟩
        simp only at hk hp
        simp only [go_sem, ↓reduceIte, or_true, or_false, true_or, false_or, Option.some.injEq, exists_eq_left, exists_eq_left', Nat.reduceBEq, Nat.reduceAdd, Nat.reduceMul, Nat.reduceSub, Nat.reduceEqDiff, Nat.reduceLT, Nat.reduceLeDiff, Option.map, Option.bind, List.map, List.length, true_implies, true_and, and_true, Bool.and_true, Bool.true_and, Bool.or_false, Bool.false_or, Bool.not_true, Bool.not_false, Bool.and_false, Bool.false_and, List.cons_append, List.nil_append, List.append_nil, mk_eq_bs, tl_bs, List.getElem?_cons_zero, List.getElem?_cons_succ, eq_self, reduceCtorEq, implies_true, false_implies, decide_eq_true_eq, decide_eq_false_iff_not, Bool.and_eq_true, Bool.or_eq_true, Bool.not_eq_true', Bool.and_eq_false_iff, Bool.or_eq_false_iff, Bool.not_eq_false', Option.toList, SV.v.injEq, Value.int.injEq, Value.bool.injEq, Value.string.injEq, Option.getD, List.contains_cons, List.contains_nil, beq_self_eq_true, Nat.max_def, List.set, List.drop, List.take, Int.toNat_natCast, Nat.mul_one, Int.toNat_zero, List.drop_zero, Bx.mk.injEq, Vc.mk.injEq, List.cons.injEq, List.take_length, List.getElem?_nil, List.getD_cons_zero, List.getD_cons_succ, Int.reduceToNat, not_false_eq_true, Nat.le_refl]
        have hN : isName s = nmScan true s := by
          have : s.length ≤ 64 := by omega
          simp [isName, this]
        rw [hN]
        refine ⟨fun hlt => ?_, fun hge => ?_⟩
        · have hkl : k < s.length := by omega
          rw [drop_at hkl] at hp
          simp only [nmScan] at hp
          have hI : I64 (k + 1) := by unfold I64; omega
          refine ⟨⟨by omega, hlt⟩, ⟨by omega, hlt⟩, fun h1 => ⟨hI, (k + 1, true), ⟨rfl, rfl⟩, ⟨hkl, ?_⟩, by simp only; omega⟩, fun h1 => ⟨fun h2 => ⟨fun _ => ⟨hI, (k + 1, false), ⟨rfl, rfl⟩, ⟨hkl, ?_⟩, by simp only; omega⟩, fun h3 => absurd h2 h3⟩,
            fun h2 => ⟨fun h3 => ⟨hI, (k + 1, false), ⟨rfl, rfl⟩, ⟨hkl, ?_⟩, by simp only; omega⟩, fun h3 => ?_⟩⟩⟩
          · rw [hp, if_pos ⟨by omega, h1.2⟩]
          · rw [hp, if_neg (by rintro ⟨e, e'⟩; rcases h1 with h1 | h1; · omega
                               · rw [e'] at h1; cases h1), if_pos (.inl ((class_one _).1 h2))]
          · rw [hp, if_neg (by rintro ⟨e, e'⟩; rcases h1 with h1 | h1; · omega
                               · rw [e'] at h1; cases h1), if_pos (.inr ⟨((class_two _).1 h3.1).2, h3.2⟩)]
          · rw [hp, if_neg (by rintro ⟨e, e'⟩; rcases h1 with h1 | h1; · omega
                               · rw [e'] at h1; cases h1), if_neg]
            rintro (e | ⟨e, e'⟩)
            · exact h2 ((class_one _).2 e)
            · rcases h3 with h3 | h3
              · exact h3 ((class_two _).2 ⟨fun x => h2 ((class_one _).2 x), e⟩)
              · rw [e'] at h3; cases h3
        · rw [hp, List.drop_of_length_le (by omega)]
          rfl
end Go.Proofs.YtmkifodpkcmgoaaDoor.E

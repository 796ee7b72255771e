/- ast, part L: what is called of packages name and lex, and of the library (from the lex texts, by pick.py). -/
import Derived.Test.YtalalcpefggniaaGreatDoorMrgC
import Derived.Test.YtalalcpefggniaaGreatDoorMrgS
set_option linter.unusedSimpArgs false
set_option linter.unusedVariables false
namespace Go.Proofs.YtalalcpefggniaaGreatDoor.E
open Go Go.RowKit
attribute [go_sem] or_true or_false true_or false_or Option.some.injEq exists_eq_left exists_eq_left' true_implies true_and and_true Bool.and_true Bool.true_and Bool.or_false Bool.false_or Bool.not_true Bool.not_false Bool.and_false Bool.false_and List.cons_append List.nil_append List.append_nil mk_eq_bs tl_bs List.getElem?_cons_zero List.getElem?_cons_succ eq_self implies_true false_implies decide_eq_true_eq decide_eq_false_iff_not Bool.and_eq_true Bool.or_eq_true Bool.not_eq_true' Bool.and_eq_false_iff Bool.or_eq_false_iff Bool.not_eq_false' SV.v.injEq Value.int.injEq Value.bool.injEq Value.string.injEq List.contains_cons List.contains_nil beq_self_eq_true Nat.max_def Int.toNat_natCast Nat.mul_one Int.toNat_zero List.drop_zero Bx.mk.injEq Vc.mk.injEq List.cons.injEq List.take_length List.getElem?_nil List.getD_cons_zero List.getD_cons_succ not_false_eq_true Nat.le_refl
def cf0 : Cfg := ⟨fun _ => false, fun _ => none⟩
theorem pu0 {P : Program} : PureOk cf0 P := fun f F h => by cases h
def isStartB (c : Int) : Bool := decide (97 ≤ c) && decide (c ≤ 122) || decide (65 ≤ c) && decide (c ≤ 90) || decide (c = 95) || decide (c = 36)
def isDigitB (c : Int) : Bool := decide (48 ≤ c) && decide (c ≤ 57)
def pf1 (F : Int → Bool) : List Value → Option (Prop × Value)
  | [.int .u8 c] => some (True, .bool (F c))
  | _ => none
theorem pf1_some {F : Int → Bool} {l : List Value} {y : Prop × Value} (h : pf1 F l = some y) : ∃ c, l = [.int .u8 c] ∧ y = (True, .bool (F c)) := by
  unfold pf1 at h
  split at h
  · cases h; exact ⟨_, rfl, rfl⟩
  · cases h
theorem agg9 : aggN Tryz.prog 9 = some none := by kernel_rfl
theorem agg3 : aggN Tryz.prog 3 = some none := by kernel_rfl
theorem und9 : Tryz.prog.underlying 9 = some .string := by kernel_rfl
attribute [go_sem] agg9 agg3 und9 pf1.eq_1
theorem elT36 : elT Tryz.prog 51 = some 9 := by kernel_rfl
theorem sz9 : szT Tryz.prog 9 = 1 := by kernel_rfl
theorem by9 : byT Tryz.prog 9 = 16 := by kernel_rfl
theorem zero9 : zeroO Tryz.prog 9 = some [.v (.string (bs []))] := by kernel_rfl
theorem sz3 : szT Tryz.prog 3 = 1 := by kernel_rfl
attribute [go_sem] elT36 sz9 by9 zero9 sz3
abbrev cfN : Cfg := mkCf (fun _ => false) []
theorem puN : PureOk cfN Tryz.prog := pure_nil
def strs (l : List (List UInt8)) : List Value := l.map fun b => .string (bs b)
theorem Rds_one {m : Mem} {a : Option Addr} {n : Nat} {xs : List Value} (h : Rds m a n 1 xs) {i : Nat} (hi : i < n) : ∃ hx : i < xs.length, Rd m (ptrAt a i) [xs[i]] ∧ a ≠ none := by
  have hl : xs.length = n := by rw [h.1, Nat.mul_one]
  refine ⟨by omega, ?_, ?_⟩
  · obtain ⟨ad, rfl, hs, hc⟩ := h.2 (by omega)
    obtain ⟨e1, e2, e3⟩ := add_parts ad i hs
    refine ⟨ad.add i, rfl, e3, fun j hj => ?_⟩
    obtain rfl : j = 0 := by simp at hj; omega
    obtain ⟨h1, h2⟩ := hc i (by omega)
    refine ⟨?_, by rw [e1, e2]; exact h2⟩
    rw [show (ad.add i).add 0 = ad.add i from rfl, h1]
    simp [hl, hi]
  · obtain ⟨ad, rfl, _⟩ := h.2 (by omega)
    simp
theorem take_has {l : List (List UInt8)} {s : List UInt8} {k : Nat} (h : k < l.length) : (l.take (k + 1)).contains s = ((l.take k).contains s || decide (s = l[k])) := by
  rw [List.take_succ_eq_append_getElem h, Bool.eq_iff_iff]
  simp only [List.contains_iff_mem, List.mem_append, List.mem_singleton, Bool.or_eq_true, decide_eq_true_eq]
set_option maxRecDepth 20000 in
theorem index_spec (l : List (List UInt8)) (s : List UInt8) (a : Option Addr) (n c : Nat) (m : Mem) (h : Rds m a n 1 (strs l)) (hn : n ≤ 4611686018427387904) :
    FnH Tryz.prog 151 [.v (.slice a n c), .v (.string (bs s))] ⟨[], []⟩ m fun r H' _ => (∃ i : Int, r = .v (.int .i64 i) ∧ (decide (0 ≤ i) = l.contains s)) ∧ H' = ⟨[], []⟩ := by
  have hl : l.length = n := by have := h.1; simpa [strs] using this
  refine enter cf0 pu0 Tryz.func151 rfl rfl (by kernel_rfl) rfl ?_ ?_
  · simp only [go_sem, ↓imp_tf, ↓imp_ft, ↓reduceIte, Nat.reduceBEq, Nat.reduceAdd, Nat.reduceMul, Nat.reduceSub, Nat.reduceEqDiff, Nat.reduceLT, Nat.reduceLeDiff, Option.map, Option.bind, List.map, List.length, reduceCtorEq, Option.toList, Option.getD, List.set, List.drop, List.take, Int.reduceToNat]
  · simp only [go_sem, ↓imp_tf, ↓imp_ft, ↓reduceIte, Nat.reduceBEq, Nat.reduceAdd, Nat.reduceMul, Nat.reduceSub, Nat.reduceEqDiff, Nat.reduceLT, Nat.reduceLeDiff, Option.map, Option.bind, List.map, List.length, reduceCtorEq, Option.toList, Option.getD, List.set, List.drop, List.take, Int.reduceToNat]
    refine WP_loop pu0 (fun k : Nat => ⟨[⟨0, [], .v (.slice a n c)⟩, ⟨1, [], .v (.string (bs s))⟩, ⟨7, [], .v (.int .i64 n)⟩, ⟨8, [], .v (.int .i64 k)⟩], [], [], [], 0, m⟩)
      (fun k => k ≤ n ∧ (l.take k).contains s = false) (fun k => n - k) 0 (by kernel_rfl) (fun _ _ => Nat.le_refl _) (fun _ _ => .inl rfl) (fun _ => ?_) ?_ ?_ ?_
    · simp only [go_sem, ↓imp_tf, ↓imp_ft, ↓reduceIte, Nat.reduceBEq, Nat.reduceAdd, Nat.reduceMul, Nat.reduceSub, Nat.reduceEqDiff, Nat.reduceLT, Nat.reduceLeDiff, Option.map, Option.bind, List.map, List.length, reduceCtorEq, Option.toList, Option.getD, List.set, List.drop, List.take, Int.reduceToNat]
    · simp only [go_sem, ↓imp_tf, ↓imp_ft, ↓reduceIte, Nat.reduceBEq, Nat.reduceAdd, Nat.reduceMul, Nat.reduceSub, Nat.reduceEqDiff, Nat.reduceLT, Nat.reduceLeDiff, Option.map, Option.bind, List.map, List.length, reduceCtorEq, Option.toList, Option.getD, List.set, List.drop, List.take, Int.reduceToNat]
      rfl
    · simp
    · rintro k ⟨hk, hp⟩
      simp only [go_sem, ↓imp_tf, ↓imp_ft, ↓reduceIte, Nat.reduceBEq, Nat.reduceAdd, Nat.reduceMul, Nat.reduceSub, Nat.reduceEqDiff, Nat.reduceLT, Nat.reduceLeDiff, Option.map, Option.bind, List.map, List.length, reduceCtorEq, Option.toList, Option.getD, List.set, List.drop, List.take, Int.reduceToNat]
      refine ⟨fun hlt => ?_, fun hge => ?_⟩
      · have hkn : k < n := by omega
        obtain ⟨hx, hr, hne⟩ := Rds_one h hkn
        refine ⟨⟨by omega, hlt, hne⟩, _, by simpa using hr, ?_⟩
        have hkl : k < l.length := by omega
        have e : (strs l)[k] = .string (bs l[k]) := by simp [strs]
        have ec := take_has (s := s) hkl
        simp only [e]
        simp only [go_sem, ↓imp_tf, ↓imp_ft, ↓reduceIte, Nat.reduceBEq, Nat.reduceAdd, Nat.reduceMul, Nat.reduceSub, Nat.reduceEqDiff, Nat.reduceLT, Nat.reduceLeDiff, Option.map, Option.bind, List.map, List.length, reduceCtorEq, Option.toList, Option.getD, List.set, List.drop, List.take, Int.reduceToNat]
        refine ⟨fun he => ?_, fun he => ⟨by unfold I64; omega, k + 1, by omega, ⟨by omega, ?_⟩, by omega⟩⟩
        · have : s ∈ l := by rw [he]; exact List.getElem_mem hkl
          simp [this]
        · rw [ec, hp]; simp [he]
      · have : l.take k = l := List.take_of_length_le (by omega)
        rw [this] at hp
        rw [hp]
        rfl
set_option maxRecDepth 20000 in
theorem contains_spec (l : List (List UInt8)) (s : List UInt8) (a : Option Addr) (n c : Nat) (m : Mem) (h : Rds m a n 1 (strs l)) (hn : n ≤ 4611686018427387904) :
    FnH Tryz.prog 76 [.v (.slice a n c), .v (.string (bs s))] ⟨[], []⟩ m fun r H' _ => r = .v (.bool (l.contains s)) ∧ H' = ⟨[], []⟩ := by
  refine enter cfN puN Tryz.func76 rfl rfl (by kernel_rfl) rfl ?_ ?_
  · simp only [go_sem, ↓imp_tf, ↓imp_ft, ↓reduceIte, Nat.reduceBEq, Nat.reduceAdd, Nat.reduceMul, Nat.reduceSub, Nat.reduceEqDiff, Nat.reduceLT, Nat.reduceLeDiff, Option.map, Option.bind, List.map, List.length, reduceCtorEq, Option.toList, Option.getD, List.set, List.drop, List.take, Int.reduceToNat]
  · simp only [go_sem, ↓imp_tf, ↓imp_ft, ↓reduceIte, Nat.reduceBEq, Nat.reduceAdd, Nat.reduceMul, Nat.reduceSub, Nat.reduceEqDiff, Nat.reduceLT, Nat.reduceLeDiff, Option.map, Option.bind, List.map, List.length, reduceCtorEq, Option.toList, Option.getD, List.set, List.drop, List.take, Int.reduceToNat]
    refine ⟨by kernel_rfl, FnV_of ((index_spec l s a n c m h hn).mono ?_)⟩
    rintro r H' m' hm ⟨⟨i, rfl, hi⟩, rfl⟩
    simp only [go_sem, ↓imp_tf, ↓imp_ft, ↓reduceIte, Nat.reduceBEq, Nat.reduceAdd, Nat.reduceMul, Nat.reduceSub, Nat.reduceEqDiff, Nat.reduceLT, Nat.reduceLeDiff, Option.map, Option.bind, List.map, List.length, reduceCtorEq, Option.toList, Option.getD, List.set, List.drop, List.take, Int.reduceToNat]
    exact hi
def keywordsL : List (List UInt8) := [[97, 98, 115, 116, 114, 97, 99, 116], [97, 115], [99, 97, 116, 99, 104], [99, 108, 97, 115, 115], [101, 108, 115, 101], [101, 120, 116, 101, 110, 100, 115], [102, 105, 110, 97, 108], [105, 102], [105, 109, 112, 108, 101, 109, 101, 110, 116, 115], [105, 110, 116], [105, 110, 116, 101, 114, 102, 97, 99, 101], [105, 115], [108, 101, 110], [108, 111, 110, 103], [110, 101, 119], [110, 117, 108, 108], [112, 114, 105, 118, 97, 116, 101], [112, 114, 111, 116, 101, 99, 116, 101, 100], [112, 117, 98, 108, 105, 99], [114, 101, 116, 117, 114, 110], [115, 116, 97, 116, 105, 99], [115, 117, 112, 101, 114], [115, 121, 110, 99], [116, 104, 105, 115], [116, 104, 114, 111, 119], [116, 114, 121], [118, 111, 105, 100], [119, 104, 105, 108, 101]]
def signsL : List (List UInt8) := [[62, 62, 62], [60, 60], [62, 62], [61, 61], [33, 61], [60, 61], [62, 61], [38, 38], [124, 124], [123], [125], [40], [41], [91], [93], [59], [44], [46], [61], [43], [45], [42], [47], [37], [38], [124], [94], [33], [60], [62]]
set_option maxRecDepth 20000 in
theorem keywords_spec (m : Mem) : FnH Tryz.prog 118 [] ⟨[], []⟩ m fun r H' m' => r = .vec 0 0 ∧ H' = ⟨[], [⟨0, 0, 9, 1, 28, strs keywordsL⟩]⟩ ∧ m' = m := by
  refine enter cfN puN Tryz.func118 rfl rfl (by kernel_rfl) rfl ?_ ?_
  · simp only [go_sem, ↓imp_tf, ↓imp_ft, ↓reduceIte, Nat.reduceBEq, Nat.reduceAdd, Nat.reduceMul, Nat.reduceSub, Nat.reduceEqDiff, Nat.reduceLT, Nat.reduceLeDiff, Option.map, Option.bind, List.map, List.length, reduceCtorEq, Option.toList, Option.getD, List.set, List.drop, List.take, Int.reduceToNat]
  · simp only [go_sem, ↓imp_tf, ↓imp_ft, ↓reduceIte, Nat.reduceBEq, Nat.reduceAdd, Nat.reduceMul, Nat.reduceSub, Nat.reduceEqDiff, Nat.reduceLT, Nat.reduceLeDiff, Option.map, Option.bind, List.map, List.length, reduceCtorEq, Option.toList, Option.getD, List.set, List.drop, List.take, Int.reduceToNat]
    rfl
set_option maxRecDepth 20000 in
theorem operators_spec (m : Mem) : FnH Tryz.prog 163 [] ⟨[], []⟩ m fun r H' m' => r = .vec 0 0 ∧ H' = ⟨[], [⟨0, 0, 9, 1, 30, strs signsL⟩]⟩ ∧ m' = m := by
  refine enter cfN puN Tryz.func163 rfl rfl (by kernel_rfl) rfl ?_ ?_
  · simp only [go_sem, ↓imp_tf, ↓imp_ft, ↓reduceIte, Nat.reduceBEq, Nat.reduceAdd, Nat.reduceMul, Nat.reduceSub, Nat.reduceEqDiff, Nat.reduceLT, Nat.reduceLeDiff, Option.map, Option.bind, List.map, List.length, reduceCtorEq, Option.toList, Option.getD, List.set, List.drop, List.take, Int.reduceToNat]
  · simp only [go_sem, ↓imp_tf, ↓imp_ft, ↓reduceIte, Nat.reduceBEq, Nat.reduceAdd, Nat.reduceMul, Nat.reduceSub, Nat.reduceEqDiff, Nat.reduceLT, Nat.reduceLeDiff, Option.map, Option.bind, List.map, List.length, reduceCtorEq, Option.toList, Option.getD, List.set, List.drop, List.take, Int.reduceToNat]
    rfl
def pS1 (B : List UInt8 → Prop) (F : List UInt8 → Value) : List Value → Option (Prop × Value)
  | [.string a] => some (B (tl a), F (tl a))
  | _ => none
attribute [go_sem] pS1.eq_1
def Pure0 (P : Program) (f : FuncId) (G : List Value → Option (Prop × Value)) : Prop := ∀ vals y, G vals = some y → y.1 → ∀ m, FnH P f (vals.map SV.v) ⟨[], []⟩ m (fun r H' _ => r = .v y.2 ∧ H' = ⟨[], []⟩)
theorem pure1 {P : Program} {f : FuncId} {F : Int → Bool} (h : ∀ c m, FnH P f [.v (.int .u8 c)] ⟨[], []⟩ m fun r H' _ => r = .v (.bool (F c)) ∧ H' = ⟨[], []⟩) : Pure0 P f (pf1 F) := fun vals y hy _ m => by
  obtain ⟨c, rfl, rfl⟩ := pf1_some hy
  exact h c m
theorem pureS {P : Program} {f : FuncId} {B : List UInt8 → Prop} {F : List UInt8 → Value} (h : ∀ a m, B a → FnH P f [.v (.string (bs a))] ⟨[], []⟩ m fun r H' _ => r = .v (F a) ∧ H' = ⟨[], []⟩) : Pure0 P f (pS1 B F) := fun vals y hy hB m => by
  unfold pS1 at hy
  split at hy
  · rename_i a
    cases hy
    have := h (tl a) m hB
    rwa [bs_tl] at this
  · cases hy
/-- The class of a byte, for the package of names. -/
def classI (c : Int) : Int := if isStartB c then 1 else if isDigitB c then 2 else 0
theorem classI_eq (c : Int) : classI c = if 97 ≤ c ∧ c ≤ 122 ∨ 65 ≤ c ∧ c ≤ 90 ∨ c = 95 ∨ c = 36 then 1 else if 48 ≤ c ∧ c ≤ 57 then 2 else 0 := by
  simp [classI, isStartB, isDigitB, or_assoc]
set_option maxRecDepth 20000 in
theorem class_spec (c : Int) (m : Mem) : FnH Tryz.prog 180 [.v (.int .u8 c)] ⟨[], []⟩ m fun r H' _ => r = .v (.int .i64 (classI c)) ∧ H' = ⟨[], []⟩ := by
  refine enter cfN puN Tryz.func180 rfl rfl (by kernel_rfl) rfl ?_ ?_
  · simp only [go_sem, ↓imp_tf, ↓imp_ft, ↓reduceIte, Nat.reduceBEq, Nat.reduceAdd, Nat.reduceMul, Nat.reduceSub, Nat.reduceEqDiff, Nat.reduceLT, Nat.reduceLeDiff, Option.map, Option.bind, List.map, List.length, reduceCtorEq, Option.toList, Option.getD, List.set, List.drop, List.take, Int.reduceToNat]
  · simp only [go_sem, ↓imp_tf, ↓imp_ft, ↓reduceIte, Nat.reduceBEq, Nat.reduceAdd, Nat.reduceMul, Nat.reduceSub, Nat.reduceEqDiff, Nat.reduceLT, Nat.reduceLeDiff, Option.map, Option.bind, List.map, List.length, reduceCtorEq, Option.toList, Option.getD, List.set, List.drop, List.take, Int.reduceToNat]
    rw [classI_eq]
    split
    · omega
    · split <;> omega
def pI8 (F : Int → Value) : List Value → Option (Prop × Value)
  | [.int .u8 c] => some (True, F c)
  | _ => none
attribute [go_sem] pI8.eq_1
theorem pureI8 {P : Program} {f : FuncId} {F : Int → Value} (h : ∀ c m, FnH P f [.v (.int .u8 c)] ⟨[], []⟩ m fun r H' _ => r = .v (F c) ∧ H' = ⟨[], []⟩) : Pure0 P f (pI8 F) := fun vals y hy _ m => by
  unfold pI8 at hy
  split at hy
  · cases hy; exact h _ m
  · cases hy
theorem class_one (c : Int) : classI c = 1 ↔ isStartB c = true := by
  unfold classI; split
  · simp_all
  · split <;> simp_all
theorem class_two (c : Int) : classI c = 2 ↔ ¬ isStartB c = true ∧ isDigitB c = true := by
  unfold classI; split
  · simp_all
  · split <;> simp_all
/-- A name of a class: parts with slashes between. -/
def nmScan : Bool → List UInt8 → Bool
  | start, [] => !start
  | start, c :: r => if c.toNat = 47 ∧ start = false then nmScan true r else if isStartB c.toNat = true ∨ (isDigitB c.toNat = true ∧ start = false) then nmScan false r else false
def isName (s : List UInt8) : Bool := decide (s.length ≤ 64) && nmScan true s
abbrev cf3 : Cfg := mkCf (fun _ => false) [(180, pI8 fun c => .int .i64 (classI c))]
theorem pu3 : PureOk cf3 Tryz.prog := pure_cons (by kernel_rfl) (pureI8 class_spec) pure_nil
theorem drop_at {s : List UInt8} {k : Nat} (h : k < s.length) : s.drop k = s.getD k 0 :: s.drop (k + 1) := by
  rw [List.drop_eq_getElem_cons h, List.getD_eq_getElem?_getD, List.getElem?_eq_getElem h]
  rfl
set_option maxRecDepth 20000 in
theorem isName_spec (s : List UInt8) (m : Mem) (hs : s.length ≤ 4611686018427387904) : FnH Tryz.prog 142 [.v (.string (bs s))] ⟨[], []⟩ m fun r H' _ => r = .v (.bool (isName s)) ∧ H' = ⟨[], []⟩ := by
  refine enter cf3 pu3 Tryz.func142 rfl rfl (by kernel_rfl) rfl ?_ ?_
  · simp only [go_sem, ↓imp_tf, ↓imp_ft, ↓reduceIte, Nat.reduceBEq, Nat.reduceAdd, Nat.reduceMul, Nat.reduceSub, Nat.reduceEqDiff, Nat.reduceLT, Nat.reduceLeDiff, Option.map, Option.bind, List.map, List.length, reduceCtorEq, Option.toList, Option.getD, List.set, List.drop, List.take, Int.reduceToNat]
  · simp only [go_sem, ↓imp_tf, ↓imp_ft, ↓reduceIte, Nat.reduceBEq, Nat.reduceAdd, Nat.reduceMul, Nat.reduceSub, Nat.reduceEqDiff, Nat.reduceLT, Nat.reduceLeDiff, Option.map, Option.bind, List.map, List.length, reduceCtorEq, Option.toList, Option.getD, List.set, List.drop, List.take, Int.reduceToNat]
    refine ⟨fun h => ?_, fun h => ?_⟩
    · rcases h with rfl | h
      · rfl
      · have : ¬ s.length ≤ 64 := by omega
        simp [isName, this]
    · refine WP_loop pu3 (fun x : Nat × Bool => ⟨[⟨0, [], .v (.string (bs s))⟩, ⟨3, [], .v (.bool x.2)⟩, ⟨14, [], .v (.int .i64 s.length)⟩, ⟨15, [], .v (.int .i64 x.1)⟩], [], [], [], 0, m⟩)
        (fun x => x.1 ≤ s.length ∧ nmScan true s = nmScan x.2 (s.drop x.1)) (fun x => s.length - x.1) (0, true) (by kernel_rfl) (fun _ _ => Nat.le_refl _) (fun _ _ => .inl rfl) (fun _ => ?_) ?_ ?_ ?_
      · simp only [go_sem, ↓imp_tf, ↓imp_ft, ↓reduceIte, Nat.reduceBEq, Nat.reduceAdd, Nat.reduceMul, Nat.reduceSub, Nat.reduceEqDiff, Nat.reduceLT, Nat.reduceLeDiff, Option.map, Option.bind, List.map, List.length, reduceCtorEq, Option.toList, Option.getD, List.set, List.drop, List.take, Int.reduceToNat]
      · simp only [go_sem, ↓imp_tf, ↓imp_ft, ↓reduceIte, Nat.reduceBEq, Nat.reduceAdd, Nat.reduceMul, Nat.reduceSub, Nat.reduceEqDiff, Nat.reduceLT, Nat.reduceLeDiff, Option.map, Option.bind, List.map, List.length, reduceCtorEq, Option.toList, Option.getD, List.set, List.drop, List.take, Int.reduceToNat]
        rfl
      · simp
      · rintro ⟨k, st⟩ ⟨hk, hp⟩
        simp only at hk hp
        simp only [go_sem, ↓imp_tf, ↓imp_ft, ↓reduceIte, Nat.reduceBEq, Nat.reduceAdd, Nat.reduceMul, Nat.reduceSub, Nat.reduceEqDiff, Nat.reduceLT, Nat.reduceLeDiff, Option.map, Option.bind, List.map, List.length, reduceCtorEq, Option.toList, Option.getD, List.set, List.drop, List.take, Int.reduceToNat]
        have hN : isName s = nmScan true s := by
          have : s.length ≤ 64 := by omega
          simp [isName, this]
        rw [hN]
        refine ⟨fun hlt => ?_, fun hge => ?_⟩
        · have hkl : k < s.length := by omega
          rw [drop_at hkl] at hp
          simp only [nmScan] at hp
          have hI : I64 (k + 1) := by unfold I64; omega
          refine ⟨⟨by omega, hlt⟩, ⟨by omega, hlt⟩, fun h1 => ⟨hI, (k + 1, true), ⟨rfl, rfl⟩, ⟨hkl, ?_⟩, by simp only; omega⟩, fun h1 => ⟨fun h2 => ⟨fun _ => ⟨hI, (k + 1, false), ⟨rfl, rfl⟩, ⟨hkl, ?_⟩, by simp only; omega⟩, fun h3 => absurd h2 h3⟩,
            fun h2 => ⟨fun h3 => ⟨hI, (k + 1, false), ⟨rfl, rfl⟩, ⟨hkl, ?_⟩, by simp only; omega⟩, fun h3 => ?_⟩⟩⟩
          · rw [hp, if_pos ⟨by omega, h1.2⟩]
          · rw [hp, if_neg (by rintro ⟨e, e'⟩; rcases h1 with h1 | h1; · omega
                               · rw [e'] at h1; cases h1), if_pos (.inl ((class_one _).1 h2))]
          · rw [hp, if_neg (by rintro ⟨e, e'⟩; rcases h1 with h1 | h1; · omega
                               · rw [e'] at h1; cases h1), if_pos (.inr ⟨((class_two _).1 h3.1).2, h3.2⟩)]
          · rw [hp, if_neg (by rintro ⟨e, e'⟩; rcases h1 with h1 | h1; · omega
                               · rw [e'] at h1; cases h1), if_neg]
            rintro (e | ⟨e, e'⟩)
            · exact h2 ((class_one _).2 e)
            · rcases h3 with h3 | h3
              · exact h3 ((class_two _).2 ⟨fun x => h2 ((class_one _).2 x), e⟩)
              · rw [e'] at h3; cases h3
        · rw [hp, List.drop_of_length_le (by omega)]
          rfl
theorem letter3_spec (c : Int) (m : Mem) : FnH Tryz.prog 193 [.v (.int .u8 c)] ⟨[], []⟩ m fun r H' _ => r = .v (.bool (isStartB c)) ∧ H' = ⟨[], []⟩ := by
  refine enter cfN puN Tryz.func193 rfl rfl (by kernel_rfl) rfl ?_ ?_
  · simp only [go_sem, ↓imp_tf, ↓imp_ft, ↓reduceIte, Nat.reduceBEq, Nat.reduceAdd, Nat.reduceMul, Nat.reduceSub, Nat.reduceEqDiff, Nat.reduceLT, Nat.reduceLeDiff, Option.map, Option.bind, List.map, List.length, reduceCtorEq, Option.toList, Option.getD, List.set, List.drop, List.take, Int.reduceToNat]
  · simp only [go_sem, ↓imp_tf, ↓imp_ft, ↓reduceIte, Nat.reduceBEq, Nat.reduceAdd, Nat.reduceMul, Nat.reduceSub, Nat.reduceEqDiff, Nat.reduceLT, Nat.reduceLeDiff, Option.map, Option.bind, List.map, List.length, reduceCtorEq, Option.toList, Option.getD, List.set, List.drop, List.take, Int.reduceToNat]
    rfl
def isMid (c : UInt8) : Bool := isStartB c.toNat || isDigitB c.toNat
def isPart : List UInt8 → Bool
  | [] => false
  | c :: r => isStartB c.toNat && r.all isMid
theorem nm_mid : ∀ (p r : List UInt8), (∀ c ∈ p, c.toNat ≠ 47) → nmScan false (p ++ r) = (p.all isMid && nmScan false r)
  | [], r, _ => by simp
  | c :: p, r, h => by
    have h1 := h c (List.mem_cons_self ..)
    have ih := nm_mid p r fun x hx => h x (List.mem_cons_of_mem _ hx)
    simp only [List.cons_append, nmScan, List.all_cons, isMid]
    rw [if_neg (fun e => h1 e.1)]
    cases e1 : isStartB c.toNat <;> cases e2 : isDigitB c.toNat <;> simp [ih]
theorem nm_part (p r : List UInt8) (h : ∀ c ∈ p, c.toNat ≠ 47) : nmScan true (p ++ 47 :: r) = (isPart p && nmScan true r) := by
  cases p with
  | nil => simp [nmScan, isPart, isStartB, isDigitB]
  | cons c p =>
    have h1 := h c (List.mem_cons_self ..)
    have ih := nm_mid p (47 :: r) fun x hx => h x (List.mem_cons_of_mem _ hx)
    simp only [List.cons_append, nmScan, isPart]
    rw [if_neg (fun e => h1 e.1), ih]
    cases e1 : isStartB c.toNat <;> simp [nmScan]
theorem nm_last (p : List UInt8) (h : ∀ c ∈ p, c.toNat ≠ 47) : nmScan true p = isPart p := by
  cases p with
  | nil => rfl
  | cons c p =>
    have h1 := h c (List.mem_cons_self ..)
    have ih := nm_mid p [] fun x hx => h x (List.mem_cons_of_mem _ hx)
    rw [List.append_nil] at ih
    simp only [nmScan, isPart]
    rw [if_neg (fun e => h1 e.1), ih]
    cases e1 : isStartB c.toNat <;> simp [nmScan]
abbrev cf4 : Cfg := mkCf (fun _ => false) [(193, pf1 isStartB)]
theorem pu4 : PureOk cf4 Tryz.prog := pure_cons (by kernel_rfl) (pure1 letter3_spec) pure_nil
set_option maxRecDepth 20000 in
theorem part3_spec (s : List UInt8) (m : Mem) (hs : s.length ≤ 4611686018427387904) : FnH Tryz.prog 183 [.v (.string (bs s))] ⟨[], []⟩ m fun r H' _ => r = .v (.bool (isPart s)) ∧ H' = ⟨[], []⟩ := by
  refine enter cf4 pu4 Tryz.func183 rfl rfl (by kernel_rfl) rfl ?_ ?_
  · simp only [go_sem, ↓imp_tf, ↓imp_ft, ↓reduceIte, Nat.reduceBEq, Nat.reduceAdd, Nat.reduceMul, Nat.reduceSub, Nat.reduceEqDiff, Nat.reduceLT, Nat.reduceLeDiff, Option.map, Option.bind, List.map, List.length, reduceCtorEq, Option.toList, Option.getD, List.set, List.drop, List.take, Int.reduceToNat]
  · simp only [go_sem, ↓imp_tf, ↓imp_ft, ↓reduceIte, Nat.reduceBEq, Nat.reduceAdd, Nat.reduceMul, Nat.reduceSub, Nat.reduceEqDiff, Nat.reduceLT, Nat.reduceLeDiff, Option.map, Option.bind, List.map, List.length, reduceCtorEq, Option.toList, Option.getD, List.set, List.drop, List.take, Int.reduceToNat]
    refine WP_loop pu4 (fun k : Nat => ⟨[⟨0, [], .v (.string (bs s))⟩, ⟨3, [], .v (.int .i64 k)⟩], [], [], [], 0, m⟩)
        (fun k => k ≤ s.length ∧ (k = 0 ∨ isPart s = (s.drop k).all isMid)) (fun k => s.length - k) 0 (by kernel_rfl) (fun _ _ => Nat.le_refl _) (fun _ _ => .inl rfl) (fun _ => ?_) ?_ ?_ ?_
    · simp only [go_sem, ↓imp_tf, ↓imp_ft, ↓reduceIte, Nat.reduceBEq, Nat.reduceAdd, Nat.reduceMul, Nat.reduceSub, Nat.reduceEqDiff, Nat.reduceLT, Nat.reduceLeDiff, Option.map, Option.bind, List.map, List.length, reduceCtorEq, Option.toList, Option.getD, List.set, List.drop, List.take, Int.reduceToNat]
    · simp only [go_sem, ↓imp_tf, ↓imp_ft, ↓reduceIte, Nat.reduceBEq, Nat.reduceAdd, Nat.reduceMul, Nat.reduceSub, Nat.reduceEqDiff, Nat.reduceLT, Nat.reduceLeDiff, Option.map, Option.bind, List.map, List.length, reduceCtorEq, Option.toList, Option.getD, List.set, List.drop, List.take, Int.reduceToNat]
      rfl
    · simp
    · rintro k ⟨hk, hp⟩
      simp only [go_sem, ↓imp_tf, ↓imp_ft, ↓reduceIte, Nat.reduceBEq, Nat.reduceAdd, Nat.reduceMul, Nat.reduceSub, Nat.reduceEqDiff, Nat.reduceLT, Nat.reduceLeDiff, Option.map, Option.bind, List.map, List.length, reduceCtorEq, Option.toList, Option.getD, List.set, List.drop, List.take, Int.reduceToNat]
      have hok : ∀ x : UInt8, isMid x = true ↔ isStartB x.toNat = true ∨ ¬ (x.toNat : Int) < 48 ∧ ¬ 57 < (x.toNat : Int) := fun x => by
        simp [isMid, isDigitB]
      have hs0 : k = 0 → k < s.length → isPart s = (isStartB (s.getD k 0).toNat && (s.drop (k + 1)).all isMid) := by
        rintro rfl hlt
        have := drop_at hlt
        rw [List.drop_zero] at this
        rw [this]
        rfl
      refine ⟨fun hlt => ⟨⟨by omega, hlt⟩, fun _ => ⟨by omega, hlt⟩, fun _ => ⟨by omega, hlt⟩, fun h => ?_, fun h => ⟨by unfold I64; omega, k + 1, by omega, ⟨by omega, .inr ?_⟩, by omega⟩⟩, fun hge => ?_⟩
      · have hkl : k < s.length := by omega
        rcases Nat.eq_zero_or_pos k with h0 | h0
        · rw [hs0 h0 hkl, h.1]; rfl
        · rcases hp with hp | hp
          · omega
          · rw [hp, drop_at hkl, List.all_cons]
            have : isMid (s.getD k 0) = false := by
              rw [Bool.eq_false_iff]
              intro e
              rcases (hok _).1 e with e | e
              · rw [e] at h; cases h.1
              · omega
            rw [this]; rfl
      · have hkl : k < s.length := by omega
        rcases Nat.eq_zero_or_pos k with h0 | h0
        · rw [hs0 h0 hkl]
          have : isStartB (s.getD k 0).toNat = true := by
            rcases h with h | h
            · exact h
            · omega
          rw [this]; rfl
        · rcases hp with hp | hp
          · omega
          · rw [hp, drop_at hkl, List.all_cons]
            have : isMid (s.getD k 0) = true := (hok _).2 (by
              rcases h with h | h
              · exact .inl h
              · exact .inr ⟨h.1.2, h.2⟩)
            rw [this]; rfl
      · rcases Nat.eq_zero_or_pos s.length with h0 | h0
        · rw [List.eq_nil_of_length_eq_zero h0]; rfl
        · rcases hp with hp | hp
          · omega
          · rw [hp, List.drop_of_length_le (by omega)]
            simpa using h0
/-- The last place of a byte, or -1. -/
def lastAt (s : List UInt8) (c : Int) : Nat → Int
  | 0 => -1
  | k + 1 => if ((s.getD k 0).toNat : Int) = c then k else lastAt s c k
set_option maxRecDepth 20000 in
theorem lastIdx_spec (s : List UInt8) (c : Int) (m : Mem) (hs : s.length ≤ 4611686018427387904) : FnH Tryz.prog 201 [.v (.string (bs s)), .v (.int .u8 c)] ⟨[], []⟩ m fun r H' _ => r = .v (.int .i64 (lastAt s c s.length)) ∧ H' = ⟨[], []⟩ := by
  refine enter cfN puN Tryz.func201 rfl rfl (by kernel_rfl) rfl ?_ ?_
  · simp only [go_sem, ↓imp_tf, ↓imp_ft, ↓reduceIte, Nat.reduceBEq, Nat.reduceAdd, Nat.reduceMul, Nat.reduceSub, Nat.reduceEqDiff, Nat.reduceLT, Nat.reduceLeDiff, Option.map, Option.bind, List.map, List.length, reduceCtorEq, Option.toList, Option.getD, List.set, List.drop, List.take, Int.reduceToNat]
  · simp only [go_sem, ↓imp_tf, ↓imp_ft, ↓reduceIte, Nat.reduceBEq, Nat.reduceAdd, Nat.reduceMul, Nat.reduceSub, Nat.reduceEqDiff, Nat.reduceLT, Nat.reduceLeDiff, Option.map, Option.bind, List.map, List.length, reduceCtorEq, Option.toList, Option.getD, List.set, List.drop, List.take, Int.reduceToNat]
    refine ⟨by unfold I64; omega, ?_⟩
    refine WP_loop puN (fun k : Nat => ⟨[⟨0, [], .v (.string (bs s))⟩, ⟨1, [], .v (.int .u8 c)⟩, ⟨5, [], .v (.int .i64 (k - 1))⟩], [], [], [], 0, m⟩)
        (fun k => k ≤ s.length ∧ lastAt s c s.length = lastAt s c k) (fun k => k) s.length (by kernel_rfl) (fun _ _ => Nat.le_refl _) (fun _ _ => .inl rfl) (fun _ => ?_) ?_ ?_ ?_
    · simp only [go_sem, ↓imp_tf, ↓imp_ft, ↓reduceIte, Nat.reduceBEq, Nat.reduceAdd, Nat.reduceMul, Nat.reduceSub, Nat.reduceEqDiff, Nat.reduceLT, Nat.reduceLeDiff, Option.map, Option.bind, List.map, List.length, reduceCtorEq, Option.toList, Option.getD, List.set, List.drop, List.take, Int.reduceToNat]
    · simp only [go_sem, ↓imp_tf, ↓imp_ft, ↓reduceIte, Nat.reduceBEq, Nat.reduceAdd, Nat.reduceMul, Nat.reduceSub, Nat.reduceEqDiff, Nat.reduceLT, Nat.reduceLeDiff, Option.map, Option.bind, List.map, List.length, reduceCtorEq, Option.toList, Option.getD, List.set, List.drop, List.take, Int.reduceToNat]
    · simp
    · rintro k ⟨hk, hp⟩
      simp only [go_sem, ↓imp_tf, ↓imp_ft, ↓reduceIte, Nat.reduceBEq, Nat.reduceAdd, Nat.reduceMul, Nat.reduceSub, Nat.reduceEqDiff, Nat.reduceLT, Nat.reduceLeDiff, Option.map, Option.bind, List.map, List.length, reduceCtorEq, Option.toList, Option.getD, List.set, List.drop, List.take, Int.reduceToNat]
      refine ⟨fun h0 => ⟨⟨h0, by omega⟩, fun h => ?_, fun h => ⟨by unfold I64; omega, k - 1, by omega, ⟨by omega, ?_⟩, by omega⟩⟩, fun h => ?_⟩
      · obtain ⟨k, rfl⟩ : ∃ j, k = j + 1 := ⟨k - 1, by omega⟩
        have e : ((k + 1 : Nat) : Int) - 1 = k := by omega
        rw [e, Int.toNat_natCast] at h
        rw [e]
        rw [hp]
        simp only [lastAt]
        rw [if_pos h]
      · obtain ⟨k, rfl⟩ : ∃ j, k = j + 1 := ⟨k - 1, by omega⟩
        have e : ((k + 1 : Nat) : Int) - 1 = k := by omega
        rw [e, Int.toNat_natCast] at h
        rw [hp]
        simp only [lastAt]
        rw [if_neg h]
        rfl
      · obtain rfl : k = 0 := by omega
        rw [hp]; rfl
set_option maxRecDepth 20000 in
theorem slash3_spec (s : List UInt8) (m : Mem) (hs : s.length ≤ 4611686018427387904) : FnH Tryz.prog 184 [.v (.string (bs s))] ⟨[], []⟩ m fun r H' _ => r = .v (.int .i64 (lastAt s 47 s.length)) ∧ H' = ⟨[], []⟩ := by
  refine enter cfN puN Tryz.func184 rfl rfl (by kernel_rfl) rfl ?_ ?_
  · simp only [go_sem, ↓imp_tf, ↓imp_ft, ↓reduceIte, Nat.reduceBEq, Nat.reduceAdd, Nat.reduceMul, Nat.reduceSub, Nat.reduceEqDiff, Nat.reduceLT, Nat.reduceLeDiff, Option.map, Option.bind, List.map, List.length, reduceCtorEq, Option.toList, Option.getD, List.set, List.drop, List.take, Int.reduceToNat]
  · simp only [go_sem, ↓imp_tf, ↓imp_ft, ↓reduceIte, Nat.reduceBEq, Nat.reduceAdd, Nat.reduceMul, Nat.reduceSub, Nat.reduceEqDiff, Nat.reduceLT, Nat.reduceLeDiff, Option.map, Option.bind, List.map, List.length, reduceCtorEq, Option.toList, Option.getD, List.set, List.drop, List.take, Int.reduceToNat]
    refine ⟨by unfold I64; omega, ?_⟩
    refine WP_loop puN (fun k : Nat => ⟨[⟨0, [], .v (.string (bs s))⟩, ⟨3, [], .v (.int .i64 (k - 1))⟩], [], [], [], 0, m⟩)
        (fun k => k ≤ s.length ∧ lastAt s 47 s.length = lastAt s 47 k) (fun k => k) s.length (by kernel_rfl) (fun _ _ => Nat.le_refl _) (fun _ _ => .inl rfl) (fun _ => ?_) ?_ ?_ ?_
    · simp only [go_sem, ↓imp_tf, ↓imp_ft, ↓reduceIte, Nat.reduceBEq, Nat.reduceAdd, Nat.reduceMul, Nat.reduceSub, Nat.reduceEqDiff, Nat.reduceLT, Nat.reduceLeDiff, Option.map, Option.bind, List.map, List.length, reduceCtorEq, Option.toList, Option.getD, List.set, List.drop, List.take, Int.reduceToNat]
    · simp only [go_sem, ↓imp_tf, ↓imp_ft, ↓reduceIte, Nat.reduceBEq, Nat.reduceAdd, Nat.reduceMul, Nat.reduceSub, Nat.reduceEqDiff, Nat.reduceLT, Nat.reduceLeDiff, Option.map, Option.bind, List.map, List.length, reduceCtorEq, Option.toList, Option.getD, List.set, List.drop, List.take, Int.reduceToNat]
    · simp
    · rintro k ⟨hk, hp⟩
      simp only [go_sem, ↓imp_tf, ↓imp_ft, ↓reduceIte, Nat.reduceBEq, Nat.reduceAdd, Nat.reduceMul, Nat.reduceSub, Nat.reduceEqDiff, Nat.reduceLT, Nat.reduceLeDiff, Option.map, Option.bind, List.map, List.length, reduceCtorEq, Option.toList, Option.getD, List.set, List.drop, List.take, Int.reduceToNat]
      refine ⟨fun h0 => ⟨⟨h0, by omega⟩, fun h => ?_, fun h => ⟨by unfold I64; omega, k - 1, by omega, ⟨by omega, ?_⟩, by omega⟩⟩, fun h => ?_⟩
      · obtain ⟨k, rfl⟩ : ∃ j, k = j + 1 := ⟨k - 1, by omega⟩
        have e : ((k + 1 : Nat) : Int) - 1 = k := by omega
        rw [e, Int.toNat_natCast] at h
        rw [e]
        rw [hp]
        simp only [lastAt]
        rw [if_pos h]
      · obtain ⟨k, rfl⟩ : ∃ j, k = j + 1 := ⟨k - 1, by omega⟩
        have e : ((k + 1 : Nat) : Int) - 1 = k := by omega
        rw [e, Int.toNat_natCast] at h
        rw [hp]
        simp only [lastAt]
        rw [if_neg h]
        rfl
      · obtain rfl : k = 0 := by omega
        rw [hp]; rfl
set_option maxRecDepth 20000 in
theorem lastIdx0_spec (s : List UInt8) (c : Int) (m : Mem) (hs : s.length ≤ 4611686018427387904) : FnH Tryz.prog 192 [.v (.string (bs s)), .v (.int .u8 c)] ⟨[], []⟩ m fun r H' _ => r = .v (.int .i64 (lastAt s c s.length)) ∧ H' = ⟨[], []⟩ := by
  refine enter cfN puN Tryz.func192 rfl rfl (by kernel_rfl) rfl ?_ ?_
  · simp only [go_sem, ↓imp_tf, ↓imp_ft, ↓reduceIte, Nat.reduceBEq, Nat.reduceAdd, Nat.reduceMul, Nat.reduceSub, Nat.reduceEqDiff, Nat.reduceLT, Nat.reduceLeDiff, Option.map, Option.bind, List.map, List.length, reduceCtorEq, Option.toList, Option.getD, List.set, List.drop, List.take, Int.reduceToNat]
  · simp only [go_sem, ↓imp_tf, ↓imp_ft, ↓reduceIte, Nat.reduceBEq, Nat.reduceAdd, Nat.reduceMul, Nat.reduceSub, Nat.reduceEqDiff, Nat.reduceLT, Nat.reduceLeDiff, Option.map, Option.bind, List.map, List.length, reduceCtorEq, Option.toList, Option.getD, List.set, List.drop, List.take, Int.reduceToNat]
    refine ⟨by kernel_rfl, FnV_of ((lastIdx_spec s c m hs).mono ?_)⟩
    rintro r H' m' hm ⟨rfl, rfl⟩
    simp only [go_sem, ↓imp_tf, ↓imp_ft, ↓reduceIte, Nat.reduceBEq, Nat.reduceAdd, Nat.reduceMul, Nat.reduceSub, Nat.reduceEqDiff, Nat.reduceLT, Nat.reduceLeDiff, Option.map, Option.bind, List.map, List.length, reduceCtorEq, Option.toList, Option.getD, List.set, List.drop, List.take, Int.reduceToNat]
theorem split_spec (s : List UInt8) (m : Mem) (hs : s.length ≤ 4611686018427387904) : FnH Tryz.prog 181 [.v (.string (bs s))] ⟨[], []⟩ m fun r H' _ => r = .v (.int .i64 (lastAt s 47 s.length)) ∧ H' = ⟨[], []⟩ := by
  refine enter cfN puN Tryz.func181 rfl rfl (by kernel_rfl) rfl ?_ ?_
  · simp only [go_sem, ↓imp_tf, ↓imp_ft, ↓reduceIte, Nat.reduceBEq, Nat.reduceAdd, Nat.reduceMul, Nat.reduceSub, Nat.reduceEqDiff, Nat.reduceLT, Nat.reduceLeDiff, Option.map, Option.bind, List.map, List.length, reduceCtorEq, Option.toList, Option.getD, List.set, List.drop, List.take, Int.reduceToNat]
  · simp only [go_sem, ↓imp_tf, ↓imp_ft, ↓reduceIte, Nat.reduceBEq, Nat.reduceAdd, Nat.reduceMul, Nat.reduceSub, Nat.reduceEqDiff, Nat.reduceLT, Nat.reduceLeDiff, Option.map, Option.bind, List.map, List.length, reduceCtorEq, Option.toList, Option.getD, List.set, List.drop, List.take, Int.reduceToNat]
    refine ⟨by kernel_rfl, FnV_of ((lastIdx0_spec s 47 m hs).mono ?_)⟩
    rintro r H' m' hm ⟨rfl, rfl⟩
    simp only [go_sem, ↓imp_tf, ↓imp_ft, ↓reduceIte, Nat.reduceBEq, Nat.reduceAdd, Nat.reduceMul, Nat.reduceSub, Nat.reduceEqDiff, Nat.reduceLT, Nat.reduceLeDiff, Option.map, Option.bind, List.map, List.length, reduceCtorEq, Option.toList, Option.getD, List.set, List.drop, List.take, Int.reduceToNat]
theorem lastAt_bd (s : List UInt8) (c : Int) : ∀ k, -1 ≤ lastAt s c k ∧ lastAt s c k < k
  | 0 => ⟨by simp [lastAt], by simp [lastAt]⟩
  | k + 1 => by
    obtain ⟨h1, h2⟩ := lastAt_bd s c k
    simp only [lastAt]
    split <;> omega
/-- What stands behind the last slash. -/
def simpleL (s : List UInt8) : List UInt8 := s.drop (lastAt s 47 s.length + 1).toNat
set_option maxRecDepth 20000 in
theorem simple_spec (s : List UInt8) (m : Mem) (hs : s.length ≤ 4611686018427387904) : FnH Tryz.prog 143 [.v (.string (bs s))] ⟨[], []⟩ m fun r H' _ => r = .v (.string (bs (simpleL s))) ∧ H' = ⟨[], []⟩ := by
  refine enter cfN puN Tryz.func143 rfl rfl (by kernel_rfl) rfl ?_ ?_
  · simp only [go_sem, ↓imp_tf, ↓imp_ft, ↓reduceIte, Nat.reduceBEq, Nat.reduceAdd, Nat.reduceMul, Nat.reduceSub, Nat.reduceEqDiff, Nat.reduceLT, Nat.reduceLeDiff, Option.map, Option.bind, List.map, List.length, reduceCtorEq, Option.toList, Option.getD, List.set, List.drop, List.take, Int.reduceToNat]
  · simp only [go_sem, ↓imp_tf, ↓imp_ft, ↓reduceIte, Nat.reduceBEq, Nat.reduceAdd, Nat.reduceMul, Nat.reduceSub, Nat.reduceEqDiff, Nat.reduceLT, Nat.reduceLeDiff, Option.map, Option.bind, List.map, List.length, reduceCtorEq, Option.toList, Option.getD, List.set, List.drop, List.take, Int.reduceToNat]
    refine ⟨by kernel_rfl, FnV_of ((split_spec s m hs).mono ?_)⟩
    rintro r H' m' hm ⟨rfl, rfl⟩
    simp only [go_sem, ↓imp_tf, ↓imp_ft, ↓reduceIte, Nat.reduceBEq, Nat.reduceAdd, Nat.reduceMul, Nat.reduceSub, Nat.reduceEqDiff, Nat.reduceLT, Nat.reduceLeDiff, Option.map, Option.bind, List.map, List.length, reduceCtorEq, Option.toList, Option.getD, List.set, List.drop, List.take, Int.reduceToNat]
    obtain ⟨h1, h2⟩ := lastAt_bd s 47 s.length
    refine ⟨by unfold I64; omega, ⟨by omega, by omega, by omega⟩, ?_⟩
    rfl
set_option maxRecDepth 20000 in
theorem rsimple_spec (s : List UInt8) (m : Mem) (hs : s.length ≤ 4611686018427387904) : FnH Tryz.prog 153 [.v (.string (bs s))] ⟨[], []⟩ m fun r H' _ => r = .v (.string (bs (simpleL s))) ∧ H' = ⟨[], []⟩ := by
  refine enter cfN puN Tryz.func153 rfl rfl (by kernel_rfl) rfl ?_ ?_
  · simp only [go_sem, ↓imp_tf, ↓imp_ft, ↓reduceIte, Nat.reduceBEq, Nat.reduceAdd, Nat.reduceMul, Nat.reduceSub, Nat.reduceEqDiff, Nat.reduceLT, Nat.reduceLeDiff, Option.map, Option.bind, List.map, List.length, reduceCtorEq, Option.toList, Option.getD, List.set, List.drop, List.take, Int.reduceToNat]
  · simp only [go_sem, ↓imp_tf, ↓imp_ft, ↓reduceIte, Nat.reduceBEq, Nat.reduceAdd, Nat.reduceMul, Nat.reduceSub, Nat.reduceEqDiff, Nat.reduceLT, Nat.reduceLeDiff, Option.map, Option.bind, List.map, List.length, reduceCtorEq, Option.toList, Option.getD, List.set, List.drop, List.take, Int.reduceToNat]
    refine ⟨by kernel_rfl, FnV_of ((slash3_spec s m hs).mono ?_)⟩
    rintro r H' m' hm ⟨rfl, rfl⟩
    simp only [go_sem, ↓imp_tf, ↓imp_ft, ↓reduceIte, Nat.reduceBEq, Nat.reduceAdd, Nat.reduceMul, Nat.reduceSub, Nat.reduceEqDiff, Nat.reduceLT, Nat.reduceLeDiff, Option.map, Option.bind, List.map, List.length, reduceCtorEq, Option.toList, Option.getD, List.set, List.drop, List.take, Int.reduceToNat]
    obtain ⟨h1, h2⟩ := lastAt_bd s 47 s.length
    refine ⟨by unfold I64; omega, ⟨by omega, by omega, by omega⟩, ?_⟩
    rfl
theorem drop_seg {s : List UInt8} {f k : Nat} (hf : f ≤ k) (hk : k ≤ s.length) : s.drop f = (s.take k).drop f ++ s.drop k := by
  conv => lhs; rw [← List.take_append_drop k s]
  rw [List.drop_append_of_le_length (by rw [List.length_take]; omega)]
theorem seg_succ {s : List UInt8} {f k : Nat} (hf : f ≤ k) (hk : k < s.length) : (s.take (k + 1)).drop f = (s.take k).drop f ++ [s.getD k 0] := by
  rw [List.take_succ_eq_append_getElem hk, List.drop_append_of_le_length (by rw [List.length_take]; omega), List.getD_eq_getElem?_getD, List.getElem?_eq_getElem hk]
  rfl
abbrev cf5 : Cfg := mkCf (fun _ => false) [(183, pS1 (fun s => s.length ≤ 4611686018427387904) fun s => .bool (isPart s))]
theorem pu5 : PureOk cf5 Tryz.prog := pure_cons (by kernel_rfl) (pureS fun s m h => part3_spec s m h) pure_nil
set_option maxRecDepth 20000 in
theorem risName_spec (s : List UInt8) (m : Mem) (hs : s.length ≤ 4611686018427387904) : FnH Tryz.prog 152 [.v (.string (bs s))] ⟨[], []⟩ m fun r H' _ => r = .v (.bool (isName s)) ∧ H' = ⟨[], []⟩ := by
  refine enter cf5 pu5 Tryz.func152 rfl rfl (by kernel_rfl) rfl ?_ ?_
  · simp only [go_sem, ↓imp_tf, ↓imp_ft, ↓reduceIte, Nat.reduceBEq, Nat.reduceAdd, Nat.reduceMul, Nat.reduceSub, Nat.reduceEqDiff, Nat.reduceLT, Nat.reduceLeDiff, Option.map, Option.bind, List.map, List.length, reduceCtorEq, Option.toList, Option.getD, List.set, List.drop, List.take, Int.reduceToNat]
  · simp only [go_sem, ↓imp_tf, ↓imp_ft, ↓reduceIte, Nat.reduceBEq, Nat.reduceAdd, Nat.reduceMul, Nat.reduceSub, Nat.reduceEqDiff, Nat.reduceLT, Nat.reduceLeDiff, Option.map, Option.bind, List.map, List.length, reduceCtorEq, Option.toList, Option.getD, List.set, List.drop, List.take, Int.reduceToNat]
    refine ⟨fun h => ?_, fun h => ?_⟩
    · have : ¬ s.length ≤ 64 := by omega
      simp [isName, this]
    · refine WP_loop pu5 (fun x : Nat × Nat => ⟨[⟨0, [], .v (.string (bs s))⟩, ⟨3, [], .v (.int .i64 x.1)⟩, ⟨4, [], .v (.int .i64 x.2)⟩], [], [], [], 0, m⟩)
        (fun x => x.1 ≤ x.2 ∧ x.2 ≤ s.length ∧ (∀ c ∈ (s.take x.2).drop x.1, c.toNat ≠ 47) ∧ isName s = nmScan true (s.drop x.1)) (fun x => s.length - x.2) (0, 0) (by kernel_rfl) (fun _ _ => Nat.le_refl _) (fun _ _ => .inl rfl) (fun _ => ?_) ?_ ?_ ?_
      · simp only [go_sem, ↓imp_tf, ↓imp_ft, ↓reduceIte, Nat.reduceBEq, Nat.reduceAdd, Nat.reduceMul, Nat.reduceSub, Nat.reduceEqDiff, Nat.reduceLT, Nat.reduceLeDiff, Option.map, Option.bind, List.map, List.length, reduceCtorEq, Option.toList, Option.getD, List.set, List.drop, List.take, Int.reduceToNat]
      · simp only [go_sem, ↓imp_tf, ↓imp_ft, ↓reduceIte, Nat.reduceBEq, Nat.reduceAdd, Nat.reduceMul, Nat.reduceSub, Nat.reduceEqDiff, Nat.reduceLT, Nat.reduceLeDiff, Option.map, Option.bind, List.map, List.length, reduceCtorEq, Option.toList, Option.getD, List.set, List.drop, List.take, Int.reduceToNat]
        exact ⟨rfl, rfl⟩
      · have : s.length ≤ 64 := by omega
        simp [isName, this]
      · rintro ⟨f, k⟩ ⟨hf, hk, hno, hp⟩
        simp only at hf hk hno hp
        simp only [go_sem, ↓imp_tf, ↓imp_ft, ↓reduceIte, Nat.reduceBEq, Nat.reduceAdd, Nat.reduceMul, Nat.reduceSub, Nat.reduceEqDiff, Nat.reduceLT, Nat.reduceLeDiff, Option.map, Option.bind, List.map, List.length, reduceCtorEq, Option.toList, Option.getD, List.set, List.drop, List.take, Int.reduceToNat]
        have hlen : ∀ l : List UInt8, (l.take k).length ≤ k := fun l => by rw [List.length_take]; omega
        refine ⟨fun hlt => ?_, fun hge => ?_⟩
        · have hkl : k < s.length := by omega
          have hI : I64 (k + 1) := by unfold I64; omega
          refine ⟨⟨by omega, hlt⟩, fun h47 => ?_, fun h47 => ⟨hI, (f, k + 1), ⟨rfl, rfl⟩, ⟨by simp only; omega, hkl, ?_, hp⟩, by simp only; omega⟩⟩
          · have e47 : s.getD k 0 = 47 := by
              have : (s.getD k 0).toNat = 47 := by omega
              exact UInt8.toNat_inj.1 this
            have hsp : isName s = (isPart ((s.take k).drop f) && nmScan true (s.drop (k + 1))) := by
              rw [hp, drop_seg hf hk, drop_at hkl, e47]
              exact nm_part _ _ hno
            refine ⟨⟨by omega, by omega, by omega⟩, by simp only [List.length_drop, List.length_take]; omega, fun h => ?_, fun h => ⟨hI, hI, (k + 1, k + 1), ⟨rfl, rfl⟩, ⟨Nat.le_refl _, hkl, ?_, ?_⟩, by simp only; omega⟩⟩
            · rw [hsp, h]; rfl
            · rw [List.drop_of_length_le (by simp; omega)]
              intro c hc; cases hc
            · rw [hsp, h]; rfl
          · simp only
            rw [seg_succ hf hkl]
            intro c hc
            rcases List.mem_append.1 hc with hc | hc
            · exact hno c hc
            · rw [List.mem_singleton.1 hc]
              omega
        · obtain rfl : k = s.length := by omega
          refine ⟨⟨by omega, by omega, by omega⟩, by simp only [List.length_drop, List.length_take]; omega, ?_⟩
          rw [hp]
          have := nm_last _ hno
          rw [List.take_length] at this
          exact this.symm
/-- A name does not end with a slash. -/
theorem nm_end : ∀ (s : List UInt8) (b : Bool), nmScan b s = true → s = [] ∨ ((s.getD (s.length - 1) 0).toNat ≠ 47 ∧ nmScan b s = true)
  | [], _, _ => .inl rfl
  | c :: r, b, h => by
    refine .inr ⟨?_, h⟩
    simp only [nmScan] at h
    cases r with
    | nil =>
      intro e
      have e : c.toNat = 47 := e
      rw [e] at h
      cases b <;> simp [nmScan, isStartB, isDigitB] at h
    | cons d r =>
      have go : ∀ b', nmScan b' (d :: r) = true → ((c :: d :: r).getD ((c :: d :: r).length - 1) 0).toNat ≠ 47 := fun b' hb => by
        rcases nm_end (d :: r) b' hb with e | e
        · cases e
        · simpa using e.1
      split at h
      · exact go _ h
      · split at h
        · exact go _ h
        · cases h
theorem simple_ne {s : List UInt8} (h : isName s = true) : 0 < (simpleL s).length := by
  simp only [isName, Bool.and_eq_true] at h
  rcases nm_end s true h.2 with rfl | ⟨e, _⟩
  · simp [nmScan] at h
  · have hl : 0 < s.length := by
      cases s with
      | nil => simp [nmScan] at h
      | cons c r => simp
    unfold simpleL
    rw [List.length_drop]
    obtain ⟨n, hn⟩ : ∃ n, s.length = n + 1 := ⟨s.length - 1, by omega⟩
    rw [hn] at e ⊢
    simp only [Nat.add_sub_cancel] at e
    have h2 := lastAt_bd s 47 n
    have : lastAt s 47 (n + 1) = lastAt s 47 n := by
      simp only [lastAt]
      rw [if_neg (by omega)]
    rw [this]
    omega
/-- A name of a class, for the tokens. -/
def isCls (s : List UInt8) : Bool := isName s && decide (65 ≤ ((simpleL s).getD 0 0).toNat) && decide (((simpleL s).getD 0 0).toNat ≤ 90)
abbrev BL (s : List UInt8) : Prop := s.length ≤ 4611686018427387904
abbrev cf6 : Cfg := mkCf (fun _ => false) [(142, pS1 BL fun s => .bool (isName s)), (152, pS1 BL fun s => .bool (isName s)), (143, pS1 BL fun s => .string (bs (simpleL s))), (153, pS1 BL fun s => .string (bs (simpleL s)))]
theorem pu6 : PureOk cf6 Tryz.prog := pure_cons (by kernel_rfl) (pureS isName_spec) (pure_cons (by kernel_rfl) (pureS risName_spec) (pure_cons (by kernel_rfl) (pureS simple_spec) (pure_cons (by kernel_rfl) (pureS rsimple_spec) pure_nil)))
set_option maxRecDepth 20000 in
theorem isCls_spec (s : List UInt8) (m : Mem) (hs : BL s) : FnH Tryz.prog 67 [.v (.string (bs s))] ⟨[], []⟩ m fun r H' _ => r = .v (.bool (isCls s)) ∧ H' = ⟨[], []⟩ := by
  refine enter cf6 pu6 Tryz.func67 rfl rfl (by kernel_rfl) rfl ?_ ?_
  · simp only [go_sem, ↓imp_tf, ↓imp_ft, ↓reduceIte, Nat.reduceBEq, Nat.reduceAdd, Nat.reduceMul, Nat.reduceSub, Nat.reduceEqDiff, Nat.reduceLT, Nat.reduceLeDiff, Option.map, Option.bind, List.map, List.length, reduceCtorEq, Option.toList, Option.getD, List.set, List.drop, List.take, Int.reduceToNat]
  · simp only [go_sem, ↓imp_tf, ↓imp_ft, ↓reduceIte, Nat.reduceBEq, Nat.reduceAdd, Nat.reduceMul, Nat.reduceSub, Nat.reduceEqDiff, Nat.reduceLT, Nat.reduceLeDiff, Option.map, Option.bind, List.map, List.length, reduceCtorEq, Option.toList, Option.getD, List.set, List.drop, List.take, Int.reduceToNat]
    refine ⟨hs, fun h => by simp [isCls, h], fun h => ⟨hs, ⟨by omega, by have := simple_ne h; omega⟩, ?_⟩⟩
    rw [isCls, h, Bool.true_and]
    have e1 : ∀ n : Nat, decide ((65 : Int) ≤ n) = decide (65 ≤ n) := fun n => by rw [decide_eq_decide]; omega
    have e2 : ∀ n : Nat, decide ((n : Int) ≤ 90) = decide (n ≤ 90) := fun n => by rw [decide_eq_decide]; omega
    rw [e1, e2]
/-- A call that leaves all that was there as it was. -/
theorem FnH_of {P : Program} {f : FuncId} {args : List Value} {m : Mem} {R : Value → Prop} (h : ∀ w D, Wf w D → m.le ⟨w, D⟩ → Calls P f ⟨args⟩ w fun e w' => ∃ y, e = .returned y ∧ R y ∧ Below w.heap.size w w') :
    FnH P f (args.map SV.v) ⟨[], []⟩ m fun r H' m' => (∃ y, r = .v y ∧ R y) ∧ H' = ⟨[], []⟩ ∧ m' = m := by
  intro V w D hwf hle hH
  have ha : (args.map SV.v).map (den V) = args := by rw [List.map_map]; exact List.map_id'' (fun _ => rfl) args
  rw [ha]
  refine (h w D hwf hle).mono ?_
  rintro e w' ⟨y, rfl, hy, hb⟩
  have hlt : ∀ b, 0 < D b → b < w.heap.size := fun b hb => by
    rcases Nat.lt_or_ge b w.heap.size with h | h
    · exact h
    · have := hwf b h; omega
  have hle' : Mem.le ⟨w, D⟩ ⟨w', D⟩ := fun b => ⟨Nat.le_refl _, fun h0 => ⟨hlt b h0, keepObj_same (hb.block b (hlt b h0))⟩⟩
  exact ⟨.v y, V, D, ⟨[], []⟩, m, rfl, fun b hb' => hwf b (Nat.le_trans hb.size hb'), ⟨fun b hb => (by cases hb), fun b hb => (by cases hb), by simp [blks], by simp⟩, fun b hb => (by cases hb), fun b hb => (by cases hb),
    ⟨hb.os, hb.tape, hb.output, hb.size, fun b hb' _ => ⟨hb.block b hb', rfl⟩⟩, fun b hb => (by simp [blks] at hb), hle', fun b => ⟨Nat.le_refl _, fun h => ⟨((hle b).2 h).1, keepObj_same rfl⟩⟩, Mem.le_trans hle hle', ⟨y, rfl, hy⟩, rfl, rfl⟩
/-- What the library's variables hold. -/
theorem Rds_up {m m' : Mem} {a : Option Addr} {n sz : Nat} {xs : List Value} (hle : m.le m') (h : Rds m a n sz xs) : Rds m' a n sz xs := by
  refine ⟨h.1, fun h0 => ?_⟩
  obtain ⟨ad, rfl, hs, hc⟩ := h.2 h0
  refine ⟨ad, rfl, hs, fun j hj => ?_⟩
  obtain ⟨h1, h2⟩ := hc j hj
  obtain ⟨e1, e2, e3⟩ := add_parts ad j hs
  have hx : xs[j]? = some (xs[j]'(by rw [h.1]; exact hj)) := List.getElem?_eq_getElem _
  exact ⟨(cell_of_le hle e3 (by rw [e1, e2]; exact h2) (h1.trans hx)).trans hx.symm, Nat.lt_of_lt_of_le h2 (hle _).1⟩
theorem Rd_up {m m' : Mem} {x : Value} {cs : List Value} (hle : m.le m') (h : Rd m x cs) : Rd m' x cs := by
  obtain ⟨ad, rfl, hs, hc⟩ := h
  refine ⟨ad, rfl, hs, fun j hj => ?_⟩
  obtain ⟨h1, h2⟩ := hc j hj
  obtain ⟨e1, e2, e3⟩ := add_parts ad j hs
  have hx : cs[j]? = some (cs[j]'hj) := List.getElem?_eq_getElem _
  exact ⟨(cell_of_le hle e3 (by rw [e1, e2]; exact h2) (h1.trans hx)).trans hx.symm, Nat.lt_of_lt_of_le h2 (hle _).1⟩
def opsL : List (List UInt8) := [[124, 124], [38, 38], [124], [94], [38], [61, 61], [33, 61], [60], [60, 61], [62], [62, 61], [60, 60], [62, 62], [62, 62, 62], [43], [45], [42], [47], [37]]
def Glob (m : Mem) : Prop := (∀ w D, m.le ⟨w, D⟩ → (∃ k, w.cell? ⟨1, 0, none⟩ = some (.int .i64 k)) ∧ Lib.TabIs Tryz.prog w "internal/strconv.uint64pow10" .u64 Lib.pow10Tab) ∧
  ∃ ad c, Rd m (.pointer (some ⟨0, 0, none⟩)) [.slice (some ad) 19 c] ∧ 19 ≤ c ∧ Rds m (some ad) 19 1 (strs opsL)
theorem Glob.up {m m' : Mem} (h : Glob m) (hm : m.le m') : Glob m' :=
  ⟨fun w D hw => h.1 w D (Mem.le_trans hm hw), h.2.elim fun ad h => h.elim fun c h => ⟨ad, c, Rd_up hm h.1, h.2.1, Rds_up hm h.2.2⟩⟩
theorem tl_size (b : ByteArray) : (tl b).length = b.size := by simp [tl]
theorem bs_size (l : List UInt8) : (bs l).size = l.length := by rw [← tl_size, tl_bs]
theorem replace_spec (s old new : List UInt8) (m : Mem) (hg : Glob m) (hs : s.length ≤ 2147483648) (ho : 1 ≤ old.length) (hn : new.length ≤ 16) :
    FnH Tryz.prog 160 [.v (.string (bs s)), .v (.string (bs old)), .v (.string (bs new))] ⟨[], []⟩ m fun r H' m' => (r = .v (.string (bs (Lib.replaceAll s old new)))) ∧ H' = ⟨[], []⟩ ∧ m' = m := by
  refine (FnH_of (args := [.string (bs s), .string (bs old), .string (bs new)]) (R := fun y => y = .string (bs (Lib.replaceAll s old new))) fun w D hwf hle => ?_).mono ?_
  · obtain ⟨k, hk⟩ := (hg.1 w D hle).1
    have hc := Lib.countB_mul_le (bs old) (by rw [bs_size]; exact ho) s.length (bs s) (by rw [bs_size]; omega)
    have h1 : Lib.countB (bs s) (bs old) ≤ s.length := by
      rw [bs_size] at hc
      exact Nat.le_trans (Nat.le_mul_of_pos_right _ ho) hc
    have h2 : Lib.countB (bs s) (bs old) * (bs new).size ≤ s.length * 16 := by rw [bs_size]; exact Nat.mul_le_mul h1 hn
    refine (Tryz.strings_ReplaceAll (bs s) (bs old) (bs new) k w (by rw [bs_size]; omega) hk (by rw [bs_size]; exact ho) (by rw [bs_size s]; omega)).mono ?_
    rintro e w' ⟨rfl, hb⟩
    exact ⟨_, rfl, by rw [← mk_eq_bs]; rfl, hb⟩
  · rintro r H' m' hm ⟨⟨y, rfl, rfl⟩, h1, h2⟩
    exact ⟨rfl, h1, h2⟩
theorem indexByte_spec (s : List UInt8) (c : Int) (m : Mem) : FnH Tryz.prog 174 [.v (.string (bs s)), .v (.int .u8 c)] ⟨[], []⟩ m fun r H' _ => r = .v (.int .i64 (Lib.indexByte s c.toNat.toUInt8)) ∧ H' = ⟨[], []⟩ := by
  refine (FnH_of (args := [.string (bs s), .int .u8 c]) (R := fun y => y = .int .i64 (Lib.indexByte s c.toNat.toUInt8)) fun w D hwf hle => ?_).mono ?_
  · refine (Tryz.strings_IndexByte (bs s) c w).mono ?_
    rintro e w' ⟨rfl, rfl⟩
    exact ⟨_, rfl, rfl, Below.refl _ _⟩
  · rintro r H' m' hm ⟨⟨y, rfl, rfl⟩, h1, h2⟩
    exact ⟨rfl, h1⟩
theorem itoa_spec (n : Int) (m : Mem) (hg : Glob m) (hn : I64 n) : FnH Tryz.prog 161 [.v (.int .i64 n)] ⟨[], []⟩ m fun r H' m' => r = .v (.string (bs (Lib.itoa n))) ∧ H' = ⟨[], []⟩ ∧ m' = m := by
  refine (FnH_of (args := [.int .i64 n]) (R := fun y => y = .string (bs (Lib.itoa n))) fun w D hwf hle => ?_).mono ?_
  · refine (Tryz.strconv_Itoa n hn.1 hn.2 w (hg.1 w D hle).2).mono ?_
    rintro e w' ⟨rfl, k, os, rfl⟩
    refine ⟨_, rfl, rfl, ?_⟩
    have h2 : Below w.heap.size w (w.drewN k) := (Below.refl _ _).trans ⟨rfl, rfl, rfl, Nat.le_refl _, fun _ _ => rfl⟩
    refine ⟨h2.os, h2.tape, h2.output, ?_, fun j hj => ?_⟩
    · show _ ≤ (_ ++ os).size
      rw [Array.size_append]
      exact Nat.le_trans h2.size (Nat.le_add_right _ _)
    · show ((w.drewN k).heap ++ os)[j]? = _
      rw [Array.getElem?_append_left (Nat.lt_of_lt_of_le hj h2.size)]
      exact h2.block j hj
  · rintro r H' m' hm ⟨⟨y, rfl, rfl⟩, h1, h2⟩
    exact ⟨rfl, h1, h2⟩
theorem join_spec (l : List (List UInt8)) (sep : List UInt8) (a : Option Addr) (n c : Nat) (m : Mem) (h : Rds m a n 1 (strs l)) (hc : n ≤ c) (hn : n ≤ 1000000) (hlen : (Lib.join l sep).length ≤ 1000000000000) :
    FnH Tryz.prog 92 [.v (.slice a n c), .v (.string (bs sep))] ⟨[], []⟩ m fun r H' m' => r = .v (.string (bs (Lib.join l sep))) ∧ H' = ⟨[], []⟩ ∧ m' = m := by
  have hl : l.length = n := by have := h.1; simpa [strs] using this
  refine (FnH_of (args := [.slice a n c, .string (bs sep)]) (R := fun y => y = .string (bs (Lib.join l sep))) fun w D hwf hle => ?_).mono ?_
  · rcases Nat.eq_zero_or_pos n with h0 | h0
    · subst h0
      have : l = [] := List.eq_nil_of_length_eq_zero hl
      subst this
      refine (Tryz.strings_Join_none a c (bs sep) w).mono ?_
      rintro e w' ⟨rfl, rfl⟩
      exact ⟨_, rfl, rfl, Below.refl _ _⟩
    · obtain ⟨ad, rfl, hsp, _⟩ := h.2 h0
      obtain ⟨ad', e, hc'⟩ := Rds_at hle h h0
      cases e
      obtain ⟨bk, o, sp⟩ := ad
      simp only at hsp
      subst hsp
      have e1 : (l.map bs).map (·.data.toList) = l := by
        rw [List.map_map]
        exact List.map_id'' (fun x => tl_bs x) l
      have e2 : (bs sep).data.toList = sep := tl_bs sep
      have hcell : ∀ (j : Nat) x, (l.map bs)[j]? = some x → w.cell? ⟨bk, o + j, none⟩ = some (.string x) := fun j x hx => by
        have := hc' j (.string x) (by simp only [strs, List.getElem?_map] at hx ⊢; rw [Option.map_eq_some_iff] at hx ⊢; obtain ⟨y, hy, rfl⟩ := hx; exact ⟨y, hy, rfl⟩)
        rwa [add_off] at this
      have hb : bk < w.heap.size := by
        have h1 := hcell 0 (bs (l[0]'(by omega))) (by simp [h0, hl])
        rcases Nat.lt_or_ge bk w.heap.size with h2 | h2
        · exact h2
        · simp [World.cell?, Array.getElem?_eq_none h2] at h1
      have := Tryz.strings_Join bk o c (l.map bs) (bs sep) w hcell hb (by rw [List.length_map]; omega) (by rw [List.length_map]; omega) (by rw [e1, e2]; omega)
      rw [List.length_map, hl, e1, e2] at this
      refine this.mono ?_
      rintro e w' ⟨rfl, hw⟩
      exact ⟨_, rfl, rfl, hw⟩
  · rintro r H' m' hm ⟨⟨y, rfl, rfl⟩, h1, h2⟩
    exact ⟨rfl, h1, h2⟩
theorem zero27 : zeroO Tryz.prog 79 = some [.v (.int .i64 0), .v (.string (bs [])), .v (.int .i64 0), .v (.int .i64 0)] := by kernel_rfl
theorem agg27 : aggN Tryz.prog 79 = some (some 4) := by kernel_rfl
theorem sz27 : szT Tryz.prog 79 = 4 := by kernel_rfl
theorem by27 : byT Tryz.prog 79 = 40 := by kernel_rfl
theorem fld27_0 : fldO Tryz.prog 79 0 = some (0, none, 1) := by kernel_rfl
theorem fld27_1 : fldO Tryz.prog 79 1 = some (1, none, 1) := by kernel_rfl
theorem fld27_2 : fldO Tryz.prog 79 2 = some (2, none, 1) := by kernel_rfl
theorem fld27_3 : fldO Tryz.prog 79 3 = some (3, none, 1) := by kernel_rfl
theorem bld27 : bldOk Tryz.prog 79 = true := by kernel_rfl
theorem cv35 : cvK Tryz.prog 3 5 = .int .u8 := by kernel_rfl
theorem cv539 : cvK Tryz.prog 82 9 = .b2s := by kernel_rfl
attribute [go_sem] cv35 cv539 zero27 agg27 sz27 by27 fld27_0 fld27_1 fld27_2 fld27_3 bld27
/-- A token: kind, text, number, offset. -/
structure Tk where
  k : Int
  s : List UInt8
  n : Int
  at_ : Int
abbrev Tk.cells (t : Tk) : List SV := [.v (.int .i64 t.k), .v (.string (bs t.s)), .v (.int .i64 t.n), .v (.int .i64 t.at_)]
abbrev Tk.sv (t : Tk) : SV := .agg t.cells
def hexL : List UInt8 := [48, 49, 50, 51, 52, 53, 54, 55, 56, 57, 97, 98, 99, 100, 101, 102]
theorem elT53 : elT Tryz.prog 82 = some 5 := by kernel_rfl
theorem sz5 : szT Tryz.prog 5 = 1 := by kernel_rfl
theorem by5 : byT Tryz.prog 5 = 1 := by kernel_rfl
theorem zero5 : zeroO Tryz.prog 5 = some [.v (.int .u8 0)] := by kernel_rfl
theorem agg5 : aggN Tryz.prog 5 = some none := by kernel_rfl
attribute [go_sem] elT53 sz5 by5 zero5 agg5
theorem u8s_app (a b : List UInt8) : u8s (a ++ b) = u8s a ++ u8s b := by simp [u8s]
theorem repK_len (old new : List UInt8) : ∀ (k : Nat) (s : List UInt8), (Lib.replaceK old new k s).length ≤ s.length + k * new.length
  | 0, s => by simp [Lib.replaceK]
  | k + 1, s => by
    rw [Lib.replaceK]
    split
    · exact Nat.le_add_right _ _
    · have ih := repK_len old new k (s.drop ((Lib.index s old).toNat + old.length))
      simp only [List.length_append, List.length_take, List.length_drop] at ih ⊢
      rw [Nat.add_mul]
      omega
theorem rep_len (s old new : List UInt8) (ho : 1 ≤ old.length) (hs : s.length ≤ 1000000000) : (Lib.replaceAll s old new).length ≤ s.length + s.length * new.length := by
  unfold Lib.replaceAll Lib.replace
  split
  · exact Nat.le_add_right _ _
  · refine Nat.le_trans (repK_len _ _ _ _) ?_
    have hn : Lib.replaceNum s old (-1) = Lib.count s old := by simp [Lib.replaceNum]
    have hc := Lib.countB_mul_le (bs old) (by rw [bs_size]; exact ho) s.length (bs s) (by rw [bs_size]; exact Nat.le_refl _)
    have hcc : Lib.countB (bs s) (bs old) = Lib.count s old := rfl
    rw [hcc, bs_size, bs_size] at hc
    have : Lib.count s old ≤ s.length := Nat.le_trans (Nat.le_mul_of_pos_right _ ho) hc
    rw [hn]
    exact Nat.add_le_add_left (Nat.mul_le_mul_right _ this) _
theorem elT22 : elT Tryz.prog 44 = some 79 := by kernel_rfl
attribute [go_sem] elT22
def tkCells (ts : List Tk) : List Value := (ts.map fun t => [Value.int .i64 t.k, .string (bs t.s), .int .i64 t.n, .int .i64 t.at_]).flatten
theorem leM_trans {a b c : Mem} (h : leM a b) (h' : b.le c) : leM a c := by
  rcases h with rfl | h
  · exact .inr h'
  · exact .inr (Mem.le_trans h h')
theorem cv53 : cvK Tryz.prog 5 3 = .int .i64 := by kernel_rfl
attribute [go_sem] cv53
def escB (c : UInt8) : List UInt8 :=
  if c.toNat = 34 ∨ c.toNat = 92 then [92, c] else if c.toNat = 10 then [92, 110] else if c.toNat < 32 ∨ 126 < c.toNat then [92, 120, hexL.getD (c.toNat / 16) 0, hexL.getD (c.toNat % 16) 0] else [c]
def escapedL (s : List UInt8) : List UInt8 := 34 :: (s.map escB).flatten ++ [34]
set_option maxRecDepth 20000 in
theorem and15 (c : UInt8) : bits .and .u8 (c.toNat : Int) 15 = ((c.toNat % 16 : Nat) : Int) := by
  have h : ∀ n : Nat, n < 256 → bits .and .u8 (n : Int) 15 = ((n % 16 : Nat) : Int) := by decide
  exact h c.toNat c.toNat_lt
theorem escB_len (c : UInt8) : (escB c).length ≤ 4 := by
  unfold escB; split
  · simp
  · split
    · simp
    · split <;> simp
theorem escFlat_len : ∀ (s : List UInt8), ((s.map escB).flatten).length ≤ 4 * s.length
  | [] => by simp
  | c :: r => by
    have h1 := escB_len c
    have h2 := escFlat_len r
    simp only [List.map_cons, List.flatten_cons, List.length_append, List.length_cons]
    omega
set_option maxHeartbeats 4000000 in
set_option maxRecDepth 20000 in
theorem escaped_spec (s : List UInt8) (m : Mem) (hs : s.length ≤ 2000000) :
    FnH Tryz.prog 162 [.v (.string (bs s))] ⟨[], []⟩ m fun r H' m' => r = .v (.string (bs (escapedL s))) ∧ H' = ⟨[], []⟩ ∧ m' = m := by
  refine enter cfN puN Tryz.func162 rfl rfl (by kernel_rfl) rfl ?_ ?_
  · simp only [go_sem, ↓imp_tf, ↓imp_ft, ↓reduceIte, Nat.reduceBEq, Nat.reduceAdd, Nat.reduceMul, Nat.reduceSub, Nat.reduceEqDiff, Nat.reduceLT, Nat.reduceLeDiff, Option.map, Option.bind, List.map, List.length, reduceCtorEq, Option.toList, Option.getD, List.set, List.drop, List.take, Int.reduceToNat]
  · simp only [go_sem, ↓imp_tf, ↓imp_ft, ↓reduceIte, Nat.reduceBEq, Nat.reduceAdd, Nat.reduceMul, Nat.reduceSub, Nat.reduceEqDiff, Nat.reduceLT, Nat.reduceLeDiff, Option.map, Option.bind, List.map, List.length, reduceCtorEq, Option.toList, Option.getD, List.set, List.drop, List.take, Int.reduceToNat]
    refine WP_loop puN (fun x : Nat × Nat × List UInt8 => ⟨[⟨0, [], .v (.string (bs s))⟩, ⟨3, [], .vec 0 x.2.1⟩, ⟨8, [], .v (.int .i64 s.length)⟩, ⟨9, [], .v (.int .i64 x.1)⟩], [], [], [⟨0, x.2.1, 5, 1, x.2.2.length, u8s x.2.2⟩], 1, m⟩)
      (fun x => x.1 ≤ s.length ∧ x.2.2 = 34 :: ((s.take x.1).map escB).flatten) (fun x => s.length - x.1) (0, 0, [34]) (by kernel_rfl) (fun _ _ => Nat.le_refl _) (fun _ _ => .inl rfl) (fun _ => ?_) ?_ ?_ ?_
    · simp only [go_sem, ↓imp_tf, ↓imp_ft, ↓reduceIte, Nat.reduceBEq, Nat.reduceAdd, Nat.reduceMul, Nat.reduceSub, Nat.reduceEqDiff, Nat.reduceLT, Nat.reduceLeDiff, Option.map, Option.bind, List.map, List.length, reduceCtorEq, Option.toList, Option.getD, List.set, List.drop, List.take, Int.reduceToNat]
    · simp only [go_sem, ↓imp_tf, ↓imp_ft, ↓reduceIte, Nat.reduceBEq, Nat.reduceAdd, Nat.reduceMul, Nat.reduceSub, Nat.reduceEqDiff, Nat.reduceLT, Nat.reduceLeDiff, Option.map, Option.bind, List.map, List.length, reduceCtorEq, Option.toList, Option.getD, List.set, List.drop, List.take, Int.reduceToNat]
      exact ⟨rfl, rfl⟩
    · exact ⟨Nat.zero_le _, rfl⟩
    · rintro ⟨k, u, b⟩ ⟨h1, h2⟩
      simp only at h1 h2
      have hbl : b.length ≤ 1 + 4 * k := by
        rw [h2, List.length_cons]
        have := escFlat_len (s.take k)
        rw [List.length_take] at this
        omega
      have hroom : ∀ n, n ≤ 4 → room (b.length + n) 1 := fun n hn => ⟨by omega, by simp only [maxLen]; omega⟩
      have step : k < s.length → ∀ e, escB (s.getD k 0) = e → ∀ ver : Nat, ver = u + 1 → b.length + e.length = (b ++ e).length ∧ u8s b ++ u8s e = u8s (b ++ e) ∧ (k + 1 ≤ s.length ∧ b ++ e = 34 :: ((s.take (k + 1)).map escB).flatten) ∧ s.length - (k + 1) < s.length - k := fun hk e he ver _ => by
        refine ⟨(List.length_append).symm, (u8s_app b e).symm, ⟨hk, ?_⟩, by omega⟩
        rw [List.take_succ_eq_append_getElem hk, List.map_append, List.flatten_append, h2, ← he, List.getD_eq_getElem?_getD, List.getElem?_eq_getElem hk]
        simp
      simp only [go_sem, ↓imp_tf, ↓imp_ft, ↓reduceIte, Nat.reduceBEq, Nat.reduceAdd, Nat.reduceMul, Nat.reduceSub, Nat.reduceEqDiff, Nat.reduceLT, Nat.reduceLeDiff, Option.map, Option.bind, List.map, List.length, reduceCtorEq, Option.toList, Option.getD, List.set, List.drop, List.take, Int.reduceToNat]
      refine ⟨fun hlt => ?_, fun hge => ?_⟩
      · have hk : k < s.length := by omega
        have hI : I64 (k + 1) := by unfold I64; omega
        refine ⟨by omega, fun c1 => ⟨hroom 2 (by omega), hI, ?_⟩, fun c1 => ⟨fun c2 => ⟨hroom 2 (by omega), hI, ?_⟩, fun c2 => ⟨fun c3 => ?_, fun c3 => ⟨hroom 1 (by omega), hI, ?_⟩⟩⟩⟩
        · have h := step hk [92, s.getD k 0] (by unfold escB; rw [if_pos (by omega)]) _ rfl
          exact ⟨(k + 1, u + 1, b ++ [92, s.getD k 0]), ⟨⟨rfl, rfl⟩, rfl, h.1, h.2.1⟩, h.2.2.1, h.2.2.2⟩
        · have h := step hk [92, 110] (by unfold escB; rw [if_neg (by omega), if_pos (by omega)]) _ rfl
          exact ⟨(k + 1, u + 1, b ++ [92, 110]), ⟨⟨rfl, rfl⟩, rfl, h.1, h.2.1⟩, h.2.2.1, h.2.2.2⟩
        · have h := step hk [92, 120, hexL.getD ((s.getD k 0).toNat / 16) 0, hexL.getD ((s.getD k 0).toNat % 16) 0] (by unfold escB; rw [if_neg (by omega), if_neg (by omega), if_pos (by omega)]) _ rfl
          have hc := (s.getD k 0).toNat_lt
          have e16 : ((((s.getD k 0).toNat : Nat) : Int) / 2 ^ 4).toNat = (s.getD k 0).toNat / 16 := by omega
          refine WP_draw (.hoist 0 (.hoist 1 (.hoist 2 (.hoist 3 (.hoist 4 (.hoist 5 (.hoist 6 (.alt 7 [0] (.alt 8 [] (.hoist 9 .done) .stop) .stop)))))))) puN (by kernel_rfl) (by kernel_rfl) ?_
          simp only [go_sem, ↓imp_tf, ↓imp_ft, ↓reduceIte, Nat.reduceBEq, Nat.reduceAdd, Nat.reduceMul, Nat.reduceSub, Nat.reduceEqDiff, Nat.reduceLT, Nat.reduceLeDiff, Option.map, Option.bind, List.map, List.length, reduceCtorEq, Option.toList, Option.getD, List.set, List.drop, List.take, Int.reduceToNat, and15, e16]
          exact ⟨by omega, by omega, by omega, hroom 4 (by omega), hI, (k + 1, u + 1, b ++ [92, 120, hexL.getD ((s.getD k 0).toNat / 16) 0, hexL.getD ((s.getD k 0).toNat % 16) 0]), ⟨⟨rfl, rfl⟩, rfl, h.1, h.2.1⟩, h.2.2.1, h.2.2.2⟩
        · have h := step hk [s.getD k 0] (by unfold escB; rw [if_neg (by omega), if_neg (by omega), if_neg (by omega)]) _ rfl
          exact ⟨(k + 1, u + 1, b ++ [s.getD k 0]), ⟨⟨rfl, rfl⟩, rfl, h.1, h.2.1⟩, h.2.2.1, h.2.2.2⟩
      · have ek : k = s.length := by omega
        refine ⟨hroom 1 (by omega), b ++ [34], by rw [u8s_app]; rfl, ?_⟩
        rw [h2, ek, List.take_length]; rfl
/-- The text of a token. -/
def fmtL (t : Tk) : Option (List UInt8) :=
  if t.k = 1 then (if t.n = 0 ∧ isName t.s = true ∧ keywordsL.contains t.s = false then some (Lib.replaceAll t.s [47] [58, 58]) else none)
  else if t.k = 2 then (if t.n = 0 ∧ keywordsL.contains t.s = true then some t.s else none)
  else if t.k = 3 then (if (t.s = [] ∧ 0 ≤ t.n) ∧ t.n < 2147483648 then some (Lib.itoa t.n) else none)
  else if t.k = 4 then (if t.s = [] ∧ 0 ≤ t.n then some (Lib.itoa t.n ++ [76]) else none)
  else if t.k = 5 then (if t.n = 0 ∧ t.s.length ≤ 1024 then some (escapedL t.s) else none)
  else if t.k = 6 then (if t.n = 0 ∧ signsL.contains t.s = true then some t.s else none)
  else none
def FOut (o : Option (List UInt8)) (r : SV) : Prop :=
  match o with
  | some x => r = .tup [.v (.string (bs x)), .v (.int .i64 0)]
  | none => r = .tup [.v (.string (bs [])), .v (.int .i64 1)]
def TkOk (t : Tk) : Prop := t.s.length ≤ 2000000 ∧ I64 t.n
theorem FOut_no {o : Option (List UInt8)} {c : Prop} [Decidable c] {x : List UInt8} (ho : o = if c then some x else none) (h : ¬ c) : FOut o (.tup [.v (.string (bs [])), .v (.int .i64 1)]) := by
  rw [ho, if_neg h]; rfl
theorem FOut_yes {o : Option (List UInt8)} {c : Prop} [Decidable c] {x : List UInt8} (ho : o = if c then some x else none) (h : c) : FOut o (.tup [.v (.string (bs x)), .v (.int .i64 0)]) := by
  rw [ho, if_pos h]; rfl
theorem nDigits_le : ∀ (k : Nat) (u : Nat), u < 10 ^ k → Lib.nDigits u ≤ k + 1 := by
  intro k
  induction k with
  | zero => intro u hu; rw [Lib.nDigits_small (by simp at hu; omega)]; omega
  | succ k ih =>
    intro u hu
    by_cases h : u < 10
    · rw [Lib.nDigits_small h]; omega
    · rw [Lib.nDigits_big h]
      have := ih (u / 10) (by rw [Nat.div_lt_iff_lt_mul (by omega)]; rw [Nat.pow_succ] at hu; exact hu)
      omega
theorem itoa_len {n : Int} (h : I64 n) : (Lib.itoa n).length ≤ 21 := by
  unfold Lib.itoa
  have h1 := h.1
  have h2 := h.2
  split
  · rw [List.length_cons, Lib.decDigits_length]
    have := nDigits_le 19 n.natAbs (by omega)
    omega
  · rw [Lib.decDigits_length]
    have := nDigits_le 19 n.toNat (by omega)
    omega
set_option maxHeartbeats 4000000 in
set_option maxRecDepth 20000 in
theorem format_spec (t : Tk) (m : Mem) (hg : Glob m) (ht : TkOk t) :
    FnH Tryz.prog 91 [Tk.sv t] ⟨[], []⟩ m fun r H' m' => m.le m' ∧ H' = ⟨[], []⟩ ∧ FOut (fmtL t) r := by
  have hl := ht.1
  refine enter cf6 pu6 Tryz.func91 rfl rfl (by kernel_rfl) rfl ?_ ?_
  · simp only [go_sem, ↓imp_tf, ↓imp_ft, ↓reduceIte, Nat.reduceBEq, Nat.reduceAdd, Nat.reduceMul, Nat.reduceSub, Nat.reduceEqDiff, Nat.reduceLT, Nat.reduceLeDiff, Option.map, Option.bind, List.map, List.length, reduceCtorEq, Option.toList, Option.getD, List.set, List.drop, List.take, Int.reduceToNat, Tk.sv, Tk.cells]
  · simp only [go_sem, ↓imp_tf, ↓imp_ft, ↓reduceIte, Nat.reduceBEq, Nat.reduceAdd, Nat.reduceMul, Nat.reduceSub, Nat.reduceEqDiff, Nat.reduceLT, Nat.reduceLeDiff, Option.map, Option.bind, List.map, List.length, reduceCtorEq, Option.toList, Option.getD, List.set, List.drop, List.take, Int.reduceToNat, Tk.sv, Tk.cells]
    refine WP_draw (.hoist 1 (.hoist 2 (.alt 0 [2, 1] (.alt 3 [] (.hoist 4 .done) .stop) .stop))) pu6 (by kernel_rfl) (by kernel_rfl) ?_
    simp only [go_sem, ↓imp_tf, ↓imp_ft, ↓reduceIte, Nat.reduceBEq, Nat.reduceAdd, Nat.reduceMul, Nat.reduceSub, Nat.reduceEqDiff, Nat.reduceLT, Nat.reduceLeDiff, Option.map, Option.bind, List.map, List.length, reduceCtorEq, Option.toList, Option.getD, List.set, List.drop, List.take, Int.reduceToNat]
    refine ⟨by kernel_rfl, FnV_of ((keywords_spec m).mono ?_)⟩
    rintro r H' m3 hm3 ⟨rfl, rfl, rfl⟩
    simp only [go_sem, ↓imp_tf, ↓imp_ft, ↓reduceIte, Nat.reduceBEq, Nat.reduceAdd, Nat.reduceMul, Nat.reduceSub, Nat.reduceEqDiff, Nat.reduceLT, Nat.reduceLeDiff, Option.map, Option.bind, List.map, List.length, reduceCtorEq, Option.toList, Option.getD, List.set, List.drop, List.take, Int.reduceToNat]
    refine ⟨by kernel_rfl, fun ad cp m1 hm1 hcp hrd => FnV_of ((contains_spec keywordsL t.s ad 28 cp m1 hrd (by decide)).mono ?_)⟩
    rintro r H' m4 hm4 ⟨rfl, rfl⟩
    have hm34 := Mem.le_trans hm1 hm4
    have hg4 := hg.up hm34
    simp only [go_sem, ↓imp_tf, ↓imp_ft, ↓reduceIte, Nat.reduceBEq, Nat.reduceAdd, Nat.reduceMul, Nat.reduceSub, Nat.reduceEqDiff, Nat.reduceLT, Nat.reduceLeDiff, Option.map, Option.bind, List.map, List.length, reduceCtorEq, Option.toList, Option.getD, List.set, List.drop, List.take, Int.reduceToNat]
    refine ⟨fun k1 => ?_, fun k1 => ⟨fun k2 => ?_, fun k2 => ⟨fun k3 => ?_, fun k3 => ⟨fun k4 => ?_, fun k4 => ⟨fun k5 => ?_, fun k5 => ⟨fun k6 => ?_, fun k6 => ?_⟩⟩⟩⟩⟩⟩
    · have hf : fmtL t = if t.n = 0 ∧ isName t.s = true ∧ keywordsL.contains t.s = false then some (Lib.replaceAll t.s [47] [58, 58]) else none := if_pos k1
      have hrep := replace_spec t.s [47] [58, 58] m4 hg4 (by omega) (by simp) (by simp)
      refine WP_draw (.hoist 0 (.hoist 1 (.hoist 3 (.hoist 4 (.hoist 5 (.alt 2 [5, 4, 3] (.hoist 6 (.hoist 7 (.hoist 8 (.alt 9 [] (.hoist 10 (.hoist 11 (.hoist 12 (.hoist 13 (.hoist 14 (.hoist 15 (.hoist 16 .done))))))) .stop)))) .stop)))))) pu6 (by kernel_rfl) (by kernel_rfl) ?_
      simp only [go_sem, ↓imp_tf, ↓imp_ft, ↓reduceIte, Nat.reduceBEq, Nat.reduceAdd, Nat.reduceMul, Nat.reduceSub, Nat.reduceEqDiff, Nat.reduceLT, Nat.reduceLeDiff, Option.map, Option.bind, List.map, List.length, reduceCtorEq, Option.toList, Option.getD, List.set, List.drop, List.take, Int.reduceToNat]
      refine ⟨by kernel_rfl, FnV_of (hrep.mono ?_)⟩
      rintro r H' m5 hm5 ⟨rfl, rfl, rfl⟩
      clear hrep
      simp only [go_sem, ↓imp_tf, ↓imp_ft, ↓reduceIte, Nat.reduceBEq, Nat.reduceAdd, Nat.reduceMul, Nat.reduceSub, Nat.reduceEqDiff, Nat.reduceLT, Nat.reduceLeDiff, Option.map, Option.bind, List.map, List.length, reduceCtorEq, Option.toList, Option.getD, List.set, List.drop, List.take, Int.reduceToNat]
      refine ⟨fun _ => by unfold BL; omega, fun h => ⟨hm34, FOut_no hf ?_⟩, fun h => ⟨hm34, FOut_yes hf ⟨h.1.1, h.1.2, h.2⟩⟩⟩
      rintro ⟨a, b, c⟩
      rcases h with (h | h) | h
      · exact h a
      · rw [b] at h; cases h
      · rw [c] at h; cases h
    · have hf : fmtL t = if t.n = 0 ∧ keywordsL.contains t.s = true then some t.s else none := by unfold fmtL; rw [if_neg k1, if_pos k2]
      rw [hf]
      refine ⟨fun h => ⟨hm34, ?_⟩, fun h => ⟨hm34, ?_⟩⟩
      · rw [if_neg (by rintro ⟨a, b⟩; rcases h with h | h; exact h a; rw [b] at h; cases h)]; rfl
      · rw [if_pos h]; rfl
    · have hf : fmtL t = if (t.s = [] ∧ 0 ≤ t.n) ∧ t.n < 2147483648 then some (Lib.itoa t.n) else none := by unfold fmtL; rw [if_neg k1, if_neg k2, if_pos k3]
      have hit := itoa_spec t.n m4 hg4 ht.2
      refine WP_draw (.hoist 0 (.hoist 1 (.hoist 3 (.hoist 4 (.hoist 5 (.alt 2 [5, 4, 3] (.hoist 6 (.hoist 7 (.hoist 8 (.hoist 9 (.hoist 10 (.hoist 11 (.hoist 12 (.hoist 13 (.hoist 14 (.hoist 15 (.hoist 16 (.hoist 17 .done)))))))))))) .stop)))))) pu6 (by kernel_rfl) (by kernel_rfl) ?_
      simp only [go_sem, ↓imp_tf, ↓imp_ft, ↓reduceIte, Nat.reduceBEq, Nat.reduceAdd, Nat.reduceMul, Nat.reduceSub, Nat.reduceEqDiff, Nat.reduceLT, Nat.reduceLeDiff, Option.map, Option.bind, List.map, List.length, reduceCtorEq, Option.toList, Option.getD, List.set, List.drop, List.take, Int.reduceToNat]
      refine ⟨by kernel_rfl, FnV_of (hit.mono ?_)⟩
      rintro r H' m5 hm5 ⟨rfl, rfl, rfl⟩
      clear hit
      simp only [go_sem, ↓imp_tf, ↓imp_ft, ↓reduceIte, Nat.reduceBEq, Nat.reduceAdd, Nat.reduceMul, Nat.reduceSub, Nat.reduceEqDiff, Nat.reduceLT, Nat.reduceLeDiff, Option.map, Option.bind, List.map, List.length, reduceCtorEq, Option.toList, Option.getD, List.set, List.drop, List.take, Int.reduceToNat]
      refine ⟨fun h => ⟨hm34, FOut_no hf ?_⟩, fun h => ⟨hm34, FOut_yes hf h⟩⟩
      rintro ⟨⟨a, b⟩, c⟩
      rcases h with (h | h) | h
      · exact h a
      · exact h b
      · exact h c
    · have hf : fmtL t = if t.s = [] ∧ 0 ≤ t.n then some (Lib.itoa t.n ++ [76]) else none := by unfold fmtL; rw [if_neg k1, if_neg k2, if_neg k3, if_pos k4]
      have hit := itoa_spec t.n m4 hg4 ht.2
      refine WP_draw (.hoist 0 (.hoist 1 (.hoist 4 (.hoist 5 (.hoist 6 (.alt 2 [6, 5, 4] (.hoist 3 (.hoist 7 (.hoist 8 (.hoist 9 (.hoist 10 (.hoist 11 (.hoist 12 (.hoist 13 .done)))))))) .stop)))))) pu6 (by kernel_rfl) (by kernel_rfl) ?_
      simp only [go_sem, ↓imp_tf, ↓imp_ft, ↓reduceIte, Nat.reduceBEq, Nat.reduceAdd, Nat.reduceMul, Nat.reduceSub, Nat.reduceEqDiff, Nat.reduceLT, Nat.reduceLeDiff, Option.map, Option.bind, List.map, List.length, reduceCtorEq, Option.toList, Option.getD, List.set, List.drop, List.take, Int.reduceToNat]
      refine ⟨by kernel_rfl, FnV_of (hit.mono ?_)⟩
      rintro r H' m5 hm5 ⟨rfl, rfl, rfl⟩
      clear hit
      simp only [go_sem, ↓imp_tf, ↓imp_ft, ↓reduceIte, Nat.reduceBEq, Nat.reduceAdd, Nat.reduceMul, Nat.reduceSub, Nat.reduceEqDiff, Nat.reduceLT, Nat.reduceLeDiff, Option.map, Option.bind, List.map, List.length, reduceCtorEq, Option.toList, Option.getD, List.set, List.drop, List.take, Int.reduceToNat]
      refine ⟨by have := itoa_len ht.2; omega, fun h => ⟨hm34, FOut_no hf ?_⟩, fun h => ⟨hm34, FOut_yes hf h⟩⟩
      rintro ⟨a, b⟩
      rcases h with h | h
      · exact h a
      · exact h b
    · have hf : fmtL t = if t.n = 0 ∧ t.s.length ≤ 1024 then some (escapedL t.s) else none := by unfold fmtL; rw [if_neg k1, if_neg k2, if_neg k3, if_neg k4, if_pos k5]
      have hes := escaped_spec t.s m4 (by omega)
      refine WP_draw (.hoist 0 (.hoist 1 (.hoist 3 (.hoist 4 (.hoist 5 (.alt 2 [5, 4, 3] (.hoist 6 (.hoist 7 (.hoist 8 (.hoist 9 (.hoist 10 (.hoist 11 (.hoist 12 (.hoist 13 .done)))))))) .stop)))))) pu6 (by kernel_rfl) (by kernel_rfl) ?_
      simp only [go_sem, ↓imp_tf, ↓imp_ft, ↓reduceIte, Nat.reduceBEq, Nat.reduceAdd, Nat.reduceMul, Nat.reduceSub, Nat.reduceEqDiff, Nat.reduceLT, Nat.reduceLeDiff, Option.map, Option.bind, List.map, List.length, reduceCtorEq, Option.toList, Option.getD, List.set, List.drop, List.take, Int.reduceToNat]
      refine ⟨by kernel_rfl, FnV_of (hes.mono ?_)⟩
      rintro r H' m5 hm5 ⟨rfl, rfl, rfl⟩
      clear hes
      simp only [go_sem, ↓imp_tf, ↓imp_ft, ↓reduceIte, Nat.reduceBEq, Nat.reduceAdd, Nat.reduceMul, Nat.reduceSub, Nat.reduceEqDiff, Nat.reduceLT, Nat.reduceLeDiff, Option.map, Option.bind, List.map, List.length, reduceCtorEq, Option.toList, Option.getD, List.set, List.drop, List.take, Int.reduceToNat]
      refine ⟨fun h => ⟨hm34, FOut_no hf (fun hc => ?_)⟩, fun h => ⟨hm34, FOut_yes hf ⟨h.1, by omega⟩⟩⟩
      rcases h with h | h
      · exact h hc.1
      · exact h (by omega)
    · have hf : fmtL t = if t.n = 0 ∧ signsL.contains t.s = true then some t.s else none := by unfold fmtL; rw [if_neg k1, if_neg k2, if_neg k3, if_neg k4, if_neg k5, if_pos k6]
      refine WP_draw (.hoist 0 (.hoist 1 (.hoist 2 (.hoist 3 (.hoist 4 (.hoist 5 (.hoist 7 (.hoist 8 (.alt 6 [8, 7, 1, 0] (.alt 9 [1, 0] (.hoist 10 (.hoist 11 (.hoist 12 .done))) .stop) .stop))))))))) pu6 (by kernel_rfl) (by kernel_rfl) ?_
      simp only [go_sem, ↓imp_tf, ↓imp_ft, ↓reduceIte, Nat.reduceBEq, Nat.reduceAdd, Nat.reduceMul, Nat.reduceSub, Nat.reduceEqDiff, Nat.reduceLT, Nat.reduceLeDiff, Option.map, Option.bind, List.map, List.length, reduceCtorEq, Option.toList, Option.getD, List.set, List.drop, List.take, Int.reduceToNat]
      refine ⟨fun k7 => ⟨by kernel_rfl, FnV_of ((operators_spec m4).mono ?_)⟩, fun k7 => ⟨hm34, FOut_no hf fun h => k7 h.1⟩⟩
      rintro r H' m5 hm5 ⟨rfl, rfl, rfl⟩
      simp only [go_sem, ↓imp_tf, ↓imp_ft, ↓reduceIte, Nat.reduceBEq, Nat.reduceAdd, Nat.reduceMul, Nat.reduceSub, Nat.reduceEqDiff, Nat.reduceLT, Nat.reduceLeDiff, Option.map, Option.bind, List.map, List.length, reduceCtorEq, Option.toList, Option.getD, List.set, List.drop, List.take, Int.reduceToNat]
      refine ⟨by kernel_rfl, fun ad5 cp5 m6 hm6 hcp6 hrd6 => FnV_of ((contains_spec signsL t.s ad5 30 cp5 m6 hrd6 (by decide)).mono ?_)⟩
      rintro r H' m7 hm7 ⟨rfl, rfl⟩
      have hm37 := Mem.le_trans hm34 (Mem.le_trans hm6 hm7)
      simp only [go_sem, ↓imp_tf, ↓imp_ft, ↓reduceIte, Nat.reduceBEq, Nat.reduceAdd, Nat.reduceMul, Nat.reduceSub, Nat.reduceEqDiff, Nat.reduceLT, Nat.reduceLeDiff, Option.map, Option.bind, List.map, List.length, reduceCtorEq, Option.toList, Option.getD, List.set, List.drop, List.take, Int.reduceToNat]
      refine ⟨⟨.inr (Mem.le_trans hm6 hm7), .inr (Mem.le_trans hm6 hm7)⟩, fun h => ⟨hm37, FOut_no hf fun hc => ?_⟩, fun h => ⟨hm37, FOut_yes hf ⟨k7, h⟩⟩⟩
      rw [hc.2] at h; cases h
    · have hf : fmtL t = none := by unfold fmtL; rw [if_neg k1, if_neg k2, if_neg k3, if_neg k4, if_neg k5, if_neg k6]
      rw [hf]
      exact ⟨hm34, rfl⟩
/-- The texts of tokens. -/
def fmtsL : List Tk → Option (List (List UInt8))
  | [] => some []
  | t :: r => match fmtL t with | none => none | some x => match fmtsL r with | none => none | some y => some (x :: y)
def joinL (ts : List Tk) : List UInt8 × Int :=
  if 5000 < ts.length then ([], 5) else
    match fmtsL ts with
    | none => ([], 1)
    | some l => if 20000 < (Lib.join l [32]).length then ([], 8) else (Lib.join l [32], 0)
theorem tk_len (ts : List Tk) : (tkCells ts).length = ts.length * 4 := by
  induction ts with
  | nil => rfl
  | cons t r ih => simp only [tkCells, List.map_cons, List.flatten_cons, List.length_append, List.length_cons, List.length_nil] at ih ⊢; omega
theorem Rds_cells {m : Mem} {a : Option Addr} {n sz : Nat} {xs : List Value} (h : Rds m a n sz xs) {i : Nat} (hi : i < n) : Rd m (ptrAt a (i * sz)) ((xs.drop (i * sz)).take sz) ∧ a ≠ none := by
  have hl := h.1
  have hm : (i + 1) * sz ≤ n * sz := Nat.mul_le_mul_right _ hi
  rw [Nat.succ_mul] at hm
  obtain ⟨ad, rfl, hs, hc⟩ := h.2 (by omega)
  refine ⟨?_, by simp⟩
  obtain ⟨e1, e2, e3⟩ := add_parts ad (i * sz) hs
  refine ⟨ad.add (i * sz), rfl, e3, fun j hj => ?_⟩
  rw [List.length_take, List.length_drop] at hj
  obtain ⟨h1, h2⟩ := hc (i * sz + j) (by omega)
  obtain ⟨f1, f2, f3⟩ := add_parts (ad.add (i * sz)) j e3
  obtain ⟨g1, g2, g3⟩ := add_parts ad (i * sz + j) hs
  have hee : (ad.add (i * sz)).add j = ad.add (i * sz + j) := by
    cases hA : (ad.add (i * sz)).add j
    cases hB : ad.add (i * sz + j)
    rw [hA] at f1 f2 f3
    rw [hB] at g1 g2 g3
    simp only at f1 f2 f3 g1 g2 g3
    rw [f1, f2, f3, g1, g2, g3, e1, e2, Nat.add_assoc]
  refine ⟨?_, by rw [e1, e2, Nat.add_assoc]; exact h2⟩
  rw [hee, h1, List.getElem?_take_of_lt (by omega), List.getElem?_drop]
def tkC (t : Tk) : List Value := [Value.int .i64 t.k, .string (bs t.s), .int .i64 t.n, .int .i64 t.at_]
theorem tk_at : ∀ {ts : List Tk} {i : Nat} (hi : i < ts.length), ((tkCells ts).drop (i * 4)).take 4 = tkC ts[i]
  | [], i, hi => by simp at hi
  | t :: r, 0, hi => by simp [tkCells, tkC]
  | t :: r, i + 1, hi => by
    have e : (tkCells (t :: r)).drop ((i + 1) * 4) = (tkCells r).drop (i * 4) := by
      rw [show (i + 1) * 4 = i * 4 + 1 + 1 + 1 + 1 by omega]
      simp [tkCells]
    rw [e, tk_at (by simpa using hi)]
    rfl
theorem fmtL_len {t : Tk} (ht : TkOk t) {x : List UInt8} (h : fmtL t = some x) : x.length ≤ 10000000 := by
  have h1 := ht.1
  have h2 := itoa_len ht.2
  unfold fmtL at h
  split at h
  · split at h
    · cases h
      have := rep_len t.s [47] [58, 58] (by simp) (by omega)
      simp only [List.length_cons, List.length_nil] at this
      omega
    · cases h
  · split at h
    · split at h
      · cases h; omega
      · cases h
    · split at h
      · split at h
        · cases h; omega
        · cases h
      · split at h
        · split at h
          · cases h; simp only [List.length_append, List.length_cons, List.length_nil]; omega
          · cases h
        · split at h
          · split at h
            · cases h
              have := escFlat_len t.s
              simp only [escapedL, List.cons_append, List.length_cons, List.length_append, List.length_nil]; omega
            · cases h
          · split at h
            · split at h
              · cases h; omega
              · cases h
            · cases h
theorem fmtsL_len : ∀ {ts : List Tk} {l : List (List UInt8)}, (∀ t ∈ ts, TkOk t) → fmtsL ts = some l → l.length = ts.length ∧ ∀ x ∈ l, x.length ≤ 10000000
  | [], l, _, h => by cases h; exact ⟨rfl, fun x hx => by cases hx⟩
  | t :: r, l, ht, h => by
    simp only [fmtsL] at h
    cases h1 : fmtL t with
    | none => rw [h1] at h; cases h
    | some x =>
      rw [h1] at h
      cases h2 : fmtsL r with
      | none => rw [h2] at h; cases h
      | some y =>
        rw [h2] at h
        cases h
        obtain ⟨e1, e2⟩ := fmtsL_len (fun t ht' => ht t (List.mem_cons_of_mem _ ht')) h2
        refine ⟨by simp [e1], fun z hz => ?_⟩
        rcases List.mem_cons.1 hz with rfl | hz
        · exact fmtL_len (ht t List.mem_cons_self) h1
        · exact e2 z hz
theorem joinTail_len (sep : List UInt8) (B : Nat) : ∀ (l : List (List UInt8)), (∀ x ∈ l, x.length ≤ B) → (Lib.joinTail sep l).length ≤ l.length * (B + sep.length)
  | [], _ => by simp [Lib.joinTail]
  | x :: r, h => by
    have := joinTail_len sep B r fun y hy => h y (List.mem_cons_of_mem _ hy)
    have h1 := h x List.mem_cons_self
    simp only [Lib.joinTail, List.map_cons, List.flatten_cons, List.length_append, List.length_cons, Nat.succ_mul] at this ⊢
    omega
theorem join_len (sep : List UInt8) (B : Nat) (l : List (List UInt8)) (h : ∀ x ∈ l, x.length ≤ B) : (Lib.join l sep).length ≤ l.length * (B + sep.length) := by
  cases l with
  | nil => simp [Lib.join_nil]
  | cons x r =>
    rw [Lib.join_cons, List.length_append, List.length_cons, Nat.succ_mul]
    have := joinTail_len sep B r fun y hy => h y (List.mem_cons_of_mem _ hy)
    have h1 := h x List.mem_cons_self
    omega
theorem strs_app (a : List (List UInt8)) (x : List UInt8) : strs a ++ [.string (bs x)] = strs (a ++ [x]) := by simp [strs]
def preL (acc : List (List UInt8)) (o : Option (List (List UInt8))) : Option (List (List UInt8)) := o.map (acc ++ ·)
def FOut2 (o : Option (List UInt8)) (x : List UInt8) (e : Int) : Prop := (e = 0 ∧ o = some x) ∨ (e = 1 ∧ x = [] ∧ o = none)
theorem FOut_two {o : Option (List UInt8)} {r : SV} (h : FOut o r) : ∃ x e, r = .tup [.v (.string (bs x)), .v (.int .i64 e)] ∧ FOut2 o x e := by
  cases o with
  | none => exact ⟨[], 1, h, .inr ⟨rfl, rfl, rfl⟩⟩
  | some x => exact ⟨x, 0, h, .inl ⟨rfl, rfl⟩⟩
theorem fmts_no {ts : List Tk} {k : Nat} (h : k < ts.length) (hf : fmtL ts[k] = none) : fmtsL (ts.drop k) = none := by
  rw [List.drop_eq_getElem_cons h]
  simp only [fmtsL, hf]
theorem fmts_yes {ts : List Tk} {k : Nat} (h : k < ts.length) {x : List UInt8} (hf : fmtL ts[k] = some x) : fmtsL (ts.drop k) = (fmtsL (ts.drop (k + 1))).map (x :: ·) := by
  rw [List.drop_eq_getElem_cons h]
  simp only [fmtsL, hf]
  cases fmtsL (ts.drop (k + 1)) <;> rfl
set_option maxHeartbeats 4000000 in
set_option maxRecDepth 20000 in
theorem joinT_spec (ts : List Tk) (a : Option Addr) (n c : Nat) (m : Mem) (hg : Glob m) (h : Rds m a n 4 (tkCells ts)) (ht : ∀ t ∈ ts, TkOk t) (hn : n ≤ 4611686018427387904) :
    FnH Tryz.prog 39 [.v (.slice a n c)] ⟨[], []⟩ m fun r H' m' => leM m m' ∧ H' = ⟨[], []⟩ ∧ r = .tup [.v (.string (bs (joinL ts).1)), .v (.int .i64 (joinL ts).2)] := by
  have hl : ts.length = n := by have := h.1; rw [tk_len] at this; omega
  refine enter cf6 pu6 Tryz.func39 rfl rfl (by kernel_rfl) rfl ?_ ?_
  · simp only [go_sem, ↓imp_tf, ↓imp_ft, ↓reduceIte, Nat.reduceBEq, Nat.reduceAdd, Nat.reduceMul, Nat.reduceSub, Nat.reduceEqDiff, Nat.reduceLT, Nat.reduceLeDiff, Option.map, Option.bind, List.map, List.length, reduceCtorEq, Option.toList, Option.getD, List.set, List.drop, List.take, Int.reduceToNat]
  · simp only [go_sem, ↓imp_tf, ↓imp_ft, ↓reduceIte, Nat.reduceBEq, Nat.reduceAdd, Nat.reduceMul, Nat.reduceSub, Nat.reduceEqDiff, Nat.reduceLT, Nat.reduceLeDiff, Option.map, Option.bind, List.map, List.length, reduceCtorEq, Option.toList, Option.getD, List.set, List.drop, List.take, Int.reduceToNat]
    refine ⟨fun hb => ?_, fun hb => ?_⟩
    · have e : joinL ts = ([], 5) := if_pos (by omega)
      rw [e]
    · refine WP_adopt 4 9 1 (by decide) rfl ?_
      have hj : joinL ts = match fmtsL ts with | none => ([], 1) | some l => if 20000 < (Lib.join l [32]).length then ([], 8) else (Lib.join l [32], 0) := if_neg (by omega)
      refine WP_loop pu6 (fun x : Nat × List (List UInt8) × Nat × Mem => ⟨[⟨13, [], .v (.slice a n c)⟩, ⟨14, [], .v (.int .i64 n)⟩, ⟨15, [], .v (.int .i64 x.1)⟩, ⟨4, [], .vec 0 x.2.2.1⟩], [], [], [⟨0, x.2.2.1, 9, 1, x.2.1.length, strs x.2.1⟩], 1, x.2.2.2⟩)
        (fun x => leM m x.2.2.2 ∧ Glob x.2.2.2 ∧ Rds x.2.2.2 a n 4 (tkCells ts) ∧ x.1 ≤ n ∧ x.2.1.length = x.1 ∧ fmtsL ts = preL x.2.1 (fmtsL (ts.drop x.1))) (fun x => n - x.1) (0, [], 0, m) (by kernel_rfl) (fun _ _ => Nat.le_refl _) (fun x hx => hx.1) (fun _ => ?_) ?_ ?_ ?_
      · simp only [go_sem, ↓imp_tf, ↓imp_ft, ↓reduceIte, Nat.reduceBEq, Nat.reduceAdd, Nat.reduceMul, Nat.reduceSub, Nat.reduceEqDiff, Nat.reduceLT, Nat.reduceLeDiff, Option.map, Option.bind, List.map, List.length, reduceCtorEq, Option.toList, Option.getD, List.set, List.drop, List.take, Int.reduceToNat]
      · simp only [go_sem, ↓imp_tf, ↓imp_ft, ↓reduceIte, Nat.reduceBEq, Nat.reduceAdd, Nat.reduceMul, Nat.reduceSub, Nat.reduceEqDiff, Nat.reduceLT, Nat.reduceLeDiff, Option.map, Option.bind, List.map, List.length, reduceCtorEq, Option.toList, Option.getD, List.set, List.drop, List.take, Int.reduceToNat]
        exact ⟨rfl, rfl⟩
      · refine ⟨.inl rfl, hg, h, Nat.zero_le _, rfl, ?_⟩
        simp [preL]
      · rintro ⟨k, acc, u, mm⟩ ⟨h1, h2, h3, h4, h5, h6⟩
        simp only at h1 h2 h3 h4 h5 h6
        have hr : ∀ (hkl : k < ts.length), Rd mm (ptrAt a (k * 4)) (tkC ts[k]) ∧ a ≠ none := fun hkl => by
          have := Rds_cells h3 (i := k) (by omega)
          rwa [tk_at hkl] at this
        have hfs : ∀ (hkl : k < ts.length), _ := fun hkl => (format_spec ts[k] mm h2 (ht _ (List.getElem_mem hkl))).mono fun r H' m' _ h => And.intro h.1 (And.intro h.2.1 (FOut_two h.2.2))
        have hjs := fun hkl : k = n => show fmtsL ts = some acc by rw [h6, List.drop_eq_nil_of_le (by omega)]; simp [fmtsL, preL]
        simp only [go_sem, ↓imp_tf, ↓imp_ft, ↓reduceIte, Nat.reduceBEq, Nat.reduceAdd, Nat.reduceMul, Nat.reduceSub, Nat.reduceEqDiff, Nat.reduceLT, Nat.reduceLeDiff, Option.map, Option.bind, List.map, List.length, reduceCtorEq, Option.toList, Option.getD, List.set, List.drop, List.take, Int.reduceToNat]
        refine ⟨fun hlt => ?_, fun hge => ?_⟩
        · have hkl : k < ts.length := by clear hr hfs; omega
          refine ⟨⟨by clear hr hfs; omega, hlt, (hr hkl).2⟩, tkC ts[k], ⟨(hr hkl).1, rfl⟩, ?_⟩
          simp only [go_sem, ↓imp_tf, ↓imp_ft, ↓reduceIte, Nat.reduceBEq, Nat.reduceAdd, Nat.reduceMul, Nat.reduceSub, Nat.reduceEqDiff, Nat.reduceLT, Nat.reduceLeDiff, Option.map, Option.bind, List.map, List.length, reduceCtorEq, Option.toList, Option.getD, List.set, List.drop, List.take, Int.reduceToNat, tkC]
          refine ⟨by kernel_rfl, FnV_of ((hfs hkl).mono ?_)⟩
          clear hfs
          rintro r H' m' hm ⟨hle, rfl, x, e, rfl, hx⟩
          simp only [go_sem, ↓imp_tf, ↓imp_ft, ↓reduceIte, Nat.reduceBEq, Nat.reduceAdd, Nat.reduceMul, Nat.reduceSub, Nat.reduceEqDiff, Nat.reduceLT, Nat.reduceLeDiff, Option.map, Option.bind, List.map, List.length, reduceCtorEq, Option.toList, Option.getD, List.set, List.drop, List.take, Int.reduceToNat]
          have hm' : leM m m' := leM_trans h1 hle
          refine ⟨fun he => ⟨hm', ?_⟩, fun he => ⟨⟨by clear hm'; omega, by simp only [maxLen]; omega⟩, by unfold I64; omega, (k + 1, acc ++ [x], u + 1, m'), ⟨⟨by simp, rfl⟩, ⟨rfl, by simp, strs_app acc x⟩, .inl rfl⟩, ⟨hm', h2.up hle, Rds_up hle h3, by simp only; omega, by simp only [List.length_append, List.length_singleton]; omega, ?_⟩, by simp only; omega⟩⟩
          · rcases hx with ⟨h7, _⟩ | ⟨rfl, rfl, h8⟩
            · exact absurd h7 he
            · rw [hj, h6, fmts_no hkl h8]
              rfl
          · rcases hx with ⟨_, h8⟩ | ⟨h7, _⟩
            · show fmtsL ts = preL (acc ++ [x]) (fmtsL (ts.drop (k + 1)))
              rw [h6, fmts_yes hkl h8]
              cases fmtsL (ts.drop (k + 1)) <;> simp [preL]
            · rw [he] at h7; cases h7
        · have hacc : fmtsL ts = some acc := hjs (by clear hfs; omega)
          refine ⟨by kernel_rfl, fun a2 c2 m1 hm1 hc2 hrd => FnV_of ((join_spec acc [32] a2 acc.length c2 m1 hrd hc2 (by clear hfs; omega) ?_).mono ?_)⟩
          · have := join_len [32] 10000000 acc (fmtsL_len ht hacc).2
            simp only [List.length_singleton] at this
            clear hfs
            omega
          · rintro r H' m' hm ⟨rfl, rfl, rfl⟩
            simp only [go_sem, ↓imp_tf, ↓imp_ft, ↓reduceIte, Nat.reduceBEq, Nat.reduceAdd, Nat.reduceMul, Nat.reduceSub, Nat.reduceEqDiff, Nat.reduceLT, Nat.reduceLeDiff, Option.map, Option.bind, List.map, List.length, reduceCtorEq, Option.toList, Option.getD, List.set, List.drop, List.take, Int.reduceToNat]
            have hm' : leM m m' := leM_trans h1 hm1
            refine ⟨fun hx => ⟨hm', ?_⟩, fun hx => ⟨hm', ?_⟩⟩
            · rw [hj, hacc]
              simp only [if_pos (show 20000 < (Lib.join acc [32]).length by clear hfs; omega)]
            · rw [hj, hacc]
              simp only [if_neg (show ¬ 20000 < (Lib.join acc [32]).length by clear hfs; omega)]
end Go.Proofs.YtalalcpefggniaaGreatDoor.E

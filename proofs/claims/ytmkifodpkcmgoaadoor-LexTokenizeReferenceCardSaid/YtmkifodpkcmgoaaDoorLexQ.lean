/- lex, part Q: the reference: identifiers. -/
import Derived.Test.YtmkifodpkcmgoaaDoorLexP
namespace Go.Proofs.YtmkifodpkcmgoaaDoor.E
open Go

abbrev cfB : Cfg := mkCf (fun _ => false) [(47, pIs isB fun s i b => .bool (isAt s i b)), (48, pf1 isStartB), (50, pf1 isDigitB), (37, pS1 BL fun s => .bool (isName s))]
theorem puB : PureOk cfB Tryd.prog := pure_cons (by kernel_rfl) (fun vals y hy hB m => pureIs (fun a c b m h => is_spec a b c m h.1 h.2.1 h.2.2.1 h.2.2.2) vals y hy hB m) (pure_cons (by kernel_rfl) (pure1 letter_spec) (pure_cons (by kernel_rfl) (pure1 digit_spec) (pure_cons (by kernel_rfl) (pureS risName_spec) pure_nil)))
theorem part_no58 : ∀ (b : Bool) (l : List UInt8), ∀ c ∈ l.take (partL b l), c ≠ 58
  | _, [], c, h => by simp at h
  | b, d :: r, c, h => by
    simp only [partL] at h
    split at h
    · rename_i hd
      rw [Nat.add_comm, List.take_succ_cons] at h
      rcases List.mem_cons.1 h with rfl | h
      · rintro rfl
        revert hd
        cases b <;> decide
      · exact part_no58 false r c h
    · simp at h
theorem index_no : ∀ (A : List UInt8), (∀ c ∈ A, c ≠ 58) → Lib.index A [58, 58] = -1
  | [], _ => rfl
  | a :: A, h => by
    have ih := index_no A fun c hc => h c (List.mem_cons_of_mem _ hc)
    have ha := h a (List.mem_cons_self ..)
    have hp : List.isPrefixOf [58, 58] (a :: A) = false := by
      simp only [List.isPrefixOf, Bool.and_eq_false_iff]
      left; exact beq_eq_false_iff_ne.2 fun e => ha e.symm
    simp only [Lib.index, hp, ih]
    rfl
theorem index_at : ∀ (A r : List UInt8), (∀ c ∈ A, c ≠ 58) → Lib.index (A ++ 58 :: 58 :: r) [58, 58] = A.length
  | [], r, _ => by simp [Lib.index, List.isPrefixOf]
  | a :: A, r, h => by
    have ih := index_at A r fun c hc => h c (List.mem_cons_of_mem _ hc)
    have ha := h a (List.mem_cons_self ..)
    have hp : List.isPrefixOf [58, 58] (a :: (A ++ 58 :: 58 :: r)) = false := by
      simp only [List.isPrefixOf, Bool.and_eq_false_iff]
      left; exact beq_eq_false_iff_ne.2 fun e => ha e.symm
    simp only [List.cons_append, Lib.index, hp, ih]
    rw [if_neg (by decide), if_neg (by simp), List.length_cons]
    rfl
def repF (F : Nat) (s : List UInt8) : List UInt8 := Lib.replaceK [58, 58] [47] (Lib.countFrom [58, 58] F s) s
theorem repF_no {F : Nat} {A : List UInt8} (h : ∀ c ∈ A, c ≠ 58) : repF (F + 1) A = A := by
  unfold repF Lib.countFrom
  rw [index_no A h]
  rfl
theorem repF_at {F : Nat} {A r : List UInt8} (h : ∀ c ∈ A, c ≠ 58) : repF (F + 1) (A ++ 58 :: 58 :: r) = A ++ 47 :: repF F r := by
  have hi := index_at A r h
  have hd : (A ++ 58 :: 58 :: r).drop (A.length + ([58, 58] : List UInt8).length) = r := by
    rw [List.drop_append]
    simp
  unfold repF
  have hc : Lib.countFrom [58, 58] (F + 1) (A ++ 58 :: 58 :: r) = Lib.countFrom [58, 58] F r + 1 := by
    simp only [Lib.countFrom]
    rw [hi, if_neg (by simp), Int.toNat_natCast, hd]
    omega
  rw [hc, Lib.replaceK_hit _ _ _ _ _ hi, hd]
  simp
/-- The further parts of a name. -/
def idTF : Nat → List UInt8 → List UInt8
  | 0, _ => []
  | f + 1, l => if hasPre l [58, 58] = true ∧ partL true (l.drop 2) ≠ 0 then 47 :: ((l.drop 2).take (partL true (l.drop 2)) ++ idTF f (l.drop (2 + partL true (l.drop 2)))) else []
theorem rep_id : ∀ (f : Nat) (l A : List UInt8) (F : Nat), (∀ c ∈ A, c ≠ 58) → (A ++ l.take (idRF f l)).length < F → repF F (A ++ l.take (idRF f l)) = A ++ idTF f l
  | 0, l, A, F, hA, hF => by
    obtain ⟨F, rfl⟩ : ∃ g, F = g + 1 := ⟨F - 1, by omega⟩
    simp only [idRF, idTF, List.take_zero, List.append_nil]
    exact repF_no hA
  | f + 1, l, A, F, hA, hF => by
    obtain ⟨F, rfl⟩ : ∃ g, F = g + 1 := ⟨F - 1, by omega⟩
    simp only [idRF] at hF
    simp only [idRF, idTF]
    by_cases h : hasPre l [58, 58] = true ∧ partL true (l.drop 2) ≠ 0
    · rw [if_pos h] at hF
      rw [if_pos h, if_pos h]
      obtain ⟨r, hr⟩ := hasPre_iff.1 h.1
      subst hr
      have e2 : ([58, 58] ++ r).drop 2 = r := rfl
      have e3 : ([58, 58] ++ r).drop (2 + partL true r) = r.drop (partL true r) := by
        rw [← List.drop_drop, e2]
      rw [e2, e3] at hF
      rw [e2, e3]
      have e4 : ([58, 58] ++ r).take (2 + partL true r + idRF f (r.drop (partL true r))) = 58 :: 58 :: (r.take (partL true r) ++ (r.drop (partL true r)).take (idRF f (r.drop (partL true r)))) := by
        rw [Nat.add_assoc, Nat.add_comm 2]
        show 58 :: 58 :: r.take (partL true r + idRF f (r.drop (partL true r))) = _
        rw [List.take_add]
      rw [e4] at hF
      have ih := rep_id f (r.drop (partL true r)) (r.take (partL true r)) F (part_no58 true r) (by rw [List.length_append, List.length_cons, List.length_cons] at hF; omega)
      rw [e4, repF_at hA, ih]
    · rw [if_neg h, if_neg h, List.take_zero, List.append_nil]
      exact repF_no hA
theorem idS_eq (l : List UInt8) : idS l = l.take (partL true l) ++ idTF (l.length + 1) (l.drop (partL true l)) := by
  have e : ∀ s, Lib.replaceAll s [58, 58] [47] = repF (s.length + 1) s := fun s => by
    unfold Lib.replaceAll Lib.replace repF
    rw [if_neg (by decide)]
    have : Lib.replaceNum s [58, 58] (-1) = Lib.count s [58, 58] := by simp [Lib.replaceNum]
    rw [this]; rfl
  have h1 : l.take (idN l) = l.take (partL true l) ++ (l.drop (partL true l)).take (idRF (l.length + 1) (l.drop (partL true l))) := by
    unfold idN; rw [List.take_add]
  unfold idS
  rw [e, h1]
  exact rep_id _ _ _ _ (part_no58 true l) (Nat.lt_succ_self _)
theorem kw_name {s : List UInt8} (h : keywordsL.contains s = true) : isName s = true :=
  (by decide : ∀ k ∈ keywordsL, isName k = true) s (by simpa using h)
theorem start_nodig {c : Int} (h : isStartB c = true) : isDigitB c = false := by
  cases hd : isDigitB c with
  | false => rfl
  | true =>
    have := (dig_iff _).1 hd
    simp only [isStartB, Bool.or_eq_true, Bool.and_eq_true, decide_eq_true_eq] at h
    omega
theorem part_zero {c : UInt8} {r : List UInt8} : partL true (c :: r) ≠ 0 ↔ isStartB c.toNat = true := by
  simp only [partL]
  cases h : isStartB c.toNat
  · simp
  · simp
set_option maxHeartbeats 4000000 in
set_option maxRecDepth 20000 in
theorem ridentifier_spec (s : List UInt8) (p : Nat) (m : Mem) (hp : p < s.length) (hs : s.length ≤ 1000000) (hst : isStartB (s.getD p 0).toNat = true) :
    FnH Tryd.prog 49 [.v (.string (bs s)), .v (.int .i64 p)] ⟨[], []⟩ m fun r H' m' => m.le m' ∧ H' = ⟨[], []⟩ ∧
      RN p (if isName (idS (s.drop p)) = true then some (if keywordsL.contains (idS (s.drop p)) = true then 2 else 1, idS (s.drop p), 0, idN (s.drop p)) else none) r := by
  have hds : isDigitB (s.getD p 0).toNat = false := by
    cases hd : isDigitB (s.getD p 0).toNat with
    | false => rfl
    | true =>
      have := (dig_iff _).1 hd
      simp only [isStartB, Bool.or_eq_true, Bool.and_eq_true, decide_eq_true_eq] at hst
      omega
  have hpl := part_le true (s.drop p)
  rw [List.length_drop] at hpl
  refine enter cfB puB Tryd.func49 rfl rfl (by kernel_rfl) rfl ?_ ?_
  · simp only [go_sem, ↓reduceIte, or_true, or_false, true_or, false_or, Option.some.injEq, exists_eq_left, exists_eq_left', Nat.reduceBEq, Nat.reduceAdd, Nat.reduceMul, Nat.reduceSub, Nat.reduceEqDiff, Nat.reduceLT, Nat.reduceLeDiff, Option.map, Option.bind, List.map, List.length, true_implies, true_and, and_true, Bool.and_true, Bool.true_and, Bool.or_false, Bool.false_or, Bool.not_true, Bool.not_false, Bool.and_false, Bool.false_and, List.cons_append, List.nil_append, List.append_nil, mk_eq_bs, tl_bs, List.getElem?_cons_zero, List.getElem?_cons_succ, eq_self, reduceCtorEq, implies_true, false_implies, decide_eq_true_eq, decide_eq_false_iff_not, Bool.and_eq_true, Bool.or_eq_true, Bool.not_eq_true', Bool.and_eq_false_iff, Bool.or_eq_false_iff, Bool.not_eq_false', Option.toList, SV.v.injEq, Value.int.injEq, Value.bool.injEq, Value.string.injEq, Option.getD, List.contains_cons, List.contains_nil, beq_self_eq_true, Nat.max_def, List.set, List.drop, List.take, Int.toNat_natCast, Nat.mul_one, Int.toNat_zero, List.drop_zero, Bx.mk.injEq, Vc.mk.injEq, List.cons.injEq, List.take_length, List.getElem?_nil, List.getD_cons_zero, List.getD_cons_succ, Int.reduceToNat, not_false_eq_true, Nat.le_refl]
  · simp only [go_sem, ↓reduceIte, or_true, or_false, true_or, false_or, Option.some.injEq, exists_eq_left, exists_eq_left', Nat.reduceBEq, Nat.reduceAdd, Nat.reduceMul, Nat.reduceSub, Nat.reduceEqDiff, Nat.reduceLT, Nat.reduceLeDiff, Option.map, Option.bind, List.map, List.length, true_implies, true_and, and_true, Bool.and_true, Bool.true_and, Bool.or_false, Bool.false_or, Bool.not_true, Bool.not_false, Bool.and_false, Bool.false_and, List.cons_append, List.nil_append, List.append_nil, mk_eq_bs, tl_bs, List.getElem?_cons_zero, List.getElem?_cons_succ, eq_self, reduceCtorEq, implies_true, false_implies, decide_eq_true_eq, decide_eq_false_iff_not, Bool.and_eq_true, Bool.or_eq_true, Bool.not_eq_true', Bool.and_eq_false_iff, Bool.or_eq_false_iff, Bool.not_eq_false', Option.toList, SV.v.injEq, Value.int.injEq, Value.bool.injEq, Value.string.injEq, Option.getD, List.contains_cons, List.contains_nil, beq_self_eq_true, Nat.max_def, List.set, List.drop, List.take, Int.toNat_natCast, Nat.mul_one, Int.toNat_zero, List.drop_zero, Bx.mk.injEq, Vc.mk.injEq, List.cons.injEq, List.take_length, List.getElem?_nil, List.getD_cons_zero, List.getD_cons_succ, Int.reduceToNat, not_false_eq_true, Nat.le_refl]
    refine ⟨by kernel_rfl, FnV_of ((rpart_spec s p m (by omega) hs (fun _ => hds)).mono ?_)⟩
    rintro r H' m' hm ⟨rfl, rfl, rfl⟩
    have hdt : (s.take (p + partL true (s.drop p))).drop p = (s.drop p).take (partL true (s.drop p)) := by
      rw [List.drop_take]; congr 1; omega
    simp only [go_sem, ↓reduceIte, or_true, or_false, true_or, false_or, Option.some.injEq, exists_eq_left, exists_eq_left', Nat.reduceBEq, Nat.reduceAdd, Nat.reduceMul, Nat.reduceSub, Nat.reduceEqDiff, Nat.reduceLT, Nat.reduceLeDiff, Option.map, Option.bind, List.map, List.length, true_implies, true_and, and_true, Bool.and_true, Bool.true_and, Bool.or_false, Bool.false_or, Bool.not_true, Bool.not_false, Bool.and_false, Bool.false_and, List.cons_append, List.nil_append, List.append_nil, mk_eq_bs, tl_bs, List.getElem?_cons_zero, List.getElem?_cons_succ, eq_self, reduceCtorEq, implies_true, false_implies, decide_eq_true_eq, decide_eq_false_iff_not, Bool.and_eq_true, Bool.or_eq_true, Bool.not_eq_true', Bool.and_eq_false_iff, Bool.or_eq_false_iff, Bool.not_eq_false', Option.toList, SV.v.injEq, Value.int.injEq, Value.bool.injEq, Value.string.injEq, Option.getD, List.contains_cons, List.contains_nil, beq_self_eq_true, Nat.max_def, List.set, List.drop, List.take, Int.toNat_natCast, Nat.mul_one, Int.toNat_zero, List.drop_zero, Bx.mk.injEq, Vc.mk.injEq, List.cons.injEq, List.take_length, List.getElem?_nil, List.getD_cons_zero, List.getD_cons_succ, Int.reduceToNat, not_false_eq_true, Nat.le_refl, hdt]
    refine ⟨⟨by omega, by omega, by omega⟩, ?_⟩
    refine WP_loop puB (fun x : Nat × List UInt8 × Nat => ⟨[⟨0, [], .v (.string (bs s))⟩, ⟨1, [], .v (.int .i64 p)⟩, ⟨4, [], .box 0 0⟩, ⟨7, [], .v (.int .i64 x.1)⟩, ⟨8, [], .v (.string (bs x.2.1))⟩], [], [⟨0, 27, Tk0.cells⟩], [], 1, m'⟩)
      (fun x => p ≤ x.1 ∧ x.1 ≤ s.length ∧ x.2.1.length ≤ x.1 ∧ s.length - x.1 < x.2.2 ∧ idS (s.drop p) = x.2.1 ++ idTF x.2.2 (s.drop x.1) ∧ p + idN (s.drop p) = x.1 + idRF x.2.2 (s.drop x.1)) (fun x => s.length - x.1)
      (p + partL true (s.drop p), (s.drop p).take (partL true (s.drop p)), (s.drop p).length + 1) (by kernel_rfl) (fun _ _ => Nat.le_refl _) (fun _ _ => .inl rfl) (fun _ => ?_) ?_ ?_ ?_
    · simp only [go_sem, ↓reduceIte, or_true, or_false, true_or, false_or, Option.some.injEq, exists_eq_left, exists_eq_left', Nat.reduceBEq, Nat.reduceAdd, Nat.reduceMul, Nat.reduceSub, Nat.reduceEqDiff, Nat.reduceLT, Nat.reduceLeDiff, Option.map, Option.bind, List.map, List.length, true_implies, true_and, and_true, Bool.and_true, Bool.true_and, Bool.or_false, Bool.false_or, Bool.not_true, Bool.not_false, Bool.and_false, Bool.false_and, List.cons_append, List.nil_append, List.append_nil, mk_eq_bs, tl_bs, List.getElem?_cons_zero, List.getElem?_cons_succ, eq_self, reduceCtorEq, implies_true, false_implies, decide_eq_true_eq, decide_eq_false_iff_not, Bool.and_eq_true, Bool.or_eq_true, Bool.not_eq_true', Bool.and_eq_false_iff, Bool.or_eq_false_iff, Bool.not_eq_false', Option.toList, SV.v.injEq, Value.int.injEq, Value.bool.injEq, Value.string.injEq, Option.getD, List.contains_cons, List.contains_nil, beq_self_eq_true, Nat.max_def, List.set, List.drop, List.take, Int.toNat_natCast, Nat.mul_one, Int.toNat_zero, List.drop_zero, Bx.mk.injEq, Vc.mk.injEq, List.cons.injEq, List.take_length, List.getElem?_nil, List.getD_cons_zero, List.getD_cons_succ, Int.reduceToNat, not_false_eq_true, Nat.le_refl]
    · simp only [go_sem, ↓reduceIte, or_true, or_false, true_or, false_or, Option.some.injEq, exists_eq_left, exists_eq_left', Nat.reduceBEq, Nat.reduceAdd, Nat.reduceMul, Nat.reduceSub, Nat.reduceEqDiff, Nat.reduceLT, Nat.reduceLeDiff, Option.map, Option.bind, List.map, List.length, true_implies, true_and, and_true, Bool.and_true, Bool.true_and, Bool.or_false, Bool.false_or, Bool.not_true, Bool.not_false, Bool.and_false, Bool.false_and, List.cons_append, List.nil_append, List.append_nil, mk_eq_bs, tl_bs, List.getElem?_cons_zero, List.getElem?_cons_succ, eq_self, reduceCtorEq, implies_true, false_implies, decide_eq_true_eq, decide_eq_false_iff_not, Bool.and_eq_true, Bool.or_eq_true, Bool.not_eq_true', Bool.and_eq_false_iff, Bool.or_eq_false_iff, Bool.not_eq_false', Option.toList, SV.v.injEq, Value.int.injEq, Value.bool.injEq, Value.string.injEq, Option.getD, List.contains_cons, List.contains_nil, beq_self_eq_true, Nat.max_def, List.set, List.drop, List.take, Int.toNat_natCast, Nat.mul_one, Int.toNat_zero, List.drop_zero, Bx.mk.injEq, Vc.mk.injEq, List.cons.injEq, List.take_length, List.getElem?_nil, List.getD_cons_zero, List.getD_cons_succ, Int.reduceToNat, not_false_eq_true, Nat.le_refl]
    · refine ⟨Nat.le_add_right _ _, by simp only; omega, by simp only [List.length_take]; omega, by simp only [List.length_drop]; omega, ?_, ?_⟩
      · rw [idS_eq, List.drop_drop]
      · simp only [idN, List.drop_drop]; omega
    · rintro ⟨e, t, f⟩ ⟨h1, h2, h3, h4, h5, h6⟩
      simp only at h1 h2 h3 h4 h5 h6
      have ef : f = (f - 1) + 1 := by omega
      rw [ef] at h5 h6
      simp only [idTF] at h5
      simp only [idRF] at h6
      have e2 : ((e : Int) + 2).toNat = e + 2 := by omega
      have h2c : (e : Int) + 2 = ((e + 2 : Nat) : Int) := by omega
      have hn58 := pre_len (a := s.drop e) (b := [58, 58])
      rw [List.length_drop] at hn58
      simp only [go_sem, ↓reduceIte, or_true, or_false, true_or, false_or, Option.some.injEq, exists_eq_left, exists_eq_left', Nat.reduceBEq, Nat.reduceAdd, Nat.reduceMul, Nat.reduceSub, Nat.reduceEqDiff, Nat.reduceLT, Nat.reduceLeDiff, Option.map, Option.bind, List.map, List.length, true_implies, true_and, and_true, Bool.and_true, Bool.true_and, Bool.or_false, Bool.false_or, Bool.not_true, Bool.not_false, Bool.and_false, Bool.false_and, List.cons_append, List.nil_append, List.append_nil, mk_eq_bs, tl_bs, List.getElem?_cons_zero, List.getElem?_cons_succ, eq_self, reduceCtorEq, implies_true, false_implies, decide_eq_true_eq, decide_eq_false_iff_not, Bool.and_eq_true, Bool.or_eq_true, Bool.not_eq_true', Bool.and_eq_false_iff, Bool.or_eq_false_iff, Bool.not_eq_false', Option.toList, SV.v.injEq, Value.int.injEq, Value.bool.injEq, Value.string.injEq, Option.getD, List.contains_cons, List.contains_nil, beq_self_eq_true, Nat.max_def, List.set, List.drop, List.take, Int.toNat_natCast, Nat.mul_one, Int.toNat_zero, List.drop_zero, Bx.mk.injEq, Vc.mk.injEq, List.cons.injEq, List.take_length, List.getElem?_nil, List.getD_cons_zero, List.getD_cons_succ, Int.reduceToNat, not_false_eq_true, Nat.le_refl, e2, isAt_pre h2]
      rw [List.drop_drop] at h5 h6
      rw [List.drop_drop] at h5 h6
      refine ⟨⟨by omega, by omega, by omega, by simp⟩, fun _ => by unfold I64; omega, fun _ => by unfold I64; omega, fun h => by omega, fun h => ⟨by unfold I64; omega, by kernel_rfl, ?_⟩, fun h => ⟨by kernel_rfl, ?_⟩⟩
      · have hl2 : e + 2 < s.length := by omega
        have hrp := rpart_spec s (e + 2) m' (by omega) hs (fun _ => start_nodig h.2)
        rw [← h2c] at hrp
        have hn0 : partL true (s.drop (e + 2)) ≠ 0 := by rw [drop_at hl2]; exact part_zero.2 h.2
        have hpl2 := part_le true (s.drop (e + 2))
        rw [List.length_drop] at hpl2
        have hdt2 : (s.take (e + 2 + partL true (s.drop (e + 2)))).drop (e + 2) = (s.drop (e + 2)).take (partL true (s.drop (e + 2))) := by
          rw [List.drop_take]; congr 1; omega
        rw [if_pos ⟨h.1.1, hn0⟩] at h5 h6
        refine FnV_of (hrp.mono ?_)
        rintro r H' m'' hm2 ⟨rfl, rfl, rfl⟩
        clear hrp
        simp only [go_sem, ↓reduceIte, or_true, or_false, true_or, false_or, Option.some.injEq, exists_eq_left, exists_eq_left', Nat.reduceBEq, Nat.reduceAdd, Nat.reduceMul, Nat.reduceSub, Nat.reduceEqDiff, Nat.reduceLT, Nat.reduceLeDiff, Option.map, Option.bind, List.map, List.length, true_implies, true_and, and_true, Bool.and_true, Bool.true_and, Bool.or_false, Bool.false_or, Bool.not_true, Bool.not_false, Bool.and_false, Bool.false_and, List.cons_append, List.nil_append, List.append_nil, mk_eq_bs, tl_bs, List.getElem?_cons_zero, List.getElem?_cons_succ, eq_self, reduceCtorEq, implies_true, false_implies, decide_eq_true_eq, decide_eq_false_iff_not, Bool.and_eq_true, Bool.or_eq_true, Bool.not_eq_true', Bool.and_eq_false_iff, Bool.or_eq_false_iff, Bool.not_eq_false', Option.toList, SV.v.injEq, Value.int.injEq, Value.bool.injEq, Value.string.injEq, Option.getD, List.contains_cons, List.contains_nil, beq_self_eq_true, Nat.max_def, List.set, List.drop, List.take, Int.toNat_natCast, Nat.mul_one, Int.toNat_zero, List.drop_zero, Bx.mk.injEq, Vc.mk.injEq, List.cons.injEq, List.take_length, List.getElem?_nil, List.getD_cons_zero, List.getD_cons_succ, Int.reduceToNat, not_false_eq_true, Nat.le_refl, e2, hdt2]
        refine ⟨by omega, by unfold I64; omega, ⟨by omega, by omega, by omega⟩, by simp only [List.length_append, List.length_take, List.length_singleton]; omega,
          (e + 2 + partL true (s.drop (e + 2)), t ++ [47] ++ (s.drop (e + 2)).take (partL true (s.drop (e + 2))), f - 1), ⟨rfl, rfl⟩, ⟨by simp only; omega, by simp only; omega, by simp only [List.length_append, List.length_take, List.length_singleton]; omega, by simp only; omega, ?_, ?_⟩, by simp only; omega⟩
        · rw [h5]
          simp only [Nat.add_assoc, List.append_assoc, List.cons_append, List.nil_append]
        · rw [h6]
          simp only [Nat.add_assoc]
      · have hno : ¬ (hasPre (s.drop e) [58, 58] = true ∧ partL true (s.drop (e + 2)) ≠ 0) := by
          rintro ⟨g1, g2⟩
          rcases h with (h | h) | h
          · rw [h] at g1; cases g1
          · rw [List.drop_of_length_le (by omega)] at g2
            exact g2 rfl
          · rcases Nat.lt_or_ge (e + 2) s.length with g3 | g3
            · rw [drop_at g3] at g2
              have := part_zero.1 g2
              rw [h] at this; cases this
            · rw [List.drop_of_length_le g3] at g2
              exact g2 rfl
        rw [if_neg hno] at h5 h6
        rw [List.append_nil] at h5
        refine FnV_of ((rkeywords_spec m').mono ?_)
        rintro r H' m'' hm2 ⟨rfl, rfl, rfl⟩
        simp only [go_sem, ↓reduceIte, or_true, or_false, true_or, false_or, Option.some.injEq, exists_eq_left, exists_eq_left', Nat.reduceBEq, Nat.reduceAdd, Nat.reduceMul, Nat.reduceSub, Nat.reduceEqDiff, Nat.reduceLT, Nat.reduceLeDiff, Option.map, Option.bind, List.map, List.length, true_implies, true_and, and_true, Bool.and_true, Bool.true_and, Bool.or_false, Bool.false_or, Bool.not_true, Bool.not_false, Bool.and_false, Bool.false_and, List.cons_append, List.nil_append, List.append_nil, mk_eq_bs, tl_bs, List.getElem?_cons_zero, List.getElem?_cons_succ, eq_self, reduceCtorEq, implies_true, false_implies, decide_eq_true_eq, decide_eq_false_iff_not, Bool.and_eq_true, Bool.or_eq_true, Bool.not_eq_true', Bool.and_eq_false_iff, Bool.or_eq_false_iff, Bool.not_eq_false', Option.toList, SV.v.injEq, Value.int.injEq, Value.bool.injEq, Value.string.injEq, Option.getD, List.contains_cons, List.contains_nil, beq_self_eq_true, Nat.max_def, List.set, List.drop, List.take, Int.toNat_natCast, Nat.mul_one, Int.toNat_zero, List.drop_zero, Bx.mk.injEq, Vc.mk.injEq, List.cons.injEq, List.take_length, List.getElem?_nil, List.getD_cons_zero, List.getD_cons_succ, Int.reduceToNat, not_false_eq_true, Nat.le_refl]
        refine ⟨by kernel_rfl, fun ad cp m1 hm1 hcp hrd => FnV_of ((has_spec keywordsL t ad 28 cp m1 hrd (by decide)).mono ?_)⟩
        rintro r H' m4 hm4 ⟨rfl, rfl⟩
        simp only [go_sem, ↓reduceIte, or_true, or_false, true_or, false_or, Option.some.injEq, exists_eq_left, exists_eq_left', Nat.reduceBEq, Nat.reduceAdd, Nat.reduceMul, Nat.reduceSub, Nat.reduceEqDiff, Nat.reduceLT, Nat.reduceLeDiff, Option.map, Option.bind, List.map, List.length, true_implies, true_and, and_true, Bool.and_true, Bool.true_and, Bool.or_false, Bool.false_or, Bool.not_true, Bool.not_false, Bool.and_false, Bool.false_and, List.cons_append, List.nil_append, List.append_nil, mk_eq_bs, tl_bs, List.getElem?_cons_zero, List.getElem?_cons_succ, eq_self, reduceCtorEq, implies_true, false_implies, decide_eq_true_eq, decide_eq_false_iff_not, Bool.and_eq_true, Bool.or_eq_true, Bool.not_eq_true', Bool.and_eq_false_iff, Bool.or_eq_false_iff, Bool.not_eq_false', Option.toList, SV.v.injEq, Value.int.injEq, Value.bool.injEq, Value.string.injEq, Option.getD, List.contains_cons, List.contains_nil, beq_self_eq_true, Nat.max_def, List.set, List.drop, List.take, Int.toNat_natCast, Nat.mul_one, Int.toNat_zero, List.drop_zero, Bx.mk.injEq, Vc.mk.injEq, List.cons.injEq, List.take_length, List.getElem?_nil, List.getD_cons_zero, List.getD_cons_succ, Int.reduceToNat, not_false_eq_true, Nat.le_refl]
        rw [h5]
        have he : p + idN (s.drop p) = e := h6
        refine ⟨fun hk => ⟨Mem.le_trans hm1 hm4, ?_⟩, fun hk => ⟨by unfold BL; omega, Mem.le_trans hm1 hm4, ?_⟩⟩
        · rw [if_pos (kw_name hk), if_pos hk]
          exact ⟨⟨2, t, 0, p⟩, _, true, rfl, rfl, rfl, by omega⟩
        · have hkk : (if keywordsL.contains t = true then (2 : Int) else 1) = 1 := if_neg (by rw [hk]; exact Bool.false_ne_true)
          rw [hkk]
          cases hn : isName t with
          | true => exact ⟨⟨1, t, 0, p⟩, _, true, rfl, rfl, rfl, by omega⟩
          | false => exact ⟨⟨1, t, 0, p⟩, _, false, rfl, rfl⟩
end Go.Proofs.YtmkifodpkcmgoaaDoor.E

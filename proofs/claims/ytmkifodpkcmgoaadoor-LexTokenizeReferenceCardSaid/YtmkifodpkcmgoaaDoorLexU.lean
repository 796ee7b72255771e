/- lex, part U: Join. -/
import Derived.Test.YtmkifodpkcmgoaaDoorLexT
namespace Go.Proofs.YtmkifodpkcmgoaaDoor.E
open Go

/-- The texts of tokens. -/
def fmtsL : List Tk → Option (List (List UInt8))
  | [] => some []
  | t :: r => match fmtL t with | none => none | some x => match fmtsL r with | none => none | some y => some (x :: y)
def joinL (ts : List Tk) : List UInt8 × Int :=
  if 5000 < ts.length then ([], 5) else
    match fmtsL ts with
    | none => ([], 1)
    | some l => if 20000 < (Lib.join l [32]).length then ([], 8) else (Lib.join l [32], 0)
theorem tk_len (ts : List Tk) : (tkCells ts).length = ts.length * 4 := by
  induction ts with
  | nil => rfl
  | cons t r ih => simp only [tkCells, List.map_cons, List.flatten_cons, List.length_append, List.length_cons, List.length_nil] at ih ⊢; omega
theorem Rds_up {m m' : Mem} {a : Option Addr} {n sz : Nat} {xs : List Value} (hle : m.le m') (h : Rds m a n sz xs) : Rds m' a n sz xs := by
  refine ⟨h.1, fun h0 => ?_⟩
  obtain ⟨ad, rfl, hs, hc⟩ := h.2 h0
  refine ⟨ad, rfl, hs, fun j hj => ?_⟩
  obtain ⟨h1, h2⟩ := hc j hj
  obtain ⟨e1, e2, e3⟩ := add_parts ad j hs
  have hx : xs[j]? = some (xs[j]'(by rw [h.1]; exact hj)) := List.getElem?_eq_getElem _
  exact ⟨(cell_of_le hle e3 (by rw [e1, e2]; exact h2) (h1.trans hx)).trans hx.symm, Nat.lt_of_lt_of_le h2 (hle _).1⟩
theorem Rds_cells {m : Mem} {a : Option Addr} {n sz : Nat} {xs : List Value} (h : Rds m a n sz xs) {i : Nat} (hi : i < n) : Rd m (ptrAt a (i * sz)) ((xs.drop (i * sz)).take sz) ∧ a ≠ none := by
  have hl := h.1
  have hm : (i + 1) * sz ≤ n * sz := Nat.mul_le_mul_right _ hi
  rw [Nat.succ_mul] at hm
  obtain ⟨ad, rfl, hs, hc⟩ := h.2 (by omega)
  refine ⟨?_, by simp⟩
  obtain ⟨e1, e2, e3⟩ := add_parts ad (i * sz) hs
  refine ⟨ad.add (i * sz), rfl, e3, fun j hj => ?_⟩
  rw [List.length_take, List.length_drop] at hj
  obtain ⟨h1, h2⟩ := hc (i * sz + j) (by omega)
  obtain ⟨f1, f2, f3⟩ := add_parts (ad.add (i * sz)) j e3
  obtain ⟨g1, g2, g3⟩ := add_parts ad (i * sz + j) hs
  have hee : (ad.add (i * sz)).add j = ad.add (i * sz + j) := by
    cases hA : (ad.add (i * sz)).add j
    cases hB : ad.add (i * sz + j)
    rw [hA] at f1 f2 f3
    rw [hB] at g1 g2 g3
    simp only at f1 f2 f3 g1 g2 g3
    rw [f1, f2, f3, g1, g2, g3, e1, e2, Nat.add_assoc]
  refine ⟨?_, by rw [e1, e2, Nat.add_assoc]; exact h2⟩
  rw [hee, h1, List.getElem?_take_of_lt (by omega), List.getElem?_drop]
def tkC (t : Tk) : List Value := [Value.int .i64 t.k, .string (bs t.s), .int .i64 t.n, .int .i64 t.at_]
theorem tk_at : ∀ {ts : List Tk} {i : Nat} (hi : i < ts.length), ((tkCells ts).drop (i * 4)).take 4 = tkC ts[i]
  | [], i, hi => by simp at hi
  | t :: r, 0, hi => by simp [tkCells, tkC]
  | t :: r, i + 1, hi => by
    have e : (tkCells (t :: r)).drop ((i + 1) * 4) = (tkCells r).drop (i * 4) := by
      rw [show (i + 1) * 4 = i * 4 + 1 + 1 + 1 + 1 by omega]
      simp [tkCells]
    rw [e, tk_at (by simpa using hi)]
    rfl
theorem fmtL_len {t : Tk} (ht : TkOk t) {x : List UInt8} (h : fmtL t = some x) : x.length ≤ 10000000 := by
  have h1 := ht.1
  have h2 := itoa_len ht.2
  unfold fmtL at h
  split at h
  · split at h
    · cases h
      have := rep_len t.s [47] [58, 58] (by simp) (by omega)
      simp only [List.length_cons, List.length_nil] at this
      omega
    · cases h
  · split at h
    · split at h
      · cases h; omega
      · cases h
    · split at h
      · split at h
        · cases h; omega
        · cases h
      · split at h
        · split at h
          · cases h; simp only [List.length_append, List.length_cons, List.length_nil]; omega
          · cases h
        · split at h
          · split at h
            · cases h
              have := escFlat_len t.s
              simp only [escapedL, List.cons_append, List.length_cons, List.length_append, List.length_nil]; omega
            · cases h
          · split at h
            · split at h
              · cases h; omega
              · cases h
            · cases h
theorem fmtsL_len : ∀ {ts : List Tk} {l : List (List UInt8)}, (∀ t ∈ ts, TkOk t) → fmtsL ts = some l → l.length = ts.length ∧ ∀ x ∈ l, x.length ≤ 10000000
  | [], l, _, h => by cases h; exact ⟨rfl, fun x hx => by cases hx⟩
  | t :: r, l, ht, h => by
    simp only [fmtsL] at h
    cases h1 : fmtL t with
    | none => rw [h1] at h; cases h
    | some x =>
      rw [h1] at h
      cases h2 : fmtsL r with
      | none => rw [h2] at h; cases h
      | some y =>
        rw [h2] at h
        cases h
        obtain ⟨e1, e2⟩ := fmtsL_len (fun t ht' => ht t (List.mem_cons_of_mem _ ht')) h2
        refine ⟨by simp [e1], fun z hz => ?_⟩
        rcases List.mem_cons.1 hz with rfl | hz
        · exact fmtL_len (ht t List.mem_cons_self) h1
        · exact e2 z hz
theorem joinTail_len (sep : List UInt8) (B : Nat) : ∀ (l : List (List UInt8)), (∀ x ∈ l, x.length ≤ B) → (Lib.joinTail sep l).length ≤ l.length * (B + sep.length)
  | [], _ => by simp [Lib.joinTail]
  | x :: r, h => by
    have := joinTail_len sep B r fun y hy => h y (List.mem_cons_of_mem _ hy)
    have h1 := h x List.mem_cons_self
    simp only [Lib.joinTail, List.map_cons, List.flatten_cons, List.length_append, List.length_cons, Nat.succ_mul] at this ⊢
    omega
theorem join_len (sep : List UInt8) (B : Nat) (l : List (List UInt8)) (h : ∀ x ∈ l, x.length ≤ B) : (Lib.join l sep).length ≤ l.length * (B + sep.length) := by
  cases l with
  | nil => simp [Lib.join_nil]
  | cons x r =>
    rw [Lib.join_cons, List.length_append, List.length_cons, Nat.succ_mul]
    have := joinTail_len sep B r fun y hy => h y (List.mem_cons_of_mem _ hy)
    have h1 := h x List.mem_cons_self
    omega
theorem strs_app (a : List (List UInt8)) (x : List UInt8) : strs a ++ [.string (bs x)] = strs (a ++ [x]) := by simp [strs]
def preL (acc : List (List UInt8)) (o : Option (List (List UInt8))) : Option (List (List UInt8)) := o.map (acc ++ ·)
def FOut2 (o : Option (List UInt8)) (x : List UInt8) (e : Int) : Prop := (e = 0 ∧ o = some x) ∨ (e = 1 ∧ x = [] ∧ o = none)
theorem FOut_two {o : Option (List UInt8)} {r : SV} (h : FOut o r) : ∃ x e, r = .tup [.v (.string (bs x)), .v (.int .i64 e)] ∧ FOut2 o x e := by
  cases o with
  | none => exact ⟨[], 1, h, .inr ⟨rfl, rfl, rfl⟩⟩
  | some x => exact ⟨x, 0, h, .inl ⟨rfl, rfl⟩⟩
theorem fmts_no {ts : List Tk} {k : Nat} (h : k < ts.length) (hf : fmtL ts[k] = none) : fmtsL (ts.drop k) = none := by
  rw [List.drop_eq_getElem_cons h]
  simp only [fmtsL, hf]
theorem fmts_yes {ts : List Tk} {k : Nat} (h : k < ts.length) {x : List UInt8} (hf : fmtL ts[k] = some x) : fmtsL (ts.drop k) = (fmtsL (ts.drop (k + 1))).map (x :: ·) := by
  rw [List.drop_eq_getElem_cons h]
  simp only [fmtsL, hf]
  cases fmtsL (ts.drop (k + 1)) <;> rfl
set_option maxHeartbeats 4000000 in
set_option maxRecDepth 20000 in
theorem joinT_spec (ts : List Tk) (a : Option Addr) (n c : Nat) (m : Mem) (hg : Glob m) (h : Rds m a n 4 (tkCells ts)) (ht : ∀ t ∈ ts, TkOk t) (hn : n ≤ 4611686018427387904) :
    FnH Tryd.prog 12 [.v (.slice a n c)] ⟨[], []⟩ m fun r H' m' => leM m m' ∧ H' = ⟨[], []⟩ ∧ r = .tup [.v (.string (bs (joinL ts).1)), .v (.int .i64 (joinL ts).2)] := by
  have hl : ts.length = n := by have := h.1; rw [tk_len] at this; omega
  refine enter cf6 pu6 Tryd.func12 rfl rfl (by kernel_rfl) rfl ?_ ?_
  · simp only [go_sem, ↓reduceIte, or_true, or_false, true_or, false_or, Option.some.injEq, exists_eq_left, exists_eq_left', Nat.reduceBEq, Nat.reduceAdd, Nat.reduceMul, Nat.reduceSub, Nat.reduceEqDiff, Nat.reduceLT, Nat.reduceLeDiff, Option.map, Option.bind, List.map, List.length, true_implies, true_and, and_true, Bool.and_true, Bool.true_and, Bool.or_false, Bool.false_or, Bool.not_true, Bool.not_false, Bool.and_false, Bool.false_and, List.cons_append, List.nil_append, List.append_nil, mk_eq_bs, tl_bs, List.getElem?_cons_zero, List.getElem?_cons_succ, eq_self, reduceCtorEq, implies_true, false_implies, decide_eq_true_eq, decide_eq_false_iff_not, Bool.and_eq_true, Bool.or_eq_true, Bool.not_eq_true', Bool.and_eq_false_iff, Bool.or_eq_false_iff, Bool.not_eq_false', Option.toList, SV.v.injEq, Value.int.injEq, Value.bool.injEq, Value.string.injEq, Option.getD, List.contains_cons, List.contains_nil, beq_self_eq_true, Nat.max_def, List.set, List.drop, List.take, Int.toNat_natCast, Nat.mul_one, Int.toNat_zero, List.drop_zero, Bx.mk.injEq, Vc.mk.injEq, List.cons.injEq, List.take_length, List.getElem?_nil, List.getD_cons_zero, List.getD_cons_succ, Int.reduceToNat, not_false_eq_true, Nat.le_refl]
  · simp only [go_sem, ↓reduceIte, or_true, or_false, true_or, false_or, Option.some.injEq, exists_eq_left, exists_eq_left', Nat.reduceBEq, Nat.reduceAdd, Nat.reduceMul, Nat.reduceSub, Nat.reduceEqDiff, Nat.reduceLT, Nat.reduceLeDiff, Option.map, Option.bind, List.map, List.length, true_implies, true_and, and_true, Bool.and_true, Bool.true_and, Bool.or_false, Bool.false_or, Bool.not_true, Bool.not_false, Bool.and_false, Bool.false_and, List.cons_append, List.nil_append, List.append_nil, mk_eq_bs, tl_bs, List.getElem?_cons_zero, List.getElem?_cons_succ, eq_self, reduceCtorEq, implies_true, false_implies, decide_eq_true_eq, decide_eq_false_iff_not, Bool.and_eq_true, Bool.or_eq_true, Bool.not_eq_true', Bool.and_eq_false_iff, Bool.or_eq_false_iff, Bool.not_eq_false', Option.toList, SV.v.injEq, Value.int.injEq, Value.bool.injEq, Value.string.injEq, Option.getD, List.contains_cons, List.contains_nil, beq_self_eq_true, Nat.max_def, List.set, List.drop, List.take, Int.toNat_natCast, Nat.mul_one, Int.toNat_zero, List.drop_zero, Bx.mk.injEq, Vc.mk.injEq, List.cons.injEq, List.take_length, List.getElem?_nil, List.getD_cons_zero, List.getD_cons_succ, Int.reduceToNat, not_false_eq_true, Nat.le_refl]
    refine ⟨fun hb => ?_, fun hb => ?_⟩
    · have e : joinL ts = ([], 5) := if_pos (by omega)
      rw [e]
    · refine WP_adopt 4 9 1 (by decide) rfl ?_
      have hj : joinL ts = match fmtsL ts with | none => ([], 1) | some l => if 20000 < (Lib.join l [32]).length then ([], 8) else (Lib.join l [32], 0) := if_neg (by omega)
      refine WP_loop pu6 (fun x : Nat × List (List UInt8) × Nat × Mem => ⟨[⟨13, [], .v (.slice a n c)⟩, ⟨14, [], .v (.int .i64 n)⟩, ⟨15, [], .v (.int .i64 x.1)⟩, ⟨4, [], .vec 0 x.2.2.1⟩], [], [], [⟨0, x.2.2.1, 9, 1, x.2.1.length, strs x.2.1⟩], 1, x.2.2.2⟩)
        (fun x => leM m x.2.2.2 ∧ Glob x.2.2.2 ∧ Rds x.2.2.2 a n 4 (tkCells ts) ∧ x.1 ≤ n ∧ x.2.1.length = x.1 ∧ fmtsL ts = preL x.2.1 (fmtsL (ts.drop x.1))) (fun x => n - x.1) (0, [], 0, m) (by kernel_rfl) (fun _ _ => Nat.le_refl _) (fun x hx => hx.1) (fun _ => ?_) ?_ ?_ ?_
      · simp only [go_sem, ↓reduceIte, or_true, or_false, true_or, false_or, Option.some.injEq, exists_eq_left, exists_eq_left', Nat.reduceBEq, Nat.reduceAdd, Nat.reduceMul, Nat.reduceSub, Nat.reduceEqDiff, Nat.reduceLT, Nat.reduceLeDiff, Option.map, Option.bind, List.map, List.length, true_implies, true_and, and_true, Bool.and_true, Bool.true_and, Bool.or_false, Bool.false_or, Bool.not_true, Bool.not_false, Bool.and_false, Bool.false_and, List.cons_append, List.nil_append, List.append_nil, mk_eq_bs, tl_bs, List.getElem?_cons_zero, List.getElem?_cons_succ, eq_self, reduceCtorEq, implies_true, false_implies, decide_eq_true_eq, decide_eq_false_iff_not, Bool.and_eq_true, Bool.or_eq_true, Bool.not_eq_true', Bool.and_eq_false_iff, Bool.or_eq_false_iff, Bool.not_eq_false', Option.toList, SV.v.injEq, Value.int.injEq, Value.bool.injEq, Value.string.injEq, Option.getD, List.contains_cons, List.contains_nil, beq_self_eq_true, Nat.max_def, List.set, List.drop, List.take, Int.toNat_natCast, Nat.mul_one, Int.toNat_zero, List.drop_zero, Bx.mk.injEq, Vc.mk.injEq, List.cons.injEq, List.take_length, List.getElem?_nil, List.getD_cons_zero, List.getD_cons_succ, Int.reduceToNat, not_false_eq_true, Nat.le_refl]
      · simp only [go_sem, ↓reduceIte, or_true, or_false, true_or, false_or, Option.some.injEq, exists_eq_left, exists_eq_left', Nat.reduceBEq, Nat.reduceAdd, Nat.reduceMul, Nat.reduceSub, Nat.reduceEqDiff, Nat.reduceLT, Nat.reduceLeDiff, Option.map, Option.bind, List.map, List.length, true_implies, true_and, and_true, Bool.and_true, Bool.true_and, Bool.or_false, Bool.false_or, Bool.not_true, Bool.not_false, Bool.and_false, Bool.false_and, List.cons_append, List.nil_append, List.append_nil, mk_eq_bs, tl_bs, List.getElem?_cons_zero, List.getElem?_cons_succ, eq_self, reduceCtorEq, implies_true, false_implies, decide_eq_true_eq, decide_eq_false_iff_not, Bool.and_eq_true, Bool.or_eq_true, Bool.not_eq_true', Bool.and_eq_false_iff, Bool.or_eq_false_iff, Bool.not_eq_false', Option.toList, SV.v.injEq, Value.int.injEq, Value.bool.injEq, Value.string.injEq, Option.getD, List.contains_cons, List.contains_nil, beq_self_eq_true, Nat.max_def, List.set, List.drop, List.take, Int.toNat_natCast, Nat.mul_one, Int.toNat_zero, List.drop_zero, Bx.mk.injEq, Vc.mk.injEq, List.cons.injEq, List.take_length, List.getElem?_nil, List.getD_cons_zero, List.getD_cons_succ, Int.reduceToNat, not_false_eq_true, Nat.le_refl]
        exact ⟨rfl, rfl⟩
      · refine ⟨.inl rfl, hg, h, Nat.zero_le _, rfl, ?_⟩
        simp [preL]
      · rintro ⟨k, acc, u, mm⟩ ⟨h1, h2, h3, h4, h5, h6⟩
        simp only at h1 h2 h3 h4 h5 h6
        have hr : ∀ (hkl : k < ts.length), Rd mm (ptrAt a (k * 4)) (tkC ts[k]) ∧ a ≠ none := fun hkl => by
          have := Rds_cells h3 (i := k) (by omega)
          rwa [tk_at hkl] at this
        have hfs : ∀ (hkl : k < ts.length), _ := fun hkl => (format_spec ts[k] mm h2 (ht _ (List.getElem_mem hkl))).mono fun r H' m' _ h => And.intro h.1 (And.intro h.2.1 (FOut_two h.2.2))
        have hjs := fun hkl : k = n => show fmtsL ts = some acc by rw [h6, List.drop_eq_nil_of_le (by omega)]; simp [fmtsL, preL]
        simp only [go_sem, ↓reduceIte, or_true, or_false, true_or, false_or, Option.some.injEq, exists_eq_left, exists_eq_left', Nat.reduceBEq, Nat.reduceAdd, Nat.reduceMul, Nat.reduceSub, Nat.reduceEqDiff, Nat.reduceLT, Nat.reduceLeDiff, Option.map, Option.bind, List.map, List.length, true_implies, true_and, and_true, Bool.and_true, Bool.true_and, Bool.or_false, Bool.false_or, Bool.not_true, Bool.not_false, Bool.and_false, Bool.false_and, List.cons_append, List.nil_append, List.append_nil, mk_eq_bs, tl_bs, List.getElem?_cons_zero, List.getElem?_cons_succ, eq_self, reduceCtorEq, implies_true, false_implies, decide_eq_true_eq, decide_eq_false_iff_not, Bool.and_eq_true, Bool.or_eq_true, Bool.not_eq_true', Bool.and_eq_false_iff, Bool.or_eq_false_iff, Bool.not_eq_false', Option.toList, SV.v.injEq, Value.int.injEq, Value.bool.injEq, Value.string.injEq, Option.getD, List.contains_cons, List.contains_nil, beq_self_eq_true, Nat.max_def, List.set, List.drop, List.take, Int.toNat_natCast, Nat.mul_one, Int.toNat_zero, List.drop_zero, Bx.mk.injEq, Vc.mk.injEq, List.cons.injEq, List.take_length, List.getElem?_nil, List.getD_cons_zero, List.getD_cons_succ, Int.reduceToNat, not_false_eq_true, Nat.le_refl]
        refine ⟨fun hlt => ?_, fun hge => ?_⟩
        · have hkl : k < ts.length := by clear hr hfs; omega
          refine ⟨⟨by clear hr hfs; omega, hlt, (hr hkl).2⟩, tkC ts[k], ⟨(hr hkl).1, rfl⟩, ?_⟩
          simp only [go_sem, ↓reduceIte, or_true, or_false, true_or, false_or, Option.some.injEq, exists_eq_left, exists_eq_left', Nat.reduceBEq, Nat.reduceAdd, Nat.reduceMul, Nat.reduceSub, Nat.reduceEqDiff, Nat.reduceLT, Nat.reduceLeDiff, Option.map, Option.bind, List.map, List.length, true_implies, true_and, and_true, Bool.and_true, Bool.true_and, Bool.or_false, Bool.false_or, Bool.not_true, Bool.not_false, Bool.and_false, Bool.false_and, List.cons_append, List.nil_append, List.append_nil, mk_eq_bs, tl_bs, List.getElem?_cons_zero, List.getElem?_cons_succ, eq_self, reduceCtorEq, implies_true, false_implies, decide_eq_true_eq, decide_eq_false_iff_not, Bool.and_eq_true, Bool.or_eq_true, Bool.not_eq_true', Bool.and_eq_false_iff, Bool.or_eq_false_iff, Bool.not_eq_false', Option.toList, SV.v.injEq, Value.int.injEq, Value.bool.injEq, Value.string.injEq, Option.getD, List.contains_cons, List.contains_nil, beq_self_eq_true, Nat.max_def, List.set, List.drop, List.take, Int.toNat_natCast, Nat.mul_one, Int.toNat_zero, List.drop_zero, Bx.mk.injEq, Vc.mk.injEq, List.cons.injEq, List.take_length, List.getElem?_nil, List.getD_cons_zero, List.getD_cons_succ, Int.reduceToNat, not_false_eq_true, Nat.le_refl, tkC]
          refine ⟨by kernel_rfl, FnV_of ((hfs hkl).mono ?_)⟩
          clear hfs
          rintro r H' m' hm ⟨hle, rfl, x, e, rfl, hx⟩
          simp only [go_sem, ↓reduceIte, or_true, or_false, true_or, false_or, Option.some.injEq, exists_eq_left, exists_eq_left', Nat.reduceBEq, Nat.reduceAdd, Nat.reduceMul, Nat.reduceSub, Nat.reduceEqDiff, Nat.reduceLT, Nat.reduceLeDiff, Option.map, Option.bind, List.map, List.length, true_implies, true_and, and_true, Bool.and_true, Bool.true_and, Bool.or_false, Bool.false_or, Bool.not_true, Bool.not_false, Bool.and_false, Bool.false_and, List.cons_append, List.nil_append, List.append_nil, mk_eq_bs, tl_bs, List.getElem?_cons_zero, List.getElem?_cons_succ, eq_self, reduceCtorEq, implies_true, false_implies, decide_eq_true_eq, decide_eq_false_iff_not, Bool.and_eq_true, Bool.or_eq_true, Bool.not_eq_true', Bool.and_eq_false_iff, Bool.or_eq_false_iff, Bool.not_eq_false', Option.toList, SV.v.injEq, Value.int.injEq, Value.bool.injEq, Value.string.injEq, Option.getD, List.contains_cons, List.contains_nil, beq_self_eq_true, Nat.max_def, List.set, List.drop, List.take, Int.toNat_natCast, Nat.mul_one, Int.toNat_zero, List.drop_zero, Bx.mk.injEq, Vc.mk.injEq, List.cons.injEq, List.take_length, List.getElem?_nil, List.getD_cons_zero, List.getD_cons_succ, Int.reduceToNat, not_false_eq_true, Nat.le_refl]
          have hm' : leM m m' := leM_trans h1 hle
          refine ⟨fun he => ⟨hm', ?_⟩, fun he => ⟨⟨by clear hm'; omega, by simp only [maxLen]; omega⟩, by unfold I64; omega, (k + 1, acc ++ [x], u + 1, m'), ⟨⟨by simp, rfl⟩, ⟨rfl, by simp, strs_app acc x⟩, .inl rfl⟩, ⟨hm', h2.up hle, Rds_up hle h3, by simp only; omega, by simp only [List.length_append, List.length_singleton]; omega, ?_⟩, by simp only; omega⟩⟩
          · rcases hx with ⟨h7, _⟩ | ⟨rfl, rfl, h8⟩
            · exact absurd h7 he
            · rw [hj, h6, fmts_no hkl h8]
              rfl
          · rcases hx with ⟨_, h8⟩ | ⟨h7, _⟩
            · show fmtsL ts = preL (acc ++ [x]) (fmtsL (ts.drop (k + 1)))
              rw [h6, fmts_yes hkl h8]
              cases fmtsL (ts.drop (k + 1)) <;> simp [preL]
            · rw [he] at h7; cases h7
        · have hacc : fmtsL ts = some acc := hjs (by clear hfs; omega)
          refine ⟨by kernel_rfl, fun a2 c2 m1 hm1 hc2 hrd => FnV_of ((join_spec acc [32] a2 acc.length c2 m1 hrd hc2 (by clear hfs; omega) ?_).mono ?_)⟩
          · have := join_len [32] 10000000 acc (fmtsL_len ht hacc).2
            simp only [List.length_singleton] at this
            clear hfs
            omega
          · rintro r H' m' hm ⟨rfl, rfl, rfl⟩
            simp only [go_sem, ↓reduceIte, or_true, or_false, true_or, false_or, Option.some.injEq, exists_eq_left, exists_eq_left', Nat.reduceBEq, Nat.reduceAdd, Nat.reduceMul, Nat.reduceSub, Nat.reduceEqDiff, Nat.reduceLT, Nat.reduceLeDiff, Option.map, Option.bind, List.map, List.length, true_implies, true_and, and_true, Bool.and_true, Bool.true_and, Bool.or_false, Bool.false_or, Bool.not_true, Bool.not_false, Bool.and_false, Bool.false_and, List.cons_append, List.nil_append, List.append_nil, mk_eq_bs, tl_bs, List.getElem?_cons_zero, List.getElem?_cons_succ, eq_self, reduceCtorEq, implies_true, false_implies, decide_eq_true_eq, decide_eq_false_iff_not, Bool.and_eq_true, Bool.or_eq_true, Bool.not_eq_true', Bool.and_eq_false_iff, Bool.or_eq_false_iff, Bool.not_eq_false', Option.toList, SV.v.injEq, Value.int.injEq, Value.bool.injEq, Value.string.injEq, Option.getD, List.contains_cons, List.contains_nil, beq_self_eq_true, Nat.max_def, List.set, List.drop, List.take, Int.toNat_natCast, Nat.mul_one, Int.toNat_zero, List.drop_zero, Bx.mk.injEq, Vc.mk.injEq, List.cons.injEq, List.take_length, List.getElem?_nil, List.getD_cons_zero, List.getD_cons_succ, Int.reduceToNat, not_false_eq_true, Nat.le_refl]
            have hm' : leM m m' := leM_trans h1 hm1
            refine ⟨fun hx => ⟨hm', ?_⟩, fun hx => ⟨hm', ?_⟩⟩
            · rw [hj, hacc]
              simp only [if_pos (show 20000 < (Lib.join acc [32]).length by clear hfs; omega)]
            · rw [hj, hacc]
              simp only [if_neg (show ¬ 20000 < (Lib.join acc [32]).length by clear hfs; omega)]
end Go.Proofs.YtmkifodpkcmgoaaDoor.E

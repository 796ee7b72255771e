/- lex, part M: Tokenize. -/
import Derived.Test.YtmkifodpkcmgoaaDoorLexL
namespace Go.Proofs.YtmkifodpkcmgoaaDoor.E
open Go

theorem elT22 : elT Tryd.prog 22 = some 27 := by kernel_rfl
theorem zero41 : zeroO Tryd.prog 41 = some [.v (.string (bs [])), .v (.int .i64 0)] := by kernel_rfl
attribute [go_sem] elT22 zero41
theorem idRF_le : ∀ (f : Nat) (l : List UInt8), idRF f l ≤ l.length
  | 0, _ => Nat.zero_le _
  | f + 1, l => by
    simp only [idRF]
    split
    · rename_i h
      have h1 := part_le true (l.drop 2)
      have h2 := idRF_le f (l.drop (2 + partL true (l.drop 2)))
      have h3 := pre_len h.1
      simp only [List.length_drop, List.length_cons, List.length_nil] at h1 h2 h3
      omega
    · exact Nat.zero_le _
theorem idN_le (l : List UInt8) : idN l ≤ l.length := by
  have h1 := part_le true l
  have h2 := idRF_le (l.length + 1) (l.drop (partL true l))
  rw [List.length_drop] at h2
  unfold idN; omega
theorem qScanF_len : ∀ (f : Nat) (l : List UInt8) (b : List UInt8) (n : Nat), qScanF f l = some (b, n) → 1 ≤ n ∧ n ≤ l.length
  | 0, l, b, n, h => by cases h
  | f + 1, [], b, n, h => by cases h
  | f + 1, c :: r, b, n, h => by
    simp only [qScanF] at h
    split at h
    · cases h; simp
    · split at h
      · cases h
      · split at h
        · split at h
          · obtain ⟨⟨b', n'⟩, h', e⟩ := Option.map_eq_some_iff.1 h
            cases e
            have h1 := qScanF_len f _ _ _ h'
            have h2 := (escL_len r).1
            rw [List.length_drop] at h1
            simp only [List.length_cons]
            omega
          · cases h
        · obtain ⟨⟨b', n'⟩, h', e⟩ := Option.map_eq_some_iff.1 h
          cases e
          have h1 := qScanF_len f _ _ _ h'
          simp only [List.length_cons]
          omega
theorem signAt_len {l o : List UInt8} (h : signAt l = some o) : 1 ≤ o.length ∧ o.length ≤ l.length := by
  have h1 := List.find?_some h
  have h2 := List.mem_of_find?_eq_some h
  exact ⟨(by decide : ∀ o ∈ signsL, 1 ≤ o.length) o h2, pre_len h1⟩
theorem tokL_len {l : List UInt8} {k : Int} {t : List UInt8} {n : Int} {len : Nat} (h : tokL l = some (k, t, n, len)) : 1 ≤ len ∧ len ≤ l.length := by
  cases l with
  | nil => cases h
  | cons c r =>
    simp only [tokL] at h
    split at h
    · rename_i hs
      split at h
      · cases h
        refine ⟨?_, idN_le _⟩
        have : 1 ≤ partL true (c :: r) := by
          simp only [partL]; rw [if_pos (by rw [hs]; rfl)]; omega
        unfold idN; omega
      · cases h
    · split at h
      · rename_i hd
        split at h
        · cases h
          have h1 := dig_le (c :: r)
          have h2 : 1 ≤ digL (c :: r) := by simp only [digL]; rw [if_pos hd]; omega
          simp only [numL]
          split
          · rename_i hb
            refine ⟨by omega, ?_⟩
            rcases Nat.lt_or_ge (digL (c :: r)) (c :: r).length with h3 | h3
            · omega
            · rw [List.drop_of_length_le h3] at hb
              simp at hb
          · exact ⟨h2, h1⟩
        · cases h
      · split at h
        · split at h
          · rename_i b n' hq
            split at h
            · cases h
              have := qScanF_len _ _ _ _ hq
              simp only [List.length_cons]
              omega
            · cases h
          · cases h
        · obtain ⟨o, ho, e⟩ := Option.map_eq_some_iff.1 h
          cases e
          exact signAt_len ho
/-- The tokens of a text, from an offset on. -/
def lexF (s : List UInt8) : Nat → Nat → List Tk → List Tk × Int × Int
  | 0, _, acc => (acc, 0, 0)
  | f + 1, p, acc =>
    let q := p + skipW false (s.drop p)
    if s.length ≤ q then (acc, 0, 0) else if 5000 ≤ acc.length then ([], 0, 5) else
      match tokL (s.drop q) with
      | none => ([], q, 70)
      | some (k, t, n, len) => lexF s f (q + len) (acc ++ [⟨k, t, n, q⟩])
def tokenizeL (s : List UInt8) : List Tk × Int × Int := if 20000 < s.length then ([], 0, 8) else lexF s (s.length + 1) 0 []
def tkCells (ts : List Tk) : List Value := (ts.map fun t => [Value.int .i64 t.k, .string (bs t.s), .int .i64 t.n, .int .i64 t.at_]).flatten
theorem tkCells_app (a : List Tk) (t : Tk) : tkCells a ++ [Value.int .i64 t.k, .string (bs t.s), .int .i64 t.n, .int .i64 t.at_] = tkCells (a ++ [t]) := by simp [tkCells]
/-- A list of tokens, as a call hands it back. -/
def ROut (x : List Tk × Int × Int) (r : SV) (H' : Hp) : Prop :=
  (x.2.2 = 0 ∧ ∃ k u, r = .tup [.vec k u, .v (.int .i64 x.2.1), .v (.int .i64 x.2.2)] ∧ H' = ⟨[], [⟨k, u, 27, 4, x.1.length, tkCells x.1⟩]⟩) ∨
  (x.2.2 ≠ 0 ∧ x.1 = [] ∧ r = .tup [.v (.slice none 0 0), .v (.int .i64 x.2.1), .v (.int .i64 x.2.2)] ∧ H' = ⟨[], []⟩)
theorem leM_trans {a b c : Mem} (h : leM a b) (h' : b.le c) : leM a c := by
  rcases h with rfl | h
  · exact .inr h'
  · exact .inr (Mem.le_trans h h')
theorem NOut_no {s : List UInt8} {p : Nat} {o : Option (Int × List UInt8 × Int × Nat)} {t : Tk} {q : Int} (h : NOut s p o (.tup [Tk.sv t, .v (.bool false)]) ⟨[scB s q], []⟩) : o = none := by
  cases o with
  | none => rfl
  | some x =>
    obtain ⟨k, tt, n, len⟩ := x
    have h1 := h.1
    simp at h1
theorem NOut_yes {s : List UInt8} {p : Nat} {o : Option (Int × List UInt8 × Int × Nat)} {t : Tk} {q : Int} (h : NOut s p o (.tup [Tk.sv t, .v (.bool true)]) ⟨[scB s q], []⟩) :
    ∃ k tt n len, o = some (k, tt, n, len) ∧ t = ⟨k, tt, n, p⟩ ∧ q = (p + len : Nat) := by
  cases o with
  | none =>
    obtain ⟨t', q', h1, _⟩ := h
    simp at h1
  | some x =>
    obtain ⟨k, tt, n, len⟩ := x
    obtain ⟨h1, h2⟩ := h
    obtain ⟨tk, ts, tn, ta⟩ := t
    simp only [Tk.sv, Tk.cells, SV.tup.injEq, List.cons.injEq, SV.agg.injEq, SV.v.injEq, Value.int.injEq, Value.string.injEq, true_and, and_true] at h1
    simp only [Hp.mk.injEq, List.cons.injEq, Bx.mk.injEq, SV.v.injEq, Value.int.injEq, true_and, and_true] at h2
    obtain ⟨rfl, h12, rfl, rfl⟩ := h1
    have := bs_inj h12
    subst this
    exact ⟨_, _, _, _, rfl, rfl, h2⟩
set_option maxHeartbeats 4000000 in
set_option maxRecDepth 20000 in
theorem tokenize_spec (s : List UInt8) (m : Mem) (hg : Glob m) (hs : s.length ≤ 4611686018427387904) :
    FnH Tryd.prog 8 [.v (.string (bs s))] ⟨[], []⟩ m fun r H' m' => leM m m' ∧ ROut (tokenizeL s) r H' := by
  refine enter cf7 pu7 Tryd.func8 rfl rfl (by kernel_rfl) rfl ?_ ?_
  · simp only [go_sem, ↓reduceIte, or_true, or_false, true_or, false_or, Option.some.injEq, exists_eq_left, exists_eq_left', Nat.reduceBEq, Nat.reduceAdd, Nat.reduceMul, Nat.reduceSub, Nat.reduceEqDiff, Nat.reduceLT, Nat.reduceLeDiff, Option.map, Option.bind, List.map, List.length, true_implies, true_and, and_true, Bool.and_true, Bool.true_and, Bool.or_false, Bool.false_or, Bool.not_true, Bool.not_false, Bool.and_false, Bool.false_and, List.cons_append, List.nil_append, List.append_nil, mk_eq_bs, tl_bs, List.getElem?_cons_zero, List.getElem?_cons_succ, eq_self, reduceCtorEq, implies_true, false_implies, decide_eq_true_eq, decide_eq_false_iff_not, Bool.and_eq_true, Bool.or_eq_true, Bool.not_eq_true', Bool.and_eq_false_iff, Bool.or_eq_false_iff, Bool.not_eq_false', Option.toList, SV.v.injEq, Value.int.injEq, Value.bool.injEq, Value.string.injEq, Option.getD, List.contains_cons, List.contains_nil, beq_self_eq_true, Nat.max_def, List.set, List.drop, List.take, Int.toNat_natCast, Nat.mul_one, Int.toNat_zero, List.drop_zero, Bx.mk.injEq, Vc.mk.injEq, List.cons.injEq, List.take_length, List.getElem?_nil, List.getD_cons_zero, List.getD_cons_succ, Int.reduceToNat, not_false_eq_true, Nat.le_refl]
  · simp only [go_sem, ↓reduceIte, or_true, or_false, true_or, false_or, Option.some.injEq, exists_eq_left, exists_eq_left', Nat.reduceBEq, Nat.reduceAdd, Nat.reduceMul, Nat.reduceSub, Nat.reduceEqDiff, Nat.reduceLT, Nat.reduceLeDiff, Option.map, Option.bind, List.map, List.length, true_implies, true_and, and_true, Bool.and_true, Bool.true_and, Bool.or_false, Bool.false_or, Bool.not_true, Bool.not_false, Bool.and_false, Bool.false_and, List.cons_append, List.nil_append, List.append_nil, mk_eq_bs, tl_bs, List.getElem?_cons_zero, List.getElem?_cons_succ, eq_self, reduceCtorEq, implies_true, false_implies, decide_eq_true_eq, decide_eq_false_iff_not, Bool.and_eq_true, Bool.or_eq_true, Bool.not_eq_true', Bool.and_eq_false_iff, Bool.or_eq_false_iff, Bool.not_eq_false', Option.toList, SV.v.injEq, Value.int.injEq, Value.bool.injEq, Value.string.injEq, Option.getD, List.contains_cons, List.contains_nil, beq_self_eq_true, Nat.max_def, List.set, List.drop, List.take, Int.toNat_natCast, Nat.mul_one, Int.toNat_zero, List.drop_zero, Bx.mk.injEq, Vc.mk.injEq, List.cons.injEq, List.take_length, List.getElem?_nil, List.getD_cons_zero, List.getD_cons_succ, Int.reduceToNat, not_false_eq_true, Nat.le_refl]
    refine ⟨fun h => ?_, fun h => ?_⟩
    · have e : tokenizeL s = ([], 0, 8) := if_pos (by omega)
      rw [e]
      exact .inr ⟨by decide, rfl, rfl, rfl⟩
    · refine WP_adopt 5 27 4 (by decide) rfl ?_
      have hts : tokenizeL s = lexF s (s.length + 1) 0 [] := if_neg (by omega)
      refine WP_loop pu7 (fun x : Nat × List Tk × Nat × Mem => ⟨[⟨0, [], .v (.string (bs s))⟩, ⟨5, [], .vec 1 x.2.2.1⟩, ⟨6, [], .box 0 0⟩], [], [scB s x.1], [⟨1, x.2.2.1, 27, 4, x.2.1.length, tkCells x.2.1⟩], 2, x.2.2.2⟩)
        (fun x => leM m x.2.2.2 ∧ Glob x.2.2.2 ∧ x.1 ≤ s.length ∧ x.2.1.length ≤ 5000 ∧ ∃ f, s.length - x.1 < f ∧ tokenizeL s = lexF s f x.1 x.2.1) (fun x => s.length - x.1) (0, [], 0, m) (by kernel_rfl) (fun _ _ => Nat.le_refl _) (fun x hx => hx.1) (fun _ => ?_) ?_ ?_ ?_
      · simp only [go_sem, ↓reduceIte, or_true, or_false, true_or, false_or, Option.some.injEq, exists_eq_left, exists_eq_left', Nat.reduceBEq, Nat.reduceAdd, Nat.reduceMul, Nat.reduceSub, Nat.reduceEqDiff, Nat.reduceLT, Nat.reduceLeDiff, Option.map, Option.bind, List.map, List.length, true_implies, true_and, and_true, Bool.and_true, Bool.true_and, Bool.or_false, Bool.false_or, Bool.not_true, Bool.not_false, Bool.and_false, Bool.false_and, List.cons_append, List.nil_append, List.append_nil, mk_eq_bs, tl_bs, List.getElem?_cons_zero, List.getElem?_cons_succ, eq_self, reduceCtorEq, implies_true, false_implies, decide_eq_true_eq, decide_eq_false_iff_not, Bool.and_eq_true, Bool.or_eq_true, Bool.not_eq_true', Bool.and_eq_false_iff, Bool.or_eq_false_iff, Bool.not_eq_false', Option.toList, SV.v.injEq, Value.int.injEq, Value.bool.injEq, Value.string.injEq, Option.getD, List.contains_cons, List.contains_nil, beq_self_eq_true, Nat.max_def, List.set, List.drop, List.take, Int.toNat_natCast, Nat.mul_one, Int.toNat_zero, List.drop_zero, Bx.mk.injEq, Vc.mk.injEq, List.cons.injEq, List.take_length, List.getElem?_nil, List.getD_cons_zero, List.getD_cons_succ, Int.reduceToNat, not_false_eq_true, Nat.le_refl]
      · simp only [go_sem, ↓reduceIte, or_true, or_false, true_or, false_or, Option.some.injEq, exists_eq_left, exists_eq_left', Nat.reduceBEq, Nat.reduceAdd, Nat.reduceMul, Nat.reduceSub, Nat.reduceEqDiff, Nat.reduceLT, Nat.reduceLeDiff, Option.map, Option.bind, List.map, List.length, true_implies, true_and, and_true, Bool.and_true, Bool.true_and, Bool.or_false, Bool.false_or, Bool.not_true, Bool.not_false, Bool.and_false, Bool.false_and, List.cons_append, List.nil_append, List.append_nil, mk_eq_bs, tl_bs, List.getElem?_cons_zero, List.getElem?_cons_succ, eq_self, reduceCtorEq, implies_true, false_implies, decide_eq_true_eq, decide_eq_false_iff_not, Bool.and_eq_true, Bool.or_eq_true, Bool.not_eq_true', Bool.and_eq_false_iff, Bool.or_eq_false_iff, Bool.not_eq_false', Option.toList, SV.v.injEq, Value.int.injEq, Value.bool.injEq, Value.string.injEq, Option.getD, List.contains_cons, List.contains_nil, beq_self_eq_true, Nat.max_def, List.set, List.drop, List.take, Int.toNat_natCast, Nat.mul_one, Int.toNat_zero, List.drop_zero, Bx.mk.injEq, Vc.mk.injEq, List.cons.injEq, List.take_length, List.getElem?_nil, List.getD_cons_zero, List.getD_cons_succ, Int.reduceToNat, not_false_eq_true, Nat.le_refl]
        exact ⟨rfl, rfl⟩
      · exact ⟨.inl rfl, hg, Nat.zero_le _, Nat.zero_le _, s.length + 1, by simp only; omega, hts⟩
      · rintro ⟨p, acc, u, mm⟩ ⟨h1, h2, h3, h4, f, h5, h6⟩
        simp only at h1 h2 h3 h4 h5 h6
        obtain ⟨f, rfl⟩ : ∃ g, f = g + 1 := ⟨f - 1, by omega⟩
        simp only [lexF] at h6
        have hsk := skip_le false (s.drop p)
        rw [List.length_drop] at hsk
        have hbl := blank_spec s p mm h3 (by omega)
        obtain ⟨q, hq⟩ : ∃ q, p + skipW false (s.drop p) = q := ⟨_, rfl⟩
        rw [hq] at h6 hbl
        have hqs : q ≤ s.length := by omega
        simp only [go_sem, ↓reduceIte, or_true, or_false, true_or, false_or, Option.some.injEq, exists_eq_left, exists_eq_left', Nat.reduceBEq, Nat.reduceAdd, Nat.reduceMul, Nat.reduceSub, Nat.reduceEqDiff, Nat.reduceLT, Nat.reduceLeDiff, Option.map, Option.bind, List.map, List.length, true_implies, true_and, and_true, Bool.and_true, Bool.true_and, Bool.or_false, Bool.false_or, Bool.not_true, Bool.not_false, Bool.and_false, Bool.false_and, List.cons_append, List.nil_append, List.append_nil, mk_eq_bs, tl_bs, List.getElem?_cons_zero, List.getElem?_cons_succ, eq_self, reduceCtorEq, implies_true, false_implies, decide_eq_true_eq, decide_eq_false_iff_not, Bool.and_eq_true, Bool.or_eq_true, Bool.not_eq_true', Bool.and_eq_false_iff, Bool.or_eq_false_iff, Bool.not_eq_false', Option.toList, SV.v.injEq, Value.int.injEq, Value.bool.injEq, Value.string.injEq, Option.getD, List.contains_cons, List.contains_nil, beq_self_eq_true, Nat.max_def, List.set, List.drop, List.take, Int.toNat_natCast, Nat.mul_one, Int.toNat_zero, List.drop_zero, Bx.mk.injEq, Vc.mk.injEq, List.cons.injEq, List.take_length, List.getElem?_nil, List.getD_cons_zero, List.getD_cons_succ, Int.reduceToNat, not_false_eq_true, Nat.le_refl]
        refine ⟨by kernel_rfl, FnV_of (hbl.mono ?_)⟩
        rintro r H' m' hm ⟨rfl, rfl, rfl⟩
        clear hbl
        simp only [go_sem, ↓reduceIte, or_true, or_false, true_or, false_or, Option.some.injEq, exists_eq_left, exists_eq_left', Nat.reduceBEq, Nat.reduceAdd, Nat.reduceMul, Nat.reduceSub, Nat.reduceEqDiff, Nat.reduceLT, Nat.reduceLeDiff, Option.map, Option.bind, List.map, List.length, true_implies, true_and, and_true, Bool.and_true, Bool.true_and, Bool.or_false, Bool.false_or, Bool.not_true, Bool.not_false, Bool.and_false, Bool.false_and, List.cons_append, List.nil_append, List.append_nil, mk_eq_bs, tl_bs, List.getElem?_cons_zero, List.getElem?_cons_succ, eq_self, reduceCtorEq, implies_true, false_implies, decide_eq_true_eq, decide_eq_false_iff_not, Bool.and_eq_true, Bool.or_eq_true, Bool.not_eq_true', Bool.and_eq_false_iff, Bool.or_eq_false_iff, Bool.not_eq_false', Option.toList, SV.v.injEq, Value.int.injEq, Value.bool.injEq, Value.string.injEq, Option.getD, List.contains_cons, List.contains_nil, beq_self_eq_true, Nat.max_def, List.set, List.drop, List.take, Int.toNat_natCast, Nat.mul_one, Int.toNat_zero, List.drop_zero, Bx.mk.injEq, Vc.mk.injEq, List.cons.injEq, List.take_length, List.getElem?_nil, List.getD_cons_zero, List.getD_cons_succ, Int.reduceToNat, not_false_eq_true, Nat.le_refl]
        refine ⟨fun hge => ⟨h1, ?_⟩, fun hlt => ⟨fun hmany => ⟨h1, ?_⟩, fun hfew => ⟨by kernel_rfl, FnV_of ((next_spec s q m' h2 (by omega) (by omega)).mono ?_)⟩⟩⟩
        · rw [h6, if_pos (by omega)]
          exact .inl ⟨rfl, _, _, rfl, rfl⟩
        · rw [h6, if_neg (by omega), if_pos (by omega)]
          exact .inr ⟨by decide, rfl, rfl, rfl⟩
        · rintro r H' m'' hm2 ⟨hle, t, b, qq, rfl, rfl, hN⟩
          simp only [go_sem, ↓reduceIte, or_true, or_false, true_or, false_or, Option.some.injEq, exists_eq_left, exists_eq_left', Nat.reduceBEq, Nat.reduceAdd, Nat.reduceMul, Nat.reduceSub, Nat.reduceEqDiff, Nat.reduceLT, Nat.reduceLeDiff, Option.map, Option.bind, List.map, List.length, true_implies, true_and, and_true, Bool.and_true, Bool.true_and, Bool.or_false, Bool.false_or, Bool.not_true, Bool.not_false, Bool.and_false, Bool.false_and, List.cons_append, List.nil_append, List.append_nil, mk_eq_bs, tl_bs, List.getElem?_cons_zero, List.getElem?_cons_succ, eq_self, reduceCtorEq, implies_true, false_implies, decide_eq_true_eq, decide_eq_false_iff_not, Bool.and_eq_true, Bool.or_eq_true, Bool.not_eq_true', Bool.and_eq_false_iff, Bool.or_eq_false_iff, Bool.not_eq_false', Option.toList, SV.v.injEq, Value.int.injEq, Value.bool.injEq, Value.string.injEq, Option.getD, List.contains_cons, List.contains_nil, beq_self_eq_true, Nat.max_def, List.set, List.drop, List.take, Int.toNat_natCast, Nat.mul_one, Int.toNat_zero, List.drop_zero, Bx.mk.injEq, Vc.mk.injEq, List.cons.injEq, List.take_length, List.getElem?_nil, List.getD_cons_zero, List.getD_cons_succ, Int.reduceToNat, not_false_eq_true, Nat.le_refl, Tk.sv, Tk.cells]
          have hlm : leM m m'' := leM_trans h1 hle
          refine ⟨fun hb => ⟨hlm, ?_⟩, fun hb => ⟨⟨by omega, by simp only [maxLen]; omega⟩, ?_⟩⟩
          · have ht := NOut_no (hb ▸ hN)
            rw [h6, if_neg (by omega), if_neg (by omega), ht]
            exact .inr ⟨by simp, rfl, rfl, rfl⟩
          · obtain ⟨k, tt, n, len, ht, e1, e2⟩ := NOut_yes (hb ▸ hN)
            rw [ht] at h6
            rw [if_neg (by omega), if_neg (by omega)] at h6
            have hlen := tokL_len ht
            rw [List.length_drop] at hlen
            refine ⟨(q + len, acc ++ [t], u + 1, m''), ⟨rfl, e2, ⟨rfl, by simp, tkCells_app acc t⟩, .inl rfl⟩, ⟨hlm, h2.up hle, by simp only; omega, by simp only [List.length_append, List.length_singleton]; omega, f, by simp only; omega, ?_⟩, by simp only; omega⟩
            rw [h6, e1]
end Go.Proofs.YtmkifodpkcmgoaaDoor.E

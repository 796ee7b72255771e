/- lex, part I: strings. -/
import Derived.Test.YtmkifodpkcmgoaaDoorLexH
namespace Go.Proofs.YtmkifodpkcmgoaaDoor.E
open Go

theorem elT53 : elT Tryd.prog 53 = some 5 := by kernel_rfl
theorem sz5 : szT Tryd.prog 5 = 1 := by kernel_rfl
theorem by5 : byT Tryd.prog 5 = 1 := by kernel_rfl
theorem zero5 : zeroO Tryd.prog 5 = some [.v (.int .u8 0)] := by kernel_rfl
theorem agg5 : aggN Tryd.prog 5 = some none := by kernel_rfl
attribute [go_sem] elT53 sz5 by5 zero5 agg5
/-- What stands in a string, behind its first quote: the bytes, and how long the text is. -/
def qScanF : Nat → List UInt8 → Option (List UInt8 × Nat)
  | 0, _ => none
  | _ + 1, [] => none
  | f + 1, c :: r => if c.toNat = 34 then some ([], 1) else if c.toNat < 32 ∨ 126 < c.toNat then none else
      if c.toNat = 92 then (if (escL r).2.2 = true then (qScanF f (r.drop (escL r).1)).map fun x => (UInt8.ofNat (escL r).2.1.toNat :: x.1, 1 + (escL r).1 + x.2) else none)
      else (qScanF f r).map fun x => (c :: x.1, 1 + x.2)
def qScan (l : List UInt8) : Option (List UInt8 × Nat) := qScanF (l.length + 1) l
/-- What 'quoted' answers. -/
def QOut (s : List UInt8) (p : Nat) (o : Option (List UInt8 × Nat)) (r : SV) (H' : Hp) : Prop :=
  match o with
  | some (b, n) => r = .tup [Tk.sv ⟨5, b, 0, p⟩, .v (.bool (decide (b.length ≤ 1024)))] ∧ H' = ⟨[scB s (p + 1 + n : Nat)], []⟩
  | none => ∃ t q, r = .tup [Tk.sv t, .v (.bool false)] ∧ H' = ⟨[scB s q], []⟩
theorem u8s_inj {a b : List UInt8} (h : u8s a = u8s b) : a = b := by
  induction a generalizing b with
  | nil => cases b with
    | nil => rfl
    | cons => simp [u8s] at h
  | cons x a ih => cases b with
    | nil => simp [u8s] at h
    | cons y b =>
      simp only [u8s, List.map_cons, List.cons.injEq, Value.int.injEq, true_and] at h
      have h1 : x.toNat = y.toNat := by omega
      rw [UInt8.toNat_inj.1 h1, ih h.2]
theorem u8s_app (a b : List UInt8) : u8s (a ++ b) = u8s a ++ u8s b := by simp [u8s]
theorem wrap_u8 (n : Int) : ∃ x : UInt8, IntKind.u8.wrap n = x.toNat := by
  have h : 0 ≤ IntKind.u8.wrap n ∧ IntKind.u8.wrap n < 256 := by
    have e : IntKind.u8.wrap n = n % 256 := by simp [IntKind.wrap, IntKind.bits, IntKind.signed]
    rw [e]
    omega
  exact ⟨UInt8.ofNat (IntKind.u8.wrap n).toNat, by rw [UInt8.toNat_ofNat']; omega⟩
theorem escL_byte (l : List UInt8) : ∃ x : UInt8, (escL l).2.1 = x.toNat := by
  unfold escL
  split
  · exact ⟨0, rfl⟩
  · rename_i c r
    split
    · exact ⟨c, rfl⟩
    · split
      · exact ⟨10, rfl⟩
      · split
        · split
          · exact wrap_u8 _
          · exact ⟨0, rfl⟩
        · exact ⟨0, rfl⟩
theorem escL_len (l : List UInt8) : (escL l).1 ≤ l.length ∧ ((escL l).2.2 = true → 1 ≤ (escL l).1) := by
  unfold escL
  split
  · simp
  · rename_i c r
    split
    · simp
    · split
      · simp
      · split
        · split
          · simp
          · simp
        · simp
set_option maxHeartbeats 4000000 in
set_option maxRecDepth 20000 in
theorem quoted_spec (s : List UInt8) (p : Nat) (m : Mem) (hp : p < s.length) (hs : s.length ≤ 1000000) :
    FnH Tryd.prog 45 [.box 0 0] ⟨[scB s p], []⟩ m fun r H' m' => m' = m ∧ QOut s p (qScan (s.drop (p + 1))) r H' := by
  refine enter cf7 pu7 Tryd.func45 rfl rfl (by kernel_rfl) rfl ?_ ?_
  · simp only [go_sem, ↓reduceIte, or_true, or_false, true_or, false_or, Option.some.injEq, exists_eq_left, exists_eq_left', Nat.reduceBEq, Nat.reduceAdd, Nat.reduceMul, Nat.reduceSub, Nat.reduceEqDiff, Nat.reduceLT, Nat.reduceLeDiff, Option.map, Option.bind, List.map, List.length, true_implies, true_and, and_true, Bool.and_true, Bool.true_and, Bool.or_false, Bool.false_or, Bool.not_true, Bool.not_false, Bool.and_false, Bool.false_and, List.cons_append, List.nil_append, List.append_nil, mk_eq_bs, tl_bs, List.getElem?_cons_zero, List.getElem?_cons_succ, eq_self, reduceCtorEq, implies_true, false_implies, decide_eq_true_eq, decide_eq_false_iff_not, Bool.and_eq_true, Bool.or_eq_true, Bool.not_eq_true', Bool.and_eq_false_iff, Bool.or_eq_false_iff, Bool.not_eq_false', Option.toList, SV.v.injEq, Value.int.injEq, Value.bool.injEq, Value.string.injEq, Option.getD, List.contains_cons, List.contains_nil, beq_self_eq_true, Nat.max_def, List.set, List.drop, List.take, Int.toNat_natCast, Nat.mul_one, Int.toNat_zero, List.drop_zero, Bx.mk.injEq, Vc.mk.injEq, List.cons.injEq, List.take_length, List.getElem?_nil, List.getD_cons_zero, List.getD_cons_succ, Int.reduceToNat, not_false_eq_true, Nat.le_refl]
  · simp only [go_sem, ↓reduceIte, or_true, or_false, true_or, false_or, Option.some.injEq, exists_eq_left, exists_eq_left', Nat.reduceBEq, Nat.reduceAdd, Nat.reduceMul, Nat.reduceSub, Nat.reduceEqDiff, Nat.reduceLT, Nat.reduceLeDiff, Option.map, Option.bind, List.map, List.length, true_implies, true_and, and_true, Bool.and_true, Bool.true_and, Bool.or_false, Bool.false_or, Bool.not_true, Bool.not_false, Bool.and_false, Bool.false_and, List.cons_append, List.nil_append, List.append_nil, mk_eq_bs, tl_bs, List.getElem?_cons_zero, List.getElem?_cons_succ, eq_self, reduceCtorEq, implies_true, false_implies, decide_eq_true_eq, decide_eq_false_iff_not, Bool.and_eq_true, Bool.or_eq_true, Bool.not_eq_true', Bool.and_eq_false_iff, Bool.or_eq_false_iff, Bool.not_eq_false', Option.toList, SV.v.injEq, Value.int.injEq, Value.bool.injEq, Value.string.injEq, Option.getD, List.contains_cons, List.contains_nil, beq_self_eq_true, Nat.max_def, List.set, List.drop, List.take, Int.toNat_natCast, Nat.mul_one, Int.toNat_zero, List.drop_zero, Bx.mk.injEq, Vc.mk.injEq, List.cons.injEq, List.take_length, List.getElem?_nil, List.getD_cons_zero, List.getD_cons_succ, Int.reduceToNat, not_false_eq_true, Nat.le_refl]
    refine WP_scope0 pu7 (by kernel_rfl) ?_
    simp only [go_sem, ↓reduceIte, or_true, or_false, true_or, false_or, Option.some.injEq, exists_eq_left, exists_eq_left', Nat.reduceBEq, Nat.reduceAdd, Nat.reduceMul, Nat.reduceSub, Nat.reduceEqDiff, Nat.reduceLT, Nat.reduceLeDiff, Option.map, Option.bind, List.map, List.length, true_implies, true_and, and_true, Bool.and_true, Bool.true_and, Bool.or_false, Bool.false_or, Bool.not_true, Bool.not_false, Bool.and_false, Bool.false_and, List.cons_append, List.nil_append, List.append_nil, mk_eq_bs, tl_bs, List.getElem?_cons_zero, List.getElem?_cons_succ, eq_self, reduceCtorEq, implies_true, false_implies, decide_eq_true_eq, decide_eq_false_iff_not, Bool.and_eq_true, Bool.or_eq_true, Bool.not_eq_true', Bool.and_eq_false_iff, Bool.or_eq_false_iff, Bool.not_eq_false', Option.toList, SV.v.injEq, Value.int.injEq, Value.bool.injEq, Value.string.injEq, Option.getD, List.contains_cons, List.contains_nil, beq_self_eq_true, Nat.max_def, List.set, List.drop, List.take, Int.toNat_natCast, Nat.mul_one, Int.toNat_zero, List.drop_zero, Bx.mk.injEq, Vc.mk.injEq, List.cons.injEq, List.take_length, List.getElem?_nil, List.getD_cons_zero, List.getD_cons_succ, Int.reduceToNat, not_false_eq_true, Nat.le_refl]
    refine ⟨by unfold I64; omega, ?_⟩
    refine WP_adopt 5 5 1 (by decide) rfl ?_
    refine WP_loop pu7 (fun x : Nat × List UInt8 × Nat => ⟨[⟨0, [], .box 0 0⟩, ⟨2, [], .box 1 0⟩, ⟨4, [], .box 2 0⟩, ⟨5, [], .vec 3 x.2.2⟩], [], [⟨2, 27, Tk.cells ⟨5, [], 0, p⟩⟩, ⟨1, 27, Tk0.cells⟩, scB s x.1], [⟨3, x.2.2, 5, 1, x.2.1.length, u8s x.2.1⟩], 4, m⟩)
      (fun x => p + 1 ≤ x.1 ∧ x.1 ≤ s.length ∧ x.2.1.length ≤ x.1 ∧ ∃ f, s.length - x.1 < f ∧ qScan (s.drop (p + 1)) = (qScanF f (s.drop x.1)).map fun y => (x.2.1 ++ y.1, x.1 - (p + 1) + y.2)) (fun x => s.length - x.1) (p + 1, [], 0) (by kernel_rfl) (fun _ _ => by first | omega | (simp only; omega)) (fun _ _ => .inl rfl) (fun _ => ?_) ?_ ?_ ?_
    · simp only [go_sem, ↓reduceIte, or_true, or_false, true_or, false_or, Option.some.injEq, exists_eq_left, exists_eq_left', Nat.reduceBEq, Nat.reduceAdd, Nat.reduceMul, Nat.reduceSub, Nat.reduceEqDiff, Nat.reduceLT, Nat.reduceLeDiff, Option.map, Option.bind, List.map, List.length, true_implies, true_and, and_true, Bool.and_true, Bool.true_and, Bool.or_false, Bool.false_or, Bool.not_true, Bool.not_false, Bool.and_false, Bool.false_and, List.cons_append, List.nil_append, List.append_nil, mk_eq_bs, tl_bs, List.getElem?_cons_zero, List.getElem?_cons_succ, eq_self, reduceCtorEq, implies_true, false_implies, decide_eq_true_eq, decide_eq_false_iff_not, Bool.and_eq_true, Bool.or_eq_true, Bool.not_eq_true', Bool.and_eq_false_iff, Bool.or_eq_false_iff, Bool.not_eq_false', Option.toList, SV.v.injEq, Value.int.injEq, Value.bool.injEq, Value.string.injEq, Option.getD, List.contains_cons, List.contains_nil, beq_self_eq_true, Nat.max_def, List.set, List.drop, List.take, Int.toNat_natCast, Nat.mul_one, Int.toNat_zero, List.drop_zero, Bx.mk.injEq, Vc.mk.injEq, List.cons.injEq, List.take_length, List.getElem?_nil, List.getD_cons_zero, List.getD_cons_succ, Int.reduceToNat, not_false_eq_true, Nat.le_refl]
    · simp only [go_sem, ↓reduceIte, or_true, or_false, true_or, false_or, Option.some.injEq, exists_eq_left, exists_eq_left', Nat.reduceBEq, Nat.reduceAdd, Nat.reduceMul, Nat.reduceSub, Nat.reduceEqDiff, Nat.reduceLT, Nat.reduceLeDiff, Option.map, Option.bind, List.map, List.length, true_implies, true_and, and_true, Bool.and_true, Bool.true_and, Bool.or_false, Bool.false_or, Bool.not_true, Bool.not_false, Bool.and_false, Bool.false_and, List.cons_append, List.nil_append, List.append_nil, mk_eq_bs, tl_bs, List.getElem?_cons_zero, List.getElem?_cons_succ, eq_self, reduceCtorEq, implies_true, false_implies, decide_eq_true_eq, decide_eq_false_iff_not, Bool.and_eq_true, Bool.or_eq_true, Bool.not_eq_true', Bool.and_eq_false_iff, Bool.or_eq_false_iff, Bool.not_eq_false', Option.toList, SV.v.injEq, Value.int.injEq, Value.bool.injEq, Value.string.injEq, Option.getD, List.contains_cons, List.contains_nil, beq_self_eq_true, Nat.max_def, List.set, List.drop, List.take, Int.toNat_natCast, Nat.mul_one, Int.toNat_zero, List.drop_zero, Bx.mk.injEq, Vc.mk.injEq, List.cons.injEq, List.take_length, List.getElem?_nil, List.getD_cons_zero, List.getD_cons_succ, Int.reduceToNat, not_false_eq_true, Nat.le_refl]
      exact ⟨rfl, rfl⟩
    · refine ⟨Nat.le_refl _, hp, Nat.zero_le _, (s.drop (p + 1)).length + 1, by rw [List.length_drop]; omega, ?_⟩
      show qScan _ = (qScan _).map _
      cases qScan (s.drop (p + 1)) with
      | none => rfl
      | some x => simp
    · rintro ⟨q, b, v⟩ ⟨h1, h2, h3, f, hf, hq⟩
      simp only at h1 h2 h3 hf hq
      obtain ⟨f, rfl⟩ : ∃ g, f = g + 1 := ⟨f - 1, by omega⟩
      simp only [go_sem, ↓reduceIte, or_true, or_false, true_or, false_or, Option.some.injEq, exists_eq_left, exists_eq_left', Nat.reduceBEq, Nat.reduceAdd, Nat.reduceMul, Nat.reduceSub, Nat.reduceEqDiff, Nat.reduceLT, Nat.reduceLeDiff, Option.map, Option.bind, List.map, List.length, true_implies, true_and, and_true, Bool.and_true, Bool.true_and, Bool.or_false, Bool.false_or, Bool.not_true, Bool.not_false, Bool.and_false, Bool.false_and, List.cons_append, List.nil_append, List.append_nil, mk_eq_bs, tl_bs, List.getElem?_cons_zero, List.getElem?_cons_succ, eq_self, reduceCtorEq, implies_true, false_implies, decide_eq_true_eq, decide_eq_false_iff_not, Bool.and_eq_true, Bool.or_eq_true, Bool.not_eq_true', Bool.and_eq_false_iff, Bool.or_eq_false_iff, Bool.not_eq_false', Option.toList, SV.v.injEq, Value.int.injEq, Value.bool.injEq, Value.string.injEq, Option.getD, List.contains_cons, List.contains_nil, beq_self_eq_true, Nat.max_def, List.set, List.drop, List.take, Int.toNat_natCast, Nat.mul_one, Int.toNat_zero, List.drop_zero, Bx.mk.injEq, Vc.mk.injEq, List.cons.injEq, List.take_length, List.getElem?_nil, List.getD_cons_zero, List.getD_cons_succ, Int.reduceToNat, not_false_eq_true, Nat.le_refl]
      refine WP_drawQ pu7 (by kernel_rfl) (by kernel_rfl) (by kernel_rfl) ?_
      simp only [go_sem, ↓reduceIte, or_true, or_false, true_or, false_or, Option.some.injEq, exists_eq_left, exists_eq_left', Nat.reduceBEq, Nat.reduceAdd, Nat.reduceMul, Nat.reduceSub, Nat.reduceEqDiff, Nat.reduceLT, Nat.reduceLeDiff, Option.map, Option.bind, List.map, List.length, true_implies, true_and, and_true, Bool.and_true, Bool.true_and, Bool.or_false, Bool.false_or, Bool.not_true, Bool.not_false, Bool.and_false, Bool.false_and, List.cons_append, List.nil_append, List.append_nil, mk_eq_bs, tl_bs, List.getElem?_cons_zero, List.getElem?_cons_succ, eq_self, reduceCtorEq, implies_true, false_implies, decide_eq_true_eq, decide_eq_false_iff_not, Bool.and_eq_true, Bool.or_eq_true, Bool.not_eq_true', Bool.and_eq_false_iff, Bool.or_eq_false_iff, Bool.not_eq_false', Option.toList, SV.v.injEq, Value.int.injEq, Value.bool.injEq, Value.string.injEq, Option.getD, List.contains_cons, List.contains_nil, beq_self_eq_true, Nat.max_def, List.set, List.drop, List.take, Int.toNat_natCast, Nat.mul_one, Int.toNat_zero, List.drop_zero, Bx.mk.injEq, Vc.mk.injEq, List.cons.injEq, List.take_length, List.getElem?_nil, List.getD_cons_zero, List.getD_cons_succ, Int.reduceToNat, not_false_eq_true, Nat.le_refl]
      refine ⟨fun hge => ?_, fun hlt => ?_⟩
      · have e : s.drop q = [] := List.drop_of_length_le (by omega)
        rw [e] at hq
        have hq' : qScan (s.drop (p + 1)) = none := hq
        rw [hq']
        exact ⟨⟨5, [], 0, p⟩, _, rfl, rfl⟩
      · have hql : q < s.length := by omega
        rw [drop_at hql] at hq
        simp only [qScanF] at hq
        refine WP_drawQ pu7 (by kernel_rfl) (by kernel_rfl) (by kernel_rfl) ?_
        simp only [go_sem, ↓reduceIte, or_true, or_false, true_or, false_or, Option.some.injEq, exists_eq_left, exists_eq_left', Nat.reduceBEq, Nat.reduceAdd, Nat.reduceMul, Nat.reduceSub, Nat.reduceEqDiff, Nat.reduceLT, Nat.reduceLeDiff, Option.map, Option.bind, List.map, List.length, true_implies, true_and, and_true, Bool.and_true, Bool.true_and, Bool.or_false, Bool.false_or, Bool.not_true, Bool.not_false, Bool.and_false, Bool.false_and, List.cons_append, List.nil_append, List.append_nil, mk_eq_bs, tl_bs, List.getElem?_cons_zero, List.getElem?_cons_succ, eq_self, reduceCtorEq, implies_true, false_implies, decide_eq_true_eq, decide_eq_false_iff_not, Bool.and_eq_true, Bool.or_eq_true, Bool.not_eq_true', Bool.and_eq_false_iff, Bool.or_eq_false_iff, Bool.not_eq_false', Option.toList, SV.v.injEq, Value.int.injEq, Value.bool.injEq, Value.string.injEq, Option.getD, List.contains_cons, List.contains_nil, beq_self_eq_true, Nat.max_def, List.set, List.drop, List.take, Int.toNat_natCast, Nat.mul_one, Int.toNat_zero, List.drop_zero, Bx.mk.injEq, Vc.mk.injEq, List.cons.injEq, List.take_length, List.getElem?_nil, List.getD_cons_zero, List.getD_cons_succ, Int.reduceToNat, not_false_eq_true, Nat.le_refl]
        refine ⟨⟨by omega, by omega⟩, by unfold I64; omega, fun h34 => ?_, fun h34 => ?_⟩
        · rw [if_pos (by omega)] at hq
          refine ⟨b, rfl, ?_⟩
          rw [hq]
          refine ⟨?_, ?_⟩
          · have : decide ((b.length : Int) ≤ 1024) = decide ((b ++ []).length ≤ 1024) := by rw [List.append_nil, decide_eq_decide]; omega
            rw [this, List.append_nil]
          · have : ((p + 1 + (q - (p + 1) + 1) : Nat) : Int) = q + 1 := by omega
            simp only [this]
        · rw [if_neg (by omega)] at hq
          refine ⟨fun hbad => ?_, fun hbad => ⟨fun h92 => ⟨by kernel_rfl, ?_⟩, fun h92 => ?_⟩⟩
          · rw [if_pos (by omega)] at hq
            have hq' : qScan (s.drop (p + 1)) = none := hq
            rw [hq']
            exact ⟨⟨5, [], 0, p⟩, _, rfl, rfl⟩
          · rw [if_neg (by omega), if_pos (by omega)] at hq
            have hsp := escape_spec s (q + 1) m (by omega) hs
            refine FnV_of (hsp.mono ?_)
            rintro r H' m' hm ⟨rfl, rfl, rfl⟩
            simp only [go_sem, ↓reduceIte, or_true, or_false, true_or, false_or, Option.some.injEq, exists_eq_left, exists_eq_left', Nat.reduceBEq, Nat.reduceAdd, Nat.reduceMul, Nat.reduceSub, Nat.reduceEqDiff, Nat.reduceLT, Nat.reduceLeDiff, Option.map, Option.bind, List.map, List.length, true_implies, true_and, and_true, Bool.and_true, Bool.true_and, Bool.or_false, Bool.false_or, Bool.not_true, Bool.not_false, Bool.and_false, Bool.false_and, List.cons_append, List.nil_append, List.append_nil, mk_eq_bs, tl_bs, List.getElem?_cons_zero, List.getElem?_cons_succ, eq_self, reduceCtorEq, implies_true, false_implies, decide_eq_true_eq, decide_eq_false_iff_not, Bool.and_eq_true, Bool.or_eq_true, Bool.not_eq_true', Bool.and_eq_false_iff, Bool.or_eq_false_iff, Bool.not_eq_false', Option.toList, SV.v.injEq, Value.int.injEq, Value.bool.injEq, Value.string.injEq, Option.getD, List.contains_cons, List.contains_nil, beq_self_eq_true, Nat.max_def, List.set, List.drop, List.take, Int.toNat_natCast, Nat.mul_one, Int.toNat_zero, List.drop_zero, Bx.mk.injEq, Vc.mk.injEq, List.cons.injEq, List.take_length, List.getElem?_nil, List.getD_cons_zero, List.getD_cons_succ, Int.reduceToNat, not_false_eq_true, Nat.le_refl]
            obtain ⟨hl1, hl2⟩ := escL_len (s.drop (q + 1))
            obtain ⟨x, hx⟩ := escL_byte (s.drop (q + 1))
            rw [hx] at hq ⊢
            rw [List.length_drop] at hl1
            rw [List.drop_drop] at hq
            generalize (escL (s.drop (q + 1))).1 = a at hq hl1 hl2 ⊢
            generalize (escL (s.drop (q + 1))).2.2 = k at hq hl2 ⊢
            have ex : UInt8.ofNat ((x.toNat : Int)).toNat = x := by rw [Int.toNat_natCast]; simp
            rw [ex] at hq
            refine ⟨fun hk => ?_, fun hk => ?_⟩
            · subst hk
              have hq' : qScan (s.drop (p + 1)) = none := hq
              rw [hq']
              exact ⟨⟨5, [], 0, p⟩, _, rfl, rfl⟩
            · subst hk
              have ha := hl2 rfl
              have hsnoc : u8s b ++ [Value.int .u8 (x.toNat : Int)] = u8s (b ++ [x]) := by rw [u8s_app]; rfl
              refine ⟨⟨by omega, by simp only [maxLen]; omega⟩, (q + 1 + a, b ++ [x], v + 1), ⟨rfl, rfl, rfl, by simp, hsnoc⟩, ⟨by first | omega | (simp only; omega), by first | omega | (simp only; omega), by simp only [List.length_append, List.length_singleton]; omega, f, by first | omega | (simp only; omega), ?_⟩, by first | omega | (simp only; omega)⟩
              rw [hq, if_pos rfl]
              cases qScanF f (s.drop (q + 1 + a)) with
              | none => rfl
              | some x =>
                have : q - (p + 1) + (1 + a + x.2) = q + 1 + a - (p + 1) + x.2 := by omega
                simp [this]
          · rw [if_neg (by omega), if_neg (by omega)] at hq
            have hsnoc : u8s b ++ [Value.int .u8 ((s.getD q 0).toNat : Int)] = u8s (b ++ [s.getD q 0]) := by rw [u8s_app]; rfl
            refine ⟨⟨by omega, by simp only [maxLen]; omega⟩, (q + 1, b ++ [s.getD q 0], v + 1), ⟨rfl, rfl, rfl, by simp, hsnoc⟩, ⟨by first | omega | (simp only; omega), by first | omega | (simp only; omega), by simp only [List.length_append, List.length_singleton]; omega, f, by first | omega | (simp only; omega), ?_⟩, by first | omega | (simp only; omega)⟩
            rw [hq]
            cases qScanF f (s.drop (q + 1)) with
            | none => rfl
            | some x =>
              have : q - (p + 1) + (1 + x.2) = q + 1 - (p + 1) + x.2 := by omega
              simp [this]
end Go.Proofs.YtmkifodpkcmgoaaDoor.E

/- Several texts in one: LexF, LexG, LexH, LexI, LexJ, LexK, LexL, LexM. -/
import Derived.Test.YtmkifodpkcmgoaaDoorMrgD
import Derived.Test.YtmkifodpkcmgoaaDoorMrgS
import Derived.Test.YtmkifodpkcmgoaaDoorMrgC
/- lex, part F: what is called of Go's library. -/
set_option linter.unusedSimpArgs false
set_option linter.unusedVariables false
namespace Go.Proofs.YtmkifodpkcmgoaaDoor.E
open Go Go.RowKit

/-- A call that leaves all that was there as it was. -/
theorem FnH_of {P : Program} {f : FuncId} {args : List Value} {m : Mem} {R : Value → Prop} (h : ∀ w D, Wf w D → m.le ⟨w, D⟩ → Calls P f ⟨args⟩ w fun e w' => ∃ y, e = .returned y ∧ R y ∧ Below w.heap.size w w') :
    FnH P f (args.map SV.v) ⟨[], []⟩ m fun r H' m' => (∃ y, r = .v y ∧ R y) ∧ H' = ⟨[], []⟩ ∧ m' = m := by
  intro V w D hwf hle hH
  have ha : (args.map SV.v).map (den V) = args := by rw [List.map_map]; exact List.map_id'' (fun _ => rfl) args
  rw [ha]
  refine (h w D hwf hle).mono ?_
  rintro e w' ⟨y, rfl, hy, hb⟩
  have hlt : ∀ b, 0 < D b → b < w.heap.size := fun b hb => by
    rcases Nat.lt_or_ge b w.heap.size with h | h
    · exact h
    · have := hwf b h; omega
  have hle' : Mem.le ⟨w, D⟩ ⟨w', D⟩ := fun b => ⟨Nat.le_refl _, fun h0 => ⟨hlt b h0, keepObj_same (hb.block b (hlt b h0))⟩⟩
  exact ⟨.v y, V, D, ⟨[], []⟩, m, rfl, fun b hb' => hwf b (Nat.le_trans hb.size hb'), ⟨fun b hb => (by cases hb), fun b hb => (by cases hb), by simp [blks], by simp⟩, fun b hb => (by cases hb), fun b hb => (by cases hb),
    ⟨hb.os, hb.tape, hb.output, hb.size, fun b hb' _ => ⟨hb.block b hb', rfl⟩⟩, fun b hb => (by simp [blks] at hb), hle', fun b => ⟨Nat.le_refl _, fun h => ⟨((hle b).2 h).1, keepObj_same rfl⟩⟩, Mem.le_trans hle hle', ⟨y, rfl, hy⟩, rfl, rfl⟩

/-- What the library's variables hold. -/
def Glob (m : Mem) : Prop := ∀ w D, m.le ⟨w, D⟩ → (∃ k, w.cell? ⟨0, 0, none⟩ = some (.int .i64 k)) ∧ (∃ t p, w.cell? ⟨4, 0, none⟩ = some (.iface t p)) ∧ (∃ t p, w.cell? ⟨5, 0, none⟩ = some (.iface t p)) ∧
  Lib.TabIs Tryd.prog w "internal/strconv.uint64pow10" .u64 Lib.pow10Tab
theorem Glob.up {m m' : Mem} (h : Glob m) (hm : m.le m') : Glob m' := fun w D hw => h w D (Mem.le_trans hm hw)

theorem tl_size (b : ByteArray) : (tl b).length = b.size := by simp [tl]
theorem bs_size (l : List UInt8) : (bs l).size = l.length := by rw [← tl_size, tl_bs]
theorem replace_spec (s old new : List UInt8) (m : Mem) (hg : Glob m) (hs : s.length ≤ 2147483648) (ho : 1 ≤ old.length) (hn : new.length ≤ 16) :
    FnH Tryd.prog 27 [.v (.string (bs s)), .v (.string (bs old)), .v (.string (bs new))] ⟨[], []⟩ m fun r H' m' => (r = .v (.string (bs (Lib.replaceAll s old new)))) ∧ H' = ⟨[], []⟩ ∧ m' = m := by
  refine (FnH_of (args := [.string (bs s), .string (bs old), .string (bs new)]) (R := fun y => y = .string (bs (Lib.replaceAll s old new))) fun w D hwf hle => ?_).mono ?_
  · obtain ⟨k, hk⟩ := (hg w D hle).1
    have hc := Lib.countB_mul_le (bs old) (by rw [bs_size]; exact ho) s.length (bs s) (by rw [bs_size]; omega)
    have h1 : Lib.countB (bs s) (bs old) ≤ s.length := by
      rw [bs_size] at hc
      exact Nat.le_trans (Nat.le_mul_of_pos_right _ ho) hc
    have h2 : Lib.countB (bs s) (bs old) * (bs new).size ≤ s.length * 16 := by rw [bs_size]; exact Nat.mul_le_mul h1 hn
    refine (Tryd.strings_ReplaceAll (bs s) (bs old) (bs new) k w (by rw [bs_size]; omega) hk (by rw [bs_size]; exact ho) (by rw [bs_size s]; omega)).mono ?_
    rintro e w' ⟨rfl, hb⟩
    exact ⟨_, rfl, by rw [← mk_eq_bs]; rfl, hb⟩
  · rintro r H' m' hm ⟨⟨y, rfl, rfl⟩, h1, h2⟩
    exact ⟨rfl, h1, h2⟩
theorem indexByte_spec (s : List UInt8) (c : Int) (m : Mem) : FnH Tryd.prog 40 [.v (.string (bs s)), .v (.int .u8 c)] ⟨[], []⟩ m fun r H' _ => r = .v (.int .i64 (Lib.indexByte s c.toNat.toUInt8)) ∧ H' = ⟨[], []⟩ := by
  refine (FnH_of (args := [.string (bs s), .int .u8 c]) (R := fun y => y = .int .i64 (Lib.indexByte s c.toNat.toUInt8)) fun w D hwf hle => ?_).mono ?_
  · refine (Tryd.strings_IndexByte (bs s) c w).mono ?_
    rintro e w' ⟨rfl, rfl⟩
    exact ⟨_, rfl, rfl, Below.refl _ _⟩
  · rintro r H' m' hm ⟨⟨y, rfl, rfl⟩, h1, h2⟩
    exact ⟨rfl, h1⟩
theorem itoa_spec (n : Int) (m : Mem) (hg : Glob m) (hn : I64 n) : FnH Tryd.prog 29 [.v (.int .i64 n)] ⟨[], []⟩ m fun r H' m' => r = .v (.string (bs (Lib.itoa n))) ∧ H' = ⟨[], []⟩ ∧ m' = m := by
  refine (FnH_of (args := [.int .i64 n]) (R := fun y => y = .string (bs (Lib.itoa n))) fun w D hwf hle => ?_).mono ?_
  · refine (Tryd.strconv_Itoa n hn.1 hn.2 w (hg w D hle).2.2.2).mono ?_
    rintro e w' ⟨rfl, k, os, rfl⟩
    refine ⟨_, rfl, rfl, ?_⟩
    have h2 : Below w.heap.size w (w.drewN k) := (Below.refl _ _).trans ⟨rfl, rfl, rfl, Nat.le_refl _, fun _ _ => rfl⟩
    refine ⟨h2.os, h2.tape, h2.output, ?_, fun j hj => ?_⟩
    · show _ ≤ (_ ++ os).size
      rw [Array.size_append]
      exact Nat.le_trans h2.size (Nat.le_add_right _ _)
    · show ((w.drewN k).heap ++ os)[j]? = _
      rw [Array.getElem?_append_left (Nat.lt_of_lt_of_le hj h2.size)]
      exact h2.block j hj
  · rintro r H' m' hm ⟨⟨y, rfl, rfl⟩, h1, h2⟩
    exact ⟨rfl, h1, h2⟩
/-- What ParseInt answers: the number, and is there no error. -/
def parseN (s : List UInt8) : Int × Bool :=
  match Lib.parseIntB 64 s with
  | .ok v => (v, true)
  | .range => (Lib.intSat 64 s, false)
  | _ => (0, false)
theorem parseInt_spec (s : List UInt8) (m : Mem) (hg : Glob m) (hs : s.length ≤ 2147483648) :
    FnH Tryd.prog 69 [.v (.string (bs s)), .v (.int .i64 10), .v (.int .i64 64)] ⟨[], []⟩ m fun r H' m' => (∃ e, r = .v (.tuple ⟨[.int .i64 (parseN s).1, e]⟩) ∧ ifV e ∧ isNilV e = (parseN s).2) ∧ H' = ⟨[], []⟩ ∧ m' = m := by
  refine (FnH_of (args := [.string (bs s), .int .i64 10, .int .i64 64]) (R := fun y => ∃ e, y = .tuple ⟨[.int .i64 (parseN s).1, e]⟩ ∧ ifV e ∧ isNilV e = (parseN s).2) fun w D hwf hle => ?_).mono ?_
  · have hsz := bs_size s
    obtain ⟨_, ⟨t4, p4, h4⟩, ⟨t5, p5, h5⟩, _⟩ := hg w D hle
    cases hp : Lib.parseIntB 64 s with
    | ok v =>
      refine (Tryd.strconv_ParseInt_10_at64_ok (bs s) (by omega) v hp w).mono ?_
      rintro e w' ⟨rfl, hw⟩
      refine ⟨_, rfl, ⟨.nilIface, by simp [parseN, hp], .inl rfl, by simp [parseN, hp, isNilV]⟩, ?_⟩
      rcases hw with rfl | ⟨t, rfl⟩
      · exact Below.refl _ _
      · exact Lib.bytesWorld_below _ _ _
    | range =>
      have hts : (bs s).data.toList = s := tl_bs s
      refine (Tryd.strconv_ParseInt_10_at64_range (bs s) (by omega) hp _ w h5 (.inr ⟨_, _, rfl⟩)).mono ?_
      rintro e w' ⟨N, rfl, _, _, hb⟩
      exact ⟨_, rfl, ⟨.iface 96 (.pointer (some ⟨N, 0, none⟩)), by simp [parseN, hp, hts], .inr ⟨_, _, rfl⟩, by simp [parseN, hp, isNilV]⟩, hb⟩
    | _ =>
      refine (Tryd.strconv_ParseInt_10_at64_bad (bs s) (by omega) (by rw [show (bs s).data.toList = s from tl_bs s, hp]; intro v e; cases e) (by rw [show (bs s).data.toList = s from tl_bs s, hp]; intro e; cases e) _ w h4 (.inr ⟨_, _, rfl⟩)).mono ?_
      rintro e w' ⟨N, rfl, _, _, hb⟩
      exact ⟨_, rfl, ⟨.iface 96 (.pointer (some ⟨N, 0, none⟩)), by simp [parseN, hp], .inr ⟨_, _, rfl⟩, by simp [parseN, hp, isNilV]⟩, hb⟩
  · rintro r H' m' hm ⟨⟨y, rfl, e, rfl, h3⟩, h1, h2⟩
    exact ⟨⟨e, rfl, h3⟩, h1, h2⟩
theorem join_spec (l : List (List UInt8)) (sep : List UInt8) (a : Option Addr) (n c : Nat) (m : Mem) (h : Rds m a n 1 (strs l)) (hc : n ≤ c) (hn : n ≤ 1000000) (hlen : (Lib.join l sep).length ≤ 1000000000000) :
    FnH Tryd.prog 25 [.v (.slice a n c), .v (.string (bs sep))] ⟨[], []⟩ m fun r H' m' => r = .v (.string (bs (Lib.join l sep))) ∧ H' = ⟨[], []⟩ ∧ m' = m := by
  have hl : l.length = n := by have := h.1; simpa [strs] using this
  refine (FnH_of (args := [.slice a n c, .string (bs sep)]) (R := fun y => y = .string (bs (Lib.join l sep))) fun w D hwf hle => ?_).mono ?_
  · rcases Nat.eq_zero_or_pos n with h0 | h0
    · subst h0
      have : l = [] := List.eq_nil_of_length_eq_zero hl
      subst this
      refine (Tryd.strings_Join_none a c (bs sep) w).mono ?_
      rintro e w' ⟨rfl, rfl⟩
      exact ⟨_, rfl, rfl, Below.refl _ _⟩
    · obtain ⟨ad, rfl, hsp, _⟩ := h.2 h0
      obtain ⟨ad', e, hc'⟩ := Rds_at hle h h0
      cases e
      obtain ⟨bk, o, sp⟩ := ad
      simp only at hsp
      subst hsp
      have e1 : (l.map bs).map (·.data.toList) = l := by
        rw [List.map_map]
        exact List.map_id'' (fun x => tl_bs x) l
      have e2 : (bs sep).data.toList = sep := tl_bs sep
      have hcell : ∀ (j : Nat) x, (l.map bs)[j]? = some x → w.cell? ⟨bk, o + j, none⟩ = some (.string x) := fun j x hx => by
        have := hc' j (.string x) (by simp only [strs, List.getElem?_map] at hx ⊢; rw [Option.map_eq_some_iff] at hx ⊢; obtain ⟨y, hy, rfl⟩ := hx; exact ⟨y, hy, rfl⟩)
        rwa [add_off] at this
      have hb : bk < w.heap.size := by
        have h1 := hcell 0 (bs (l[0]'(by omega))) (by simp [h0, hl])
        rcases Nat.lt_or_ge bk w.heap.size with h2 | h2
        · exact h2
        · simp [World.cell?, Array.getElem?_eq_none h2] at h1
      have := Tryd.strings_Join bk o c (l.map bs) (bs sep) w hcell hb (by rw [List.length_map]; omega) (by rw [List.length_map]; omega) (by rw [e1, e2]; omega)
      rw [List.length_map, hl, e1, e2] at this
      refine this.mono ?_
      rintro e w' ⟨rfl, hw⟩
      exact ⟨_, rfl, rfl, hw⟩
  · rintro r H' m' hm ⟨⟨y, rfl, rfl⟩, h1, h2⟩
    exact ⟨rfl, h1, h2⟩
end Go.Proofs.YtmkifodpkcmgoaaDoor.E

/- lex, part G: the scanner: white space. -/
set_option linter.unusedSimpArgs false
set_option linter.unusedVariables false
namespace Go.Proofs.YtmkifodpkcmgoaaDoor.E
open Go

/-- How many bytes are skipped ('true': inside of a comment). -/
def skipW : Bool → List UInt8 → Nat
  | _, [] => 0
  | true, c :: r => if c.toNat = 10 then 1 + skipW false r else 1 + skipW true r
  | false, c :: r => if c.toNat = 9 ∨ c.toNat = 10 ∨ c.toNat = 13 ∨ c.toNat = 32 then 1 + skipW false r else if c.toNat = 47 ∧ r.head?.map UInt8.toNat = some 47 then 1 + skipW true r else 0
theorem skip_le : ∀ (b : Bool) (l : List UInt8), skipW b l ≤ l.length
  | _, [] => by simp [skipW]
  | true, c :: r => by
    have h1 := skip_le false r; have h2 := skip_le true r
    simp only [skipW, List.length_cons]; split <;> omega
  | false, c :: r => by
    have h1 := skip_le false r; have h2 := skip_le true r
    simp only [skipW, List.length_cons]; split
    · omega
    · split <;> omega
theorem hasPre_iff {a b : List UInt8} : hasPre a b = true ↔ ∃ r, a = b ++ r := by
  simp only [hasPre, Bool.and_eq_true, decide_eq_true_eq]
  constructor
  · rintro ⟨_, h⟩
    exact ⟨a.drop b.length, by conv => lhs; rw [← List.take_append_drop b.length a, h]⟩
  · rintro ⟨r, rfl⟩
    exact ⟨by rw [List.length_append]; omega, by simp⟩
theorem u8_eq {c : UInt8} {n : Nat} (h : c.toNat = n) : c = UInt8.ofNat n := by rw [← h]; simp
theorem hasPre_two {c : UInt8} {r : List UInt8} : hasPre (c :: r) [47, 47] = true ↔ c.toNat = 47 ∧ r.head?.map UInt8.toNat = some 47 := by
  rw [hasPre_iff]
  constructor
  · rintro ⟨t, h⟩
    simp only [List.cons_append, List.nil_append, List.cons.injEq] at h
    rw [h.1, h.2]
    simp
  · rintro ⟨h1, h2⟩
    cases r with
    | nil => simp at h2
    | cons d r =>
      simp only [List.head?_cons, Option.map_some, Option.some.injEq] at h2
      exact ⟨r, by rw [u8_eq h1, u8_eq h2]; rfl⟩
/-- A comment reaches to the end of its line. -/
theorem skip_line : ∀ (l : List UInt8), skipW true l = (if Lib.indexByte l 10 < 0 then l.length else (Lib.indexByte l 10).toNat + skipW false (l.drop (Lib.indexByte l 10).toNat))
  | [] => rfl
  | c :: r => by
    have ih := skip_line r
    have hge := Lib.indexByte_ge r 10
    simp only [skipW, Lib.indexByte, beq_iff_eq]
    by_cases h : c.toNat = 10
    · have : c = 10 := u8_eq h
      subst this
      simp [skipW]
    · have h' : ¬ c = 10 := fun e => h (by rw [e]; rfl)
      rw [if_neg h, if_neg h', ih]
      by_cases hn : Lib.indexByte r 10 = -1
      · rw [if_pos hn, if_pos (by omega), if_pos (by omega), List.length_cons]; omega
      · rw [if_neg hn, if_neg (by omega), if_neg (by omega)]
        have e : (Lib.indexByte r 10 + 1).toNat = (Lib.indexByte r 10).toNat + 1 := by omega
        rw [e, List.drop_succ_cons]; omega
theorem idx_lt (c : UInt8) : ∀ (l : List UInt8), Lib.indexByte l c < l.length
  | [] => by simp [Lib.indexByte]
  | d :: r => by
    have := idx_lt c r
    simp only [Lib.indexByte, List.length_cons]
    split
    · omega
    · split <;> omega
def ixB (s : List UInt8) (c : Int) : Int := Lib.indexByte s c.toNat.toUInt8
theorem ixB_at (s : List UInt8) (c : UInt8) : ixB s c.toNat = Lib.indexByte s c := by unfold ixB; rw [Int.toNat_natCast]; simp
abbrev pIB : List Value → Option (Prop × Value) := pSB (fun _ _ => True) fun s c => .int .i64 (ixB s c)
abbrev cf7 : Cfg := mkCf (fun f => f == 68 || f == 70 || f == 42 || f == 44 || f == 45 || f == 46 || f == 21 || f == 22) [(41, pf1 isStartB), (43, pf1 isDigitB), (39, pSS (fun _ _ => True) fun a b => .bool (hasPre a b)), (40, pIB), (28, pS1 BL fun s => .bool (isName s))]
theorem pu7 : PureOk cf7 Tryd.prog := by
  refine pure_cons (by kernel_rfl) (pure1 isStart_spec) (pure_cons (by kernel_rfl) (pure1 isDigit_spec) (pure_cons (by kernel_rfl) (pureSS fun a b m _ => hasPrefix_spec a b m) (pure_cons (by kernel_rfl) (pureSB fun a c m _ => indexByte_spec a c m) (pure_cons (by kernel_rfl) (pureS isName_spec) pure_nil))))
set_option maxRecDepth 20000 in
theorem blank_spec (s : List UInt8) (p : Nat) (m : Mem) (hp : p ≤ s.length) (hs : s.length ≤ 1000000) :
    FnH Tryd.prog 21 [.box 0 0] ⟨[⟨0, 41, [.v (.string (bs s)), .v (.int .i64 p)]⟩], []⟩ m fun r H' m' => r = .tup [] ∧ H' = ⟨[⟨0, 41, [.v (.string (bs s)), .v (.int .i64 (p + skipW false (s.drop p) : Nat))]⟩], []⟩ ∧ m' = m := by
  refine enter cf7 pu7 Tryd.func21 rfl rfl (by kernel_rfl) rfl ?_ ?_
  · simp only [go_sem, ↓reduceIte, or_true, or_false, true_or, false_or, Option.some.injEq, exists_eq_left, exists_eq_left', Nat.reduceBEq, Nat.reduceAdd, Nat.reduceMul, Nat.reduceSub, Nat.reduceEqDiff, Nat.reduceLT, Nat.reduceLeDiff, Option.map, Option.bind, List.map, List.length, true_implies, true_and, and_true, Bool.and_true, Bool.true_and, Bool.or_false, Bool.false_or, Bool.not_true, Bool.not_false, Bool.and_false, Bool.false_and, List.cons_append, List.nil_append, List.append_nil, mk_eq_bs, tl_bs, List.getElem?_cons_zero, List.getElem?_cons_succ, eq_self, reduceCtorEq, implies_true, false_implies, decide_eq_true_eq, decide_eq_false_iff_not, Bool.and_eq_true, Bool.or_eq_true, Bool.not_eq_true', Bool.and_eq_false_iff, Bool.or_eq_false_iff, Bool.not_eq_false', Option.toList, SV.v.injEq, Value.int.injEq, Value.bool.injEq, Value.string.injEq, Option.getD, List.contains_cons, List.contains_nil, beq_self_eq_true, Nat.max_def, List.set, List.drop, List.take, Int.toNat_natCast, Nat.mul_one, Int.toNat_zero, List.drop_zero, Bx.mk.injEq, Vc.mk.injEq, List.cons.injEq, List.take_length, List.getElem?_nil, List.getD_cons_zero, List.getD_cons_succ, Int.reduceToNat, not_false_eq_true, Nat.le_refl]
  · simp only [go_sem, ↓reduceIte, or_true, or_false, true_or, false_or, Option.some.injEq, exists_eq_left, exists_eq_left', Nat.reduceBEq, Nat.reduceAdd, Nat.reduceMul, Nat.reduceSub, Nat.reduceEqDiff, Nat.reduceLT, Nat.reduceLeDiff, Option.map, Option.bind, List.map, List.length, true_implies, true_and, and_true, Bool.and_true, Bool.true_and, Bool.or_false, Bool.false_or, Bool.not_true, Bool.not_false, Bool.and_false, Bool.false_and, List.cons_append, List.nil_append, List.append_nil, mk_eq_bs, tl_bs, List.getElem?_cons_zero, List.getElem?_cons_succ, eq_self, reduceCtorEq, implies_true, false_implies, decide_eq_true_eq, decide_eq_false_iff_not, Bool.and_eq_true, Bool.or_eq_true, Bool.not_eq_true', Bool.and_eq_false_iff, Bool.or_eq_false_iff, Bool.not_eq_false', Option.toList, SV.v.injEq, Value.int.injEq, Value.bool.injEq, Value.string.injEq, Option.getD, List.contains_cons, List.contains_nil, beq_self_eq_true, Nat.max_def, List.set, List.drop, List.take, Int.toNat_natCast, Nat.mul_one, Int.toNat_zero, List.drop_zero, Bx.mk.injEq, Vc.mk.injEq, List.cons.injEq, List.take_length, List.getElem?_nil, List.getD_cons_zero, List.getD_cons_succ, Int.reduceToNat, not_false_eq_true, Nat.le_refl]
    refine WP_scope1 pu7 (fun k : Nat => ⟨[⟨0, [], .box 0 0⟩], [], [⟨0, 41, [.v (.string (bs s)), .v (.int .i64 k)]⟩], [], 1, m⟩)
      (fun k => k ≤ s.length ∧ p + skipW false (s.drop p) = k + skipW false (s.drop k)) (fun k => s.length - k) p (by kernel_rfl) (fun _ _ => Nat.le_refl _) (fun _ _ => .inl rfl) (fun _ => ?_) ?_ ?_ ?_
    · simp only [go_sem, ↓reduceIte, or_true, or_false, true_or, false_or, Option.some.injEq, exists_eq_left, exists_eq_left', Nat.reduceBEq, Nat.reduceAdd, Nat.reduceMul, Nat.reduceSub, Nat.reduceEqDiff, Nat.reduceLT, Nat.reduceLeDiff, Option.map, Option.bind, List.map, List.length, true_implies, true_and, and_true, Bool.and_true, Bool.true_and, Bool.or_false, Bool.false_or, Bool.not_true, Bool.not_false, Bool.and_false, Bool.false_and, List.cons_append, List.nil_append, List.append_nil, mk_eq_bs, tl_bs, List.getElem?_cons_zero, List.getElem?_cons_succ, eq_self, reduceCtorEq, implies_true, false_implies, decide_eq_true_eq, decide_eq_false_iff_not, Bool.and_eq_true, Bool.or_eq_true, Bool.not_eq_true', Bool.and_eq_false_iff, Bool.or_eq_false_iff, Bool.not_eq_false', Option.toList, SV.v.injEq, Value.int.injEq, Value.bool.injEq, Value.string.injEq, Option.getD, List.contains_cons, List.contains_nil, beq_self_eq_true, Nat.max_def, List.set, List.drop, List.take, Int.toNat_natCast, Nat.mul_one, Int.toNat_zero, List.drop_zero, Bx.mk.injEq, Vc.mk.injEq, List.cons.injEq, List.take_length, List.getElem?_nil, List.getD_cons_zero, List.getD_cons_succ, Int.reduceToNat, not_false_eq_true, Nat.le_refl]
    · simp only [go_sem, ↓reduceIte, or_true, or_false, true_or, false_or, Option.some.injEq, exists_eq_left, exists_eq_left', Nat.reduceBEq, Nat.reduceAdd, Nat.reduceMul, Nat.reduceSub, Nat.reduceEqDiff, Nat.reduceLT, Nat.reduceLeDiff, Option.map, Option.bind, List.map, List.length, true_implies, true_and, and_true, Bool.and_true, Bool.true_and, Bool.or_false, Bool.false_or, Bool.not_true, Bool.not_false, Bool.and_false, Bool.false_and, List.cons_append, List.nil_append, List.append_nil, mk_eq_bs, tl_bs, List.getElem?_cons_zero, List.getElem?_cons_succ, eq_self, reduceCtorEq, implies_true, false_implies, decide_eq_true_eq, decide_eq_false_iff_not, Bool.and_eq_true, Bool.or_eq_true, Bool.not_eq_true', Bool.and_eq_false_iff, Bool.or_eq_false_iff, Bool.not_eq_false', Option.toList, SV.v.injEq, Value.int.injEq, Value.bool.injEq, Value.string.injEq, Option.getD, List.contains_cons, List.contains_nil, beq_self_eq_true, Nat.max_def, List.set, List.drop, List.take, Int.toNat_natCast, Nat.mul_one, Int.toNat_zero, List.drop_zero, Bx.mk.injEq, Vc.mk.injEq, List.cons.injEq, List.take_length, List.getElem?_nil, List.getD_cons_zero, List.getD_cons_succ, Int.reduceToNat, not_false_eq_true, Nat.le_refl]
    · exact ⟨hp, rfl⟩
    · rintro k0 ⟨hk0, hp0⟩
      simp only [go_sem, ↓reduceIte, or_true, or_false, true_or, false_or, Option.some.injEq, exists_eq_left, exists_eq_left', Nat.reduceBEq, Nat.reduceAdd, Nat.reduceMul, Nat.reduceSub, Nat.reduceEqDiff, Nat.reduceLT, Nat.reduceLeDiff, Option.map, Option.bind, List.map, List.length, true_implies, true_and, and_true, Bool.and_true, Bool.true_and, Bool.or_false, Bool.false_or, Bool.not_true, Bool.not_false, Bool.and_false, Bool.false_and, List.cons_append, List.nil_append, List.append_nil, mk_eq_bs, tl_bs, List.getElem?_cons_zero, List.getElem?_cons_succ, eq_self, reduceCtorEq, implies_true, false_implies, decide_eq_true_eq, decide_eq_false_iff_not, Bool.and_eq_true, Bool.or_eq_true, Bool.not_eq_true', Bool.and_eq_false_iff, Bool.or_eq_false_iff, Bool.not_eq_false', Option.toList, SV.v.injEq, Value.int.injEq, Value.bool.injEq, Value.string.injEq, Option.getD, List.contains_cons, List.contains_nil, beq_self_eq_true, Nat.max_def, List.set, List.drop, List.take, Int.toNat_natCast, Nat.mul_one, Int.toNat_zero, List.drop_zero, Bx.mk.injEq, Vc.mk.injEq, List.cons.injEq, List.take_length, List.getElem?_nil, List.getD_cons_zero, List.getD_cons_succ, Int.reduceToNat, not_false_eq_true, Nat.le_refl]
      refine WP_loop pu7 (fun k : Nat => ⟨[⟨0, [], .box 0 0⟩], [], [⟨0, 41, [.v (.string (bs s)), .v (.int .i64 k)]⟩], [], 1, m⟩)
        (fun k => k0 ≤ k ∧ k ≤ s.length ∧ p + skipW false (s.drop p) = k + skipW false (s.drop k)) (fun k => s.length - k) k0 (by kernel_rfl) (fun _ _ => Nat.le_refl _) (fun _ _ => .inl rfl) (fun _ => ?_) ?_ ?_ ?_
      · simp only [go_sem, ↓reduceIte, or_true, or_false, true_or, false_or, Option.some.injEq, exists_eq_left, exists_eq_left', Nat.reduceBEq, Nat.reduceAdd, Nat.reduceMul, Nat.reduceSub, Nat.reduceEqDiff, Nat.reduceLT, Nat.reduceLeDiff, Option.map, Option.bind, List.map, List.length, true_implies, true_and, and_true, Bool.and_true, Bool.true_and, Bool.or_false, Bool.false_or, Bool.not_true, Bool.not_false, Bool.and_false, Bool.false_and, List.cons_append, List.nil_append, List.append_nil, mk_eq_bs, tl_bs, List.getElem?_cons_zero, List.getElem?_cons_succ, eq_self, reduceCtorEq, implies_true, false_implies, decide_eq_true_eq, decide_eq_false_iff_not, Bool.and_eq_true, Bool.or_eq_true, Bool.not_eq_true', Bool.and_eq_false_iff, Bool.or_eq_false_iff, Bool.not_eq_false', Option.toList, SV.v.injEq, Value.int.injEq, Value.bool.injEq, Value.string.injEq, Option.getD, List.contains_cons, List.contains_nil, beq_self_eq_true, Nat.max_def, List.set, List.drop, List.take, Int.toNat_natCast, Nat.mul_one, Int.toNat_zero, List.drop_zero, Bx.mk.injEq, Vc.mk.injEq, List.cons.injEq, List.take_length, List.getElem?_nil, List.getD_cons_zero, List.getD_cons_succ, Int.reduceToNat, not_false_eq_true, Nat.le_refl]
      · simp only [go_sem, ↓reduceIte, or_true, or_false, true_or, false_or, Option.some.injEq, exists_eq_left, exists_eq_left', Nat.reduceBEq, Nat.reduceAdd, Nat.reduceMul, Nat.reduceSub, Nat.reduceEqDiff, Nat.reduceLT, Nat.reduceLeDiff, Option.map, Option.bind, List.map, List.length, true_implies, true_and, and_true, Bool.and_true, Bool.true_and, Bool.or_false, Bool.false_or, Bool.not_true, Bool.not_false, Bool.and_false, Bool.false_and, List.cons_append, List.nil_append, List.append_nil, mk_eq_bs, tl_bs, List.getElem?_cons_zero, List.getElem?_cons_succ, eq_self, reduceCtorEq, implies_true, false_implies, decide_eq_true_eq, decide_eq_false_iff_not, Bool.and_eq_true, Bool.or_eq_true, Bool.not_eq_true', Bool.and_eq_false_iff, Bool.or_eq_false_iff, Bool.not_eq_false', Option.toList, SV.v.injEq, Value.int.injEq, Value.bool.injEq, Value.string.injEq, Option.getD, List.contains_cons, List.contains_nil, beq_self_eq_true, Nat.max_def, List.set, List.drop, List.take, Int.toNat_natCast, Nat.mul_one, Int.toNat_zero, List.drop_zero, Bx.mk.injEq, Vc.mk.injEq, List.cons.injEq, List.take_length, List.getElem?_nil, List.getD_cons_zero, List.getD_cons_succ, Int.reduceToNat, not_false_eq_true, Nat.le_refl]
      · exact ⟨Nat.le_refl _, hk0, hp0⟩
      · rintro k ⟨hkk, hk, hpk⟩
        simp only [go_sem, ↓reduceIte, or_true, or_false, true_or, false_or, Option.some.injEq, exists_eq_left, exists_eq_left', Nat.reduceBEq, Nat.reduceAdd, Nat.reduceMul, Nat.reduceSub, Nat.reduceEqDiff, Nat.reduceLT, Nat.reduceLeDiff, Option.map, Option.bind, List.map, List.length, true_implies, true_and, and_true, Bool.and_true, Bool.true_and, Bool.or_false, Bool.false_or, Bool.not_true, Bool.not_false, Bool.and_false, Bool.false_and, List.cons_append, List.nil_append, List.append_nil, mk_eq_bs, tl_bs, List.getElem?_cons_zero, List.getElem?_cons_succ, eq_self, reduceCtorEq, implies_true, false_implies, decide_eq_true_eq, decide_eq_false_iff_not, Bool.and_eq_true, Bool.or_eq_true, Bool.not_eq_true', Bool.and_eq_false_iff, Bool.or_eq_false_iff, Bool.not_eq_false', Option.toList, SV.v.injEq, Value.int.injEq, Value.bool.injEq, Value.string.injEq, Option.getD, List.contains_cons, List.contains_nil, beq_self_eq_true, Nat.max_def, List.set, List.drop, List.take, Int.toNat_natCast, Nat.mul_one, Int.toNat_zero, List.drop_zero, Bx.mk.injEq, Vc.mk.injEq, List.cons.injEq, List.take_length, List.getElem?_nil, List.getD_cons_zero, List.getD_cons_succ, Int.reduceToNat, not_false_eq_true, Nat.le_refl]
        refine WP_drawQ pu7 (by kernel_rfl) (by kernel_rfl) (by kernel_rfl) ?_
        simp only [go_sem, ↓reduceIte, or_true, or_false, true_or, false_or, Option.some.injEq, exists_eq_left, exists_eq_left', Nat.reduceBEq, Nat.reduceAdd, Nat.reduceMul, Nat.reduceSub, Nat.reduceEqDiff, Nat.reduceLT, Nat.reduceLeDiff, Option.map, Option.bind, List.map, List.length, true_implies, true_and, and_true, Bool.and_true, Bool.true_and, Bool.or_false, Bool.false_or, Bool.not_true, Bool.not_false, Bool.and_false, Bool.false_and, List.cons_append, List.nil_append, List.append_nil, mk_eq_bs, tl_bs, List.getElem?_cons_zero, List.getElem?_cons_succ, eq_self, reduceCtorEq, implies_true, false_implies, decide_eq_true_eq, decide_eq_false_iff_not, Bool.and_eq_true, Bool.or_eq_true, Bool.not_eq_true', Bool.and_eq_false_iff, Bool.or_eq_false_iff, Bool.not_eq_false', Option.toList, SV.v.injEq, Value.int.injEq, Value.bool.injEq, Value.string.injEq, Option.getD, List.contains_cons, List.contains_nil, beq_self_eq_true, Nat.max_def, List.set, List.drop, List.take, Int.toNat_natCast, Nat.mul_one, Int.toNat_zero, List.drop_zero, Bx.mk.injEq, Vc.mk.injEq, List.cons.injEq, List.take_length, List.getElem?_nil, List.getD_cons_zero, List.getD_cons_succ, Int.reduceToNat, not_false_eq_true, Nat.le_refl]
        refine ⟨fun hlt => ?_, fun hge => ?_⟩
        · refine WP_drawQ pu7 (by kernel_rfl) (by kernel_rfl) (by kernel_rfl) ?_
          simp only [go_sem, ↓reduceIte, or_true, or_false, true_or, false_or, Option.some.injEq, exists_eq_left, exists_eq_left', Nat.reduceBEq, Nat.reduceAdd, Nat.reduceMul, Nat.reduceSub, Nat.reduceEqDiff, Nat.reduceLT, Nat.reduceLeDiff, Option.map, Option.bind, List.map, List.length, true_implies, true_and, and_true, Bool.and_true, Bool.true_and, Bool.or_false, Bool.false_or, Bool.not_true, Bool.not_false, Bool.and_false, Bool.false_and, List.cons_append, List.nil_append, List.append_nil, mk_eq_bs, tl_bs, List.getElem?_cons_zero, List.getElem?_cons_succ, eq_self, reduceCtorEq, implies_true, false_implies, decide_eq_true_eq, decide_eq_false_iff_not, Bool.and_eq_true, Bool.or_eq_true, Bool.not_eq_true', Bool.and_eq_false_iff, Bool.or_eq_false_iff, Bool.not_eq_false', Option.toList, SV.v.injEq, Value.int.injEq, Value.bool.injEq, Value.string.injEq, Option.getD, List.contains_cons, List.contains_nil, beq_self_eq_true, Nat.max_def, List.set, List.drop, List.take, Int.toNat_natCast, Nat.mul_one, Int.toNat_zero, List.drop_zero, Bx.mk.injEq, Vc.mk.injEq, List.cons.injEq, List.take_length, List.getElem?_nil, List.getD_cons_zero, List.getD_cons_succ, Int.reduceToNat, not_false_eq_true, Nat.le_refl]
          refine ⟨⟨by omega, hlt⟩, ?_⟩
          have hkl : k < s.length := by omega
          have hI : I64 (k + 1) := by unfold I64; omega
          rw [drop_at hkl] at hpk
          simp only [skipW] at hpk
          have ws : ((s.getD k 0).toNat = 9 ∨ (s.getD k 0).toNat = 10 ∨ (s.getD k 0).toNat = 13 ∨ (s.getD k 0).toNat = 32) →
              ∃ x' : Nat, (k : Int) + 1 = x' ∧ (k0 ≤ x' ∧ x' ≤ s.length ∧ p + skipW false (s.drop p) = x' + skipW false (s.drop x')) ∧ s.length - x' < s.length - k := fun hc => by
            rw [if_pos hc] at hpk
            exact ⟨k + 1, rfl, ⟨by omega, hkl, by omega⟩, by omega⟩
          refine ⟨fun h => ⟨fun _ => ⟨hI, ws (by omega)⟩, fun h' => absurd h h'⟩, fun h9 => ⟨fun h => ⟨fun _ => ⟨hI, ws (by omega)⟩, fun h' => absurd h h'⟩, fun h10 => ⟨fun h => ⟨fun _ => ⟨hI, ws (by omega)⟩, fun h' => absurd h h'⟩,
            fun h13 => ⟨fun h => ⟨hI, ws (by omega)⟩, fun h32 => ?_⟩⟩⟩⟩
          rw [if_neg (by omega)] at hpk
          refine WP_drawQ pu7 (by kernel_rfl) (by kernel_rfl) (by kernel_rfl) ?_
          simp only [go_sem, ↓reduceIte, or_true, or_false, true_or, false_or, Option.some.injEq, exists_eq_left, exists_eq_left', Nat.reduceBEq, Nat.reduceAdd, Nat.reduceMul, Nat.reduceSub, Nat.reduceEqDiff, Nat.reduceLT, Nat.reduceLeDiff, Option.map, Option.bind, List.map, List.length, true_implies, true_and, and_true, Bool.and_true, Bool.true_and, Bool.or_false, Bool.false_or, Bool.not_true, Bool.not_false, Bool.and_false, Bool.false_and, List.cons_append, List.nil_append, List.append_nil, mk_eq_bs, tl_bs, List.getElem?_cons_zero, List.getElem?_cons_succ, eq_self, reduceCtorEq, implies_true, false_implies, decide_eq_true_eq, decide_eq_false_iff_not, Bool.and_eq_true, Bool.or_eq_true, Bool.not_eq_true', Bool.and_eq_false_iff, Bool.or_eq_false_iff, Bool.not_eq_false', Option.toList, SV.v.injEq, Value.int.injEq, Value.bool.injEq, Value.string.injEq, Option.getD, List.contains_cons, List.contains_nil, beq_self_eq_true, Nat.max_def, List.set, List.drop, List.take, Int.toNat_natCast, Nat.mul_one, Int.toNat_zero, List.drop_zero, Bx.mk.injEq, Vc.mk.injEq, List.cons.injEq, List.take_length, List.getElem?_nil, List.getD_cons_zero, List.getD_cons_succ, Int.reduceToNat, not_false_eq_true, Nat.le_refl]
          refine ⟨⟨by omega, by omega, by omega⟩, fun hc => ?_, fun hc => ?_⟩
          · have e10 : ixB (s.drop k) 10 = Lib.indexByte (s.drop k) 10 := rfl
            have hh : (s.getD k 0).toNat = 47 ∧ (s.drop (k + 1)).head?.map UInt8.toNat = some 47 := hasPre_two.1 (by rw [← drop_at hkl]; exact hc)
            rw [if_pos hh] at hpk
            have hst : p + skipW false (s.drop p) = k + skipW true (s.drop k) := by
              rw [hpk, drop_at hkl]
              simp only [skipW]
              rw [if_neg (by omega)]
            have hi : Lib.indexByte (s.drop k) 10 ≠ 0 := by
              rw [drop_at hkl]
              have hge := Lib.indexByte_ge (s.drop (k + 1)) 10
              simp only [Lib.indexByte, beq_iff_eq]
              rw [if_neg (fun e => by rw [e] at hh; exact absurd hh.1 (by decide))]
              split <;> omega
            have hge := Lib.indexByte_ge (s.drop k) 10
            have hlt2 := idx_lt 10 (s.drop k)
            rw [List.length_drop] at hlt2
            have hsl := skip_line (s.drop k)
            refine WP_drawQ pu7 (by kernel_rfl) (by kernel_rfl) (by kernel_rfl) ?_
            simp only [go_sem, ↓reduceIte, or_true, or_false, true_or, false_or, Option.some.injEq, exists_eq_left, exists_eq_left', Nat.reduceBEq, Nat.reduceAdd, Nat.reduceMul, Nat.reduceSub, Nat.reduceEqDiff, Nat.reduceLT, Nat.reduceLeDiff, Option.map, Option.bind, List.map, List.length, true_implies, true_and, and_true, Bool.and_true, Bool.true_and, Bool.or_false, Bool.false_or, Bool.not_true, Bool.not_false, Bool.and_false, Bool.false_and, List.cons_append, List.nil_append, List.append_nil, mk_eq_bs, tl_bs, List.getElem?_cons_zero, List.getElem?_cons_succ, eq_self, reduceCtorEq, implies_true, false_implies, decide_eq_true_eq, decide_eq_false_iff_not, Bool.and_eq_true, Bool.or_eq_true, Bool.not_eq_true', Bool.and_eq_false_iff, Bool.or_eq_false_iff, Bool.not_eq_false', Option.toList, SV.v.injEq, Value.int.injEq, Value.bool.injEq, Value.string.injEq, Option.getD, List.contains_cons, List.contains_nil, beq_self_eq_true, Nat.max_def, List.set, List.drop, List.take, Int.toNat_natCast, Nat.mul_one, Int.toNat_zero, List.drop_zero, Bx.mk.injEq, Vc.mk.injEq, List.cons.injEq, List.take_length, List.getElem?_nil, List.getD_cons_zero, List.getD_cons_succ, Int.reduceToNat, not_false_eq_true, Nat.le_refl, e10]
            refine ⟨⟨by omega, by omega, by omega⟩, fun hn => ?_, fun hn => ⟨by unfold I64; omega, k + (Lib.indexByte (s.drop k) 10).toNat, by omega, ⟨by omega, ?_⟩, by omega⟩⟩
            · refine WP_drawQ pu7 (by kernel_rfl) (by kernel_rfl) (by kernel_rfl) ?_
              simp only [go_sem, ↓reduceIte, or_true, or_false, true_or, false_or, Option.some.injEq, exists_eq_left, exists_eq_left', Nat.reduceBEq, Nat.reduceAdd, Nat.reduceMul, Nat.reduceSub, Nat.reduceEqDiff, Nat.reduceLT, Nat.reduceLeDiff, Option.map, Option.bind, List.map, List.length, true_implies, true_and, and_true, Bool.and_true, Bool.true_and, Bool.or_false, Bool.false_or, Bool.not_true, Bool.not_false, Bool.and_false, Bool.false_and, List.cons_append, List.nil_append, List.append_nil, mk_eq_bs, tl_bs, List.getElem?_cons_zero, List.getElem?_cons_succ, eq_self, reduceCtorEq, implies_true, false_implies, decide_eq_true_eq, decide_eq_false_iff_not, Bool.and_eq_true, Bool.or_eq_true, Bool.not_eq_true', Bool.and_eq_false_iff, Bool.or_eq_false_iff, Bool.not_eq_false', Option.toList, SV.v.injEq, Value.int.injEq, Value.bool.injEq, Value.string.injEq, Option.getD, List.contains_cons, List.contains_nil, beq_self_eq_true, Nat.max_def, List.set, List.drop, List.take, Int.toNat_natCast, Nat.mul_one, Int.toNat_zero, List.drop_zero, Bx.mk.injEq, Vc.mk.injEq, List.cons.injEq, List.take_length, List.getElem?_nil, List.getD_cons_zero, List.getD_cons_succ, Int.reduceToNat, not_false_eq_true, Nat.le_refl]
              refine ⟨by unfold I64; omega, by unfold I64; omega, s.length, by omega, ⟨Nat.le_refl _, ?_⟩, by omega⟩
              rw [if_pos hn, List.length_drop] at hsl
              rw [List.drop_length]
              simp only [skipW]
              omega
            · rw [if_neg hn, List.drop_drop] at hsl
              omega
          · have : p + skipW false (s.drop p) = k := by
              rw [hpk, if_neg, Nat.add_zero]
              rintro ⟨e1, e2⟩
              rw [drop_at hkl, hasPre_two.2 ⟨e1, e2⟩] at hc
              cases hc
            rw [this]
        · have e : s.drop k = [] := List.drop_of_length_le (by omega)
          rw [e] at hpk
          rw [hpk]
          rfl
end Go.Proofs.YtmkifodpkcmgoaaDoor.E

/- lex, part H: the scanner: tokens. -/
set_option linter.unusedSimpArgs false
set_option linter.unusedVariables false
namespace Go.Proofs.YtmkifodpkcmgoaaDoor.E
open Go

theorem zero27 : zeroO Tryd.prog 27 = some [.v (.int .i64 0), .v (.string (bs [])), .v (.int .i64 0), .v (.int .i64 0)] := by kernel_rfl
theorem agg27 : aggN Tryd.prog 27 = some (some 4) := by kernel_rfl
theorem sz27 : szT Tryd.prog 27 = 4 := by kernel_rfl
theorem by27 : byT Tryd.prog 27 = 40 := by kernel_rfl
theorem fld27_0 : fldO Tryd.prog 27 0 = some (0, none, 1) := by kernel_rfl
theorem fld27_1 : fldO Tryd.prog 27 1 = some (1, none, 1) := by kernel_rfl
theorem fld27_2 : fldO Tryd.prog 27 2 = some (2, none, 1) := by kernel_rfl
theorem fld27_3 : fldO Tryd.prog 27 3 = some (3, none, 1) := by kernel_rfl
theorem bld27 : bldOk Tryd.prog 27 = true := by kernel_rfl
theorem bld41 : bldOk Tryd.prog 41 = true := by kernel_rfl
theorem cv35 : cvK Tryd.prog 3 5 = .int .u8 := by kernel_rfl
theorem cv539 : cvK Tryd.prog 53 9 = .b2s := by kernel_rfl
attribute [go_sem] cv35 cv539 zero27 agg27 sz27 by27 fld27_0 fld27_1 fld27_2 fld27_3 bld27 bld41
/-- A token: kind, text, number, offset. -/
structure Tk where
  k : Int
  s : List UInt8
  n : Int
  at_ : Int
abbrev Tk.cells (t : Tk) : List SV := [.v (.int .i64 t.k), .v (.string (bs t.s)), .v (.int .i64 t.n), .v (.int .i64 t.at_)]
abbrev Tk.sv (t : Tk) : SV := .agg t.cells
abbrev scB (s : List UInt8) (p : Int) : Bx := ⟨0, 41, [.v (.string (bs s)), .v (.int .i64 p)]⟩
abbrev Tk0 : Tk := ⟨0, [], 0, 0⟩

/-- The first operator with which the text begins. -/
def signAt (l : List UInt8) : Option (List UInt8) := signsL.find? fun o => hasPre l o
set_option maxRecDepth 20000 in
theorem operator_spec (s : List UInt8) (p : Nat) (m : Mem) (hp : p ≤ s.length) (hs : s.length ≤ 1000000) :
    FnH Tryd.prog 46 [.box 0 0] ⟨[scB s p], []⟩ m fun r H' m' => m' = m ∧ match signAt (s.drop p) with
      | some o => r = .tup [Tk.sv ⟨6, o, 0, p⟩, .v (.bool true)] ∧ H' = ⟨[scB s (p + o.length)], []⟩
      | none => r = .tup [Tk.sv Tk0, .v (.bool false)] ∧ H' = ⟨[scB s p], []⟩ := by
  refine enter cf7 pu7 Tryd.func46 rfl rfl (by kernel_rfl) rfl ?_ ?_
  · simp only [go_sem, ↓reduceIte, or_true, or_false, true_or, false_or, Option.some.injEq, exists_eq_left, exists_eq_left', Nat.reduceBEq, Nat.reduceAdd, Nat.reduceMul, Nat.reduceSub, Nat.reduceEqDiff, Nat.reduceLT, Nat.reduceLeDiff, Option.map, Option.bind, List.map, List.length, true_implies, true_and, and_true, Bool.and_true, Bool.true_and, Bool.or_false, Bool.false_or, Bool.not_true, Bool.not_false, Bool.and_false, Bool.false_and, List.cons_append, List.nil_append, List.append_nil, mk_eq_bs, tl_bs, List.getElem?_cons_zero, List.getElem?_cons_succ, eq_self, reduceCtorEq, implies_true, false_implies, decide_eq_true_eq, decide_eq_false_iff_not, Bool.and_eq_true, Bool.or_eq_true, Bool.not_eq_true', Bool.and_eq_false_iff, Bool.or_eq_false_iff, Bool.not_eq_false', Option.toList, SV.v.injEq, Value.int.injEq, Value.bool.injEq, Value.string.injEq, Option.getD, List.contains_cons, List.contains_nil, beq_self_eq_true, Nat.max_def, List.set, List.drop, List.take, Int.toNat_natCast, Nat.mul_one, Int.toNat_zero, List.drop_zero, Bx.mk.injEq, Vc.mk.injEq, List.cons.injEq, List.take_length, List.getElem?_nil, List.getD_cons_zero, List.getD_cons_succ, Int.reduceToNat, not_false_eq_true, Nat.le_refl]
  · simp only [go_sem, ↓reduceIte, or_true, or_false, true_or, false_or, Option.some.injEq, exists_eq_left, exists_eq_left', Nat.reduceBEq, Nat.reduceAdd, Nat.reduceMul, Nat.reduceSub, Nat.reduceEqDiff, Nat.reduceLT, Nat.reduceLeDiff, Option.map, Option.bind, List.map, List.length, true_implies, true_and, and_true, Bool.and_true, Bool.true_and, Bool.or_false, Bool.false_or, Bool.not_true, Bool.not_false, Bool.and_false, Bool.false_and, List.cons_append, List.nil_append, List.append_nil, mk_eq_bs, tl_bs, List.getElem?_cons_zero, List.getElem?_cons_succ, eq_self, reduceCtorEq, implies_true, false_implies, decide_eq_true_eq, decide_eq_false_iff_not, Bool.and_eq_true, Bool.or_eq_true, Bool.not_eq_true', Bool.and_eq_false_iff, Bool.or_eq_false_iff, Bool.not_eq_false', Option.toList, SV.v.injEq, Value.int.injEq, Value.bool.injEq, Value.string.injEq, Option.getD, List.contains_cons, List.contains_nil, beq_self_eq_true, Nat.max_def, List.set, List.drop, List.take, Int.toNat_natCast, Nat.mul_one, Int.toNat_zero, List.drop_zero, Bx.mk.injEq, Vc.mk.injEq, List.cons.injEq, List.take_length, List.getElem?_nil, List.getD_cons_zero, List.getD_cons_succ, Int.reduceToNat, not_false_eq_true, Nat.le_refl]
    refine ⟨by kernel_rfl, FnV_of ((operators_spec m).mono ?_)⟩
    rintro r H' m' hm ⟨rfl, rfl, rfl⟩
    simp only [go_sem, ↓reduceIte, or_true, or_false, true_or, false_or, Option.some.injEq, exists_eq_left, exists_eq_left', Nat.reduceBEq, Nat.reduceAdd, Nat.reduceMul, Nat.reduceSub, Nat.reduceEqDiff, Nat.reduceLT, Nat.reduceLeDiff, Option.map, Option.bind, List.map, List.length, true_implies, true_and, and_true, Bool.and_true, Bool.true_and, Bool.or_false, Bool.false_or, Bool.not_true, Bool.not_false, Bool.and_false, Bool.false_and, List.cons_append, List.nil_append, List.append_nil, mk_eq_bs, tl_bs, List.getElem?_cons_zero, List.getElem?_cons_succ, eq_self, reduceCtorEq, implies_true, false_implies, decide_eq_true_eq, decide_eq_false_iff_not, Bool.and_eq_true, Bool.or_eq_true, Bool.not_eq_true', Bool.and_eq_false_iff, Bool.or_eq_false_iff, Bool.not_eq_false', Option.toList, SV.v.injEq, Value.int.injEq, Value.bool.injEq, Value.string.injEq, Option.getD, List.contains_cons, List.contains_nil, beq_self_eq_true, Nat.max_def, List.set, List.drop, List.take, Int.toNat_natCast, Nat.mul_one, Int.toNat_zero, List.drop_zero, Bx.mk.injEq, Vc.mk.injEq, List.cons.injEq, List.take_length, List.getElem?_nil, List.getD_cons_zero, List.getD_cons_succ, Int.reduceToNat, not_false_eq_true, Nat.le_refl]
    refine WP_loop pu7 (fun k : Nat => ⟨[⟨0, [], .box 0 0⟩, ⟨2, [], .box 1 0⟩, ⟨7, [], .vec 2 0⟩, ⟨8, [], .v (.int .i64 30)⟩, ⟨9, [], .v (.int .i64 k)⟩], [], [⟨1, 27, Tk0.cells⟩, scB s p], [⟨2, 0, 9, 1, 30, strs signsL⟩], 3, m'⟩)
      (fun k => k ≤ 30 ∧ signAt (s.drop p) = (signsL.drop k).find? fun o => hasPre (s.drop p) o) (fun k => 30 - k) 0 (by kernel_rfl) (fun _ _ => Nat.le_refl _) (fun _ _ => .inl rfl) (fun _ => ?_) ?_ ?_ ?_
    · simp only [go_sem, ↓reduceIte, or_true, or_false, true_or, false_or, Option.some.injEq, exists_eq_left, exists_eq_left', Nat.reduceBEq, Nat.reduceAdd, Nat.reduceMul, Nat.reduceSub, Nat.reduceEqDiff, Nat.reduceLT, Nat.reduceLeDiff, Option.map, Option.bind, List.map, List.length, true_implies, true_and, and_true, Bool.and_true, Bool.true_and, Bool.or_false, Bool.false_or, Bool.not_true, Bool.not_false, Bool.and_false, Bool.false_and, List.cons_append, List.nil_append, List.append_nil, mk_eq_bs, tl_bs, List.getElem?_cons_zero, List.getElem?_cons_succ, eq_self, reduceCtorEq, implies_true, false_implies, decide_eq_true_eq, decide_eq_false_iff_not, Bool.and_eq_true, Bool.or_eq_true, Bool.not_eq_true', Bool.and_eq_false_iff, Bool.or_eq_false_iff, Bool.not_eq_false', Option.toList, SV.v.injEq, Value.int.injEq, Value.bool.injEq, Value.string.injEq, Option.getD, List.contains_cons, List.contains_nil, beq_self_eq_true, Nat.max_def, List.set, List.drop, List.take, Int.toNat_natCast, Nat.mul_one, Int.toNat_zero, List.drop_zero, Bx.mk.injEq, Vc.mk.injEq, List.cons.injEq, List.take_length, List.getElem?_nil, List.getD_cons_zero, List.getD_cons_succ, Int.reduceToNat, not_false_eq_true, Nat.le_refl]
    · simp only [go_sem, ↓reduceIte, or_true, or_false, true_or, false_or, Option.some.injEq, exists_eq_left, exists_eq_left', Nat.reduceBEq, Nat.reduceAdd, Nat.reduceMul, Nat.reduceSub, Nat.reduceEqDiff, Nat.reduceLT, Nat.reduceLeDiff, Option.map, Option.bind, List.map, List.length, true_implies, true_and, and_true, Bool.and_true, Bool.true_and, Bool.or_false, Bool.false_or, Bool.not_true, Bool.not_false, Bool.and_false, Bool.false_and, List.cons_append, List.nil_append, List.append_nil, mk_eq_bs, tl_bs, List.getElem?_cons_zero, List.getElem?_cons_succ, eq_self, reduceCtorEq, implies_true, false_implies, decide_eq_true_eq, decide_eq_false_iff_not, Bool.and_eq_true, Bool.or_eq_true, Bool.not_eq_true', Bool.and_eq_false_iff, Bool.or_eq_false_iff, Bool.not_eq_false', Option.toList, SV.v.injEq, Value.int.injEq, Value.bool.injEq, Value.string.injEq, Option.getD, List.contains_cons, List.contains_nil, beq_self_eq_true, Nat.max_def, List.set, List.drop, List.take, Int.toNat_natCast, Nat.mul_one, Int.toNat_zero, List.drop_zero, Bx.mk.injEq, Vc.mk.injEq, List.cons.injEq, List.take_length, List.getElem?_nil, List.getD_cons_zero, List.getD_cons_succ, Int.reduceToNat, not_false_eq_true, Nat.le_refl]
      exact ⟨rfl, rfl⟩
    · exact ⟨by omega, rfl⟩
    · rintro k ⟨hk, hf⟩
      simp only [go_sem, ↓reduceIte, or_true, or_false, true_or, false_or, Option.some.injEq, exists_eq_left, exists_eq_left', Nat.reduceBEq, Nat.reduceAdd, Nat.reduceMul, Nat.reduceSub, Nat.reduceEqDiff, Nat.reduceLT, Nat.reduceLeDiff, Option.map, Option.bind, List.map, List.length, true_implies, true_and, and_true, Bool.and_true, Bool.true_and, Bool.or_false, Bool.false_or, Bool.not_true, Bool.not_false, Bool.and_false, Bool.false_and, List.cons_append, List.nil_append, List.append_nil, mk_eq_bs, tl_bs, List.getElem?_cons_zero, List.getElem?_cons_succ, eq_self, reduceCtorEq, implies_true, false_implies, decide_eq_true_eq, decide_eq_false_iff_not, Bool.and_eq_true, Bool.or_eq_true, Bool.not_eq_true', Bool.and_eq_false_iff, Bool.or_eq_false_iff, Bool.not_eq_false', Option.toList, SV.v.injEq, Value.int.injEq, Value.bool.injEq, Value.string.injEq, Option.getD, List.contains_cons, List.contains_nil, beq_self_eq_true, Nat.max_def, List.set, List.drop, List.take, Int.toNat_natCast, Nat.mul_one, Int.toNat_zero, List.drop_zero, Bx.mk.injEq, Vc.mk.injEq, List.cons.injEq, List.take_length, List.getElem?_nil, List.getD_cons_zero, List.getD_cons_succ, Int.reduceToNat, not_false_eq_true, Nat.le_refl]
      have hsl : signsL.length = 30 := rfl
      have hst : (strs signsL).length = 30 := rfl
      refine ⟨fun hlt => ⟨⟨by omega, hlt⟩, by omega, ?_⟩, fun hge => ?_⟩
      · have hk30 : k < signsL.length := by omega
        have e : (strs signsL).getD k undef = .string (bs signsL[k]) := by
          rw [List.getD_eq_getElem?_getD, strs, List.getElem?_map, List.getElem?_eq_getElem hk30]; rfl
        rw [e]
        have hol : signsL[k].length ≤ 3 := (by decide : ∀ o ∈ signsL, o.length ≤ 3) _ (List.getElem_mem hk30)
        rw [List.drop_eq_getElem_cons hk30, List.find?_cons] at hf
        generalize signsL[k] = o at hol hf
        refine WP_drawQ pu7 (by kernel_rfl) (by kernel_rfl) (by kernel_rfl) ?_
        simp only [go_sem, ↓reduceIte, or_true, or_false, true_or, false_or, Option.some.injEq, exists_eq_left, exists_eq_left', Nat.reduceBEq, Nat.reduceAdd, Nat.reduceMul, Nat.reduceSub, Nat.reduceEqDiff, Nat.reduceLT, Nat.reduceLeDiff, Option.map, Option.bind, List.map, List.length, true_implies, true_and, and_true, Bool.and_true, Bool.true_and, Bool.or_false, Bool.false_or, Bool.not_true, Bool.not_false, Bool.and_false, Bool.false_and, List.cons_append, List.nil_append, List.append_nil, mk_eq_bs, tl_bs, List.getElem?_cons_zero, List.getElem?_cons_succ, eq_self, reduceCtorEq, implies_true, false_implies, decide_eq_true_eq, decide_eq_false_iff_not, Bool.and_eq_true, Bool.or_eq_true, Bool.not_eq_true', Bool.and_eq_false_iff, Bool.or_eq_false_iff, Bool.not_eq_false', Option.toList, SV.v.injEq, Value.int.injEq, Value.bool.injEq, Value.string.injEq, Option.getD, List.contains_cons, List.contains_nil, beq_self_eq_true, Nat.max_def, List.set, List.drop, List.take, Int.toNat_natCast, Nat.mul_one, Int.toNat_zero, List.drop_zero, Bx.mk.injEq, Vc.mk.injEq, List.cons.injEq, List.take_length, List.getElem?_nil, List.getD_cons_zero, List.getD_cons_succ, Int.reduceToNat, not_false_eq_true, Nat.le_refl]
        refine ⟨⟨by omega, by omega, by omega⟩, fun h => ?_, fun h => ⟨by unfold I64; omega, k + 1, by omega, ⟨by omega, ?_⟩, by omega⟩⟩
        · simp only [h] at hf
          rw [hf]
          exact ⟨by unfold I64; omega, rfl, rfl⟩
        · simp only [h] at hf
          exact hf
      · obtain rfl : k = 30 := by omega
        have e : signsL.drop 30 = [] := rfl
        rw [e] at hf
        simp only [List.find?_nil] at hf
        rw [hf]
        trivial
def hexL : List UInt8 := [48, 49, 50, 51, 52, 53, 54, 55, 56, 57, 97, 98, 99, 100, 101, 102]
def hexI (c : UInt8) : Int := Lib.indexByte hexL c
/-- An escape: how long, which byte, is it one. -/
def escL : List UInt8 → Nat × Int × Bool
  | [] => (0, 0, false)
  | c :: r => if c.toNat = 34 ∨ c.toNat = 92 then (1, c.toNat, true) else if c.toNat = 110 then (1, 10, true) else if c.toNat = 120 then
      (match r with
        | h :: l :: _ => (3, IntKind.u8.wrap (16 * hexI h + hexI l), decide (0 ≤ hexI h) && decide (0 ≤ hexI l))
        | _ => (0, 0, false)) else (0, 0, false)
set_option maxRecDepth 20000 in
theorem escape_spec (s : List UInt8) (p : Nat) (m : Mem) (hp : p ≤ s.length) (hs : s.length ≤ 1000000) :
    FnH Tryd.prog 70 [.box 0 0] ⟨[scB s p], []⟩ m fun r H' m' => m' = m ∧ r = .tup [.v (.int .u8 (escL (s.drop p)).2.1), .v (.bool (escL (s.drop p)).2.2)] ∧ H' = ⟨[scB s (p + (escL (s.drop p)).1 : Nat)], []⟩ := by
  refine enter cf7 pu7 Tryd.func70 rfl rfl (by kernel_rfl) rfl ?_ ?_
  · simp only [go_sem, ↓reduceIte, or_true, or_false, true_or, false_or, Option.some.injEq, exists_eq_left, exists_eq_left', Nat.reduceBEq, Nat.reduceAdd, Nat.reduceMul, Nat.reduceSub, Nat.reduceEqDiff, Nat.reduceLT, Nat.reduceLeDiff, Option.map, Option.bind, List.map, List.length, true_implies, true_and, and_true, Bool.and_true, Bool.true_and, Bool.or_false, Bool.false_or, Bool.not_true, Bool.not_false, Bool.and_false, Bool.false_and, List.cons_append, List.nil_append, List.append_nil, mk_eq_bs, tl_bs, List.getElem?_cons_zero, List.getElem?_cons_succ, eq_self, reduceCtorEq, implies_true, false_implies, decide_eq_true_eq, decide_eq_false_iff_not, Bool.and_eq_true, Bool.or_eq_true, Bool.not_eq_true', Bool.and_eq_false_iff, Bool.or_eq_false_iff, Bool.not_eq_false', Option.toList, SV.v.injEq, Value.int.injEq, Value.bool.injEq, Value.string.injEq, Option.getD, List.contains_cons, List.contains_nil, beq_self_eq_true, Nat.max_def, List.set, List.drop, List.take, Int.toNat_natCast, Nat.mul_one, Int.toNat_zero, List.drop_zero, Bx.mk.injEq, Vc.mk.injEq, List.cons.injEq, List.take_length, List.getElem?_nil, List.getD_cons_zero, List.getD_cons_succ, Int.reduceToNat, not_false_eq_true, Nat.le_refl]
  · simp only [go_sem, ↓reduceIte, or_true, or_false, true_or, false_or, Option.some.injEq, exists_eq_left, exists_eq_left', Nat.reduceBEq, Nat.reduceAdd, Nat.reduceMul, Nat.reduceSub, Nat.reduceEqDiff, Nat.reduceLT, Nat.reduceLeDiff, Option.map, Option.bind, List.map, List.length, true_implies, true_and, and_true, Bool.and_true, Bool.true_and, Bool.or_false, Bool.false_or, Bool.not_true, Bool.not_false, Bool.and_false, Bool.false_and, List.cons_append, List.nil_append, List.append_nil, mk_eq_bs, tl_bs, List.getElem?_cons_zero, List.getElem?_cons_succ, eq_self, reduceCtorEq, implies_true, false_implies, decide_eq_true_eq, decide_eq_false_iff_not, Bool.and_eq_true, Bool.or_eq_true, Bool.not_eq_true', Bool.and_eq_false_iff, Bool.or_eq_false_iff, Bool.not_eq_false', Option.toList, SV.v.injEq, Value.int.injEq, Value.bool.injEq, Value.string.injEq, Option.getD, List.contains_cons, List.contains_nil, beq_self_eq_true, Nat.max_def, List.set, List.drop, List.take, Int.toNat_natCast, Nat.mul_one, Int.toNat_zero, List.drop_zero, Bx.mk.injEq, Vc.mk.injEq, List.cons.injEq, List.take_length, List.getElem?_nil, List.getD_cons_zero, List.getD_cons_succ, Int.reduceToNat, not_false_eq_true, Nat.le_refl]
    cases hr : s.drop p with
    | nil =>
      refine WP_drawQ pu7 (by kernel_rfl) (by kernel_rfl) (by kernel_rfl) ?_
      simp only [go_sem, ↓reduceIte, or_true, or_false, true_or, false_or, Option.some.injEq, exists_eq_left, exists_eq_left', Nat.reduceBEq, Nat.reduceAdd, Nat.reduceMul, Nat.reduceSub, Nat.reduceEqDiff, Nat.reduceLT, Nat.reduceLeDiff, Option.map, Option.bind, List.map, List.length, true_implies, true_and, and_true, Bool.and_true, Bool.true_and, Bool.or_false, Bool.false_or, Bool.not_true, Bool.not_false, Bool.and_false, Bool.false_and, List.cons_append, List.nil_append, List.append_nil, mk_eq_bs, tl_bs, List.getElem?_cons_zero, List.getElem?_cons_succ, eq_self, reduceCtorEq, implies_true, false_implies, decide_eq_true_eq, decide_eq_false_iff_not, Bool.and_eq_true, Bool.or_eq_true, Bool.not_eq_true', Bool.and_eq_false_iff, Bool.or_eq_false_iff, Bool.not_eq_false', Option.toList, SV.v.injEq, Value.int.injEq, Value.bool.injEq, Value.string.injEq, Option.getD, List.contains_cons, List.contains_nil, beq_self_eq_true, Nat.max_def, List.set, List.drop, List.take, Int.toNat_natCast, Nat.mul_one, Int.toNat_zero, List.drop_zero, Bx.mk.injEq, Vc.mk.injEq, List.cons.injEq, List.take_length, List.getElem?_nil, List.getD_cons_zero, List.getD_cons_succ, Int.reduceToNat, not_false_eq_true, Nat.le_refl, hr]
      exact ⟨⟨by omega, by omega, by omega⟩, ⟨rfl, rfl⟩, fun h => absurd trivial h⟩
    | cons c r =>
      have hlen : (s.drop p).length = r.length + 1 := by rw [hr]; rfl
      rw [List.length_drop] at hlen
      refine WP_drawQ pu7 (by kernel_rfl) (by kernel_rfl) (by kernel_rfl) ?_
      simp only [go_sem, ↓reduceIte, or_true, or_false, true_or, false_or, Option.some.injEq, exists_eq_left, exists_eq_left', Nat.reduceBEq, Nat.reduceAdd, Nat.reduceMul, Nat.reduceSub, Nat.reduceEqDiff, Nat.reduceLT, Nat.reduceLeDiff, Option.map, Option.bind, List.map, List.length, true_implies, true_and, and_true, Bool.and_true, Bool.true_and, Bool.or_false, Bool.false_or, Bool.not_true, Bool.not_false, Bool.and_false, Bool.false_and, List.cons_append, List.nil_append, List.append_nil, mk_eq_bs, tl_bs, List.getElem?_cons_zero, List.getElem?_cons_succ, eq_self, reduceCtorEq, implies_true, false_implies, decide_eq_true_eq, decide_eq_false_iff_not, Bool.and_eq_true, Bool.or_eq_true, Bool.not_eq_true', Bool.and_eq_false_iff, Bool.or_eq_false_iff, Bool.not_eq_false', Option.toList, SV.v.injEq, Value.int.injEq, Value.bool.injEq, Value.string.injEq, Option.getD, List.contains_cons, List.contains_nil, beq_self_eq_true, Nat.max_def, List.set, List.drop, List.take, Int.toNat_natCast, Nat.mul_one, Int.toNat_zero, List.drop_zero, Bx.mk.injEq, Vc.mk.injEq, List.cons.injEq, List.take_length, List.getElem?_nil, List.getD_cons_zero, List.getD_cons_succ, Int.reduceToNat, not_false_eq_true, Nat.le_refl, hr]
      have h0 : (0 : Int) ≤ 0 ∧ (0 : Int) < ((r.length + 1 : Nat) : Int) := by omega
      refine ⟨⟨by omega, by omega, by omega⟩, h0, fun _ => h0, fun h => ?_, fun h => ⟨h0, fun h1 => ?_, fun h1 => ⟨h0, fun h2 => ?_, fun h2 => ?_⟩⟩⟩
      · have e : escL (c :: r) = (1, (c.toNat : Int), true) := by
          simp only [escL]; rw [if_pos (by omega)]
        rw [e]
        exact ⟨by unfold I64; omega, h0, rfl, rfl⟩
      · have e : escL (c :: r) = (1, 10, true) := by
          simp only [escL]; rw [if_neg (by omega), if_pos (by omega)]
        rw [e]
        exact ⟨by unfold I64; omega, rfl, rfl⟩
      · match r, hlen, h2, h0 with
        | [], _, h2, _ => exact absurd h2.2 (by simp)
        | [_], _, h2, _ => exact absurd h2.2 (by simp)
        | x :: y :: r, hlen, h2, h0 =>
          have e : escL (c :: x :: y :: r) = (3, IntKind.u8.wrap (16 * hexI x + hexI y), decide (0 ≤ hexI x) && decide (0 ≤ hexI y)) := by
            simp only [escL]; rw [if_neg (by omega), if_neg (by omega), if_pos (by omega)]
          rw [e]
          simp only [List.getD_cons_zero, List.getD_cons_succ, ixB_at]
          have hb : ∀ z : UInt8, -1 ≤ Lib.indexByte hexL z ∧ Lib.indexByte hexL z < 16 := fun z => ⟨Lib.indexByte_ge _ _, idx_lt z hexL⟩
          have h3 := hb x
          have h4 := hb y
          simp only [hexI]
          simp only [hexL] at h3 h4 ⊢
          simp only [List.length_cons] at hlen ⊢
          exact ⟨by omega, by omega, by unfold I64; omega, by unfold I64; omega, by unfold I64; omega, rfl, rfl⟩
      · have e : escL (c :: r) = (0, 0, false) := by
          simp only [escL]; rw [if_neg (by omega), if_neg (by omega)]
          split
          · match r, h2 with
            | [], _ => rfl
            | [_], _ => rfl
            | x :: y :: r, h2 => simp only [List.length_cons] at h2; omega
          · rfl
        rw [e]
        exact ⟨rfl, rfl⟩
end Go.Proofs.YtmkifodpkcmgoaaDoor.E

/- lex, part I: strings. -/
set_option linter.unusedSimpArgs false
set_option linter.unusedVariables false
namespace Go.Proofs.YtmkifodpkcmgoaaDoor.E
open Go

theorem elT53 : elT Tryd.prog 53 = some 5 := by kernel_rfl
theorem sz5 : szT Tryd.prog 5 = 1 := by kernel_rfl
theorem by5 : byT Tryd.prog 5 = 1 := by kernel_rfl
theorem zero5 : zeroO Tryd.prog 5 = some [.v (.int .u8 0)] := by kernel_rfl
theorem agg5 : aggN Tryd.prog 5 = some none := by kernel_rfl
attribute [go_sem] elT53 sz5 by5 zero5 agg5
/-- What stands in a string, behind its first quote: the bytes, and how long the text is. -/
def qScanF : Nat → List UInt8 → Option (List UInt8 × Nat)
  | 0, _ => none
  | _ + 1, [] => none
  | f + 1, c :: r => if c.toNat = 34 then some ([], 1) else if c.toNat < 32 ∨ 126 < c.toNat then none else
      if c.toNat = 92 then (if (escL r).2.2 = true then (qScanF f (r.drop (escL r).1)).map fun x => (UInt8.ofNat (escL r).2.1.toNat :: x.1, 1 + (escL r).1 + x.2) else none)
      else (qScanF f r).map fun x => (c :: x.1, 1 + x.2)
def qScan (l : List UInt8) : Option (List UInt8 × Nat) := qScanF (l.length + 1) l
/-- What 'quoted' answers. -/
def QOut (s : List UInt8) (p : Nat) (o : Option (List UInt8 × Nat)) (r : SV) (H' : Hp) : Prop :=
  match o with
  | some (b, n) => r = .tup [Tk.sv ⟨5, b, 0, p⟩, .v (.bool (decide (b.length ≤ 1024)))] ∧ H' = ⟨[scB s (p + 1 + n : Nat)], []⟩
  | none => ∃ t q, r = .tup [Tk.sv t, .v (.bool false)] ∧ H' = ⟨[scB s q], []⟩
theorem u8s_inj {a b : List UInt8} (h : u8s a = u8s b) : a = b := by
  induction a generalizing b with
  | nil => cases b with
    | nil => rfl
    | cons => simp [u8s] at h
  | cons x a ih => cases b with
    | nil => simp [u8s] at h
    | cons y b =>
      simp only [u8s, List.map_cons, List.cons.injEq, Value.int.injEq, true_and] at h
      have h1 : x.toNat = y.toNat := by omega
      rw [UInt8.toNat_inj.1 h1, ih h.2]
theorem u8s_app (a b : List UInt8) : u8s (a ++ b) = u8s a ++ u8s b := by simp [u8s]
theorem wrap_u8 (n : Int) : ∃ x : UInt8, IntKind.u8.wrap n = x.toNat := by
  have h : 0 ≤ IntKind.u8.wrap n ∧ IntKind.u8.wrap n < 256 := by
    have e : IntKind.u8.wrap n = n % 256 := by simp [IntKind.wrap, IntKind.bits, IntKind.signed]
    rw [e]
    omega
  exact ⟨UInt8.ofNat (IntKind.u8.wrap n).toNat, by rw [UInt8.toNat_ofNat']; omega⟩
theorem escL_byte (l : List UInt8) : ∃ x : UInt8, (escL l).2.1 = x.toNat := by
  unfold escL
  split
  · exact ⟨0, rfl⟩
  · rename_i c r
    split
    · exact ⟨c, rfl⟩
    · split
      · exact ⟨10, rfl⟩
      · split
        · split
          · exact wrap_u8 _
          · exact ⟨0, rfl⟩
        · exact ⟨0, rfl⟩
theorem escL_len (l : List UInt8) : (escL l).1 ≤ l.length ∧ ((escL l).2.2 = true → 1 ≤ (escL l).1) := by
  unfold escL
  split
  · simp
  · rename_i c r
    split
    · simp
    · split
      · simp
      · split
        · split
          · simp
          · simp
        · simp
set_option maxHeartbeats 4000000 in
set_option maxRecDepth 20000 in
theorem quoted_spec (s : List UInt8) (p : Nat) (m : Mem) (hp : p < s.length) (hs : s.length ≤ 1000000) :
    FnH Tryd.prog 45 [.box 0 0] ⟨[scB s p], []⟩ m fun r H' m' => m' = m ∧ QOut s p (qScan (s.drop (p + 1))) r H' := by
  refine enter cf7 pu7 Tryd.func45 rfl rfl (by kernel_rfl) rfl ?_ ?_
  · simp only [go_sem, ↓reduceIte, or_true, or_false, true_or, false_or, Option.some.injEq, exists_eq_left, exists_eq_left', Nat.reduceBEq, Nat.reduceAdd, Nat.reduceMul, Nat.reduceSub, Nat.reduceEqDiff, Nat.reduceLT, Nat.reduceLeDiff, Option.map, Option.bind, List.map, List.length, true_implies, true_and, and_true, Bool.and_true, Bool.true_and, Bool.or_false, Bool.false_or, Bool.not_true, Bool.not_false, Bool.and_false, Bool.false_and, List.cons_append, List.nil_append, List.append_nil, mk_eq_bs, tl_bs, List.getElem?_cons_zero, List.getElem?_cons_succ, eq_self, reduceCtorEq, implies_true, false_implies, decide_eq_true_eq, decide_eq_false_iff_not, Bool.and_eq_true, Bool.or_eq_true, Bool.not_eq_true', Bool.and_eq_false_iff, Bool.or_eq_false_iff, Bool.not_eq_false', Option.toList, SV.v.injEq, Value.int.injEq, Value.bool.injEq, Value.string.injEq, Option.getD, List.contains_cons, List.contains_nil, beq_self_eq_true, Nat.max_def, List.set, List.drop, List.take, Int.toNat_natCast, Nat.mul_one, Int.toNat_zero, List.drop_zero, Bx.mk.injEq, Vc.mk.injEq, List.cons.injEq, List.take_length, List.getElem?_nil, List.getD_cons_zero, List.getD_cons_succ, Int.reduceToNat, not_false_eq_true, Nat.le_refl]
  · simp only [go_sem, ↓reduceIte, or_true, or_false, true_or, false_or, Option.some.injEq, exists_eq_left, exists_eq_left', Nat.reduceBEq, Nat.reduceAdd, Nat.reduceMul, Nat.reduceSub, Nat.reduceEqDiff, Nat.reduceLT, Nat.reduceLeDiff, Option.map, Option.bind, List.map, List.length, true_implies, true_and, and_true, Bool.and_true, Bool.true_and, Bool.or_false, Bool.false_or, Bool.not_true, Bool.not_false, Bool.and_false, Bool.false_and, List.cons_append, List.nil_append, List.append_nil, mk_eq_bs, tl_bs, List.getElem?_cons_zero, List.getElem?_cons_succ, eq_self, reduceCtorEq, implies_true, false_implies, decide_eq_true_eq, decide_eq_false_iff_not, Bool.and_eq_true, Bool.or_eq_true, Bool.not_eq_true', Bool.and_eq_false_iff, Bool.or_eq_false_iff, Bool.not_eq_false', Option.toList, SV.v.injEq, Value.int.injEq, Value.bool.injEq, Value.string.injEq, Option.getD, List.contains_cons, List.contains_nil, beq_self_eq_true, Nat.max_def, List.set, List.drop, List.take, Int.toNat_natCast, Nat.mul_one, Int.toNat_zero, List.drop_zero, Bx.mk.injEq, Vc.mk.injEq, List.cons.injEq, List.take_length, List.getElem?_nil, List.getD_cons_zero, List.getD_cons_succ, Int.reduceToNat, not_false_eq_true, Nat.le_refl]
    refine WP_scope0 pu7 (by kernel_rfl) ?_
    simp only [go_sem, ↓reduceIte, or_true, or_false, true_or, false_or, Option.some.injEq, exists_eq_left, exists_eq_left', Nat.reduceBEq, Nat.reduceAdd, Nat.reduceMul, Nat.reduceSub, Nat.reduceEqDiff, Nat.reduceLT, Nat.reduceLeDiff, Option.map, Option.bind, List.map, List.length, true_implies, true_and, and_true, Bool.and_true, Bool.true_and, Bool.or_false, Bool.false_or, Bool.not_true, Bool.not_false, Bool.and_false, Bool.false_and, List.cons_append, List.nil_append, List.append_nil, mk_eq_bs, tl_bs, List.getElem?_cons_zero, List.getElem?_cons_succ, eq_self, reduceCtorEq, implies_true, false_implies, decide_eq_true_eq, decide_eq_false_iff_not, Bool.and_eq_true, Bool.or_eq_true, Bool.not_eq_true', Bool.and_eq_false_iff, Bool.or_eq_false_iff, Bool.not_eq_false', Option.toList, SV.v.injEq, Value.int.injEq, Value.bool.injEq, Value.string.injEq, Option.getD, List.contains_cons, List.contains_nil, beq_self_eq_true, Nat.max_def, List.set, List.drop, List.take, Int.toNat_natCast, Nat.mul_one, Int.toNat_zero, List.drop_zero, Bx.mk.injEq, Vc.mk.injEq, List.cons.injEq, List.take_length, List.getElem?_nil, List.getD_cons_zero, List.getD_cons_succ, Int.reduceToNat, not_false_eq_true, Nat.le_refl]
    refine ⟨by unfold I64; omega, ?_⟩
    refine WP_adopt 5 5 1 (by decide) rfl ?_
    refine WP_loop pu7 (fun x : Nat × List UInt8 × Nat => ⟨[⟨0, [], .box 0 0⟩, ⟨2, [], .box 1 0⟩, ⟨4, [], .box 2 0⟩, ⟨5, [], .vec 3 x.2.2⟩], [], [⟨2, 27, Tk.cells ⟨5, [], 0, p⟩⟩, ⟨1, 27, Tk0.cells⟩, scB s x.1], [⟨3, x.2.2, 5, 1, x.2.1.length, u8s x.2.1⟩], 4, m⟩)
      (fun x => p + 1 ≤ x.1 ∧ x.1 ≤ s.length ∧ x.2.1.length ≤ x.1 ∧ ∃ f, s.length - x.1 < f ∧ qScan (s.drop (p + 1)) = (qScanF f (s.drop x.1)).map fun y => (x.2.1 ++ y.1, x.1 - (p + 1) + y.2)) (fun x => s.length - x.1) (p + 1, [], 0) (by kernel_rfl) (fun _ _ => by first | omega | (simp only; omega)) (fun _ _ => .inl rfl) (fun _ => ?_) ?_ ?_ ?_
    · simp only [go_sem, ↓reduceIte, or_true, or_false, true_or, false_or, Option.some.injEq, exists_eq_left, exists_eq_left', Nat.reduceBEq, Nat.reduceAdd, Nat.reduceMul, Nat.reduceSub, Nat.reduceEqDiff, Nat.reduceLT, Nat.reduceLeDiff, Option.map, Option.bind, List.map, List.length, true_implies, true_and, and_true, Bool.and_true, Bool.true_and, Bool.or_false, Bool.false_or, Bool.not_true, Bool.not_false, Bool.and_false, Bool.false_and, List.cons_append, List.nil_append, List.append_nil, mk_eq_bs, tl_bs, List.getElem?_cons_zero, List.getElem?_cons_succ, eq_self, reduceCtorEq, implies_true, false_implies, decide_eq_true_eq, decide_eq_false_iff_not, Bool.and_eq_true, Bool.or_eq_true, Bool.not_eq_true', Bool.and_eq_false_iff, Bool.or_eq_false_iff, Bool.not_eq_false', Option.toList, SV.v.injEq, Value.int.injEq, Value.bool.injEq, Value.string.injEq, Option.getD, List.contains_cons, List.contains_nil, beq_self_eq_true, Nat.max_def, List.set, List.drop, List.take, Int.toNat_natCast, Nat.mul_one, Int.toNat_zero, List.drop_zero, Bx.mk.injEq, Vc.mk.injEq, List.cons.injEq, List.take_length, List.getElem?_nil, List.getD_cons_zero, List.getD_cons_succ, Int.reduceToNat, not_false_eq_true, Nat.le_refl]
    · simp only [go_sem, ↓reduceIte, or_true, or_false, true_or, false_or, Option.some.injEq, exists_eq_left, exists_eq_left', Nat.reduceBEq, Nat.reduceAdd, Nat.reduceMul, Nat.reduceSub, Nat.reduceEqDiff, Nat.reduceLT, Nat.reduceLeDiff, Option.map, Option.bind, List.map, List.length, true_implies, true_and, and_true, Bool.and_true, Bool.true_and, Bool.or_false, Bool.false_or, Bool.not_true, Bool.not_false, Bool.and_false, Bool.false_and, List.cons_append, List.nil_append, List.append_nil, mk_eq_bs, tl_bs, List.getElem?_cons_zero, List.getElem?_cons_succ, eq_self, reduceCtorEq, implies_true, false_implies, decide_eq_true_eq, decide_eq_false_iff_not, Bool.and_eq_true, Bool.or_eq_true, Bool.not_eq_true', Bool.and_eq_false_iff, Bool.or_eq_false_iff, Bool.not_eq_false', Option.toList, SV.v.injEq, Value.int.injEq, Value.bool.injEq, Value.string.injEq, Option.getD, List.contains_cons, List.contains_nil, beq_self_eq_true, Nat.max_def, List.set, List.drop, List.take, Int.toNat_natCast, Nat.mul_one, Int.toNat_zero, List.drop_zero, Bx.mk.injEq, Vc.mk.injEq, List.cons.injEq, List.take_length, List.getElem?_nil, List.getD_cons_zero, List.getD_cons_succ, Int.reduceToNat, not_false_eq_true, Nat.le_refl]
      exact ⟨rfl, rfl⟩
    · refine ⟨Nat.le_refl _, hp, Nat.zero_le _, (s.drop (p + 1)).length + 1, by rw [List.length_drop]; omega, ?_⟩
      show qScan _ = (qScan _).map _
      cases qScan (s.drop (p + 1)) with
      | none => rfl
      | some x => simp
    · rintro ⟨q, b, v⟩ ⟨h1, h2, h3, f, hf, hq⟩
      simp only at h1 h2 h3 hf hq
      obtain ⟨f, rfl⟩ : ∃ g, f = g + 1 := ⟨f - 1, by omega⟩
      simp only [go_sem, ↓reduceIte, or_true, or_false, true_or, false_or, Option.some.injEq, exists_eq_left, exists_eq_left', Nat.reduceBEq, Nat.reduceAdd, Nat.reduceMul, Nat.reduceSub, Nat.reduceEqDiff, Nat.reduceLT, Nat.reduceLeDiff, Option.map, Option.bind, List.map, List.length, true_implies, true_and, and_true, Bool.and_true, Bool.true_and, Bool.or_false, Bool.false_or, Bool.not_true, Bool.not_false, Bool.and_false, Bool.false_and, List.cons_append, List.nil_append, List.append_nil, mk_eq_bs, tl_bs, List.getElem?_cons_zero, List.getElem?_cons_succ, eq_self, reduceCtorEq, implies_true, false_implies, decide_eq_true_eq, decide_eq_false_iff_not, Bool.and_eq_true, Bool.or_eq_true, Bool.not_eq_true', Bool.and_eq_false_iff, Bool.or_eq_false_iff, Bool.not_eq_false', Option.toList, SV.v.injEq, Value.int.injEq, Value.bool.injEq, Value.string.injEq, Option.getD, List.contains_cons, List.contains_nil, beq_self_eq_true, Nat.max_def, List.set, List.drop, List.take, Int.toNat_natCast, Nat.mul_one, Int.toNat_zero, List.drop_zero, Bx.mk.injEq, Vc.mk.injEq, List.cons.injEq, List.take_length, List.getElem?_nil, List.getD_cons_zero, List.getD_cons_succ, Int.reduceToNat, not_false_eq_true, Nat.le_refl]
      refine WP_drawQ pu7 (by kernel_rfl) (by kernel_rfl) (by kernel_rfl) ?_
      simp only [go_sem, ↓reduceIte, or_true, or_false, true_or, false_or, Option.some.injEq, exists_eq_left, exists_eq_left', Nat.reduceBEq, Nat.reduceAdd, Nat.reduceMul, Nat.reduceSub, Nat.reduceEqDiff, Nat.reduceLT, Nat.reduceLeDiff, Option.map, Option.bind, List.map, List.length, true_implies, true_and, and_true, Bool.and_true, Bool.true_and, Bool.or_false, Bool.false_or, Bool.not_true, Bool.not_false, Bool.and_false, Bool.false_and, List.cons_append, List.nil_append, List.append_nil, mk_eq_bs, tl_bs, List.getElem?_cons_zero, List.getElem?_cons_succ, eq_self, reduceCtorEq, implies_true, false_implies, decide_eq_true_eq, decide_eq_false_iff_not, Bool.and_eq_true, Bool.or_eq_true, Bool.not_eq_true', Bool.and_eq_false_iff, Bool.or_eq_false_iff, Bool.not_eq_false', Option.toList, SV.v.injEq, Value.int.injEq, Value.bool.injEq, Value.string.injEq, Option.getD, List.contains_cons, List.contains_nil, beq_self_eq_true, Nat.max_def, List.set, List.drop, List.take, Int.toNat_natCast, Nat.mul_one, Int.toNat_zero, List.drop_zero, Bx.mk.injEq, Vc.mk.injEq, List.cons.injEq, List.take_length, List.getElem?_nil, List.getD_cons_zero, List.getD_cons_succ, Int.reduceToNat, not_false_eq_true, Nat.le_refl]
      refine ⟨fun hge => ?_, fun hlt => ?_⟩
      · have e : s.drop q = [] := List.drop_of_length_le (by omega)
        rw [e] at hq
        have hq' : qScan (s.drop (p + 1)) = none := hq
        rw [hq']
        exact ⟨⟨5, [], 0, p⟩, _, rfl, rfl⟩
      · have hql : q < s.length := by omega
        rw [drop_at hql] at hq
        simp only [qScanF] at hq
        refine WP_drawQ pu7 (by kernel_rfl) (by kernel_rfl) (by kernel_rfl) ?_
        simp only [go_sem, ↓reduceIte, or_true, or_false, true_or, false_or, Option.some.injEq, exists_eq_left, exists_eq_left', Nat.reduceBEq, Nat.reduceAdd, Nat.reduceMul, Nat.reduceSub, Nat.reduceEqDiff, Nat.reduceLT, Nat.reduceLeDiff, Option.map, Option.bind, List.map, List.length, true_implies, true_and, and_true, Bool.and_true, Bool.true_and, Bool.or_false, Bool.false_or, Bool.not_true, Bool.not_false, Bool.and_false, Bool.false_and, List.cons_append, List.nil_append, List.append_nil, mk_eq_bs, tl_bs, List.getElem?_cons_zero, List.getElem?_cons_succ, eq_self, reduceCtorEq, implies_true, false_implies, decide_eq_true_eq, decide_eq_false_iff_not, Bool.and_eq_true, Bool.or_eq_true, Bool.not_eq_true', Bool.and_eq_false_iff, Bool.or_eq_false_iff, Bool.not_eq_false', Option.toList, SV.v.injEq, Value.int.injEq, Value.bool.injEq, Value.string.injEq, Option.getD, List.contains_cons, List.contains_nil, beq_self_eq_true, Nat.max_def, List.set, List.drop, List.take, Int.toNat_natCast, Nat.mul_one, Int.toNat_zero, List.drop_zero, Bx.mk.injEq, Vc.mk.injEq, List.cons.injEq, List.take_length, List.getElem?_nil, List.getD_cons_zero, List.getD_cons_succ, Int.reduceToNat, not_false_eq_true, Nat.le_refl]
        refine ⟨⟨by omega, by omega⟩, by unfold I64; omega, fun h34 => ?_, fun h34 => ?_⟩
        · rw [if_pos (by omega)] at hq
          refine ⟨b, rfl, ?_⟩
          rw [hq]
          refine ⟨?_, ?_⟩
          · have : decide ((b.length : Int) ≤ 1024) = decide ((b ++ []).length ≤ 1024) := by rw [List.append_nil, decide_eq_decide]; omega
            rw [this, List.append_nil]
          · have : ((p + 1 + (q - (p + 1) + 1) : Nat) : Int) = q + 1 := by omega
            simp only [this]
        · rw [if_neg (by omega)] at hq
          refine ⟨fun hbad => ?_, fun hbad => ⟨fun h92 => ⟨by kernel_rfl, ?_⟩, fun h92 => ?_⟩⟩
          · rw [if_pos (by omega)] at hq
            have hq' : qScan (s.drop (p + 1)) = none := hq
            rw [hq']
            exact ⟨⟨5, [], 0, p⟩, _, rfl, rfl⟩
          · rw [if_neg (by omega), if_pos (by omega)] at hq
            have hsp := escape_spec s (q + 1) m (by omega) hs
            refine FnV_of (hsp.mono ?_)
            rintro r H' m' hm ⟨rfl, rfl, rfl⟩
            simp only [go_sem, ↓reduceIte, or_true, or_false, true_or, false_or, Option.some.injEq, exists_eq_left, exists_eq_left', Nat.reduceBEq, Nat.reduceAdd, Nat.reduceMul, Nat.reduceSub, Nat.reduceEqDiff, Nat.reduceLT, Nat.reduceLeDiff, Option.map, Option.bind, List.map, List.length, true_implies, true_and, and_true, Bool.and_true, Bool.true_and, Bool.or_false, Bool.false_or, Bool.not_true, Bool.not_false, Bool.and_false, Bool.false_and, List.cons_append, List.nil_append, List.append_nil, mk_eq_bs, tl_bs, List.getElem?_cons_zero, List.getElem?_cons_succ, eq_self, reduceCtorEq, implies_true, false_implies, decide_eq_true_eq, decide_eq_false_iff_not, Bool.and_eq_true, Bool.or_eq_true, Bool.not_eq_true', Bool.and_eq_false_iff, Bool.or_eq_false_iff, Bool.not_eq_false', Option.toList, SV.v.injEq, Value.int.injEq, Value.bool.injEq, Value.string.injEq, Option.getD, List.contains_cons, List.contains_nil, beq_self_eq_true, Nat.max_def, List.set, List.drop, List.take, Int.toNat_natCast, Nat.mul_one, Int.toNat_zero, List.drop_zero, Bx.mk.injEq, Vc.mk.injEq, List.cons.injEq, List.take_length, List.getElem?_nil, List.getD_cons_zero, List.getD_cons_succ, Int.reduceToNat, not_false_eq_true, Nat.le_refl]
            obtain ⟨hl1, hl2⟩ := escL_len (s.drop (q + 1))
            obtain ⟨x, hx⟩ := escL_byte (s.drop (q + 1))
            rw [hx] at hq ⊢
            rw [List.length_drop] at hl1
            rw [List.drop_drop] at hq
            generalize (escL (s.drop (q + 1))).1 = a at hq hl1 hl2 ⊢
            generalize (escL (s.drop (q + 1))).2.2 = k at hq hl2 ⊢
            have ex : UInt8.ofNat ((x.toNat : Int)).toNat = x := by rw [Int.toNat_natCast]; simp
            rw [ex] at hq
            refine ⟨fun hk => ?_, fun hk => ?_⟩
            · subst hk
              have hq' : qScan (s.drop (p + 1)) = none := hq
              rw [hq']
              exact ⟨⟨5, [], 0, p⟩, _, rfl, rfl⟩
            · subst hk
              have ha := hl2 rfl
              have hsnoc : u8s b ++ [Value.int .u8 (x.toNat : Int)] = u8s (b ++ [x]) := by rw [u8s_app]; rfl
              refine ⟨⟨by omega, by simp only [maxLen]; omega⟩, (q + 1 + a, b ++ [x], v + 1), ⟨rfl, rfl, rfl, by simp, hsnoc⟩, ⟨by first | omega | (simp only; omega), by first | omega | (simp only; omega), by simp only [List.length_append, List.length_singleton]; omega, f, by first | omega | (simp only; omega), ?_⟩, by first | omega | (simp only; omega)⟩
              rw [hq, if_pos rfl]
              cases qScanF f (s.drop (q + 1 + a)) with
              | none => rfl
              | some x =>
                have : q - (p + 1) + (1 + a + x.2) = q + 1 + a - (p + 1) + x.2 := by omega
                simp [this]
          · rw [if_neg (by omega), if_neg (by omega)] at hq
            have hsnoc : u8s b ++ [Value.int .u8 ((s.getD q 0).toNat : Int)] = u8s (b ++ [s.getD q 0]) := by rw [u8s_app]; rfl
            refine ⟨⟨by omega, by simp only [maxLen]; omega⟩, (q + 1, b ++ [s.getD q 0], v + 1), ⟨rfl, rfl, rfl, by simp, hsnoc⟩, ⟨by first | omega | (simp only; omega), by first | omega | (simp only; omega), by simp only [List.length_append, List.length_singleton]; omega, f, by first | omega | (simp only; omega), ?_⟩, by first | omega | (simp only; omega)⟩
            rw [hq]
            cases qScanF f (s.drop (q + 1)) with
            | none => rfl
            | some x =>
              have : q - (p + 1) + (1 + x.2) = q + 1 - (p + 1) + x.2 := by omega
              simp [this]
end Go.Proofs.YtmkifodpkcmgoaaDoor.E

/- lex, part J: numbers. -/
set_option linter.unusedSimpArgs false
set_option linter.unusedVariables false
namespace Go.Proofs.YtmkifodpkcmgoaaDoor.E
open Go

theorem if62 : isIfT Tryd.prog 62 = true := by kernel_rfl
attribute [go_sem] if62
/-- The digits with which a text begins. -/
def digL : List UInt8 → Nat
  | [] => 0
  | c :: r => if isDigitB c.toNat then 1 + digL r else 0
theorem dig_le : ∀ l, digL l ≤ l.length
  | [] => by simp [digL]
  | c :: r => by
    have := dig_le r
    simp only [digL, List.length_cons]
    split <;> omega
/-- A number: is it long, its value, how long its text is, is it right. -/
def numL (l : List UInt8) : Bool × Int × Nat × Bool :=
  let d := digL l
  let big := decide ((l.drop d).head?.map UInt8.toNat = some 76)
  let v := parseN (l.take d)
  (big, v.1, if big = true then d + 1 else d, v.2 && decide (v.1 ≤ if big = true then 9223372036854775807 else 2147483647) && (decide ((l.head?.map UInt8.toNat) ≠ some 48) || decide (d = 1)))
def numT (s : List UInt8) (p : Nat) : List UInt8 := (s.drop p).take (digL (s.drop p))
theorem num_at {s : List UInt8} {p k : Nat} (hp : p < s.length) (hk : k ≤ s.length) (hk0 : k = p + digL (s.drop p)) (hpos : p < k) :
    (s.take k).drop p = numT s p ∧ (numT s p).length = k - p ∧ numL (s.drop p) = (decide ((k : Int) < s.length ∧ (((s.getD k 0).toNat : Nat) : Int) = 76), (parseN (numT s p)).1, (if ((k : Int) < s.length ∧ (((s.getD k 0).toNat : Nat) : Int) = 76) then k - p + 1 else k - p),
      (parseN (numT s p)).2 && decide ((parseN (numT s p)).1 ≤ if ((k : Int) < s.length ∧ (((s.getD k 0).toNat : Nat) : Int) = 76) then 9223372036854775807 else 2147483647) && (decide (((numT s p).getD 0 0).toNat ≠ 48) || decide ((numT s p).length = 1))) := by
  have hdt : (s.take k).drop p = (s.drop p).take (digL (s.drop p)) := by
    rw [List.drop_take]; congr 1; omega
  have hdn : (s.drop p).drop (digL (s.drop p)) = s.drop k := by rw [List.drop_drop, hk0]
  have hdl : ((s.drop p).take (digL (s.drop p))).length = k - p := by rw [List.length_take]; have := dig_le (s.drop p); omega
  have hd0 : ((s.drop p).take (digL (s.drop p))).getD 0 0 = (s.drop p).getD 0 0 := by
    rw [List.getD_eq_getElem?_getD, List.getElem?_take, if_pos (by omega), List.getD_eq_getElem?_getD]
  have hdg : digL (s.drop p) = k - p := by omega
  have hh0 : (s.drop p).head?.map UInt8.toNat = some ((s.drop p).getD 0 0).toNat := by
    rw [drop_at hp]; rfl
  have hh1 : ((s.drop k).head?.map UInt8.toNat = some 76) = ((k : Int) < s.length ∧ (((s.getD k 0).toNat : Nat) : Int) = 76) := by
    rw [eq_iff_iff]
    rcases Nat.lt_or_ge k s.length with h' | h'
    · rw [drop_at h']
      simp only [List.head?_cons, Option.map_some, Option.some.injEq]
      omega
    · rw [List.drop_of_length_le h']
      simp only [List.head?_nil, Option.map_none]
      constructor
      · intro h; cases h
      · intro h; omega
  refine ⟨hdt, hdl, ?_⟩
  unfold numT
  have hN : numL (s.drop p) = (decide (((s.drop p).drop (digL (s.drop p))).head?.map UInt8.toNat = some 76), (parseN ((s.drop p).take (digL (s.drop p)))).1,
    (if decide (((s.drop p).drop (digL (s.drop p))).head?.map UInt8.toNat = some 76) = true then digL (s.drop p) + 1 else digL (s.drop p)),
    (parseN ((s.drop p).take (digL (s.drop p)))).2 && decide ((parseN ((s.drop p).take (digL (s.drop p)))).1 ≤ if decide (((s.drop p).drop (digL (s.drop p))).head?.map UInt8.toNat = some 76) = true then 9223372036854775807 else 2147483647) && (decide (((s.drop p).head?.map UInt8.toNat) ≠ some 48) || decide (digL (s.drop p) = 1))) := rfl
  rw [hN, hdn, hdl, hd0, hh0]
  generalize (s.drop p).take (digL (s.drop p)) = t
  rw [hdg]
  simp only [hh1, decide_eq_true_eq, ne_eq, Option.some.injEq]
theorem num_end {t : List UInt8} : (!decide (((t.getD 0 0).toNat : Int) = 48) || decide ((t.length : Int) = 1)) = (decide ((t.getD 0 0).toNat ≠ 48) || decide (t.length = 1)) := by
  have e1 : decide (((t.getD 0 0).toNat : Int) = 48) = decide ((t.getD 0 0).toNat = 48) := by rw [decide_eq_decide]; omega
  have e2 : decide ((t.length : Int) = 1) = decide (t.length = 1) := by rw [decide_eq_decide]; omega
  rw [e1, e2]
  simp
set_option maxHeartbeats 4000000 in
set_option maxRecDepth 20000 in
theorem number_spec (s : List UInt8) (p : Nat) (m : Mem) (hg : Glob m) (hp : p < s.length) (hs : s.length ≤ 1000000) (hd : isDigitB (s.getD p 0).toNat = true) :
    FnH Tryd.prog 44 [.box 0 0] ⟨[scB s p], []⟩ m fun r H' m' => m' = m ∧
      r = .tup [Tk.sv ⟨if (numL (s.drop p)).1 = true then 4 else 3, [], (numL (s.drop p)).2.1, p⟩, .v (.bool (numL (s.drop p)).2.2.2)] ∧ H' = ⟨[scB s (p + (numL (s.drop p)).2.2.1 : Nat)], []⟩ := by
  refine enter cf7 pu7 Tryd.func44 rfl rfl (by kernel_rfl) rfl ?_ ?_
  · simp only [go_sem, ↓reduceIte, or_true, or_false, true_or, false_or, Option.some.injEq, exists_eq_left, exists_eq_left', Nat.reduceBEq, Nat.reduceAdd, Nat.reduceMul, Nat.reduceSub, Nat.reduceEqDiff, Nat.reduceLT, Nat.reduceLeDiff, Option.map, Option.bind, List.map, List.length, true_implies, true_and, and_true, Bool.and_true, Bool.true_and, Bool.or_false, Bool.false_or, Bool.not_true, Bool.not_false, Bool.and_false, Bool.false_and, List.cons_append, List.nil_append, List.append_nil, mk_eq_bs, tl_bs, List.getElem?_cons_zero, List.getElem?_cons_succ, eq_self, reduceCtorEq, implies_true, false_implies, decide_eq_true_eq, decide_eq_false_iff_not, Bool.and_eq_true, Bool.or_eq_true, Bool.not_eq_true', Bool.and_eq_false_iff, Bool.or_eq_false_iff, Bool.not_eq_false', Option.toList, SV.v.injEq, Value.int.injEq, Value.bool.injEq, Value.string.injEq, Option.getD, List.contains_cons, List.contains_nil, beq_self_eq_true, Nat.max_def, List.set, List.drop, List.take, Int.toNat_natCast, Nat.mul_one, Int.toNat_zero, List.drop_zero, Bx.mk.injEq, Vc.mk.injEq, List.cons.injEq, List.take_length, List.getElem?_nil, List.getD_cons_zero, List.getD_cons_succ, Int.reduceToNat, not_false_eq_true, Nat.le_refl]
  · simp only [go_sem, ↓reduceIte, or_true, or_false, true_or, false_or, Option.some.injEq, exists_eq_left, exists_eq_left', Nat.reduceBEq, Nat.reduceAdd, Nat.reduceMul, Nat.reduceSub, Nat.reduceEqDiff, Nat.reduceLT, Nat.reduceLeDiff, Option.map, Option.bind, List.map, List.length, true_implies, true_and, and_true, Bool.and_true, Bool.true_and, Bool.or_false, Bool.false_or, Bool.not_true, Bool.not_false, Bool.and_false, Bool.false_and, List.cons_append, List.nil_append, List.append_nil, mk_eq_bs, tl_bs, List.getElem?_cons_zero, List.getElem?_cons_succ, eq_self, reduceCtorEq, implies_true, false_implies, decide_eq_true_eq, decide_eq_false_iff_not, Bool.and_eq_true, Bool.or_eq_true, Bool.not_eq_true', Bool.and_eq_false_iff, Bool.or_eq_false_iff, Bool.not_eq_false', Option.toList, SV.v.injEq, Value.int.injEq, Value.bool.injEq, Value.string.injEq, Option.getD, List.contains_cons, List.contains_nil, beq_self_eq_true, Nat.max_def, List.set, List.drop, List.take, Int.toNat_natCast, Nat.mul_one, Int.toNat_zero, List.drop_zero, Bx.mk.injEq, Vc.mk.injEq, List.cons.injEq, List.take_length, List.getElem?_nil, List.getD_cons_zero, List.getD_cons_succ, Int.reduceToNat, not_false_eq_true, Nat.le_refl]
    refine WP_loop pu7 (fun k : Nat => ⟨[⟨0, [], .box 0 0⟩, ⟨2, [], .box 1 0⟩, ⟨4, [], .v (.int .i64 p)⟩], [], [⟨1, 27, Tk0.cells⟩, scB s k], [], 2, m⟩)
      (fun k => p ≤ k ∧ k ≤ s.length ∧ p + digL (s.drop p) = k + digL (s.drop k)) (fun k => s.length - k) p (by kernel_rfl) (fun _ _ => Nat.le_refl _) (fun _ _ => .inl rfl) (fun _ => ?_) ?_ ?_ ?_
    · simp only [go_sem, ↓reduceIte, or_true, or_false, true_or, false_or, Option.some.injEq, exists_eq_left, exists_eq_left', Nat.reduceBEq, Nat.reduceAdd, Nat.reduceMul, Nat.reduceSub, Nat.reduceEqDiff, Nat.reduceLT, Nat.reduceLeDiff, Option.map, Option.bind, List.map, List.length, true_implies, true_and, and_true, Bool.and_true, Bool.true_and, Bool.or_false, Bool.false_or, Bool.not_true, Bool.not_false, Bool.and_false, Bool.false_and, List.cons_append, List.nil_append, List.append_nil, mk_eq_bs, tl_bs, List.getElem?_cons_zero, List.getElem?_cons_succ, eq_self, reduceCtorEq, implies_true, false_implies, decide_eq_true_eq, decide_eq_false_iff_not, Bool.and_eq_true, Bool.or_eq_true, Bool.not_eq_true', Bool.and_eq_false_iff, Bool.or_eq_false_iff, Bool.not_eq_false', Option.toList, SV.v.injEq, Value.int.injEq, Value.bool.injEq, Value.string.injEq, Option.getD, List.contains_cons, List.contains_nil, beq_self_eq_true, Nat.max_def, List.set, List.drop, List.take, Int.toNat_natCast, Nat.mul_one, Int.toNat_zero, List.drop_zero, Bx.mk.injEq, Vc.mk.injEq, List.cons.injEq, List.take_length, List.getElem?_nil, List.getD_cons_zero, List.getD_cons_succ, Int.reduceToNat, not_false_eq_true, Nat.le_refl]
    · simp only [go_sem, ↓reduceIte, or_true, or_false, true_or, false_or, Option.some.injEq, exists_eq_left, exists_eq_left', Nat.reduceBEq, Nat.reduceAdd, Nat.reduceMul, Nat.reduceSub, Nat.reduceEqDiff, Nat.reduceLT, Nat.reduceLeDiff, Option.map, Option.bind, List.map, List.length, true_implies, true_and, and_true, Bool.and_true, Bool.true_and, Bool.or_false, Bool.false_or, Bool.not_true, Bool.not_false, Bool.and_false, Bool.false_and, List.cons_append, List.nil_append, List.append_nil, mk_eq_bs, tl_bs, List.getElem?_cons_zero, List.getElem?_cons_succ, eq_self, reduceCtorEq, implies_true, false_implies, decide_eq_true_eq, decide_eq_false_iff_not, Bool.and_eq_true, Bool.or_eq_true, Bool.not_eq_true', Bool.and_eq_false_iff, Bool.or_eq_false_iff, Bool.not_eq_false', Option.toList, SV.v.injEq, Value.int.injEq, Value.bool.injEq, Value.string.injEq, Option.getD, List.contains_cons, List.contains_nil, beq_self_eq_true, Nat.max_def, List.set, List.drop, List.take, Int.toNat_natCast, Nat.mul_one, Int.toNat_zero, List.drop_zero, Bx.mk.injEq, Vc.mk.injEq, List.cons.injEq, List.take_length, List.getElem?_nil, List.getD_cons_zero, List.getD_cons_succ, Int.reduceToNat, not_false_eq_true, Nat.le_refl]
    · exact ⟨Nat.le_refl _, by omega, rfl⟩
    · rintro k ⟨hpk, hk, hdk⟩
      simp only [go_sem, ↓reduceIte, or_true, or_false, true_or, false_or, Option.some.injEq, exists_eq_left, exists_eq_left', Nat.reduceBEq, Nat.reduceAdd, Nat.reduceMul, Nat.reduceSub, Nat.reduceEqDiff, Nat.reduceLT, Nat.reduceLeDiff, Option.map, Option.bind, List.map, List.length, true_implies, true_and, and_true, Bool.and_true, Bool.true_and, Bool.or_false, Bool.false_or, Bool.not_true, Bool.not_false, Bool.and_false, Bool.false_and, List.cons_append, List.nil_append, List.append_nil, mk_eq_bs, tl_bs, List.getElem?_cons_zero, List.getElem?_cons_succ, eq_self, reduceCtorEq, implies_true, false_implies, decide_eq_true_eq, decide_eq_false_iff_not, Bool.and_eq_true, Bool.or_eq_true, Bool.not_eq_true', Bool.and_eq_false_iff, Bool.or_eq_false_iff, Bool.not_eq_false', Option.toList, SV.v.injEq, Value.int.injEq, Value.bool.injEq, Value.string.injEq, Option.getD, List.contains_cons, List.contains_nil, beq_self_eq_true, Nat.max_def, List.set, List.drop, List.take, Int.toNat_natCast, Nat.mul_one, Int.toNat_zero, List.drop_zero, Bx.mk.injEq, Vc.mk.injEq, List.cons.injEq, List.take_length, List.getElem?_nil, List.getD_cons_zero, List.getD_cons_succ, Int.reduceToNat, not_false_eq_true, Nat.le_refl]
      refine WP_drawQ pu7 (by kernel_rfl) (by kernel_rfl) (by kernel_rfl) ?_
      simp only [go_sem, ↓reduceIte, or_true, or_false, true_or, false_or, Option.some.injEq, exists_eq_left, exists_eq_left', Nat.reduceBEq, Nat.reduceAdd, Nat.reduceMul, Nat.reduceSub, Nat.reduceEqDiff, Nat.reduceLT, Nat.reduceLeDiff, Option.map, Option.bind, List.map, List.length, true_implies, true_and, and_true, Bool.and_true, Bool.true_and, Bool.or_false, Bool.false_or, Bool.not_true, Bool.not_false, Bool.and_false, Bool.false_and, List.cons_append, List.nil_append, List.append_nil, mk_eq_bs, tl_bs, List.getElem?_cons_zero, List.getElem?_cons_succ, eq_self, reduceCtorEq, implies_true, false_implies, decide_eq_true_eq, decide_eq_false_iff_not, Bool.and_eq_true, Bool.or_eq_true, Bool.not_eq_true', Bool.and_eq_false_iff, Bool.or_eq_false_iff, Bool.not_eq_false', Option.toList, SV.v.injEq, Value.int.injEq, Value.bool.injEq, Value.string.injEq, Option.getD, List.contains_cons, List.contains_nil, beq_self_eq_true, Nat.max_def, List.set, List.drop, List.take, Int.toNat_natCast, Nat.mul_one, Int.toNat_zero, List.drop_zero, Bx.mk.injEq, Vc.mk.injEq, List.cons.injEq, List.take_length, List.getElem?_nil, List.getD_cons_zero, List.getD_cons_succ, Int.reduceToNat, not_false_eq_true, Nat.le_refl]
      refine ⟨fun h => ⟨by omega, h⟩, fun h => ⟨by unfold I64; omega, k + 1, rfl, ⟨by omega, by omega, ?_⟩, by omega⟩, fun h => ?_⟩
      · have e : digL (s.drop k) = 1 + digL (s.drop (k + 1)) := by
          rw [drop_at (by omega)]; simp only [digL]; rw [if_pos h.2]
        omega
      · have hend : digL (s.drop k) = 0 := by
          rcases h with h | h
          · rw [List.drop_of_length_le (by omega)]; rfl
          · rcases Nat.lt_or_ge k s.length with h' | h'
            · rw [drop_at h']; simp only [digL]; rw [h]; rfl
            · rw [List.drop_of_length_le h']; rfl
        have hk0 : k = p + digL (s.drop p) := by omega
        have hpos : p < k := by
          rw [hk0, drop_at hp]; simp only [digL]; rw [if_pos hd]; omega
        clear hdk h hend
        have hna := num_at hp hk hk0 hpos
        have hdt := hna.1
        have hdl := hna.2.1
        have hnum := hna.2.2
        have hps := parseInt_spec (numT s p) m hg (by rw [hdl]; omega)
        refine WP_drawQ pu7 (by kernel_rfl) (by kernel_rfl) (by kernel_rfl) ?_
        simp only [go_sem, ↓reduceIte, or_true, or_false, true_or, false_or, Option.some.injEq, exists_eq_left, exists_eq_left', Nat.reduceBEq, Nat.reduceAdd, Nat.reduceMul, Nat.reduceSub, Nat.reduceEqDiff, Nat.reduceLT, Nat.reduceLeDiff, Option.map, Option.bind, List.map, List.length, true_implies, true_and, and_true, Bool.and_true, Bool.true_and, Bool.or_false, Bool.false_or, Bool.not_true, Bool.not_false, Bool.and_false, Bool.false_and, List.cons_append, List.nil_append, List.append_nil, mk_eq_bs, tl_bs, List.getElem?_cons_zero, List.getElem?_cons_succ, eq_self, reduceCtorEq, implies_true, false_implies, decide_eq_true_eq, decide_eq_false_iff_not, Bool.and_eq_true, Bool.or_eq_true, Bool.not_eq_true', Bool.and_eq_false_iff, Bool.or_eq_false_iff, Bool.not_eq_false', Option.toList, SV.v.injEq, Value.int.injEq, Value.bool.injEq, Value.string.injEq, Option.getD, List.contains_cons, List.contains_nil, beq_self_eq_true, Nat.max_def, List.set, List.drop, List.take, Int.toNat_natCast, Nat.mul_one, Int.toNat_zero, List.drop_zero, Bx.mk.injEq, Vc.mk.injEq, List.cons.injEq, List.take_length, List.getElem?_nil, List.getD_cons_zero, List.getD_cons_succ, Int.reduceToNat, not_false_eq_true, Nat.le_refl, hdt]
        refine ⟨⟨by omega, by omega, by omega⟩, ?_⟩
        refine WP_drawQ pu7 (by kernel_rfl) (by kernel_rfl) (by kernel_rfl) ?_
        simp only [go_sem, ↓reduceIte, or_true, or_false, true_or, false_or, Option.some.injEq, exists_eq_left, exists_eq_left', Nat.reduceBEq, Nat.reduceAdd, Nat.reduceMul, Nat.reduceSub, Nat.reduceEqDiff, Nat.reduceLT, Nat.reduceLeDiff, Option.map, Option.bind, List.map, List.length, true_implies, true_and, and_true, Bool.and_true, Bool.true_and, Bool.or_false, Bool.false_or, Bool.not_true, Bool.not_false, Bool.and_false, Bool.false_and, List.cons_append, List.nil_append, List.append_nil, mk_eq_bs, tl_bs, List.getElem?_cons_zero, List.getElem?_cons_succ, eq_self, reduceCtorEq, implies_true, false_implies, decide_eq_true_eq, decide_eq_false_iff_not, Bool.and_eq_true, Bool.or_eq_true, Bool.not_eq_true', Bool.and_eq_false_iff, Bool.or_eq_false_iff, Bool.not_eq_false', Option.toList, SV.v.injEq, Value.int.injEq, Value.bool.injEq, Value.string.injEq, Option.getD, List.contains_cons, List.contains_nil, beq_self_eq_true, Nat.max_def, List.set, List.drop, List.take, Int.toNat_natCast, Nat.mul_one, Int.toNat_zero, List.drop_zero, Bx.mk.injEq, Vc.mk.injEq, List.cons.injEq, List.take_length, List.getElem?_nil, List.getD_cons_zero, List.getD_cons_succ, Int.reduceToNat, not_false_eq_true, Nat.le_refl, hdt]
        refine ⟨fun h => ⟨by omega, h⟩, fun h => ⟨by unfold I64; omega, by kernel_rfl, FnV_of (hps.mono ?_)⟩, fun h => ⟨by kernel_rfl, FnV_of (hps.mono ?_)⟩⟩
        · rintro r H' m' hm ⟨⟨e, rfl, he1, he2⟩, rfl, rfl⟩
          clear hps
          rcases he1 with rfl | ⟨te, ve, rfl⟩
          · simp only [go_sem, ↓reduceIte, or_true, or_false, true_or, false_or, Option.some.injEq, exists_eq_left, exists_eq_left', Nat.reduceBEq, Nat.reduceAdd, Nat.reduceMul, Nat.reduceSub, Nat.reduceEqDiff, Nat.reduceLT, Nat.reduceLeDiff, Option.map, Option.bind, List.map, List.length, true_implies, true_and, and_true, Bool.and_true, Bool.true_and, Bool.or_false, Bool.false_or, Bool.not_true, Bool.not_false, Bool.and_false, Bool.false_and, List.cons_append, List.nil_append, List.append_nil, mk_eq_bs, tl_bs, List.getElem?_cons_zero, List.getElem?_cons_succ, eq_self, reduceCtorEq, implies_true, false_implies, decide_eq_true_eq, decide_eq_false_iff_not, Bool.and_eq_true, Bool.or_eq_true, Bool.not_eq_true', Bool.and_eq_false_iff, Bool.or_eq_false_iff, Bool.not_eq_false', Option.toList, SV.v.injEq, Value.int.injEq, Value.bool.injEq, Value.string.injEq, Option.getD, List.contains_cons, List.contains_nil, beq_self_eq_true, Nat.max_def, List.set, List.drop, List.take, Int.toNat_natCast, Nat.mul_one, Int.toNat_zero, List.drop_zero, Bx.mk.injEq, Vc.mk.injEq, List.cons.injEq, List.take_length, List.getElem?_nil, List.getD_cons_zero, List.getD_cons_succ, Int.reduceToNat, not_false_eq_true, Nat.le_refl]
            refine WP_draw (.hoist 0 (.hoist 1 (.hoist 2 (.hoist 3 (.hoist 4 (.hoist 5 (.hoist 6 (.hoist 7 (.hoist 8 (.hoist 9 (.hoist 10 (.hoist 11 (.hoist 12 (.hoist 13 (.hoist 14 (.hoist 15 (.hoist 16 (.hoist 17 (.hoist 18 (.alt 19 [18, 17, 16, 15, 14] (.hoist 20 .done) .stop)))))))))))))))))))) pu7 (by kernel_rfl) (by kernel_rfl) ?_
            simp only [go_sem, ↓reduceIte, or_true, or_false, true_or, false_or, Option.some.injEq, exists_eq_left, exists_eq_left', Nat.reduceBEq, Nat.reduceAdd, Nat.reduceMul, Nat.reduceSub, Nat.reduceEqDiff, Nat.reduceLT, Nat.reduceLeDiff, Option.map, Option.bind, List.map, List.length, true_implies, true_and, and_true, Bool.and_true, Bool.true_and, Bool.or_false, Bool.false_or, Bool.not_true, Bool.not_false, Bool.and_false, Bool.false_and, List.cons_append, List.nil_append, List.append_nil, mk_eq_bs, tl_bs, List.getElem?_cons_zero, List.getElem?_cons_succ, eq_self, reduceCtorEq, implies_true, false_implies, decide_eq_true_eq, decide_eq_false_iff_not, Bool.and_eq_true, Bool.or_eq_true, Bool.not_eq_true', Bool.and_eq_false_iff, Bool.or_eq_false_iff, Bool.not_eq_false', Option.toList, SV.v.injEq, Value.int.injEq, Value.bool.injEq, Value.string.injEq, Option.getD, List.contains_cons, List.contains_nil, beq_self_eq_true, Nat.max_def, List.set, List.drop, List.take, Int.toNat_natCast, Nat.mul_one, Int.toNat_zero, List.drop_zero, Bx.mk.injEq, Vc.mk.injEq, List.cons.injEq, List.take_length, List.getElem?_nil, List.getD_cons_zero, List.getD_cons_succ, Int.reduceToNat, not_false_eq_true, Nat.le_refl, hnum]
            have hp2 : (parseN (numT s p)).2 = true := he2.symm
            refine ⟨.inl rfl, fun _ => by rw [hdl]; omega, ?_, ?_⟩
            · rw [if_pos h, if_pos h, hp2, Bool.true_and, num_end]
            · rw [if_pos h]
              have : ((p + (k - p + 1) : Nat) : Int) = k + 1 := by omega
              rw [this]
          · simp only [go_sem, ↓reduceIte, or_true, or_false, true_or, false_or, Option.some.injEq, exists_eq_left, exists_eq_left', Nat.reduceBEq, Nat.reduceAdd, Nat.reduceMul, Nat.reduceSub, Nat.reduceEqDiff, Nat.reduceLT, Nat.reduceLeDiff, Option.map, Option.bind, List.map, List.length, true_implies, true_and, and_true, Bool.and_true, Bool.true_and, Bool.or_false, Bool.false_or, Bool.not_true, Bool.not_false, Bool.and_false, Bool.false_and, List.cons_append, List.nil_append, List.append_nil, mk_eq_bs, tl_bs, List.getElem?_cons_zero, List.getElem?_cons_succ, eq_self, reduceCtorEq, implies_true, false_implies, decide_eq_true_eq, decide_eq_false_iff_not, Bool.and_eq_true, Bool.or_eq_true, Bool.not_eq_true', Bool.and_eq_false_iff, Bool.or_eq_false_iff, Bool.not_eq_false', Option.toList, SV.v.injEq, Value.int.injEq, Value.bool.injEq, Value.string.injEq, Option.getD, List.contains_cons, List.contains_nil, beq_self_eq_true, Nat.max_def, List.set, List.drop, List.take, Int.toNat_natCast, Nat.mul_one, Int.toNat_zero, List.drop_zero, Bx.mk.injEq, Vc.mk.injEq, List.cons.injEq, List.take_length, List.getElem?_nil, List.getD_cons_zero, List.getD_cons_succ, Int.reduceToNat, not_false_eq_true, Nat.le_refl]
            refine WP_draw (.hoist 0 (.hoist 1 (.hoist 2 (.hoist 3 (.hoist 4 (.hoist 5 (.hoist 6 (.hoist 7 (.hoist 8 (.hoist 9 (.hoist 10 (.hoist 11 (.hoist 12 (.hoist 13 (.hoist 14 (.hoist 15 (.hoist 16 (.hoist 17 (.hoist 18 (.alt 19 [18, 17, 16, 15, 14] (.hoist 20 .done) .stop)))))))))))))))))))) pu7 (by kernel_rfl) (by kernel_rfl) ?_
            simp only [go_sem, ↓reduceIte, or_true, or_false, true_or, false_or, Option.some.injEq, exists_eq_left, exists_eq_left', Nat.reduceBEq, Nat.reduceAdd, Nat.reduceMul, Nat.reduceSub, Nat.reduceEqDiff, Nat.reduceLT, Nat.reduceLeDiff, Option.map, Option.bind, List.map, List.length, true_implies, true_and, and_true, Bool.and_true, Bool.true_and, Bool.or_false, Bool.false_or, Bool.not_true, Bool.not_false, Bool.and_false, Bool.false_and, List.cons_append, List.nil_append, List.append_nil, mk_eq_bs, tl_bs, List.getElem?_cons_zero, List.getElem?_cons_succ, eq_self, reduceCtorEq, implies_true, false_implies, decide_eq_true_eq, decide_eq_false_iff_not, Bool.and_eq_true, Bool.or_eq_true, Bool.not_eq_true', Bool.and_eq_false_iff, Bool.or_eq_false_iff, Bool.not_eq_false', Option.toList, SV.v.injEq, Value.int.injEq, Value.bool.injEq, Value.string.injEq, Option.getD, List.contains_cons, List.contains_nil, beq_self_eq_true, Nat.max_def, List.set, List.drop, List.take, Int.toNat_natCast, Nat.mul_one, Int.toNat_zero, List.drop_zero, Bx.mk.injEq, Vc.mk.injEq, List.cons.injEq, List.take_length, List.getElem?_nil, List.getD_cons_zero, List.getD_cons_succ, Int.reduceToNat, not_false_eq_true, Nat.le_refl, hnum]
            have hp2 : (parseN (numT s p)).2 = false := he2.symm
            refine ⟨.inr ⟨_, _, rfl⟩, ?_, ?_⟩
            · rw [if_pos h, if_pos h, hp2]; rfl
            · rw [if_pos h]
              have : ((p + (k - p + 1) : Nat) : Int) = k + 1 := by omega
              rw [this]
        · rintro r H' m' hm ⟨⟨e, rfl, he1, he2⟩, rfl, rfl⟩
          clear hps
          rcases he1 with rfl | ⟨te, ve, rfl⟩
          · simp only [go_sem, ↓reduceIte, or_true, or_false, true_or, false_or, Option.some.injEq, exists_eq_left, exists_eq_left', Nat.reduceBEq, Nat.reduceAdd, Nat.reduceMul, Nat.reduceSub, Nat.reduceEqDiff, Nat.reduceLT, Nat.reduceLeDiff, Option.map, Option.bind, List.map, List.length, true_implies, true_and, and_true, Bool.and_true, Bool.true_and, Bool.or_false, Bool.false_or, Bool.not_true, Bool.not_false, Bool.and_false, Bool.false_and, List.cons_append, List.nil_append, List.append_nil, mk_eq_bs, tl_bs, List.getElem?_cons_zero, List.getElem?_cons_succ, eq_self, reduceCtorEq, implies_true, false_implies, decide_eq_true_eq, decide_eq_false_iff_not, Bool.and_eq_true, Bool.or_eq_true, Bool.not_eq_true', Bool.and_eq_false_iff, Bool.or_eq_false_iff, Bool.not_eq_false', Option.toList, SV.v.injEq, Value.int.injEq, Value.bool.injEq, Value.string.injEq, Option.getD, List.contains_cons, List.contains_nil, beq_self_eq_true, Nat.max_def, List.set, List.drop, List.take, Int.toNat_natCast, Nat.mul_one, Int.toNat_zero, List.drop_zero, Bx.mk.injEq, Vc.mk.injEq, List.cons.injEq, List.take_length, List.getElem?_nil, List.getD_cons_zero, List.getD_cons_succ, Int.reduceToNat, not_false_eq_true, Nat.le_refl]
            refine WP_draw (.hoist 0 (.hoist 1 (.hoist 2 (.hoist 3 (.hoist 4 (.hoist 5 (.hoist 6 (.hoist 7 (.hoist 8 (.hoist 9 (.hoist 10 (.hoist 11 (.hoist 12 (.hoist 13 (.hoist 14 (.hoist 15 (.hoist 16 (.hoist 17 (.hoist 18 (.alt 19 [18, 17, 16, 15, 14] (.hoist 20 .done) .stop)))))))))))))))))))) pu7 (by kernel_rfl) (by kernel_rfl) ?_
            simp only [go_sem, ↓reduceIte, or_true, or_false, true_or, false_or, Option.some.injEq, exists_eq_left, exists_eq_left', Nat.reduceBEq, Nat.reduceAdd, Nat.reduceMul, Nat.reduceSub, Nat.reduceEqDiff, Nat.reduceLT, Nat.reduceLeDiff, Option.map, Option.bind, List.map, List.length, true_implies, true_and, and_true, Bool.and_true, Bool.true_and, Bool.or_false, Bool.false_or, Bool.not_true, Bool.not_false, Bool.and_false, Bool.false_and, List.cons_append, List.nil_append, List.append_nil, mk_eq_bs, tl_bs, List.getElem?_cons_zero, List.getElem?_cons_succ, eq_self, reduceCtorEq, implies_true, false_implies, decide_eq_true_eq, decide_eq_false_iff_not, Bool.and_eq_true, Bool.or_eq_true, Bool.not_eq_true', Bool.and_eq_false_iff, Bool.or_eq_false_iff, Bool.not_eq_false', Option.toList, SV.v.injEq, Value.int.injEq, Value.bool.injEq, Value.string.injEq, Option.getD, List.contains_cons, List.contains_nil, beq_self_eq_true, Nat.max_def, List.set, List.drop, List.take, Int.toNat_natCast, Nat.mul_one, Int.toNat_zero, List.drop_zero, Bx.mk.injEq, Vc.mk.injEq, List.cons.injEq, List.take_length, List.getElem?_nil, List.getD_cons_zero, List.getD_cons_succ, Int.reduceToNat, not_false_eq_true, Nat.le_refl, hnum]
            have h : ¬((k : Int) < s.length ∧ (((s.getD k 0).toNat : Nat) : Int) = 76) := fun x => h.elim (fun y => y x.1) (fun y => y x.2)
            have hp2 : (parseN (numT s p)).2 = true := he2.symm
            refine ⟨.inl rfl, fun _ => by rw [hdl]; omega, ?_, ?_⟩
            · rw [if_neg h, if_neg h, hp2, Bool.true_and, num_end]
            · rw [if_neg h]
              have : ((p + (k - p) : Nat) : Int) = k := by omega
              rw [this]
          · simp only [go_sem, ↓reduceIte, or_true, or_false, true_or, false_or, Option.some.injEq, exists_eq_left, exists_eq_left', Nat.reduceBEq, Nat.reduceAdd, Nat.reduceMul, Nat.reduceSub, Nat.reduceEqDiff, Nat.reduceLT, Nat.reduceLeDiff, Option.map, Option.bind, List.map, List.length, true_implies, true_and, and_true, Bool.and_true, Bool.true_and, Bool.or_false, Bool.false_or, Bool.not_true, Bool.not_false, Bool.and_false, Bool.false_and, List.cons_append, List.nil_append, List.append_nil, mk_eq_bs, tl_bs, List.getElem?_cons_zero, List.getElem?_cons_succ, eq_self, reduceCtorEq, implies_true, false_implies, decide_eq_true_eq, decide_eq_false_iff_not, Bool.and_eq_true, Bool.or_eq_true, Bool.not_eq_true', Bool.and_eq_false_iff, Bool.or_eq_false_iff, Bool.not_eq_false', Option.toList, SV.v.injEq, Value.int.injEq, Value.bool.injEq, Value.string.injEq, Option.getD, List.contains_cons, List.contains_nil, beq_self_eq_true, Nat.max_def, List.set, List.drop, List.take, Int.toNat_natCast, Nat.mul_one, Int.toNat_zero, List.drop_zero, Bx.mk.injEq, Vc.mk.injEq, List.cons.injEq, List.take_length, List.getElem?_nil, List.getD_cons_zero, List.getD_cons_succ, Int.reduceToNat, not_false_eq_true, Nat.le_refl]
            refine WP_draw (.hoist 0 (.hoist 1 (.hoist 2 (.hoist 3 (.hoist 4 (.hoist 5 (.hoist 6 (.hoist 7 (.hoist 8 (.hoist 9 (.hoist 10 (.hoist 11 (.hoist 12 (.hoist 13 (.hoist 14 (.hoist 15 (.hoist 16 (.hoist 17 (.hoist 18 (.alt 19 [18, 17, 16, 15, 14] (.hoist 20 .done) .stop)))))))))))))))))))) pu7 (by kernel_rfl) (by kernel_rfl) ?_
            simp only [go_sem, ↓reduceIte, or_true, or_false, true_or, false_or, Option.some.injEq, exists_eq_left, exists_eq_left', Nat.reduceBEq, Nat.reduceAdd, Nat.reduceMul, Nat.reduceSub, Nat.reduceEqDiff, Nat.reduceLT, Nat.reduceLeDiff, Option.map, Option.bind, List.map, List.length, true_implies, true_and, and_true, Bool.and_true, Bool.true_and, Bool.or_false, Bool.false_or, Bool.not_true, Bool.not_false, Bool.and_false, Bool.false_and, List.cons_append, List.nil_append, List.append_nil, mk_eq_bs, tl_bs, List.getElem?_cons_zero, List.getElem?_cons_succ, eq_self, reduceCtorEq, implies_true, false_implies, decide_eq_true_eq, decide_eq_false_iff_not, Bool.and_eq_true, Bool.or_eq_true, Bool.not_eq_true', Bool.and_eq_false_iff, Bool.or_eq_false_iff, Bool.not_eq_false', Option.toList, SV.v.injEq, Value.int.injEq, Value.bool.injEq, Value.string.injEq, Option.getD, List.contains_cons, List.contains_nil, beq_self_eq_true, Nat.max_def, List.set, List.drop, List.take, Int.toNat_natCast, Nat.mul_one, Int.toNat_zero, List.drop_zero, Bx.mk.injEq, Vc.mk.injEq, List.cons.injEq, List.take_length, List.getElem?_nil, List.getD_cons_zero, List.getD_cons_succ, Int.reduceToNat, not_false_eq_true, Nat.le_refl, hnum]
            have h : ¬((k : Int) < s.length ∧ (((s.getD k 0).toNat : Nat) : Int) = 76) := fun x => h.elim (fun y => y x.1) (fun y => y x.2)
            have hp2 : (parseN (numT s p)).2 = false := he2.symm
            refine ⟨.inr ⟨_, _, rfl⟩, ?_, ?_⟩
            · rw [if_neg h, if_neg h, hp2]; rfl
            · rw [if_neg h]
              have : ((p + (k - p) : Nat) : Int) = k := by omega
              rw [this]
end Go.Proofs.YtmkifodpkcmgoaaDoor.E

/- lex, part K: identifiers. -/
set_option linter.unusedSimpArgs false
set_option linter.unusedVariables false
namespace Go.Proofs.YtmkifodpkcmgoaaDoor.E
open Go

/-- How far the further parts of an identifier reach. -/
def idRF : Nat → List UInt8 → Nat
  | 0, _ => 0
  | f + 1, l => if hasPre l [58, 58] = true ∧ partL true (l.drop 2) ≠ 0 then 2 + partL true (l.drop 2) + idRF f (l.drop (2 + partL true (l.drop 2))) else 0
def idN (l : List UInt8) : Nat := partL true l + idRF (l.length + 1) (l.drop (partL true l))
def idS (l : List UInt8) : List UInt8 := Lib.replaceAll (l.take (idN l)) [58, 58] [47]
theorem part_le : ∀ (b : Bool) (l : List UInt8), partL b l ≤ l.length
  | _, [] => by simp [partL]
  | b, c :: r => by
    have := part_le false r
    simp only [partL, List.length_cons]
    split <;> omega
theorem repK_len (old new : List UInt8) : ∀ (k : Nat) (s : List UInt8), (Lib.replaceK old new k s).length ≤ s.length + k * new.length
  | 0, s => by simp [Lib.replaceK]
  | k + 1, s => by
    rw [Lib.replaceK]
    split
    · exact Nat.le_add_right _ _
    · have ih := repK_len old new k (s.drop ((Lib.index s old).toNat + old.length))
      simp only [List.length_append, List.length_take, List.length_drop] at ih ⊢
      rw [Nat.add_mul]
      omega
theorem rep_len (s old new : List UInt8) (ho : 1 ≤ old.length) (hs : s.length ≤ 1000000000) : (Lib.replaceAll s old new).length ≤ s.length + s.length * new.length := by
  unfold Lib.replaceAll Lib.replace
  split
  · exact Nat.le_add_right _ _
  · refine Nat.le_trans (repK_len _ _ _ _) ?_
    have hn : Lib.replaceNum s old (-1) = Lib.count s old := by simp [Lib.replaceNum]
    have hc := Lib.countB_mul_le (bs old) (by rw [bs_size]; exact ho) s.length (bs s) (by rw [bs_size]; exact Nat.le_refl _)
    have hcc : Lib.countB (bs s) (bs old) = Lib.count s old := rfl
    rw [hcc, bs_size, bs_size] at hc
    have : Lib.count s old ≤ s.length := Nat.le_trans (Nat.le_mul_of_pos_right _ ho) hc
    rw [hn]
    exact Nat.add_le_add_left (Nat.mul_le_mul_right _ this) _
theorem idS_len (l : List UInt8) (hl : l.length ≤ 1000000) : BL (idS l) := by
  have h := rep_len (l.take (idN l)) [58, 58] [47] (by simp) (by rw [List.length_take]; omega)
  rw [List.length_take] at h
  simp only [List.length_cons, List.length_nil] at h
  unfold BL idS
  omega
theorem pre_len {a b : List UInt8} (h : hasPre a b = true) : b.length ≤ a.length := by
  obtain ⟨r, rfl⟩ := hasPre_iff.1 h
  rw [List.length_append]; omega
set_option maxHeartbeats 4000000 in
set_option maxRecDepth 20000 in
theorem identifier_spec (s : List UInt8) (p : Nat) (m : Mem) (hg : Glob m) (hp : p < s.length) (hs : s.length ≤ 1000000) :
    FnH Tryd.prog 42 [.box 0 0] ⟨[scB s p], []⟩ m fun r H' m' => m.le m' ∧
      r = .tup [Tk.sv ⟨if keywordsL.contains (idS (s.drop p)) = true then 2 else 1, idS (s.drop p), 0, p⟩, .v (.bool (isName (idS (s.drop p))))] ∧ H' = ⟨[scB s (p + idN (s.drop p) : Nat)], []⟩ := by
  refine enter cf7 pu7 Tryd.func42 rfl rfl (by kernel_rfl) rfl ?_ ?_
  · simp only [go_sem, ↓reduceIte, or_true, or_false, true_or, false_or, Option.some.injEq, exists_eq_left, exists_eq_left', Nat.reduceBEq, Nat.reduceAdd, Nat.reduceMul, Nat.reduceSub, Nat.reduceEqDiff, Nat.reduceLT, Nat.reduceLeDiff, Option.map, Option.bind, List.map, List.length, true_implies, true_and, and_true, Bool.and_true, Bool.true_and, Bool.or_false, Bool.false_or, Bool.not_true, Bool.not_false, Bool.and_false, Bool.false_and, List.cons_append, List.nil_append, List.append_nil, mk_eq_bs, tl_bs, List.getElem?_cons_zero, List.getElem?_cons_succ, eq_self, reduceCtorEq, implies_true, false_implies, decide_eq_true_eq, decide_eq_false_iff_not, Bool.and_eq_true, Bool.or_eq_true, Bool.not_eq_true', Bool.and_eq_false_iff, Bool.or_eq_false_iff, Bool.not_eq_false', Option.toList, SV.v.injEq, Value.int.injEq, Value.bool.injEq, Value.string.injEq, Option.getD, List.contains_cons, List.contains_nil, beq_self_eq_true, Nat.max_def, List.set, List.drop, List.take, Int.toNat_natCast, Nat.mul_one, Int.toNat_zero, List.drop_zero, Bx.mk.injEq, Vc.mk.injEq, List.cons.injEq, List.take_length, List.getElem?_nil, List.getD_cons_zero, List.getD_cons_succ, Int.reduceToNat, not_false_eq_true, Nat.le_refl]
  · simp only [go_sem, ↓reduceIte, or_true, or_false, true_or, false_or, Option.some.injEq, exists_eq_left, exists_eq_left', Nat.reduceBEq, Nat.reduceAdd, Nat.reduceMul, Nat.reduceSub, Nat.reduceEqDiff, Nat.reduceLT, Nat.reduceLeDiff, Option.map, Option.bind, List.map, List.length, true_implies, true_and, and_true, Bool.and_true, Bool.true_and, Bool.or_false, Bool.false_or, Bool.not_true, Bool.not_false, Bool.and_false, Bool.false_and, List.cons_append, List.nil_append, List.append_nil, mk_eq_bs, tl_bs, List.getElem?_cons_zero, List.getElem?_cons_succ, eq_self, reduceCtorEq, implies_true, false_implies, decide_eq_true_eq, decide_eq_false_iff_not, Bool.and_eq_true, Bool.or_eq_true, Bool.not_eq_true', Bool.and_eq_false_iff, Bool.or_eq_false_iff, Bool.not_eq_false', Option.toList, SV.v.injEq, Value.int.injEq, Value.bool.injEq, Value.string.injEq, Option.getD, List.contains_cons, List.contains_nil, beq_self_eq_true, Nat.max_def, List.set, List.drop, List.take, Int.toNat_natCast, Nat.mul_one, Int.toNat_zero, List.drop_zero, Bx.mk.injEq, Vc.mk.injEq, List.cons.injEq, List.take_length, List.getElem?_nil, List.getD_cons_zero, List.getD_cons_succ, Int.reduceToNat, not_false_eq_true, Nat.le_refl]
    refine WP_draw (.hoist 0 (.hoist 1 (.hoist 2 (.hoist 3 (.hoist 4 (.hoist 5 (.hoist 6 (.hoist 7 (.hoist 8 (.alt 9 [3, 2, 1, 0] (.hoist 10 (.hoist 11 (.hoist 12 (.alt 13 [] .done .stop)))) .stop)))))))))) pu7 (by kernel_rfl) (by kernel_rfl) ?_
    simp only [go_sem, ↓reduceIte, or_true, or_false, true_or, false_or, Option.some.injEq, exists_eq_left, exists_eq_left', Nat.reduceBEq, Nat.reduceAdd, Nat.reduceMul, Nat.reduceSub, Nat.reduceEqDiff, Nat.reduceLT, Nat.reduceLeDiff, Option.map, Option.bind, List.map, List.length, true_implies, true_and, and_true, Bool.and_true, Bool.true_and, Bool.or_false, Bool.false_or, Bool.not_true, Bool.not_false, Bool.and_false, Bool.false_and, List.cons_append, List.nil_append, List.append_nil, mk_eq_bs, tl_bs, List.getElem?_cons_zero, List.getElem?_cons_succ, eq_self, reduceCtorEq, implies_true, false_implies, decide_eq_true_eq, decide_eq_false_iff_not, Bool.and_eq_true, Bool.or_eq_true, Bool.not_eq_true', Bool.and_eq_false_iff, Bool.or_eq_false_iff, Bool.not_eq_false', Option.toList, SV.v.injEq, Value.int.injEq, Value.bool.injEq, Value.string.injEq, Option.getD, List.contains_cons, List.contains_nil, beq_self_eq_true, Nat.max_def, List.set, List.drop, List.take, Int.toNat_natCast, Nat.mul_one, Int.toNat_zero, List.drop_zero, Bx.mk.injEq, Vc.mk.injEq, List.cons.injEq, List.take_length, List.getElem?_nil, List.getD_cons_zero, List.getD_cons_succ, Int.reduceToNat, not_false_eq_true, Nat.le_refl]
    have hpl := part_le true (s.drop p)
    rw [List.length_drop] at hpl
    refine ⟨by kernel_rfl, FnV_of ((part_spec s p p m (by omega) (by omega) (by omega)).mono ?_)⟩
    rintro r H' m' hm ⟨rfl, rfl, rfl⟩
    simp only [go_sem, ↓reduceIte, or_true, or_false, true_or, false_or, Option.some.injEq, exists_eq_left, exists_eq_left', Nat.reduceBEq, Nat.reduceAdd, Nat.reduceMul, Nat.reduceSub, Nat.reduceEqDiff, Nat.reduceLT, Nat.reduceLeDiff, Option.map, Option.bind, List.map, List.length, true_implies, true_and, and_true, Bool.and_true, Bool.true_and, Bool.or_false, Bool.false_or, Bool.not_true, Bool.not_false, Bool.and_false, Bool.false_and, List.cons_append, List.nil_append, List.append_nil, mk_eq_bs, tl_bs, List.getElem?_cons_zero, List.getElem?_cons_succ, eq_self, reduceCtorEq, implies_true, false_implies, decide_eq_true_eq, decide_eq_false_iff_not, Bool.and_eq_true, Bool.or_eq_true, Bool.not_eq_true', Bool.and_eq_false_iff, Bool.or_eq_false_iff, Bool.not_eq_false', Option.toList, SV.v.injEq, Value.int.injEq, Value.bool.injEq, Value.string.injEq, Option.getD, List.contains_cons, List.contains_nil, beq_self_eq_true, Nat.max_def, List.set, List.drop, List.take, Int.toNat_natCast, Nat.mul_one, Int.toNat_zero, List.drop_zero, Bx.mk.injEq, Vc.mk.injEq, List.cons.injEq, List.take_length, List.getElem?_nil, List.getD_cons_zero, List.getD_cons_succ, Int.reduceToNat, not_false_eq_true, Nat.le_refl]
    refine ⟨by unfold I64; omega, ?_⟩
    refine WP_loopX pu7 (fun x : Nat × Nat => ⟨[⟨0, [], .box 0 0⟩, ⟨2, [], .box 1 0⟩, ⟨3, [], .v (.bool false)⟩, ⟨4, [], .v (.int .i64 p)⟩], [], [⟨1, 27, Tk0.cells⟩, scB s x.1], [], 3, m'⟩)
      (fun x => p ≤ x.1 ∧ x.1 ≤ s.length ∧ s.length - x.1 < x.2 ∧ p + idN (s.drop p) = x.1 + idRF x.2 (s.drop x.1)) (fun x => s.length - x.1) (p + partL true (s.drop p), (s.drop p).length + 1)
      (fun _ : Unit => ⟨[⟨0, [], .box 0 0⟩, ⟨2, [], .box 1 0⟩, ⟨3, [], .v (.bool false)⟩, ⟨4, [], .v (.int .i64 p)⟩], [], [⟨1, 27, Tk0.cells⟩, scB s (p + idN (s.drop p) : Nat)], [], 3, m'⟩) (fun _ => p + idN (s.drop p) ≤ s.length)
      (by kernel_rfl) (fun _ _ => Nat.le_refl _) (fun _ _ => .inl rfl) (fun _ => ?_) ?_ ?_ (fun _ _ => Nat.le_refl _) (fun _ _ => .inl rfl) (fun _ => ?_) (fun _ hJ => ?_) ?_
    · simp only [go_sem, ↓reduceIte, or_true, or_false, true_or, false_or, Option.some.injEq, exists_eq_left, exists_eq_left', Nat.reduceBEq, Nat.reduceAdd, Nat.reduceMul, Nat.reduceSub, Nat.reduceEqDiff, Nat.reduceLT, Nat.reduceLeDiff, Option.map, Option.bind, List.map, List.length, true_implies, true_and, and_true, Bool.and_true, Bool.true_and, Bool.or_false, Bool.false_or, Bool.not_true, Bool.not_false, Bool.and_false, Bool.false_and, List.cons_append, List.nil_append, List.append_nil, mk_eq_bs, tl_bs, List.getElem?_cons_zero, List.getElem?_cons_succ, eq_self, reduceCtorEq, implies_true, false_implies, decide_eq_true_eq, decide_eq_false_iff_not, Bool.and_eq_true, Bool.or_eq_true, Bool.not_eq_true', Bool.and_eq_false_iff, Bool.or_eq_false_iff, Bool.not_eq_false', Option.toList, SV.v.injEq, Value.int.injEq, Value.bool.injEq, Value.string.injEq, Option.getD, List.contains_cons, List.contains_nil, beq_self_eq_true, Nat.max_def, List.set, List.drop, List.take, Int.toNat_natCast, Nat.mul_one, Int.toNat_zero, List.drop_zero, Bx.mk.injEq, Vc.mk.injEq, List.cons.injEq, List.take_length, List.getElem?_nil, List.getD_cons_zero, List.getD_cons_succ, Int.reduceToNat, not_false_eq_true, Nat.le_refl]
    · simp only [go_sem, ↓reduceIte, or_true, or_false, true_or, false_or, Option.some.injEq, exists_eq_left, exists_eq_left', Nat.reduceBEq, Nat.reduceAdd, Nat.reduceMul, Nat.reduceSub, Nat.reduceEqDiff, Nat.reduceLT, Nat.reduceLeDiff, Option.map, Option.bind, List.map, List.length, true_implies, true_and, and_true, Bool.and_true, Bool.true_and, Bool.or_false, Bool.false_or, Bool.not_true, Bool.not_false, Bool.and_false, Bool.false_and, List.cons_append, List.nil_append, List.append_nil, mk_eq_bs, tl_bs, List.getElem?_cons_zero, List.getElem?_cons_succ, eq_self, reduceCtorEq, implies_true, false_implies, decide_eq_true_eq, decide_eq_false_iff_not, Bool.and_eq_true, Bool.or_eq_true, Bool.not_eq_true', Bool.and_eq_false_iff, Bool.or_eq_false_iff, Bool.not_eq_false', Option.toList, SV.v.injEq, Value.int.injEq, Value.bool.injEq, Value.string.injEq, Option.getD, List.contains_cons, List.contains_nil, beq_self_eq_true, Nat.max_def, List.set, List.drop, List.take, Int.toNat_natCast, Nat.mul_one, Int.toNat_zero, List.drop_zero, Bx.mk.injEq, Vc.mk.injEq, List.cons.injEq, List.take_length, List.getElem?_nil, List.getD_cons_zero, List.getD_cons_succ, Int.reduceToNat, not_false_eq_true, Nat.le_refl]
      rfl
    · refine ⟨Nat.le_add_right _ _, by omega, by rw [List.length_drop]; simp only; omega, ?_⟩
      simp only [idN, List.drop_drop]
      omega
    · simp only [go_sem, ↓reduceIte, or_true, or_false, true_or, false_or, Option.some.injEq, exists_eq_left, exists_eq_left', Nat.reduceBEq, Nat.reduceAdd, Nat.reduceMul, Nat.reduceSub, Nat.reduceEqDiff, Nat.reduceLT, Nat.reduceLeDiff, Option.map, Option.bind, List.map, List.length, true_implies, true_and, and_true, Bool.and_true, Bool.true_and, Bool.or_false, Bool.false_or, Bool.not_true, Bool.not_false, Bool.and_false, Bool.false_and, List.cons_append, List.nil_append, List.append_nil, mk_eq_bs, tl_bs, List.getElem?_cons_zero, List.getElem?_cons_succ, eq_self, reduceCtorEq, implies_true, false_implies, decide_eq_true_eq, decide_eq_false_iff_not, Bool.and_eq_true, Bool.or_eq_true, Bool.not_eq_true', Bool.and_eq_false_iff, Bool.or_eq_false_iff, Bool.not_eq_false', Option.toList, SV.v.injEq, Value.int.injEq, Value.bool.injEq, Value.string.injEq, Option.getD, List.contains_cons, List.contains_nil, beq_self_eq_true, Nat.max_def, List.set, List.drop, List.take, Int.toNat_natCast, Nat.mul_one, Int.toNat_zero, List.drop_zero, Bx.mk.injEq, Vc.mk.injEq, List.cons.injEq, List.take_length, List.getElem?_nil, List.getD_cons_zero, List.getD_cons_succ, Int.reduceToNat, not_false_eq_true, Nat.le_refl]
    · simp only [go_sem, ↓reduceIte, or_true, or_false, true_or, false_or, Option.some.injEq, exists_eq_left, exists_eq_left', Nat.reduceBEq, Nat.reduceAdd, Nat.reduceMul, Nat.reduceSub, Nat.reduceEqDiff, Nat.reduceLT, Nat.reduceLeDiff, Option.map, Option.bind, List.map, List.length, true_implies, true_and, and_true, Bool.and_true, Bool.true_and, Bool.or_false, Bool.false_or, Bool.not_true, Bool.not_false, Bool.and_false, Bool.false_and, List.cons_append, List.nil_append, List.append_nil, mk_eq_bs, tl_bs, List.getElem?_cons_zero, List.getElem?_cons_succ, eq_self, reduceCtorEq, implies_true, false_implies, decide_eq_true_eq, decide_eq_false_iff_not, Bool.and_eq_true, Bool.or_eq_true, Bool.not_eq_true', Bool.and_eq_false_iff, Bool.or_eq_false_iff, Bool.not_eq_false', Option.toList, SV.v.injEq, Value.int.injEq, Value.bool.injEq, Value.string.injEq, Option.getD, List.contains_cons, List.contains_nil, beq_self_eq_true, Nat.max_def, List.set, List.drop, List.take, Int.toNat_natCast, Nat.mul_one, Int.toNat_zero, List.drop_zero, Bx.mk.injEq, Vc.mk.injEq, List.cons.injEq, List.take_length, List.getElem?_nil, List.getD_cons_zero, List.getD_cons_succ, Int.reduceToNat, not_false_eq_true, Nat.le_refl]
      have et : (s.take (p + idN (s.drop p))).drop p = (s.drop p).take (idN (s.drop p)) := by
        rw [List.drop_take]; congr 1; omega
      have hrep := replace_spec ((s.drop p).take (idN (s.drop p))) [58, 58] [47] m' hg (by rw [List.length_take, List.length_drop]; omega) (by simp) (by simp)
      have eS : Lib.replaceAll ((s.drop p).take (idN (s.drop p))) [58, 58] [47] = idS (s.drop p) := rfl
      have hnl : BL (idS (s.drop p)) := idS_len _ (by rw [List.length_drop]; omega)
      refine WP_draw (.hoist 0 (.hoist 1 (.hoist 2 (.hoist 3 (.hoist 4 (.hoist 5 (.hoist 6 (.hoist 7 (.hoist 8 (.hoist 9 (.hoist 11 (.alt 10 [11] (.hoist 12 (.alt 13 [12, 11] (.alt 14 [] .done .stop) .stop)) (.alt 13 [11, 9, 8, 7, 6, 5, 4, 3, 2, 1, 0] (.alt 10 [11] (.hoist 12 (.alt 14 [] .done .stop)) .stop) .stop))))))))))))) pu7 (by kernel_rfl) (by kernel_rfl) ?_
      simp only [go_sem, ↓reduceIte, or_true, or_false, true_or, false_or, Option.some.injEq, exists_eq_left, exists_eq_left', Nat.reduceBEq, Nat.reduceAdd, Nat.reduceMul, Nat.reduceSub, Nat.reduceEqDiff, Nat.reduceLT, Nat.reduceLeDiff, Option.map, Option.bind, List.map, List.length, true_implies, true_and, and_true, Bool.and_true, Bool.true_and, Bool.or_false, Bool.false_or, Bool.not_true, Bool.not_false, Bool.and_false, Bool.false_and, List.cons_append, List.nil_append, List.append_nil, mk_eq_bs, tl_bs, List.getElem?_cons_zero, List.getElem?_cons_succ, eq_self, reduceCtorEq, implies_true, false_implies, decide_eq_true_eq, decide_eq_false_iff_not, Bool.and_eq_true, Bool.or_eq_true, Bool.not_eq_true', Bool.and_eq_false_iff, Bool.or_eq_false_iff, Bool.not_eq_false', Option.toList, SV.v.injEq, Value.int.injEq, Value.bool.injEq, Value.string.injEq, Option.getD, List.contains_cons, List.contains_nil, beq_self_eq_true, Nat.max_def, List.set, List.drop, List.take, Int.toNat_natCast, Nat.mul_one, Int.toNat_zero, List.drop_zero, Bx.mk.injEq, Vc.mk.injEq, List.cons.injEq, List.take_length, List.getElem?_nil, List.getD_cons_zero, List.getD_cons_succ, Int.reduceToNat, not_false_eq_true, Nat.le_refl, et]
      refine ⟨⟨by omega, by omega, by omega⟩, ⟨by kernel_rfl, FnV_of (hrep.mono ?_)⟩, ⟨by kernel_rfl, FnV_of (hrep.mono ?_)⟩⟩
      · clear hrep
        rintro r H' m'' hm2 ⟨rfl, rfl, rfl⟩
        simp only [go_sem, ↓reduceIte, or_true, or_false, true_or, false_or, Option.some.injEq, exists_eq_left, exists_eq_left', Nat.reduceBEq, Nat.reduceAdd, Nat.reduceMul, Nat.reduceSub, Nat.reduceEqDiff, Nat.reduceLT, Nat.reduceLeDiff, Option.map, Option.bind, List.map, List.length, true_implies, true_and, and_true, Bool.and_true, Bool.true_and, Bool.or_false, Bool.false_or, Bool.not_true, Bool.not_false, Bool.and_false, Bool.false_and, List.cons_append, List.nil_append, List.append_nil, mk_eq_bs, tl_bs, List.getElem?_cons_zero, List.getElem?_cons_succ, eq_self, reduceCtorEq, implies_true, false_implies, decide_eq_true_eq, decide_eq_false_iff_not, Bool.and_eq_true, Bool.or_eq_true, Bool.not_eq_true', Bool.and_eq_false_iff, Bool.or_eq_false_iff, Bool.not_eq_false', Option.toList, SV.v.injEq, Value.int.injEq, Value.bool.injEq, Value.string.injEq, Option.getD, List.contains_cons, List.contains_nil, beq_self_eq_true, Nat.max_def, List.set, List.drop, List.take, Int.toNat_natCast, Nat.mul_one, Int.toNat_zero, List.drop_zero, Bx.mk.injEq, Vc.mk.injEq, List.cons.injEq, List.take_length, List.getElem?_nil, List.getD_cons_zero, List.getD_cons_succ, Int.reduceToNat, not_false_eq_true, Nat.le_refl, eS]
        refine WP_draw (.hoist 1 (.hoist 2 (.alt 0 [2, 1] (.alt 3 [] .done .stop) .stop))) pu7 (by kernel_rfl) (by kernel_rfl) ?_
        simp only [go_sem, ↓reduceIte, or_true, or_false, true_or, false_or, Option.some.injEq, exists_eq_left, exists_eq_left', Nat.reduceBEq, Nat.reduceAdd, Nat.reduceMul, Nat.reduceSub, Nat.reduceEqDiff, Nat.reduceLT, Nat.reduceLeDiff, Option.map, Option.bind, List.map, List.length, true_implies, true_and, and_true, Bool.and_true, Bool.true_and, Bool.or_false, Bool.false_or, Bool.not_true, Bool.not_false, Bool.and_false, Bool.false_and, List.cons_append, List.nil_append, List.append_nil, mk_eq_bs, tl_bs, List.getElem?_cons_zero, List.getElem?_cons_succ, eq_self, reduceCtorEq, implies_true, false_implies, decide_eq_true_eq, decide_eq_false_iff_not, Bool.and_eq_true, Bool.or_eq_true, Bool.not_eq_true', Bool.and_eq_false_iff, Bool.or_eq_false_iff, Bool.not_eq_false', Option.toList, SV.v.injEq, Value.int.injEq, Value.bool.injEq, Value.string.injEq, Option.getD, List.contains_cons, List.contains_nil, beq_self_eq_true, Nat.max_def, List.set, List.drop, List.take, Int.toNat_natCast, Nat.mul_one, Int.toNat_zero, List.drop_zero, Bx.mk.injEq, Vc.mk.injEq, List.cons.injEq, List.take_length, List.getElem?_nil, List.getD_cons_zero, List.getD_cons_succ, Int.reduceToNat, not_false_eq_true, Nat.le_refl]
        refine ⟨by kernel_rfl, FnV_of ((keywords_spec m'').mono ?_)⟩
        rintro r H' m3 hm3 ⟨rfl, rfl, rfl⟩
        simp only [go_sem, ↓reduceIte, or_true, or_false, true_or, false_or, Option.some.injEq, exists_eq_left, exists_eq_left', Nat.reduceBEq, Nat.reduceAdd, Nat.reduceMul, Nat.reduceSub, Nat.reduceEqDiff, Nat.reduceLT, Nat.reduceLeDiff, Option.map, Option.bind, List.map, List.length, true_implies, true_and, and_true, Bool.and_true, Bool.true_and, Bool.or_false, Bool.false_or, Bool.not_true, Bool.not_false, Bool.and_false, Bool.false_and, List.cons_append, List.nil_append, List.append_nil, mk_eq_bs, tl_bs, List.getElem?_cons_zero, List.getElem?_cons_succ, eq_self, reduceCtorEq, implies_true, false_implies, decide_eq_true_eq, decide_eq_false_iff_not, Bool.and_eq_true, Bool.or_eq_true, Bool.not_eq_true', Bool.and_eq_false_iff, Bool.or_eq_false_iff, Bool.not_eq_false', Option.toList, SV.v.injEq, Value.int.injEq, Value.bool.injEq, Value.string.injEq, Option.getD, List.contains_cons, List.contains_nil, beq_self_eq_true, Nat.max_def, List.set, List.drop, List.take, Int.toNat_natCast, Nat.mul_one, Int.toNat_zero, List.drop_zero, Bx.mk.injEq, Vc.mk.injEq, List.cons.injEq, List.take_length, List.getElem?_nil, List.getD_cons_zero, List.getD_cons_succ, Int.reduceToNat, not_false_eq_true, Nat.le_refl]
        refine ⟨by kernel_rfl, fun ad cp m1 hm1 hcp hrd => FnV_of ((contains_spec keywordsL (idS (s.drop p)) ad 28 cp m1 hrd (by decide)).mono ?_)⟩
        rintro r H' m4 hm4 ⟨rfl, rfl⟩
        simp only [go_sem, ↓reduceIte, or_true, or_false, true_or, false_or, Option.some.injEq, exists_eq_left, exists_eq_left', Nat.reduceBEq, Nat.reduceAdd, Nat.reduceMul, Nat.reduceSub, Nat.reduceEqDiff, Nat.reduceLT, Nat.reduceLeDiff, Option.map, Option.bind, List.map, List.length, true_implies, true_and, and_true, Bool.and_true, Bool.true_and, Bool.or_false, Bool.false_or, Bool.not_true, Bool.not_false, Bool.and_false, Bool.false_and, List.cons_append, List.nil_append, List.append_nil, mk_eq_bs, tl_bs, List.getElem?_cons_zero, List.getElem?_cons_succ, eq_self, reduceCtorEq, implies_true, false_implies, decide_eq_true_eq, decide_eq_false_iff_not, Bool.and_eq_true, Bool.or_eq_true, Bool.not_eq_true', Bool.and_eq_false_iff, Bool.or_eq_false_iff, Bool.not_eq_false', Option.toList, SV.v.injEq, Value.int.injEq, Value.bool.injEq, Value.string.injEq, Option.getD, List.contains_cons, List.contains_nil, beq_self_eq_true, Nat.max_def, List.set, List.drop, List.take, Int.toNat_natCast, Nat.mul_one, Int.toNat_zero, List.drop_zero, Bx.mk.injEq, Vc.mk.injEq, List.cons.injEq, List.take_length, List.getElem?_nil, List.getD_cons_zero, List.getD_cons_succ, Int.reduceToNat, not_false_eq_true, Nat.le_refl]
        refine ⟨fun hk => ?_, fun hk => ?_⟩
        · refine WP_draw (.hoist 0 (.hoist 1 (.hoist 2 (.alt 3 [0] (.alt 4 [] (.hoist 5 .done) .stop) .stop)))) pu7 (by kernel_rfl) (by kernel_rfl) ?_
          simp only [go_sem, ↓reduceIte, or_true, or_false, true_or, false_or, Option.some.injEq, exists_eq_left, exists_eq_left', Nat.reduceBEq, Nat.reduceAdd, Nat.reduceMul, Nat.reduceSub, Nat.reduceEqDiff, Nat.reduceLT, Nat.reduceLeDiff, Option.map, Option.bind, List.map, List.length, true_implies, true_and, and_true, Bool.and_true, Bool.true_and, Bool.or_false, Bool.false_or, Bool.not_true, Bool.not_false, Bool.and_false, Bool.false_and, List.cons_append, List.nil_append, List.append_nil, mk_eq_bs, tl_bs, List.getElem?_cons_zero, List.getElem?_cons_succ, eq_self, reduceCtorEq, implies_true, false_implies, decide_eq_true_eq, decide_eq_false_iff_not, Bool.and_eq_true, Bool.or_eq_true, Bool.not_eq_true', Bool.and_eq_false_iff, Bool.or_eq_false_iff, Bool.not_eq_false', Option.toList, SV.v.injEq, Value.int.injEq, Value.bool.injEq, Value.string.injEq, Option.getD, List.contains_cons, List.contains_nil, beq_self_eq_true, Nat.max_def, List.set, List.drop, List.take, Int.toNat_natCast, Nat.mul_one, Int.toNat_zero, List.drop_zero, Bx.mk.injEq, Vc.mk.injEq, List.cons.injEq, List.take_length, List.getElem?_nil, List.getD_cons_zero, List.getD_cons_succ, Int.reduceToNat, not_false_eq_true, Nat.le_refl]
          refine ⟨hnl, Mem.le_trans hm1 hm4, ?_⟩
          rw [if_pos hk]
        · refine WP_draw (.hoist 0 (.hoist 1 (.hoist 2 (.alt 3 [0] (.alt 4 [] (.hoist 5 .done) .stop) .stop)))) pu7 (by kernel_rfl) (by kernel_rfl) ?_
          simp only [go_sem, ↓reduceIte, or_true, or_false, true_or, false_or, Option.some.injEq, exists_eq_left, exists_eq_left', Nat.reduceBEq, Nat.reduceAdd, Nat.reduceMul, Nat.reduceSub, Nat.reduceEqDiff, Nat.reduceLT, Nat.reduceLeDiff, Option.map, Option.bind, List.map, List.length, true_implies, true_and, and_true, Bool.and_true, Bool.true_and, Bool.or_false, Bool.false_or, Bool.not_true, Bool.not_false, Bool.and_false, Bool.false_and, List.cons_append, List.nil_append, List.append_nil, mk_eq_bs, tl_bs, List.getElem?_cons_zero, List.getElem?_cons_succ, eq_self, reduceCtorEq, implies_true, false_implies, decide_eq_true_eq, decide_eq_false_iff_not, Bool.and_eq_true, Bool.or_eq_true, Bool.not_eq_true', Bool.and_eq_false_iff, Bool.or_eq_false_iff, Bool.not_eq_false', Option.toList, SV.v.injEq, Value.int.injEq, Value.bool.injEq, Value.string.injEq, Option.getD, List.contains_cons, List.contains_nil, beq_self_eq_true, Nat.max_def, List.set, List.drop, List.take, Int.toNat_natCast, Nat.mul_one, Int.toNat_zero, List.drop_zero, Bx.mk.injEq, Vc.mk.injEq, List.cons.injEq, List.take_length, List.getElem?_nil, List.getD_cons_zero, List.getD_cons_succ, Int.reduceToNat, not_false_eq_true, Nat.le_refl]
          refine ⟨hnl, Mem.le_trans hm1 hm4, ?_⟩
          rw [if_neg (by rw [hk]; exact Bool.false_ne_true)]
      · clear hrep
        rintro r H' m'' hm2 ⟨rfl, rfl, rfl⟩
        simp only [go_sem, ↓reduceIte, or_true, or_false, true_or, false_or, Option.some.injEq, exists_eq_left, exists_eq_left', Nat.reduceBEq, Nat.reduceAdd, Nat.reduceMul, Nat.reduceSub, Nat.reduceEqDiff, Nat.reduceLT, Nat.reduceLeDiff, Option.map, Option.bind, List.map, List.length, true_implies, true_and, and_true, Bool.and_true, Bool.true_and, Bool.or_false, Bool.false_or, Bool.not_true, Bool.not_false, Bool.and_false, Bool.false_and, List.cons_append, List.nil_append, List.append_nil, mk_eq_bs, tl_bs, List.getElem?_cons_zero, List.getElem?_cons_succ, eq_self, reduceCtorEq, implies_true, false_implies, decide_eq_true_eq, decide_eq_false_iff_not, Bool.and_eq_true, Bool.or_eq_true, Bool.not_eq_true', Bool.and_eq_false_iff, Bool.or_eq_false_iff, Bool.not_eq_false', Option.toList, SV.v.injEq, Value.int.injEq, Value.bool.injEq, Value.string.injEq, Option.getD, List.contains_cons, List.contains_nil, beq_self_eq_true, Nat.max_def, List.set, List.drop, List.take, Int.toNat_natCast, Nat.mul_one, Int.toNat_zero, List.drop_zero, Bx.mk.injEq, Vc.mk.injEq, List.cons.injEq, List.take_length, List.getElem?_nil, List.getD_cons_zero, List.getD_cons_succ, Int.reduceToNat, not_false_eq_true, Nat.le_refl, eS]
        refine WP_draw (.hoist 1 (.hoist 2 (.alt 0 [2, 1] (.alt 3 [] .done .stop) .stop))) pu7 (by kernel_rfl) (by kernel_rfl) ?_
        simp only [go_sem, ↓reduceIte, or_true, or_false, true_or, false_or, Option.some.injEq, exists_eq_left, exists_eq_left', Nat.reduceBEq, Nat.reduceAdd, Nat.reduceMul, Nat.reduceSub, Nat.reduceEqDiff, Nat.reduceLT, Nat.reduceLeDiff, Option.map, Option.bind, List.map, List.length, true_implies, true_and, and_true, Bool.and_true, Bool.true_and, Bool.or_false, Bool.false_or, Bool.not_true, Bool.not_false, Bool.and_false, Bool.false_and, List.cons_append, List.nil_append, List.append_nil, mk_eq_bs, tl_bs, List.getElem?_cons_zero, List.getElem?_cons_succ, eq_self, reduceCtorEq, implies_true, false_implies, decide_eq_true_eq, decide_eq_false_iff_not, Bool.and_eq_true, Bool.or_eq_true, Bool.not_eq_true', Bool.and_eq_false_iff, Bool.or_eq_false_iff, Bool.not_eq_false', Option.toList, SV.v.injEq, Value.int.injEq, Value.bool.injEq, Value.string.injEq, Option.getD, List.contains_cons, List.contains_nil, beq_self_eq_true, Nat.max_def, List.set, List.drop, List.take, Int.toNat_natCast, Nat.mul_one, Int.toNat_zero, List.drop_zero, Bx.mk.injEq, Vc.mk.injEq, List.cons.injEq, List.take_length, List.getElem?_nil, List.getD_cons_zero, List.getD_cons_succ, Int.reduceToNat, not_false_eq_true, Nat.le_refl]
        refine ⟨by kernel_rfl, FnV_of ((keywords_spec m'').mono ?_)⟩
        rintro r H' m3 hm3 ⟨rfl, rfl, rfl⟩
        simp only [go_sem, ↓reduceIte, or_true, or_false, true_or, false_or, Option.some.injEq, exists_eq_left, exists_eq_left', Nat.reduceBEq, Nat.reduceAdd, Nat.reduceMul, Nat.reduceSub, Nat.reduceEqDiff, Nat.reduceLT, Nat.reduceLeDiff, Option.map, Option.bind, List.map, List.length, true_implies, true_and, and_true, Bool.and_true, Bool.true_and, Bool.or_false, Bool.false_or, Bool.not_true, Bool.not_false, Bool.and_false, Bool.false_and, List.cons_append, List.nil_append, List.append_nil, mk_eq_bs, tl_bs, List.getElem?_cons_zero, List.getElem?_cons_succ, eq_self, reduceCtorEq, implies_true, false_implies, decide_eq_true_eq, decide_eq_false_iff_not, Bool.and_eq_true, Bool.or_eq_true, Bool.not_eq_true', Bool.and_eq_false_iff, Bool.or_eq_false_iff, Bool.not_eq_false', Option.toList, SV.v.injEq, Value.int.injEq, Value.bool.injEq, Value.string.injEq, Option.getD, List.contains_cons, List.contains_nil, beq_self_eq_true, Nat.max_def, List.set, List.drop, List.take, Int.toNat_natCast, Nat.mul_one, Int.toNat_zero, List.drop_zero, Bx.mk.injEq, Vc.mk.injEq, List.cons.injEq, List.take_length, List.getElem?_nil, List.getD_cons_zero, List.getD_cons_succ, Int.reduceToNat, not_false_eq_true, Nat.le_refl]
        refine ⟨by kernel_rfl, fun ad cp m1 hm1 hcp hrd => FnV_of ((contains_spec keywordsL (idS (s.drop p)) ad 28 cp m1 hrd (by decide)).mono ?_)⟩
        rintro r H' m4 hm4 ⟨rfl, rfl⟩
        simp only [go_sem, ↓reduceIte, or_true, or_false, true_or, false_or, Option.some.injEq, exists_eq_left, exists_eq_left', Nat.reduceBEq, Nat.reduceAdd, Nat.reduceMul, Nat.reduceSub, Nat.reduceEqDiff, Nat.reduceLT, Nat.reduceLeDiff, Option.map, Option.bind, List.map, List.length, true_implies, true_and, and_true, Bool.and_true, Bool.true_and, Bool.or_false, Bool.false_or, Bool.not_true, Bool.not_false, Bool.and_false, Bool.false_and, List.cons_append, List.nil_append, List.append_nil, mk_eq_bs, tl_bs, List.getElem?_cons_zero, List.getElem?_cons_succ, eq_self, reduceCtorEq, implies_true, false_implies, decide_eq_true_eq, decide_eq_false_iff_not, Bool.and_eq_true, Bool.or_eq_true, Bool.not_eq_true', Bool.and_eq_false_iff, Bool.or_eq_false_iff, Bool.not_eq_false', Option.toList, SV.v.injEq, Value.int.injEq, Value.bool.injEq, Value.string.injEq, Option.getD, List.contains_cons, List.contains_nil, beq_self_eq_true, Nat.max_def, List.set, List.drop, List.take, Int.toNat_natCast, Nat.mul_one, Int.toNat_zero, List.drop_zero, Bx.mk.injEq, Vc.mk.injEq, List.cons.injEq, List.take_length, List.getElem?_nil, List.getD_cons_zero, List.getD_cons_succ, Int.reduceToNat, not_false_eq_true, Nat.le_refl]
        refine ⟨fun hk => ?_, fun hk => ?_⟩
        · refine WP_draw (.hoist 0 (.hoist 1 (.hoist 2 (.alt 3 [0] (.alt 4 [] (.hoist 5 .done) .stop) .stop)))) pu7 (by kernel_rfl) (by kernel_rfl) ?_
          simp only [go_sem, ↓reduceIte, or_true, or_false, true_or, false_or, Option.some.injEq, exists_eq_left, exists_eq_left', Nat.reduceBEq, Nat.reduceAdd, Nat.reduceMul, Nat.reduceSub, Nat.reduceEqDiff, Nat.reduceLT, Nat.reduceLeDiff, Option.map, Option.bind, List.map, List.length, true_implies, true_and, and_true, Bool.and_true, Bool.true_and, Bool.or_false, Bool.false_or, Bool.not_true, Bool.not_false, Bool.and_false, Bool.false_and, List.cons_append, List.nil_append, List.append_nil, mk_eq_bs, tl_bs, List.getElem?_cons_zero, List.getElem?_cons_succ, eq_self, reduceCtorEq, implies_true, false_implies, decide_eq_true_eq, decide_eq_false_iff_not, Bool.and_eq_true, Bool.or_eq_true, Bool.not_eq_true', Bool.and_eq_false_iff, Bool.or_eq_false_iff, Bool.not_eq_false', Option.toList, SV.v.injEq, Value.int.injEq, Value.bool.injEq, Value.string.injEq, Option.getD, List.contains_cons, List.contains_nil, beq_self_eq_true, Nat.max_def, List.set, List.drop, List.take, Int.toNat_natCast, Nat.mul_one, Int.toNat_zero, List.drop_zero, Bx.mk.injEq, Vc.mk.injEq, List.cons.injEq, List.take_length, List.getElem?_nil, List.getD_cons_zero, List.getD_cons_succ, Int.reduceToNat, not_false_eq_true, Nat.le_refl]
          refine ⟨hnl, Mem.le_trans hm1 hm4, ?_⟩
          rw [if_pos hk]
        · refine WP_draw (.hoist 0 (.hoist 1 (.hoist 2 (.alt 3 [0] (.alt 4 [] (.hoist 5 .done) .stop) .stop)))) pu7 (by kernel_rfl) (by kernel_rfl) ?_
          simp only [go_sem, ↓reduceIte, or_true, or_false, true_or, false_or, Option.some.injEq, exists_eq_left, exists_eq_left', Nat.reduceBEq, Nat.reduceAdd, Nat.reduceMul, Nat.reduceSub, Nat.reduceEqDiff, Nat.reduceLT, Nat.reduceLeDiff, Option.map, Option.bind, List.map, List.length, true_implies, true_and, and_true, Bool.and_true, Bool.true_and, Bool.or_false, Bool.false_or, Bool.not_true, Bool.not_false, Bool.and_false, Bool.false_and, List.cons_append, List.nil_append, List.append_nil, mk_eq_bs, tl_bs, List.getElem?_cons_zero, List.getElem?_cons_succ, eq_self, reduceCtorEq, implies_true, false_implies, decide_eq_true_eq, decide_eq_false_iff_not, Bool.and_eq_true, Bool.or_eq_true, Bool.not_eq_true', Bool.and_eq_false_iff, Bool.or_eq_false_iff, Bool.not_eq_false', Option.toList, SV.v.injEq, Value.int.injEq, Value.bool.injEq, Value.string.injEq, Option.getD, List.contains_cons, List.contains_nil, beq_self_eq_true, Nat.max_def, List.set, List.drop, List.take, Int.toNat_natCast, Nat.mul_one, Int.toNat_zero, List.drop_zero, Bx.mk.injEq, Vc.mk.injEq, List.cons.injEq, List.take_length, List.getElem?_nil, List.getD_cons_zero, List.getD_cons_succ, Int.reduceToNat, not_false_eq_true, Nat.le_refl]
          refine ⟨hnl, Mem.le_trans hm1 hm4, ?_⟩
          rw [if_neg (by rw [hk]; exact Bool.false_ne_true)]
    · rintro ⟨k, f⟩ ⟨h1, h2, h3, h4⟩
      simp only at h1 h2 h3 h4
      obtain ⟨f, rfl⟩ : ∃ g, f = g + 1 := ⟨f - 1, by omega⟩
      simp only [idRF] at h4
      simp only [go_sem, ↓reduceIte, or_true, or_false, true_or, false_or, Option.some.injEq, exists_eq_left, exists_eq_left', Nat.reduceBEq, Nat.reduceAdd, Nat.reduceMul, Nat.reduceSub, Nat.reduceEqDiff, Nat.reduceLT, Nat.reduceLeDiff, Option.map, Option.bind, List.map, List.length, true_implies, true_and, and_true, Bool.and_true, Bool.true_and, Bool.or_false, Bool.false_or, Bool.not_true, Bool.not_false, Bool.and_false, Bool.false_and, List.cons_append, List.nil_append, List.append_nil, mk_eq_bs, tl_bs, List.getElem?_cons_zero, List.getElem?_cons_succ, eq_self, reduceCtorEq, implies_true, false_implies, decide_eq_true_eq, decide_eq_false_iff_not, Bool.and_eq_true, Bool.or_eq_true, Bool.not_eq_true', Bool.and_eq_false_iff, Bool.or_eq_false_iff, Bool.not_eq_false', Option.toList, SV.v.injEq, Value.int.injEq, Value.bool.injEq, Value.string.injEq, Option.getD, List.contains_cons, List.contains_nil, beq_self_eq_true, Nat.max_def, List.set, List.drop, List.take, Int.toNat_natCast, Nat.mul_one, Int.toNat_zero, List.drop_zero, Bx.mk.injEq, Vc.mk.injEq, List.cons.injEq, List.take_length, List.getElem?_nil, List.getD_cons_zero, List.getD_cons_succ, Int.reduceToNat, not_false_eq_true, Nat.le_refl]
      refine WP_drawQ pu7 (by kernel_rfl) (by kernel_rfl) (by kernel_rfl) ?_
      simp only [go_sem, ↓reduceIte, or_true, or_false, true_or, false_or, Option.some.injEq, exists_eq_left, exists_eq_left', Nat.reduceBEq, Nat.reduceAdd, Nat.reduceMul, Nat.reduceSub, Nat.reduceEqDiff, Nat.reduceLT, Nat.reduceLeDiff, Option.map, Option.bind, List.map, List.length, true_implies, true_and, and_true, Bool.and_true, Bool.true_and, Bool.or_false, Bool.false_or, Bool.not_true, Bool.not_false, Bool.and_false, Bool.false_and, List.cons_append, List.nil_append, List.append_nil, mk_eq_bs, tl_bs, List.getElem?_cons_zero, List.getElem?_cons_succ, eq_self, reduceCtorEq, implies_true, false_implies, decide_eq_true_eq, decide_eq_false_iff_not, Bool.and_eq_true, Bool.or_eq_true, Bool.not_eq_true', Bool.and_eq_false_iff, Bool.or_eq_false_iff, Bool.not_eq_false', Option.toList, SV.v.injEq, Value.int.injEq, Value.bool.injEq, Value.string.injEq, Option.getD, List.contains_cons, List.contains_nil, beq_self_eq_true, Nat.max_def, List.set, List.drop, List.take, Int.toNat_natCast, Nat.mul_one, Int.toNat_zero, List.drop_zero, Bx.mk.injEq, Vc.mk.injEq, List.cons.injEq, List.take_length, List.getElem?_nil, List.getD_cons_zero, List.getD_cons_succ, Int.reduceToNat, not_false_eq_true, Nat.le_refl]
      refine ⟨⟨by omega, by omega, by omega⟩, fun h => ?_, fun h => ?_⟩
      · have hk2 : k + 2 ≤ s.length := by
          have := pre_len h
          rw [List.length_drop] at this
          simp only [List.length_cons, List.length_nil] at this
          omega
        have hpl2 := part_le true (s.drop (k + 2))
        rw [List.length_drop] at hpl2
        rw [List.drop_drop, List.drop_drop] at h4
        have e2 : ((k : Int) + 2).toNat = k + 2 := by omega
        refine ⟨by unfold I64; omega, by kernel_rfl, FnV_of ((part_spec s k (k + 2) m' (by omega) (by omega) (by omega)).mono ?_)⟩
        rintro r H' m'' hm2 ⟨rfl, rfl, rfl⟩
        simp only [go_sem, ↓reduceIte, or_true, or_false, true_or, false_or, Option.some.injEq, exists_eq_left, exists_eq_left', Nat.reduceBEq, Nat.reduceAdd, Nat.reduceMul, Nat.reduceSub, Nat.reduceEqDiff, Nat.reduceLT, Nat.reduceLeDiff, Option.map, Option.bind, List.map, List.length, true_implies, true_and, and_true, Bool.and_true, Bool.true_and, Bool.or_false, Bool.false_or, Bool.not_true, Bool.not_false, Bool.and_false, Bool.false_and, List.cons_append, List.nil_append, List.append_nil, mk_eq_bs, tl_bs, List.getElem?_cons_zero, List.getElem?_cons_succ, eq_self, reduceCtorEq, implies_true, false_implies, decide_eq_true_eq, decide_eq_false_iff_not, Bool.and_eq_true, Bool.or_eq_true, Bool.not_eq_true', Bool.and_eq_false_iff, Bool.or_eq_false_iff, Bool.not_eq_false', Option.toList, SV.v.injEq, Value.int.injEq, Value.bool.injEq, Value.string.injEq, Option.getD, List.contains_cons, List.contains_nil, beq_self_eq_true, Nat.max_def, List.set, List.drop, List.take, Int.toNat_natCast, Nat.mul_one, Int.toNat_zero, List.drop_zero, Bx.mk.injEq, Vc.mk.injEq, List.cons.injEq, List.take_length, List.getElem?_nil, List.getD_cons_zero, List.getD_cons_succ, Int.reduceToNat, not_false_eq_true, Nat.le_refl, e2]
        refine ⟨fun h0 => ⟨(), ?_, ?_⟩, fun h0 => ⟨by unfold I64; omega, by unfold I64; omega, (k + (2 + partL true (s.drop (k + 2))), f), by simp only; omega, ⟨by simp only; omega, by simp only; omega, by simp only; omega, ?_⟩, by simp only; omega⟩⟩
        · rw [if_neg (by rintro ⟨_, x⟩; exact x (by omega))] at h4
          rw [h4]; rfl
        · rw [if_neg (by rintro ⟨_, x⟩; exact x (by omega))] at h4
          omega
        · rw [if_pos ⟨h, by omega⟩] at h4
          simp only
          omega
      · rw [if_neg (by rw [h]; rintro ⟨x, _⟩; cases x)] at h4
        exact ⟨(), by rw [h4]; rfl, by omega⟩
end Go.Proofs.YtmkifodpkcmgoaaDoor.E

/- lex, part L: a token; the tokens. -/
set_option linter.unusedSimpArgs false
set_option linter.unusedVariables false
namespace Go.Proofs.YtmkifodpkcmgoaaDoor.E
open Go

/-- The token with which a text begins: kind, text, number, length. -/
def tokL (l : List UInt8) : Option (Int × List UInt8 × Int × Nat) :=
  match l with
  | [] => none
  | c :: r =>
    if isStartB c.toNat = true then (if isName (idS l) = true then some (if keywordsL.contains (idS l) = true then 2 else 1, idS l, 0, idN l) else none)
    else if isDigitB c.toNat = true then (if (numL l).2.2.2 = true then some (if (numL l).1 = true then 4 else 3, [], (numL l).2.1, (numL l).2.2.1) else none)
    else if c.toNat = 34 then (match qScan r with
      | some (b, n) => if b.length ≤ 1024 then some (5, b, 0, 1 + n) else none
      | none => none)
    else (signAt l).map fun o => (6, o, 0, o.length)
def NOut (s : List UInt8) (p : Nat) (o : Option (Int × List UInt8 × Int × Nat)) (r : SV) (H' : Hp) : Prop :=
  match o with
  | some (k, t, n, len) => r = .tup [Tk.sv ⟨k, t, n, p⟩, .v (.bool true)] ∧ H' = ⟨[scB s (p + len : Nat)], []⟩
  | none => ∃ t q, r = .tup [Tk.sv t, .v (.bool false)] ∧ H' = ⟨[scB s q], []⟩
def NRes (s : List UInt8) (p : Nat) (m : Mem) (r : SV) (H' : Hp) (m' : Mem) : Prop :=
  m.le m' ∧ ∃ (t : Tk) (b : Bool) (q : Int), r = .tup [Tk.sv t, .v (.bool b)] ∧ H' = ⟨[scB s q], []⟩ ∧ NOut s p (tokL (s.drop p)) (.tup [Tk.sv t, .v (.bool b)]) ⟨[scB s q], []⟩
theorem next_id {s : List UInt8} {p : Nat} {m m' : Mem} {r : SV} {H' : Hp} (hp : p < s.length) (h1 : isStartB (s.getD p 0).toNat = true)
    (h : m.le m' ∧ r = .tup [Tk.sv ⟨if keywordsL.contains (idS (s.drop p)) = true then 2 else 1, idS (s.drop p), 0, p⟩, .v (.bool (isName (idS (s.drop p))))] ∧ H' = ⟨[scB s (p + idN (s.drop p) : Nat)], []⟩) : NRes s p m r H' m' := by
  obtain ⟨hle, rfl, rfl⟩ := h
  refine ⟨hle, _, _, _, rfl, rfl, ?_⟩
  have e : tokL (s.drop p) = if isName (idS (s.drop p)) = true then some (if keywordsL.contains (idS (s.drop p)) = true then 2 else 1, idS (s.drop p), 0, idN (s.drop p)) else none := by
    rw [drop_at hp]
    show (if isStartB (s.getD p 0).toNat = true then _ else _) = _
    rw [if_pos h1]
  rw [e]
  cases hn : isName (idS (s.drop p)) with
  | true => exact ⟨rfl, rfl⟩
  | false => exact ⟨_, _, rfl, rfl⟩
theorem next_num {s : List UInt8} {p : Nat} {m m' : Mem} {r : SV} {H' : Hp} (hm : m.le m') (hp : p < s.length) (h1 : isStartB (s.getD p 0).toNat = false) (h2 : isDigitB (s.getD p 0).toNat = true)
    (h : m' = m ∧ r = .tup [Tk.sv ⟨if (numL (s.drop p)).1 = true then 4 else 3, [], (numL (s.drop p)).2.1, p⟩, .v (.bool (numL (s.drop p)).2.2.2)] ∧ H' = ⟨[scB s (p + (numL (s.drop p)).2.2.1 : Nat)], []⟩) : NRes s p m r H' m' := by
  obtain ⟨_, rfl, rfl⟩ := h
  refine ⟨hm, _, _, _, rfl, rfl, ?_⟩
  have e : tokL (s.drop p) = if (numL (s.drop p)).2.2.2 = true then some (if (numL (s.drop p)).1 = true then 4 else 3, [], (numL (s.drop p)).2.1, (numL (s.drop p)).2.2.1) else none := by
    rw [drop_at hp]
    show (if isStartB (s.getD p 0).toNat = true then _ else if isDigitB (s.getD p 0).toNat = true then _ else _) = _
    rw [if_neg (by rw [h1]; exact Bool.false_ne_true), if_pos h2]
  rw [e]
  cases hn : (numL (s.drop p)).2.2.2 with
  | true => exact ⟨rfl, rfl⟩
  | false => exact ⟨_, _, rfl, rfl⟩
theorem next_quo {s : List UInt8} {p : Nat} {m m' : Mem} {r : SV} {H' : Hp} (hm : m.le m') (hp : p < s.length) (h1 : isStartB (s.getD p 0).toNat = false) (h2 : isDigitB (s.getD p 0).toNat = false) (h3 : (((s.getD p 0).toNat : Nat) : Int) = 34)
    (h : m' = m ∧ QOut s p (qScan (s.drop (p + 1))) r H') : NRes s p m r H' m' := by
  obtain ⟨_, h⟩ := h
  have e : tokL (s.drop p) = match qScan (s.drop (p + 1)) with
      | some (b, n) => if b.length ≤ 1024 then some (5, b, 0, 1 + n) else none
      | none => none := by
    rw [drop_at hp]
    show (if isStartB (s.getD p 0).toNat = true then _ else if isDigitB (s.getD p 0).toNat = true then _ else if (s.getD p 0).toNat = 34 then _ else _) = _
    rw [if_neg (by rw [h1]; exact Bool.false_ne_true), if_neg (by rw [h2]; exact Bool.false_ne_true), if_pos (by omega)]
  unfold NRes
  rw [e]
  cases hq : qScan (s.drop (p + 1)) with
  | none =>
    rw [hq] at h
    obtain ⟨t, q, rfl, rfl⟩ := h
    exact ⟨hm, t, false, q, rfl, rfl, t, q, rfl, rfl⟩
  | some x =>
    obtain ⟨b, n⟩ := x
    rw [hq] at h
    obtain ⟨rfl, rfl⟩ := h
    refine ⟨hm, _, _, _, rfl, rfl, ?_⟩
    by_cases hb : b.length ≤ 1024
    · simp only [if_pos hb, decide_eq_true hb]
      exact ⟨rfl, by rw [Nat.add_assoc]⟩
    · simp only [if_neg hb, decide_eq_false hb]
      exact ⟨_, _, rfl, rfl⟩
theorem next_op {s : List UInt8} {p : Nat} {m m' : Mem} {r : SV} {H' : Hp} (hm : m.le m') (hp : p < s.length) (h1 : isStartB (s.getD p 0).toNat = false) (h2 : isDigitB (s.getD p 0).toNat = false) (h3 : ¬ (((s.getD p 0).toNat : Nat) : Int) = 34)
    (h : m' = m ∧ match signAt (s.drop p) with
      | some o => r = .tup [Tk.sv ⟨6, o, 0, p⟩, .v (.bool true)] ∧ H' = ⟨[scB s (p + o.length)], []⟩
      | none => r = .tup [Tk.sv Tk0, .v (.bool false)] ∧ H' = ⟨[scB s p], []⟩) : NRes s p m r H' m' := by
  obtain ⟨_, h⟩ := h
  have e : tokL (s.drop p) = (signAt (s.drop p)).map fun o => (6, o, 0, o.length) := by
    rw [drop_at hp]
    show (if isStartB (s.getD p 0).toNat = true then _ else if isDigitB (s.getD p 0).toNat = true then _ else if (s.getD p 0).toNat = 34 then _ else _) = _
    rw [if_neg (by rw [h1]; exact Bool.false_ne_true), if_neg (by rw [h2]; exact Bool.false_ne_true), if_neg (by omega)]
  unfold NRes
  rw [e]
  cases hq : signAt (s.drop p) with
  | none =>
    rw [hq] at h
    obtain ⟨rfl, rfl⟩ := h
    exact ⟨hm, Tk0, false, p, rfl, rfl, Tk0, p, rfl, rfl⟩
  | some o =>
    rw [hq] at h
    obtain ⟨rfl, rfl⟩ := h
    exact ⟨hm, _, _, _, rfl, rfl, rfl, rfl⟩
set_option maxHeartbeats 4000000 in
set_option maxRecDepth 20000 in
theorem next_spec (s : List UInt8) (p : Nat) (m : Mem) (hg : Glob m) (hp : p < s.length) (hs : s.length ≤ 1000000) :
    FnH Tryd.prog 22 [.box 0 0] ⟨[scB s p], []⟩ m fun r H' m' => NRes s p m r H' m' := by
  refine enter cf7 pu7 Tryd.func22 rfl rfl (by kernel_rfl) rfl ?_ ?_
  · simp only [go_sem, ↓reduceIte, or_true, or_false, true_or, false_or, Option.some.injEq, exists_eq_left, exists_eq_left', Nat.reduceBEq, Nat.reduceAdd, Nat.reduceMul, Nat.reduceSub, Nat.reduceEqDiff, Nat.reduceLT, Nat.reduceLeDiff, Option.map, Option.bind, List.map, List.length, true_implies, true_and, and_true, Bool.and_true, Bool.true_and, Bool.or_false, Bool.false_or, Bool.not_true, Bool.not_false, Bool.and_false, Bool.false_and, List.cons_append, List.nil_append, List.append_nil, mk_eq_bs, tl_bs, List.getElem?_cons_zero, List.getElem?_cons_succ, eq_self, reduceCtorEq, implies_true, false_implies, decide_eq_true_eq, decide_eq_false_iff_not, Bool.and_eq_true, Bool.or_eq_true, Bool.not_eq_true', Bool.and_eq_false_iff, Bool.or_eq_false_iff, Bool.not_eq_false', Option.toList, SV.v.injEq, Value.int.injEq, Value.bool.injEq, Value.string.injEq, Option.getD, List.contains_cons, List.contains_nil, beq_self_eq_true, Nat.max_def, List.set, List.drop, List.take, Int.toNat_natCast, Nat.mul_one, Int.toNat_zero, List.drop_zero, Bx.mk.injEq, Vc.mk.injEq, List.cons.injEq, List.take_length, List.getElem?_nil, List.getD_cons_zero, List.getD_cons_succ, Int.reduceToNat, not_false_eq_true, Nat.le_refl]
  · simp only [go_sem, ↓reduceIte, or_true, or_false, true_or, false_or, Option.some.injEq, exists_eq_left, exists_eq_left', Nat.reduceBEq, Nat.reduceAdd, Nat.reduceMul, Nat.reduceSub, Nat.reduceEqDiff, Nat.reduceLT, Nat.reduceLeDiff, Option.map, Option.bind, List.map, List.length, true_implies, true_and, and_true, Bool.and_true, Bool.true_and, Bool.or_false, Bool.false_or, Bool.not_true, Bool.not_false, Bool.and_false, Bool.false_and, List.cons_append, List.nil_append, List.append_nil, mk_eq_bs, tl_bs, List.getElem?_cons_zero, List.getElem?_cons_succ, eq_self, reduceCtorEq, implies_true, false_implies, decide_eq_true_eq, decide_eq_false_iff_not, Bool.and_eq_true, Bool.or_eq_true, Bool.not_eq_true', Bool.and_eq_false_iff, Bool.or_eq_false_iff, Bool.not_eq_false', Option.toList, SV.v.injEq, Value.int.injEq, Value.bool.injEq, Value.string.injEq, Option.getD, List.contains_cons, List.contains_nil, beq_self_eq_true, Nat.max_def, List.set, List.drop, List.take, Int.toNat_natCast, Nat.mul_one, Int.toNat_zero, List.drop_zero, Bx.mk.injEq, Vc.mk.injEq, List.cons.injEq, List.take_length, List.getElem?_nil, List.getD_cons_zero, List.getD_cons_succ, Int.reduceToNat, not_false_eq_true, Nat.le_refl]
    refine WP_drawQ pu7 (by kernel_rfl) (by kernel_rfl) (by kernel_rfl) ?_
    simp only [go_sem, ↓reduceIte, or_true, or_false, true_or, false_or, Option.some.injEq, exists_eq_left, exists_eq_left', Nat.reduceBEq, Nat.reduceAdd, Nat.reduceMul, Nat.reduceSub, Nat.reduceEqDiff, Nat.reduceLT, Nat.reduceLeDiff, Option.map, Option.bind, List.map, List.length, true_implies, true_and, and_true, Bool.and_true, Bool.true_and, Bool.or_false, Bool.false_or, Bool.not_true, Bool.not_false, Bool.and_false, Bool.false_and, List.cons_append, List.nil_append, List.append_nil, mk_eq_bs, tl_bs, List.getElem?_cons_zero, List.getElem?_cons_succ, eq_self, reduceCtorEq, implies_true, false_implies, decide_eq_true_eq, decide_eq_false_iff_not, Bool.and_eq_true, Bool.or_eq_true, Bool.not_eq_true', Bool.and_eq_false_iff, Bool.or_eq_false_iff, Bool.not_eq_false', Option.toList, SV.v.injEq, Value.int.injEq, Value.bool.injEq, Value.string.injEq, Option.getD, List.contains_cons, List.contains_nil, beq_self_eq_true, Nat.max_def, List.set, List.drop, List.take, Int.toNat_natCast, Nat.mul_one, Int.toNat_zero, List.drop_zero, Bx.mk.injEq, Vc.mk.injEq, List.cons.injEq, List.take_length, List.getElem?_nil, List.getD_cons_zero, List.getD_cons_succ, Int.reduceToNat, not_false_eq_true, Nat.le_refl]
    refine ⟨by omega, fun h1 => ⟨by kernel_rfl, FnV_of (((identifier_spec s p m hg hp hs).mono fun r H' m' hm h => next_id hp h1 h).mono ?_)⟩, fun h1 => ⟨fun h2 => ⟨by kernel_rfl, FnV_of (((number_spec s p m hg hp hs h2).mono fun r H' m' hm h => next_num hm hp h1 h2 h).mono ?_)⟩,
      fun h2 => ⟨fun h3 => ⟨by kernel_rfl, FnV_of (((quoted_spec s p m hp hs).mono fun r H' m' hm h => next_quo hm hp h1 h2 h3 h).mono ?_)⟩, fun h3 => ⟨by kernel_rfl, FnV_of (((operator_spec s p m (by omega) hs).mono fun r H' m' hm h => next_op hm hp h1 h2 h3 h).mono ?_)⟩⟩⟩⟩
    all_goals
      rintro r H' m' hm ⟨hle, t, b, q, rfl, rfl, hN⟩
      simp only [go_sem, ↓reduceIte, or_true, or_false, true_or, false_or, Option.some.injEq, exists_eq_left, exists_eq_left', Nat.reduceBEq, Nat.reduceAdd, Nat.reduceMul, Nat.reduceSub, Nat.reduceEqDiff, Nat.reduceLT, Nat.reduceLeDiff, Option.map, Option.bind, List.map, List.length, true_implies, true_and, and_true, Bool.and_true, Bool.true_and, Bool.or_false, Bool.false_or, Bool.not_true, Bool.not_false, Bool.and_false, Bool.false_and, List.cons_append, List.nil_append, List.append_nil, mk_eq_bs, tl_bs, List.getElem?_cons_zero, List.getElem?_cons_succ, eq_self, reduceCtorEq, implies_true, false_implies, decide_eq_true_eq, decide_eq_false_iff_not, Bool.and_eq_true, Bool.or_eq_true, Bool.not_eq_true', Bool.and_eq_false_iff, Bool.or_eq_false_iff, Bool.not_eq_false', Option.toList, SV.v.injEq, Value.int.injEq, Value.bool.injEq, Value.string.injEq, Option.getD, List.contains_cons, List.contains_nil, beq_self_eq_true, Nat.max_def, List.set, List.drop, List.take, Int.toNat_natCast, Nat.mul_one, Int.toNat_zero, List.drop_zero, Bx.mk.injEq, Vc.mk.injEq, List.cons.injEq, List.take_length, List.getElem?_nil, List.getD_cons_zero, List.getD_cons_succ, Int.reduceToNat, not_false_eq_true, Nat.le_refl]
      exact ⟨hle, t, b, q, rfl, rfl, hN⟩
end Go.Proofs.YtmkifodpkcmgoaaDoor.E

/- lex, part M: Tokenize. -/
set_option linter.unusedSimpArgs false
set_option linter.unusedVariables false
namespace Go.Proofs.YtmkifodpkcmgoaaDoor.E
open Go

theorem elT22 : elT Tryd.prog 22 = some 27 := by kernel_rfl
theorem zero41 : zeroO Tryd.prog 41 = some [.v (.string (bs [])), .v (.int .i64 0)] := by kernel_rfl
attribute [go_sem] elT22 zero41
theorem idRF_le : ∀ (f : Nat) (l : List UInt8), idRF f l ≤ l.length
  | 0, _ => Nat.zero_le _
  | f + 1, l => by
    simp only [idRF]
    split
    · rename_i h
      have h1 := part_le true (l.drop 2)
      have h2 := idRF_le f (l.drop (2 + partL true (l.drop 2)))
      have h3 := pre_len h.1
      simp only [List.length_drop, List.length_cons, List.length_nil] at h1 h2 h3
      omega
    · exact Nat.zero_le _
theorem idN_le (l : List UInt8) : idN l ≤ l.length := by
  have h1 := part_le true l
  have h2 := idRF_le (l.length + 1) (l.drop (partL true l))
  rw [List.length_drop] at h2
  unfold idN; omega
theorem qScanF_len : ∀ (f : Nat) (l : List UInt8) (b : List UInt8) (n : Nat), qScanF f l = some (b, n) → 1 ≤ n ∧ n ≤ l.length
  | 0, l, b, n, h => by cases h
  | f + 1, [], b, n, h => by cases h
  | f + 1, c :: r, b, n, h => by
    simp only [qScanF] at h
    split at h
    · cases h; simp
    · split at h
      · cases h
      · split at h
        · split at h
          · obtain ⟨⟨b', n'⟩, h', e⟩ := Option.map_eq_some_iff.1 h
            cases e
            have h1 := qScanF_len f _ _ _ h'
            have h2 := (escL_len r).1
            rw [List.length_drop] at h1
            simp only [List.length_cons]
            omega
          · cases h
        · obtain ⟨⟨b', n'⟩, h', e⟩ := Option.map_eq_some_iff.1 h
          cases e
          have h1 := qScanF_len f _ _ _ h'
          simp only [List.length_cons]
          omega
theorem signAt_len {l o : List UInt8} (h : signAt l = some o) : 1 ≤ o.length ∧ o.length ≤ l.length := by
  have h1 := List.find?_some h
  have h2 := List.mem_of_find?_eq_some h
  exact ⟨(by decide : ∀ o ∈ signsL, 1 ≤ o.length) o h2, pre_len h1⟩
theorem tokL_len {l : List UInt8} {k : Int} {t : List UInt8} {n : Int} {len : Nat} (h : tokL l = some (k, t, n, len)) : 1 ≤ len ∧ len ≤ l.length := by
  cases l with
  | nil => cases h
  | cons c r =>
    simp only [tokL] at h
    split at h
    · rename_i hs
      split at h
      · cases h
        refine ⟨?_, idN_le _⟩
        have : 1 ≤ partL true (c :: r) := by
          simp only [partL]; rw [if_pos (by rw [hs]; rfl)]; omega
        unfold idN; omega
      · cases h
    · split at h
      · rename_i hd
        split at h
        · cases h
          have h1 := dig_le (c :: r)
          have h2 : 1 ≤ digL (c :: r) := by simp only [digL]; rw [if_pos hd]; omega
          simp only [numL]
          split
          · rename_i hb
            refine ⟨by omega, ?_⟩
            rcases Nat.lt_or_ge (digL (c :: r)) (c :: r).length with h3 | h3
            · omega
            · rw [List.drop_of_length_le h3] at hb
              simp at hb
          · exact ⟨h2, h1⟩
        · cases h
      · split at h
        · split at h
          · rename_i b n' hq
            split at h
            · cases h
              have := qScanF_len _ _ _ _ hq
              simp only [List.length_cons]
              omega
            · cases h
          · cases h
        · obtain ⟨o, ho, e⟩ := Option.map_eq_some_iff.1 h
          cases e
          exact signAt_len ho
/-- The tokens of a text, from an offset on. -/
def lexF (s : List UInt8) : Nat → Nat → List Tk → List Tk × Int × Int
  | 0, _, acc => (acc, 0, 0)
  | f + 1, p, acc =>
    let q := p + skipW false (s.drop p)
    if s.length ≤ q then (acc, 0, 0) else if 5000 ≤ acc.length then ([], 0, 5) else
      match tokL (s.drop q) with
      | none => ([], q, 70)
      | some (k, t, n, len) => lexF s f (q + len) (acc ++ [⟨k, t, n, q⟩])
def tokenizeL (s : List UInt8) : List Tk × Int × Int := if 20000 < s.length then ([], 0, 8) else lexF s (s.length + 1) 0 []
def tkCells (ts : List Tk) : List Value := (ts.map fun t => [Value.int .i64 t.k, .string (bs t.s), .int .i64 t.n, .int .i64 t.at_]).flatten
theorem tkCells_app (a : List Tk) (t : Tk) : tkCells a ++ [Value.int .i64 t.k, .string (bs t.s), .int .i64 t.n, .int .i64 t.at_] = tkCells (a ++ [t]) := by simp [tkCells]
/-- A list of tokens, as a call hands it back. -/
def ROut (x : List Tk × Int × Int) (r : SV) (H' : Hp) : Prop :=
  (x.2.2 = 0 ∧ ∃ k u, r = .tup [.vec k u, .v (.int .i64 x.2.1), .v (.int .i64 x.2.2)] ∧ H' = ⟨[], [⟨k, u, 27, 4, x.1.length, tkCells x.1⟩]⟩) ∨
  (x.2.2 ≠ 0 ∧ x.1 = [] ∧ r = .tup [.v (.slice none 0 0), .v (.int .i64 x.2.1), .v (.int .i64 x.2.2)] ∧ H' = ⟨[], []⟩)
theorem leM_trans {a b c : Mem} (h : leM a b) (h' : b.le c) : leM a c := by
  rcases h with rfl | h
  · exact .inr h'
  · exact .inr (Mem.le_trans h h')
theorem NOut_no {s : List UInt8} {p : Nat} {o : Option (Int × List UInt8 × Int × Nat)} {t : Tk} {q : Int} (h : NOut s p o (.tup [Tk.sv t, .v (.bool false)]) ⟨[scB s q], []⟩) : o = none := by
  cases o with
  | none => rfl
  | some x =>
    obtain ⟨k, tt, n, len⟩ := x
    have h1 := h.1
    simp at h1
theorem NOut_yes {s : List UInt8} {p : Nat} {o : Option (Int × List UInt8 × Int × Nat)} {t : Tk} {q : Int} (h : NOut s p o (.tup [Tk.sv t, .v (.bool true)]) ⟨[scB s q], []⟩) :
    ∃ k tt n len, o = some (k, tt, n, len) ∧ t = ⟨k, tt, n, p⟩ ∧ q = (p + len : Nat) := by
  cases o with
  | none =>
    obtain ⟨t', q', h1, _⟩ := h
    simp at h1
  | some x =>
    obtain ⟨k, tt, n, len⟩ := x
    obtain ⟨h1, h2⟩ := h
    obtain ⟨tk, ts, tn, ta⟩ := t
    simp only [Tk.sv, Tk.cells, SV.tup.injEq, List.cons.injEq, SV.agg.injEq, SV.v.injEq, Value.int.injEq, Value.string.injEq, true_and, and_true] at h1
    simp only [Hp.mk.injEq, List.cons.injEq, Bx.mk.injEq, SV.v.injEq, Value.int.injEq, true_and, and_true] at h2
    obtain ⟨rfl, h12, rfl, rfl⟩ := h1
    have := bs_inj h12
    subst this
    exact ⟨_, _, _, _, rfl, rfl, h2⟩
set_option maxHeartbeats 4000000 in
set_option maxRecDepth 20000 in
theorem tokenize_spec (s : List UInt8) (m : Mem) (hg : Glob m) (hs : s.length ≤ 4611686018427387904) :
    FnH Tryd.prog 8 [.v (.string (bs s))] ⟨[], []⟩ m fun r H' m' => leM m m' ∧ ROut (tokenizeL s) r H' := by
  refine enter cf7 pu7 Tryd.func8 rfl rfl (by kernel_rfl) rfl ?_ ?_
  · simp only [go_sem, ↓reduceIte, or_true, or_false, true_or, false_or, Option.some.injEq, exists_eq_left, exists_eq_left', Nat.reduceBEq, Nat.reduceAdd, Nat.reduceMul, Nat.reduceSub, Nat.reduceEqDiff, Nat.reduceLT, Nat.reduceLeDiff, Option.map, Option.bind, List.map, List.length, true_implies, true_and, and_true, Bool.and_true, Bool.true_and, Bool.or_false, Bool.false_or, Bool.not_true, Bool.not_false, Bool.and_false, Bool.false_and, List.cons_append, List.nil_append, List.append_nil, mk_eq_bs, tl_bs, List.getElem?_cons_zero, List.getElem?_cons_succ, eq_self, reduceCtorEq, implies_true, false_implies, decide_eq_true_eq, decide_eq_false_iff_not, Bool.and_eq_true, Bool.or_eq_true, Bool.not_eq_true', Bool.and_eq_false_iff, Bool.or_eq_false_iff, Bool.not_eq_false', Option.toList, SV.v.injEq, Value.int.injEq, Value.bool.injEq, Value.string.injEq, Option.getD, List.contains_cons, List.contains_nil, beq_self_eq_true, Nat.max_def, List.set, List.drop, List.take, Int.toNat_natCast, Nat.mul_one, Int.toNat_zero, List.drop_zero, Bx.mk.injEq, Vc.mk.injEq, List.cons.injEq, List.take_length, List.getElem?_nil, List.getD_cons_zero, List.getD_cons_succ, Int.reduceToNat, not_false_eq_true, Nat.le_refl]
  · simp only [go_sem, ↓reduceIte, or_true, or_false, true_or, false_or, Option.some.injEq, exists_eq_left, exists_eq_left', Nat.reduceBEq, Nat.reduceAdd, Nat.reduceMul, Nat.reduceSub, Nat.reduceEqDiff, Nat.reduceLT, Nat.reduceLeDiff, Option.map, Option.bind, List.map, List.length, true_implies, true_and, and_true, Bool.and_true, Bool.true_and, Bool.or_false, Bool.false_or, Bool.not_true, Bool.not_false, Bool.and_false, Bool.false_and, List.cons_append, List.nil_append, List.append_nil, mk_eq_bs, tl_bs, List.getElem?_cons_zero, List.getElem?_cons_succ, eq_self, reduceCtorEq, implies_true, false_implies, decide_eq_true_eq, decide_eq_false_iff_not, Bool.and_eq_true, Bool.or_eq_true, Bool.not_eq_true', Bool.and_eq_false_iff, Bool.or_eq_false_iff, Bool.not_eq_false', Option.toList, SV.v.injEq, Value.int.injEq, Value.bool.injEq, Value.string.injEq, Option.getD, List.contains_cons, List.contains_nil, beq_self_eq_true, Nat.max_def, List.set, List.drop, List.take, Int.toNat_natCast, Nat.mul_one, Int.toNat_zero, List.drop_zero, Bx.mk.injEq, Vc.mk.injEq, List.cons.injEq, List.take_length, List.getElem?_nil, List.getD_cons_zero, List.getD_cons_succ, Int.reduceToNat, not_false_eq_true, Nat.le_refl]
    refine ⟨fun h => ?_, fun h => ?_⟩
    · have e : tokenizeL s = ([], 0, 8) := if_pos (by omega)
      rw [e]
      exact .inr ⟨by decide, rfl, rfl, rfl⟩
    · refine WP_adopt 5 27 4 (by decide) rfl ?_
      have hts : tokenizeL s = lexF s (s.length + 1) 0 [] := if_neg (by omega)
      refine WP_loop pu7 (fun x : Nat × List Tk × Nat × Mem => ⟨[⟨0, [], .v (.string (bs s))⟩, ⟨5, [], .vec 1 x.2.2.1⟩, ⟨6, [], .box 0 0⟩], [], [scB s x.1], [⟨1, x.2.2.1, 27, 4, x.2.1.length, tkCells x.2.1⟩], 2, x.2.2.2⟩)
        (fun x => leM m x.2.2.2 ∧ Glob x.2.2.2 ∧ x.1 ≤ s.length ∧ x.2.1.length ≤ 5000 ∧ ∃ f, s.length - x.1 < f ∧ tokenizeL s = lexF s f x.1 x.2.1) (fun x => s.length - x.1) (0, [], 0, m) (by kernel_rfl) (fun _ _ => Nat.le_refl _) (fun x hx => hx.1) (fun _ => ?_) ?_ ?_ ?_
      · simp only [go_sem, ↓reduceIte, or_true, or_false, true_or, false_or, Option.some.injEq, exists_eq_left, exists_eq_left', Nat.reduceBEq, Nat.reduceAdd, Nat.reduceMul, Nat.reduceSub, Nat.reduceEqDiff, Nat.reduceLT, Nat.reduceLeDiff, Option.map, Option.bind, List.map, List.length, true_implies, true_and, and_true, Bool.and_true, Bool.true_and, Bool.or_false, Bool.false_or, Bool.not_true, Bool.not_false, Bool.and_false, Bool.false_and, List.cons_append, List.nil_append, List.append_nil, mk_eq_bs, tl_bs, List.getElem?_cons_zero, List.getElem?_cons_succ, eq_self, reduceCtorEq, implies_true, false_implies, decide_eq_true_eq, decide_eq_false_iff_not, Bool.and_eq_true, Bool.or_eq_true, Bool.not_eq_true', Bool.and_eq_false_iff, Bool.or_eq_false_iff, Bool.not_eq_false', Option.toList, SV.v.injEq, Value.int.injEq, Value.bool.injEq, Value.string.injEq, Option.getD, List.contains_cons, List.contains_nil, beq_self_eq_true, Nat.max_def, List.set, List.drop, List.take, Int.toNat_natCast, Nat.mul_one, Int.toNat_zero, List.drop_zero, Bx.mk.injEq, Vc.mk.injEq, List.cons.injEq, List.take_length, List.getElem?_nil, List.getD_cons_zero, List.getD_cons_succ, Int.reduceToNat, not_false_eq_true, Nat.le_refl]
      · simp only [go_sem, ↓reduceIte, or_true, or_false, true_or, false_or, Option.some.injEq, exists_eq_left, exists_eq_left', Nat.reduceBEq, Nat.reduceAdd, Nat.reduceMul, Nat.reduceSub, Nat.reduceEqDiff, Nat.reduceLT, Nat.reduceLeDiff, Option.map, Option.bind, List.map, List.length, true_implies, true_and, and_true, Bool.and_true, Bool.true_and, Bool.or_false, Bool.false_or, Bool.not_true, Bool.not_false, Bool.and_false, Bool.false_and, List.cons_append, List.nil_append, List.append_nil, mk_eq_bs, tl_bs, List.getElem?_cons_zero, List.getElem?_cons_succ, eq_self, reduceCtorEq, implies_true, false_implies, decide_eq_true_eq, decide_eq_false_iff_not, Bool.and_eq_true, Bool.or_eq_true, Bool.not_eq_true', Bool.and_eq_false_iff, Bool.or_eq_false_iff, Bool.not_eq_false', Option.toList, SV.v.injEq, Value.int.injEq, Value.bool.injEq, Value.string.injEq, Option.getD, List.contains_cons, List.contains_nil, beq_self_eq_true, Nat.max_def, List.set, List.drop, List.take, Int.toNat_natCast, Nat.mul_one, Int.toNat_zero, List.drop_zero, Bx.mk.injEq, Vc.mk.injEq, List.cons.injEq, List.take_length, List.getElem?_nil, List.getD_cons_zero, List.getD_cons_succ, Int.reduceToNat, not_false_eq_true, Nat.le_refl]
        exact ⟨rfl, rfl⟩
      · exact ⟨.inl rfl, hg, Nat.zero_le _, Nat.zero_le _, s.length + 1, by simp only; omega, hts⟩
      · rintro ⟨p, acc, u, mm⟩ ⟨h1, h2, h3, h4, f, h5, h6⟩
        simp only at h1 h2 h3 h4 h5 h6
        obtain ⟨f, rfl⟩ : ∃ g, f = g + 1 := ⟨f - 1, by omega⟩
        simp only [lexF] at h6
        have hsk := skip_le false (s.drop p)
        rw [List.length_drop] at hsk
        have hbl := blank_spec s p mm h3 (by omega)
        obtain ⟨q, hq⟩ : ∃ q, p + skipW false (s.drop p) = q := ⟨_, rfl⟩
        rw [hq] at h6 hbl
        have hqs : q ≤ s.length := by omega
        simp only [go_sem, ↓reduceIte, or_true, or_false, true_or, false_or, Option.some.injEq, exists_eq_left, exists_eq_left', Nat.reduceBEq, Nat.reduceAdd, Nat.reduceMul, Nat.reduceSub, Nat.reduceEqDiff, Nat.reduceLT, Nat.reduceLeDiff, Option.map, Option.bind, List.map, List.length, true_implies, true_and, and_true, Bool.and_true, Bool.true_and, Bool.or_false, Bool.false_or, Bool.not_true, Bool.not_false, Bool.and_false, Bool.false_and, List.cons_append, List.nil_append, List.append_nil, mk_eq_bs, tl_bs, List.getElem?_cons_zero, List.getElem?_cons_succ, eq_self, reduceCtorEq, implies_true, false_implies, decide_eq_true_eq, decide_eq_false_iff_not, Bool.and_eq_true, Bool.or_eq_true, Bool.not_eq_true', Bool.and_eq_false_iff, Bool.or_eq_false_iff, Bool.not_eq_false', Option.toList, SV.v.injEq, Value.int.injEq, Value.bool.injEq, Value.string.injEq, Option.getD, List.contains_cons, List.contains_nil, beq_self_eq_true, Nat.max_def, List.set, List.drop, List.take, Int.toNat_natCast, Nat.mul_one, Int.toNat_zero, List.drop_zero, Bx.mk.injEq, Vc.mk.injEq, List.cons.injEq, List.take_length, List.getElem?_nil, List.getD_cons_zero, List.getD_cons_succ, Int.reduceToNat, not_false_eq_true, Nat.le_refl]
        refine ⟨by kernel_rfl, FnV_of (hbl.mono ?_)⟩
        rintro r H' m' hm ⟨rfl, rfl, rfl⟩
        clear hbl
        simp only [go_sem, ↓reduceIte, or_true, or_false, true_or, false_or, Option.some.injEq, exists_eq_left, exists_eq_left', Nat.reduceBEq, Nat.reduceAdd, Nat.reduceMul, Nat.reduceSub, Nat.reduceEqDiff, Nat.reduceLT, Nat.reduceLeDiff, Option.map, Option.bind, List.map, List.length, true_implies, true_and, and_true, Bool.and_true, Bool.true_and, Bool.or_false, Bool.false_or, Bool.not_true, Bool.not_false, Bool.and_false, Bool.false_and, List.cons_append, List.nil_append, List.append_nil, mk_eq_bs, tl_bs, List.getElem?_cons_zero, List.getElem?_cons_succ, eq_self, reduceCtorEq, implies_true, false_implies, decide_eq_true_eq, decide_eq_false_iff_not, Bool.and_eq_true, Bool.or_eq_true, Bool.not_eq_true', Bool.and_eq_false_iff, Bool.or_eq_false_iff, Bool.not_eq_false', Option.toList, SV.v.injEq, Value.int.injEq, Value.bool.injEq, Value.string.injEq, Option.getD, List.contains_cons, List.contains_nil, beq_self_eq_true, Nat.max_def, List.set, List.drop, List.take, Int.toNat_natCast, Nat.mul_one, Int.toNat_zero, List.drop_zero, Bx.mk.injEq, Vc.mk.injEq, List.cons.injEq, List.take_length, List.getElem?_nil, List.getD_cons_zero, List.getD_cons_succ, Int.reduceToNat, not_false_eq_true, Nat.le_refl]
        refine ⟨fun hge => ⟨h1, ?_⟩, fun hlt => ⟨fun hmany => ⟨h1, ?_⟩, fun hfew => ⟨by kernel_rfl, FnV_of ((next_spec s q m' h2 (by omega) (by omega)).mono ?_)⟩⟩⟩
        · rw [h6, if_pos (by omega)]
          exact .inl ⟨rfl, _, _, rfl, rfl⟩
        · rw [h6, if_neg (by omega), if_pos (by omega)]
          exact .inr ⟨by decide, rfl, rfl, rfl⟩
        · rintro r H' m'' hm2 ⟨hle, t, b, qq, rfl, rfl, hN⟩
          simp only [go_sem, ↓reduceIte, or_true, or_false, true_or, false_or, Option.some.injEq, exists_eq_left, exists_eq_left', Nat.reduceBEq, Nat.reduceAdd, Nat.reduceMul, Nat.reduceSub, Nat.reduceEqDiff, Nat.reduceLT, Nat.reduceLeDiff, Option.map, Option.bind, List.map, List.length, true_implies, true_and, and_true, Bool.and_true, Bool.true_and, Bool.or_false, Bool.false_or, Bool.not_true, Bool.not_false, Bool.and_false, Bool.false_and, List.cons_append, List.nil_append, List.append_nil, mk_eq_bs, tl_bs, List.getElem?_cons_zero, List.getElem?_cons_succ, eq_self, reduceCtorEq, implies_true, false_implies, decide_eq_true_eq, decide_eq_false_iff_not, Bool.and_eq_true, Bool.or_eq_true, Bool.not_eq_true', Bool.and_eq_false_iff, Bool.or_eq_false_iff, Bool.not_eq_false', Option.toList, SV.v.injEq, Value.int.injEq, Value.bool.injEq, Value.string.injEq, Option.getD, List.contains_cons, List.contains_nil, beq_self_eq_true, Nat.max_def, List.set, List.drop, List.take, Int.toNat_natCast, Nat.mul_one, Int.toNat_zero, List.drop_zero, Bx.mk.injEq, Vc.mk.injEq, List.cons.injEq, List.take_length, List.getElem?_nil, List.getD_cons_zero, List.getD_cons_succ, Int.reduceToNat, not_false_eq_true, Nat.le_refl, Tk.sv, Tk.cells]
          have hlm : leM m m'' := leM_trans h1 hle
          refine ⟨fun hb => ⟨hlm, ?_⟩, fun hb => ⟨⟨by omega, by simp only [maxLen]; omega⟩, ?_⟩⟩
          · have ht := NOut_no (hb ▸ hN)
            rw [h6, if_neg (by omega), if_neg (by omega), ht]
            exact .inr ⟨by simp, rfl, rfl, rfl⟩
          · obtain ⟨k, tt, n, len, ht, e1, e2⟩ := NOut_yes (hb ▸ hN)
            rw [ht] at h6
            rw [if_neg (by omega), if_neg (by omega)] at h6
            have hlen := tokL_len ht
            rw [List.length_drop] at hlen
            refine ⟨(q + len, acc ++ [t], u + 1, m''), ⟨rfl, e2, ⟨rfl, by simp, tkCells_app acc t⟩, .inl rfl⟩, ⟨hlm, h2.up hle, by simp only; omega, by simp only [List.length_append, List.length_singleton]; omega, f, by simp only; omega, ?_⟩, by simp only; omega⟩
            rw [h6, e1]
end Go.Proofs.YtmkifodpkcmgoaaDoor.E

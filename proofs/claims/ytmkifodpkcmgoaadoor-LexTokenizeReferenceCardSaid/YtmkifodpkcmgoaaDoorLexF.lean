/- lex, part F: what is called of Go's library. -/
import Derived.Test.YtmkifodpkcmgoaaDoorLexE
import Derived.Test.YtmkifodpkcmgoaaDoorShelf
namespace Go.Proofs.YtmkifodpkcmgoaaDoor.E
open Go Go.RowKit

/-- A call that leaves all that was there as it was. -/
theorem FnH_of {P : Program} {f : FuncId} {args : List Value} {m : Mem} {R : Value → Prop} (h : ∀ w D, Wf w D → m.le ⟨w, D⟩ → Calls P f ⟨args⟩ w fun e w' => ∃ y, e = .returned y ∧ R y ∧ Below w.heap.size w w') :
    FnH P f (args.map SV.v) ⟨[], []⟩ m fun r H' m' => (∃ y, r = .v y ∧ R y) ∧ H' = ⟨[], []⟩ ∧ m' = m := by
  intro V w D hwf hle hH
  have ha : (args.map SV.v).map (den V) = args := by rw [List.map_map]; exact List.map_id'' (fun _ => rfl) args
  rw [ha]
  refine (h w D hwf hle).mono ?_
  rintro e w' ⟨y, rfl, hy, hb⟩
  have hlt : ∀ b, 0 < D b → b < w.heap.size := fun b hb => by
    rcases Nat.lt_or_ge b w.heap.size with h | h
    · exact h
    · have := hwf b h; omega
  have hle' : Mem.le ⟨w, D⟩ ⟨w', D⟩ := fun b => ⟨Nat.le_refl _, fun h0 => ⟨hlt b h0, keepObj_same (hb.block b (hlt b h0))⟩⟩
  exact ⟨.v y, V, D, ⟨[], []⟩, m, rfl, fun b hb' => hwf b (Nat.le_trans hb.size hb'), ⟨fun b hb => (by cases hb), fun b hb => (by cases hb), by simp [blks], by simp⟩, fun b hb => (by cases hb), fun b hb => (by cases hb),
    ⟨hb.os, hb.tape, hb.output, hb.size, fun b hb' _ => ⟨hb.block b hb', rfl⟩⟩, fun b hb => (by simp [blks] at hb), hle', fun b => ⟨Nat.le_refl _, fun h => ⟨((hle b).2 h).1, keepObj_same rfl⟩⟩, Mem.le_trans hle hle', ⟨y, rfl, hy⟩, rfl, rfl⟩

/-- What the library's variables hold. -/
def Glob (m : Mem) : Prop := ∀ w D, m.le ⟨w, D⟩ → (∃ k, w.cell? ⟨0, 0, none⟩ = some (.int .i64 k)) ∧ (∃ t p, w.cell? ⟨4, 0, none⟩ = some (.iface t p)) ∧ (∃ t p, w.cell? ⟨5, 0, none⟩ = some (.iface t p)) ∧
  Lib.TabIs Tryd.prog w "internal/strconv.uint64pow10" .u64 Lib.pow10Tab
theorem Glob.up {m m' : Mem} (h : Glob m) (hm : m.le m') : Glob m' := fun w D hw => h w D (Mem.le_trans hm hw)

theorem tl_size (b : ByteArray) : (tl b).length = b.size := by simp [tl]
theorem bs_size (l : List UInt8) : (bs l).size = l.length := by rw [← tl_size, tl_bs]
theorem replace_spec (s old new : List UInt8) (m : Mem) (hg : Glob m) (hs : s.length ≤ 2147483648) (ho : 1 ≤ old.length) (hn : new.length ≤ 16) :
    FnH Tryd.prog 27 [.v (.string (bs s)), .v (.string (bs old)), .v (.string (bs new))] ⟨[], []⟩ m fun r H' m' => (r = .v (.string (bs (Lib.replaceAll s old new)))) ∧ H' = ⟨[], []⟩ ∧ m' = m := by
  refine (FnH_of (args := [.string (bs s), .string (bs old), .string (bs new)]) (R := fun y => y = .string (bs (Lib.replaceAll s old new))) fun w D hwf hle => ?_).mono ?_
  · obtain ⟨k, hk⟩ := (hg w D hle).1
    have hc := Lib.countB_mul_le (bs old) (by rw [bs_size]; exact ho) s.length (bs s) (by rw [bs_size]; omega)
    have h1 : Lib.countB (bs s) (bs old) ≤ s.length := by
      rw [bs_size] at hc
      exact Nat.le_trans (Nat.le_mul_of_pos_right _ ho) hc
    have h2 : Lib.countB (bs s) (bs old) * (bs new).size ≤ s.length * 16 := by rw [bs_size]; exact Nat.mul_le_mul h1 hn
    refine (Tryd.strings_ReplaceAll (bs s) (bs old) (bs new) k w (by rw [bs_size]; omega) hk (by rw [bs_size]; exact ho) (by rw [bs_size s]; omega)).mono ?_
    rintro e w' ⟨rfl, hb⟩
    exact ⟨_, rfl, by rw [← mk_eq_bs]; rfl, hb⟩
  · rintro r H' m' hm ⟨⟨y, rfl, rfl⟩, h1, h2⟩
    exact ⟨rfl, h1, h2⟩
theorem indexByte_spec (s : List UInt8) (c : Int) (m : Mem) : FnH Tryd.prog 40 [.v (.string (bs s)), .v (.int .u8 c)] ⟨[], []⟩ m fun r H' _ => r = .v (.int .i64 (Lib.indexByte s c.toNat.toUInt8)) ∧ H' = ⟨[], []⟩ := by
  refine (FnH_of (args := [.string (bs s), .int .u8 c]) (R := fun y => y = .int .i64 (Lib.indexByte s c.toNat.toUInt8)) fun w D hwf hle => ?_).mono ?_
  · refine (Tryd.strings_IndexByte (bs s) c w).mono ?_
    rintro e w' ⟨rfl, rfl⟩
    exact ⟨_, rfl, rfl, Below.refl _ _⟩
  · rintro r H' m' hm ⟨⟨y, rfl, rfl⟩, h1, h2⟩
    exact ⟨rfl, h1⟩
theorem itoa_spec (n : Int) (m : Mem) (hg : Glob m) (hn : I64 n) : FnH Tryd.prog 29 [.v (.int .i64 n)] ⟨[], []⟩ m fun r H' m' => r = .v (.string (bs (Lib.itoa n))) ∧ H' = ⟨[], []⟩ ∧ m' = m := by
  refine (FnH_of (args := [.int .i64 n]) (R := fun y => y = .string (bs (Lib.itoa n))) fun w D hwf hle => ?_).mono ?_
  · refine (Tryd.strconv_Itoa n hn.1 hn.2 w (hg w D hle).2.2.2).mono ?_
    rintro e w' ⟨rfl, k, os, rfl⟩
    refine ⟨_, rfl, rfl, ?_⟩
    have h2 : Below w.heap.size w (w.drewN k) := (Below.refl _ _).trans ⟨rfl, rfl, rfl, Nat.le_refl _, fun _ _ => rfl⟩
    refine ⟨h2.os, h2.tape, h2.output, ?_, fun j hj => ?_⟩
    · show _ ≤ (_ ++ os).size
      rw [Array.size_append]
      exact Nat.le_trans h2.size (Nat.le_add_right _ _)
    · show ((w.drewN k).heap ++ os)[j]? = _
      rw [Array.getElem?_append_left (Nat.lt_of_lt_of_le hj h2.size)]
      exact h2.block j hj
  · rintro r H' m' hm ⟨⟨y, rfl, rfl⟩, h1, h2⟩
    exact ⟨rfl, h1, h2⟩
/-- What ParseInt answers: the number, and is there no error. -/
def parseN (s : List UInt8) : Int × Bool :=
  match Lib.parseIntB 64 s with
  | .ok v => (v, true)
  | .«syntax» => (0, false)
  | .range => (Lib.intSat 64 s, false)
theorem parseInt_spec (s : List UInt8) (m : Mem) (hg : Glob m) (hs : s.length ≤ 2147483648) :
    FnH Tryd.prog 69 [.v (.string (bs s)), .v (.int .i64 10), .v (.int .i64 64)] ⟨[], []⟩ m fun r H' m' => (∃ e, r = .v (.tuple ⟨[.int .i64 (parseN s).1, e]⟩) ∧ ifV e ∧ isNilV e = (parseN s).2) ∧ H' = ⟨[], []⟩ ∧ m' = m := by
  refine (FnH_of (args := [.string (bs s), .int .i64 10, .int .i64 64]) (R := fun y => ∃ e, y = .tuple ⟨[.int .i64 (parseN s).1, e]⟩ ∧ ifV e ∧ isNilV e = (parseN s).2) fun w D hwf hle => ?_).mono ?_
  · have hsz := bs_size s
    obtain ⟨_, ⟨t4, p4, h4⟩, ⟨t5, p5, h5⟩, _⟩ := hg w D hle
    cases hp : Lib.parseIntB 64 s with
    | ok v =>
      refine (Tryd.strconv_ParseInt_10_at64_ok (bs s) (by omega) v hp w).mono ?_
      rintro e w' ⟨rfl, hw⟩
      refine ⟨_, rfl, ⟨.nilIface, by simp [parseN, hp], .inl rfl, by simp [parseN, hp, isNilV]⟩, ?_⟩
      rcases hw with rfl | ⟨t, rfl⟩
      · exact Below.refl _ _
      · exact Lib.bytesWorld_below _ _ _
    | «syntax» =>
      refine (Tryd.strconv_ParseInt_10_at64_syntax (bs s) (by omega) hp _ w h4 (.inr ⟨_, _, rfl⟩)).mono ?_
      rintro e w' ⟨N, rfl, _, _, hb⟩
      exact ⟨_, rfl, ⟨.iface 96 (.pointer (some ⟨N, 0, none⟩)), by simp [parseN, hp], .inr ⟨_, _, rfl⟩, by simp [parseN, hp, isNilV]⟩, hb⟩
    | range =>
      have hts : (bs s).data.toList = s := tl_bs s
      refine (Tryd.strconv_ParseInt_10_at64_range (bs s) (by omega) hp _ w h5 (.inr ⟨_, _, rfl⟩)).mono ?_
      rintro e w' ⟨N, rfl, _, _, hb⟩
      exact ⟨_, rfl, ⟨.iface 96 (.pointer (some ⟨N, 0, none⟩)), by simp [parseN, hp, hts], .inr ⟨_, _, rfl⟩, by simp [parseN, hp, isNilV]⟩, hb⟩
  · rintro r H' m' hm ⟨⟨y, rfl, e, rfl, h3⟩, h1, h2⟩
    exact ⟨⟨e, rfl, h3⟩, h1, h2⟩
theorem join_spec (l : List (List UInt8)) (sep : List UInt8) (a : Option Addr) (n c : Nat) (m : Mem) (h : Rds m a n 1 (strs l)) (hc : n ≤ c) (hn : n ≤ 1000000) (hlen : (Lib.join l sep).length ≤ 1000000000000) :
    FnH Tryd.prog 25 [.v (.slice a n c), .v (.string (bs sep))] ⟨[], []⟩ m fun r H' m' => r = .v (.string (bs (Lib.join l sep))) ∧ H' = ⟨[], []⟩ ∧ m' = m := by
  have hl : l.length = n := by have := h.1; simpa [strs] using this
  refine (FnH_of (args := [.slice a n c, .string (bs sep)]) (R := fun y => y = .string (bs (Lib.join l sep))) fun w D hwf hle => ?_).mono ?_
  · rcases Nat.eq_zero_or_pos n with h0 | h0
    · subst h0
      have : l = [] := List.eq_nil_of_length_eq_zero hl
      subst this
      refine (Tryd.strings_Join_none a c (bs sep) w).mono ?_
      rintro e w' ⟨rfl, rfl⟩
      exact ⟨_, rfl, rfl, Below.refl _ _⟩
    · obtain ⟨ad, rfl, hsp, _⟩ := h.2 h0
      obtain ⟨ad', e, hc'⟩ := Rds_at hle h h0
      cases e
      obtain ⟨bk, o, sp⟩ := ad
      simp only at hsp
      subst hsp
      have e1 : (l.map bs).map (·.data.toList) = l := by
        rw [List.map_map]
        exact List.map_id'' (fun x => tl_bs x) l
      have e2 : (bs sep).data.toList = sep := tl_bs sep
      have hcell : ∀ (j : Nat) x, (l.map bs)[j]? = some x → w.cell? ⟨bk, o + j, none⟩ = some (.string x) := fun j x hx => by
        have := hc' j (.string x) (by simp only [strs, List.getElem?_map] at hx ⊢; rw [Option.map_eq_some_iff] at hx ⊢; obtain ⟨y, hy, rfl⟩ := hx; exact ⟨y, hy, rfl⟩)
        rwa [add_off] at this
      have hb : bk < w.heap.size := by
        have h1 := hcell 0 (bs (l[0]'(by omega))) (by simp [h0, hl])
        rcases Nat.lt_or_ge bk w.heap.size with h2 | h2
        · exact h2
        · simp [World.cell?, Array.getElem?_eq_none h2] at h1
      have := Tryd.strings_Join bk o c (l.map bs) (bs sep) w hcell hb (by rw [List.length_map]; omega) (by rw [List.length_map]; omega) (by rw [e1, e2]; omega)
      rw [List.length_map, hl, e1, e2] at this
      refine this.mono ?_
      rintro e w' ⟨rfl, hw⟩
      exact ⟨_, rfl, rfl, hw⟩
  · rintro r H' m' hm ⟨⟨y, rfl, rfl⟩, h1, h2⟩
    exact ⟨rfl, h1, h2⟩
end Go.Proofs.YtmkifodpkcmgoaaDoor.E

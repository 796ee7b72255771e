/- Several texts in one: AstRt, AstPn, AstRu, AstCardT, AstQa, AstV, AstB, AstC, AstD, AstE, AstF, AstG, AstH, AstI, AstJ, AstK, AstN, AstO, AstP, AstQ. -/
import Derived.Lib.ParseIntB
import Derived.Shelf.LaysC
import Derived.Shelf.Strconv.ParseIntPublic10
import Derived.Laws.StructEq
import Derived.Test.YtimddhkipjedcaaGreatDoorMrg2
set_option linter.unusedSimpArgs false
set_option linter.unusedVariables false
set_option maxHeartbeats 4000000
set_option maxRecDepth 20000
namespace Go.Proofs.YtimddhkipjedcaaGreatDoor.E
open Go Go.RowKit
def partL (first : Bool) : List UInt8 → Nat
 | [] => 0
 | c :: r => if isStartB c.toNat || (!first && isDigitB c.toNat) then 1 + partL false r else 0
theorem letter_spec (c : Int) (m : Mem) : FnH Tryz.prog 114 [.v (.int .u8 c)] ⟨[], []⟩ m fun r H' _ => r = .v (.bool (isStartB c)) ∧ H' = ⟨[], []⟩ := by
 refine enter cf0 pu0 Tryz.func114 rfl rfl (by kernel_rfl) rfl ?_ ?_
 ·simp only [go_sem, ↓tfi, ↓fti, ↓reduceIte]
 ·simp only [go_sem, ↓tfi, ↓fti, ↓reduceIte]
  rfl
theorem digit_spec (c : Int) (m : Mem) : FnH Tryz.prog 116 [.v (.int .u8 c)] ⟨[], []⟩ m fun r H' _ => r = .v (.bool (isDigitB c)) ∧ H' = ⟨[], []⟩ := by
 refine enter cf0 pu0 Tryz.func116 rfl rfl (by kernel_rfl) rfl ?_ ?_
 ·simp only [go_sem, ↓tfi, ↓fti, ↓reduceIte]
 ·simp only [go_sem, ↓tfi, ↓fti, ↓reduceIte]
  rfl
def isAt (s : List UInt8) (i : Int) (b : List UInt8) : Bool := decide ((b.length : Int) ≤ s.length - i) && decide (((s.take (i + b.length).toNat).drop i.toNat) = b)
theorem is_spec (s b : List UInt8) (i : Int) (m : Mem) (h0 : 0 ≤ i) (h1 : i ≤ s.length) (hs : s.length ≤ 4611686018427387904) (hb : b.length ≤ 1000) :
  FnH Tryz.prog 113 [.v (.string (bs s)), .v (.int .i64 i), .v (.string (bs b))] ⟨[], []⟩ m fun r H' _ => r = .v (.bool (isAt s i b)) ∧ H' = ⟨[], []⟩ := by
 refine enter cf0 pu0 Tryz.func113 rfl rfl (by kernel_rfl) rfl ?_ ?_
 ·simp only [go_sem, ↓tfi, ↓fti, ↓reduceIte]
 ·simp only [go_sem, ↓tfi, ↓fti, ↓reduceIte]
  have : ∀ h : (b.length : Int) ≤ s.length - i, I64 (i + b.length) := fun h => by unfold I64; omega
  exact ⟨by unfold I64; omega, this, fun h => ⟨h0, by omega, by omega⟩, rfl⟩
def parseN (s : List UInt8) : Int × Bool :=
 match Lib.parseIntB 64 s with
 | .ok v => (v, true)
 | .range => (Lib.intSat 64 s, false)
 | _ => (0, false)
def skipW : Bool → List UInt8 → Nat
 | _, [] => 0
 | true, c :: r => if c.toNat = 10 then 1 + skipW false r else 1 + skipW true r
 | false, c :: r => if c.toNat = 9 ∨ c.toNat = 10 ∨ c.toNat = 13 ∨ c.toNat = 32 then 1 + skipW false r else if c.toNat = 47 ∧ r.head?.map UInt8.toNat = some 47 then 1 + skipW true r else 0
theorem skip_le : ∀ (b : Bool) (l : List UInt8), skipW b l ≤ l.length
 | _, [] => by simp [skipW]
 | true, c :: r => by
  have h1 := skip_le false r; have h2 := skip_le true r
  simp only [skipW, Llc]; split <;> omega
 | false, c :: r => by
  have h1 := skip_le false r; have h2 := skip_le true r
  simp only [skipW, Llc]; split
  ·omega
  ·split <;> omega
theorem hasPre_iff {a b : List UInt8} : hasPre a b = true ↔ ∃ r, a = b ++ r := by
 simp only [hasPre, Bbt, decide_eq_true_eq]
 constructor
 ·rintro ⟨_, h⟩
  exact ⟨a.drop b.length, by conv => lhs; rw [← List.take_append_drop b.length a, h]⟩
 ·rintro ⟨r, rfl⟩
  exact ⟨by rw [Lla]; omega, by simp⟩
theorem u8_eq {c : UInt8} {n : Nat} (h : c.toNat = n) : c = UInt8.ofNat n := by rw [← h]; simp
theorem hasPre_two {c : UInt8} {r : List UInt8} : hasPre (c :: r) [47, 47] = true ↔ c.toNat = 47 ∧ r.head?.map UInt8.toNat = some 47 := by
 rw [hasPre_iff]
 constructor
 ·rintro ⟨t, h⟩
  simp only [List.cons_append, List.nil_append, List.cons.injEq] at h
  rw [h.1, h.2]
  simp
 ·rintro ⟨h1, h2⟩
  cases r with
  | nil => simp at h2
  | cons d r =>
   simp only [List.head?_cons, Option.map_some, Option.some.injEq] at h2
   exact ⟨r, by rw [u8_eq h1, u8_eq h2]; rfl⟩
theorem idx_lt (c : UInt8) : ∀ (l : List UInt8), Lib.indexByte l c < l.length
 | [] => by simp [Lib.indexByte]
 | d :: r => by
  have := idx_lt c r
  simp only [Lib.indexByte, Llc]
  split
  ·omega
  ·split <;> omega
abbrev Tk0 : Tk := ⟨0, [], 0, 0⟩
def signAt (l : List UInt8) : Option (List UInt8) := signsL.find? fun o => hasPre l o
def hexI (c : UInt8) : Int := Lib.indexByte hexL c
def escL : List UInt8 → Nat × Int × Bool
  | [] => (0, 0, false)
  | c :: r => if c.toNat = 34 ∨ c.toNat = 92 then (1, c.toNat, true) else if c.toNat = 110 then (1, 10, true) else if c.toNat = 120 then
      (match r with
        | h :: l :: _ => (3, IntKind.u8.wrap (16 * hexI h + hexI l), decide (0 ≤ hexI h) && decide (0 ≤ hexI l))
        | _ => (0, 0, false)) else (0, 0, false)
def qScanF : Nat → List UInt8 → Option (List UInt8 × Nat)
  | 0, _ => none
  | _ + 1, [] => none
  | f + 1, c :: r => if c.toNat = 34 then some ([], 1) else if c.toNat < 32 ∨ 126 < c.toNat then none else
      if c.toNat = 92 then (if (escL r).2.2 = true then (qScanF f (r.drop (escL r).1)).map fun x => (UInt8.ofNat (escL r).2.1.toNat :: x.1, 1 + (escL r).1 + x.2) else none)
      else (qScanF f r).map fun x => (c :: x.1, 1 + x.2)
def qScan (l : List UInt8) : Option (List UInt8 × Nat) := qScanF (l.length + 1) l
theorem wrap_u8 (n : Int) : ∃ x : UInt8, IntKind.u8.wrap n = x.toNat := by
 have h : 0 ≤ IntKind.u8.wrap n ∧ IntKind.u8.wrap n < 256 := by
  have e : IntKind.u8.wrap n = n % 256 := by simp [IntKind.wrap, IntKind.bits, IntKind.signed]
  rw [e]
  omega
 exact ⟨UInt8.ofNat (IntKind.u8.wrap n).toNat, by rw [UInt8.toNat_ofNat']; omega⟩
theorem escL_byte (l : List UInt8) : ∃ x : UInt8, (escL l).2.1 = x.toNat := by
 unfold escL
 split
 ·exact ⟨0, rfl⟩
 ·rename_i c r
  split
  ·exact ⟨c, rfl⟩
  ·split
   ·exact ⟨10, rfl⟩
   ·split
    ·split
     ·exact wrap_u8 _
     ·exact ⟨0, rfl⟩
    ·exact ⟨0, rfl⟩
theorem escL_len (l : List UInt8) : (escL l).1 ≤ l.length ∧ ((escL l).2.2 = true → 1 ≤ (escL l).1) := by
 unfold escL
 split
 ·simp
 ·rename_i c r
  split
  ·simp
  ·split
   ·simp
   ·split
    ·split
     ·simp
     ·simp
    ·simp
def digL : List UInt8 → Nat
 | [] => 0
 | c :: r => if isDigitB c.toNat then 1 + digL r else 0
theorem dig_le : ∀ l, digL l ≤ l.length
 | [] => by simp [digL]
 | c :: r => by
  have := dig_le r
  simp only [digL, Llc]
  split <;> omega
def numL (l : List UInt8) : Bool × Int × Nat × Bool :=
 let d := digL l
 let big := decide ((l.drop d).head?.map UInt8.toNat = some 76)
 let v := parseN (l.take d)
 (big, v.1, if big = true then d + 1 else d, v.2 && decide (v.1 ≤ if big = true then 9223372036854775807 else 2147483647) && (decide ((l.head?.map UInt8.toNat) ≠ some 48) || decide (d = 1)))
def numT (s : List UInt8) (p : Nat) : List UInt8 := (s.drop p).take (digL (s.drop p))
theorem num_at {s : List UInt8} {p k : Nat} (hp : p < s.length) (hk : k ≤ s.length) (hk0 : k = p + digL (s.drop p)) (hpos : p < k) :
  (s.take k).drop p = numT s p ∧ (numT s p).length = k - p ∧ numL (s.drop p) = (decide ((k : Int) < s.length ∧ (((s.getD k 0).toNat : Nat) : Int) = 76), (parseN (numT s p)).1, (if ((k : Int) < s.length ∧ (((s.getD k 0).toNat : Nat) : Int) = 76) then k - p + 1 else k - p),
   (parseN (numT s p)).2 && decide ((parseN (numT s p)).1 ≤ if ((k : Int) < s.length ∧ (((s.getD k 0).toNat : Nat) : Int) = 76) then 9223372036854775807 else 2147483647) && (decide (((numT s p).getD 0 0).toNat ≠ 48) || decide ((numT s p).length = 1))) := by
 have hdt : (s.take k).drop p = (s.drop p).take (digL (s.drop p)) := by
  rw [List.drop_take]; congr 1; omega
 have hdn : (s.drop p).drop (digL (s.drop p)) = s.drop k := by rw [List.drop_drop, hk0]
 have hdl : ((s.drop p).take (digL (s.drop p))).length = k - p := by rw [List.length_take]; have := dig_le (s.drop p); omega
 have hd0 : ((s.drop p).take (digL (s.drop p))).getD 0 0 = (s.drop p).getD 0 0 := by
  rw [List.getD_eq_getElem?_getD, List.getElem?_take, if_pos (by omega), List.getD_eq_getElem?_getD]
 have hdg : digL (s.drop p) = k - p := by omega
 have hh0 : (s.drop p).head?.map UInt8.toNat = some ((s.drop p).getD 0 0).toNat := by
  rw [drop_at hp]; rfl
 have hh1 : ((s.drop k).head?.map UInt8.toNat = some 76) = ((k : Int) < s.length ∧ (((s.getD k 0).toNat : Nat) : Int) = 76) := by
  rw [eq_iff_iff]
  rcases Nat.lt_or_ge k s.length with h' | h'
  ·rw [drop_at h']
   simp only [List.head?_cons, Option.map_some, Option.some.injEq]
   omega
  ·rw [List.drop_of_length_le h']
   simp only [List.head?_nil, Option.map_none]
   constructor
   ·intro h; cases h
   ·intro h; omega
 refine ⟨hdt, hdl, ?_⟩
 unfold numT
 have hN : numL (s.drop p) = (decide (((s.drop p).drop (digL (s.drop p))).head?.map UInt8.toNat = some 76), (parseN ((s.drop p).take (digL (s.drop p)))).1,
  (if decide (((s.drop p).drop (digL (s.drop p))).head?.map UInt8.toNat = some 76) = true then digL (s.drop p) + 1 else digL (s.drop p)),
  (parseN ((s.drop p).take (digL (s.drop p)))).2 && decide ((parseN ((s.drop p).take (digL (s.drop p)))).1 ≤ if decide (((s.drop p).drop (digL (s.drop p))).head?.map UInt8.toNat = some 76) = true then 9223372036854775807 else 2147483647) && (decide (((s.drop p).head?.map UInt8.toNat) ≠ some 48) || decide (digL (s.drop p) = 1))) := rfl
 rw [hN, hdn, hdl, hd0, hh0]
 generalize (s.drop p).take (digL (s.drop p)) = t
 rw [hdg]
 simp only [hh1, decide_eq_true_eq, ne_eq, Option.some.injEq]
def idRF : Nat → List UInt8 → Nat
 | 0, _ => 0
 | f + 1, l => if hasPre l [58, 58] = true ∧ partL true (l.drop 2) ≠ 0 then 2 + partL true (l.drop 2) + idRF f (l.drop (2 + partL true (l.drop 2))) else 0
def idN (l : List UInt8) : Nat := partL true l + idRF (l.length + 1) (l.drop (partL true l))
def idS (l : List UInt8) : List UInt8 := Lib.replaceAll (l.take (idN l)) [58, 58] [47]
theorem part_le : ∀ (b : Bool) (l : List UInt8), partL b l ≤ l.length
 | _, [] => by simp [partL]
 | b, c :: r => by
  have := part_le false r
  simp only [partL, Llc]
  split <;> omega
theorem pre_len {a b : List UInt8} (h : hasPre a b = true) : b.length ≤ a.length := by
 obtain ⟨r, rfl⟩ := hasPre_iff.1 h
 rw [Lla]; omega
def tokL (l : List UInt8) : Option (Int × List UInt8 × Int × Nat) :=
 match l with
 | [] => none
 | c :: r =>
  if isStartB c.toNat = true then (if isName (idS l) = true then some (if keywordsL.contains (idS l) = true then 2 else 1, idS l, 0, idN l) else none)
  else if isDigitB c.toNat = true then (if (numL l).2.2.2 = true then some (if (numL l).1 = true then 4 else 3, [], (numL l).2.1, (numL l).2.2.1) else none)
  else if c.toNat = 34 then (match qScan r with
   | some (b, n) => if b.length ≤ 1024 then some (5, b, 0, 1 + n) else none
   | none => none)
  else (signAt l).map fun o => (6, o, 0, o.length)
theorem idRF_le : ∀ (f : Nat) (l : List UInt8), idRF f l ≤ l.length
 | 0, _ => Nat.zero_le _
 | f + 1, l => by
  simp only [idRF]
  split
  ·rename_i h
   have h1 := part_le true (l.drop 2)
   have h2 := idRF_le f (l.drop (2 + partL true (l.drop 2)))
   have h3 := pre_len h.1
   simp only [List.length_drop, Llc, Lln] at h1 h2 h3
   omega
  ·exact Nat.zero_le _
theorem idN_le (l : List UInt8) : idN l ≤ l.length := by
 have h1 := part_le true l
 have h2 := idRF_le (l.length + 1) (l.drop (partL true l))
 rw [List.length_drop] at h2
 unfold idN; omega
theorem qScanF_len : ∀ (f : Nat) (l : List UInt8) (b : List UInt8) (n : Nat), qScanF f l = some (b, n) → 1 ≤ n ∧ n ≤ l.length
 | 0, l, b, n, h => by cases h
 | f + 1, [], b, n, h => by cases h
 | f + 1, c :: r, b, n, h => by
  simp only [qScanF] at h
  split at h
  ·cases h; simp
  ·split at h
   ·cases h
   ·split at h
    ·split at h
     ·obtain ⟨⟨b', n'⟩, h', e⟩ := Option.map_eq_some_iff.1 h
      cases e
      have h1 := qScanF_len f _ _ _ h'
      have h2 := (escL_len r).1
      rw [List.length_drop] at h1
      simp only [Llc]
      omega
     ·cases h
    ·obtain ⟨⟨b', n'⟩, h', e⟩ := Option.map_eq_some_iff.1 h
     cases e
     have h1 := qScanF_len f _ _ _ h'
     simp only [Llc]
     omega
theorem signAt_len {l o : List UInt8} (h : signAt l = some o) : 1 ≤ o.length ∧ o.length ≤ l.length := by
 have h1 := List.find?_some h
 have h2 := List.mem_of_find?_eq_some h
 exact ⟨(by decide : ∀ o ∈ signsL, 1 ≤ o.length) o h2, pre_len h1⟩
theorem tokL_len {l : List UInt8} {k : Int} {t : List UInt8} {n : Int} {len : Nat} (h : tokL l = some (k, t, n, len)) : 1 ≤ len ∧ len ≤ l.length := by
 cases l with
 | nil => cases h
 | cons c r =>
  simp only [tokL] at h
  split at h
  ·rename_i hs
   split at h
   ·cases h
    refine ⟨?_, idN_le _⟩
    have : 1 ≤ partL true (c :: r) := by
     simp only [partL]; rw [if_pos (by rw [hs]; rfl)]; omega
    unfold idN; omega
   ·cases h
  ·split at h
   ·rename_i hd
    split at h
    ·cases h
     have h1 := dig_le (c :: r)
     have h2 : 1 ≤ digL (c :: r) := by simp only [digL]; rw [if_pos hd]; omega
     simp only [numL]
     split
     ·rename_i hb
      refine ⟨by omega, ?_⟩
      rcases Nat.lt_or_ge (digL (c :: r)) (c :: r).length with h3 | h3
      ·omega
      ·rw [List.drop_of_length_le h3] at hb
       simp at hb
     ·exact ⟨h2, h1⟩
    ·cases h
   ·split at h
    ·split at h
     ·rename_i b n' hq
      split at h
      ·cases h
       have := qScanF_len _ _ _ _ hq
       simp only [Llc]
       omega
      ·cases h
     ·cases h
    ·obtain ⟨o, ho, e⟩ := Option.map_eq_some_iff.1 h
     cases e
     exact signAt_len ho
def lexF (s : List UInt8) : Nat → Nat → List Tk → List Tk × Int × Int
 | 0, _, acc => (acc, 0, 0)
 | f + 1, p, acc =>
  let q := p + skipW false (s.drop p)
  if s.length ≤ q then (acc, 0, 0) else if 5000 ≤ acc.length then ([], 0, 5) else
   match tokL (s.drop q) with
   | none => ([], q, 70)
   | some (k, t, n, len) => lexF s f (q + len) (acc ++ [⟨k, t, n, q⟩])
def tokenizeL (s : List UInt8) : List Tk × Int × Int := if 20000 < s.length then ([], 0, 8) else lexF s (s.length + 1) 0 []
theorem xtkCells_app (a : List Tk) (t : Tk) : tkCells a ++ [Value.int .i64 t.k, .string (bs t.s), .int .i64 t.n, .int .i64 t.at_] = tkCells (a ++ [t]) := by simp [tkCells]
def ROut (x : List Tk × Int × Int) (r : SV) (H' : Hp) : Prop :=
 (x.2.2 = 0 ∧ ∃ k u, r = .tup [.vec k u, .v (.int .i64 x.2.1), .v (.int .i64 x.2.2)] ∧ H' = ⟨[], [⟨k, u, 50, 4, x.1.length, tkCells x.1⟩]⟩) ∨
 (x.2.2 ≠ 0 ∧ x.1 = [] ∧ r = .tup [.v (.slice none 0 0), .v (.int .i64 x.2.1), .v (.int .i64 x.2.2)] ∧ H' = ⟨[], []⟩)
def hexR (c : Int) : Int := if isDigitB c then c - 48 else if 97 ≤ c ∧ c ≤ 102 then c - 97 + 10 else -1
theorem hexR_eq (c : UInt8) : hexR c.toNat = hexI c := by
 have h : ∀ n : Nat, n < 256 → hexR (n : Int) = hexI (UInt8.ofNat n) := by decide
 have := h c.toNat c.toNat_lt
 simpa using this
theorem wrap_u8_eq (n : Int) : IntKind.u8.wrap n = n % 256 := by simp [IntKind.wrap, IntKind.bits, IntKind.signed]
theorem wrap_i64_eq {n : Int} (h : 0 ≤ n ∧ n < 1000) : IntKind.i64.wrap n = n := by
 simp [IntKind.wrap, IntKind.bits, IntKind.signed]
 omega
theorem dig_iff (c : Int) : isDigitB c = true ↔ 48 ≤ c ∧ c ≤ 57 := by simp [isDigitB]
abbrev cf8 : Cfg := mkCf (fun _ => false) [(114, pf1 isStartB), (116, pf1 isDigitB)]
theorem pu8 : PureOk cf8 Tryz.prog := pure_cons (by kernel_rfl) (pure1 letter_spec) (pure_cons (by kernel_rfl) (pure1 digit_spec) pure_nil)
def pI8U (F : Int → Value) : List Value → Option (Prop × Value)
 | [.int .u8 c] => some (0 ≤ c ∧ c ≤ 255, F c)
 | _ => none
attribute [go_sem] pI8U.eq_1
theorem hex_spec (c : Int) (m : Mem) (hc : 0 ≤ c ∧ c ≤ 255) : FnH Tryz.prog 220 [.v (.int .u8 c)] ⟨[], []⟩ m fun r H' _ => r = .v (.int .i64 (hexR c)) ∧ H' = ⟨[], []⟩ := by
 refine enter cf8 pu8 Tryz.func220 rfl rfl (by kernel_rfl) rfl ?_ ?_
 ·simp only [go_sem, ↓tfi, ↓fti, ↓reduceIte]
 ·simp only [go_sem, ↓tfi, ↓fti, ↓reduceIte]
  unfold hexR
  refine ⟨fun h => ?_, fun h => ⟨fun h2 => ?_, fun h2 => ?_⟩⟩
  ·rw [if_pos h]
   have := (dig_iff c).1 h
   rw [wrap_u8_eq, wrap_i64_eq (by omega)]
   omega
  ·rw [if_neg (by rw [h]; exact Bool.false_ne_true), if_pos h2, wrap_u8_eq, wrap_i64_eq (by omega)]
   exact ⟨by unfold I64; omega, by omega⟩
  ·rw [if_neg (by rw [h]; exact Bool.false_ne_true), if_neg (by omega)]
theorem rpart_spec (s : List UInt8) (p : Nat) (m : Mem) (hp : p ≤ s.length) (hs : s.length ≤ 1000000) (hd : p < s.length → isDigitB (s.getD p 0).toNat = false) :
  FnH Tryz.prog 177 [.v (.string (bs s)), .v (.int .i64 p)] ⟨[], []⟩ m fun r H' m' => r = .v (.int .i64 (p + partL true (s.drop p) : Nat)) ∧ H' = ⟨[], []⟩ ∧ m' = m := by
 refine enter cf8 pu8 Tryz.func177 rfl rfl (by kernel_rfl) rfl ?_ ?_
 ·simp only [go_sem, ↓tfi, ↓fti, ↓reduceIte]
 ·simp only [go_sem, ↓tfi, ↓fti, ↓reduceIte]
  refine WP_loop pu8 (fun k : Nat => ⟨[⟨0, [], .v (.string (bs s))⟩, ⟨1, [], .v (.int .i64 k)⟩], [], [], [], 0, m⟩)
   (fun k => p ≤ k ∧ k ≤ s.length ∧ p + partL true (s.drop p) = k + partL (k == p) (s.drop k)) (fun k => s.length - k) p (by kernel_rfl) (fun _ _ => Nnr _) (fun _ _ => .inl rfl) (fun _ => ?_) ?_ ?_ ?_
  ·simp only [go_sem, ↓tfi, ↓fti, ↓reduceIte]
  ·simp only [go_sem, ↓tfi, ↓fti, ↓reduceIte]
  ·exact ⟨Nnr _, hp, by simp⟩
  ·rintro k ⟨h1, h2, h3⟩
   simp only [go_sem, ↓tfi, ↓fti, ↓reduceIte]
   refine ⟨fun h => ⟨by omega, h⟩, fun h => ⟨by omega, h.2⟩, fun h => ⟨by unfold I64; omega, k + 1, rfl, ⟨by omega, by omega, ?_⟩, by omega⟩, fun h => ?_⟩
   ·rw [h3, drop_at (by omega)]
    have hne : (k + 1 == p) = false := by rw [beq_eq_false_iff_ne]; omega
    simp only [partL, hne]
    rw [if_pos]
    ·omega
    ·rcases h.2 with h' | h'
     ·rw [h']; rfl
     ·rcases Nat.lt_or_ge p k with h4 | h4
      ·have : (k == p) = false := by rw [beq_eq_false_iff_ne]; omega
       rw [this, h']; simp
      ·obtain rfl : p = k := by omega
       rw [hd (by omega)] at h'
       cases h'
   ·have h0 : partL (k == p) (s.drop k) = 0 := by
     rcases Nat.lt_or_ge k s.length with h4 | h4
     ·rw [drop_at h4]
      simp only [partL]
      rcases h with h | h
      ·omega
      ·rw [if_neg]
       rw [h.1, h.2]
       simp
     ·rw [List.drop_of_length_le h4]; cases (k == p) <;> rfl
    rw [h3, h0]
    rfl
theorem pureU8 {P : Program} {f : FuncId} {F : Int → Value} (h : ∀ c m, 0 ≤ c ∧ c ≤ 255 → FnH P f [.v (.int .u8 c)] ⟨[], []⟩ m fun r H' _ => r = .v (F c) ∧ H' = ⟨[], []⟩) : Pure0 P f (pI8U F) := fun vals y hy hB m => by
 unfold pI8U at hy
 split at hy
 ·cases hy; exact h _ m hB
 ·cases hy
abbrev cf9 : Cfg := mkCf (fun _ => false) [(220, pI8U fun c => .int .i64 (hexR c)), (114, pf1 isStartB), (116, pf1 isDigitB)]
theorem pu9 : PureOk cf9 Tryz.prog := pure_cons (by kernel_rfl) (pureU8 hex_spec) (pure_cons (by kernel_rfl) (pure1 letter_spec) (pure_cons (by kernel_rfl) (pure1 digit_spec) pure_nil))
def charL : List UInt8 → Int × Nat
 | [] => (0, 0)
 | c :: r => if (c.toNat < 32 ∨ 126 < c.toNat) ∨ c.toNat = 34 then (0, 0) else if c.toNat ≠ 92 then (c.toNat, 1) else if (escL r).2.2 = true then ((escL r).2.1, 1 + (escL r).1) else (0, 0)
theorem escL_end {s : List UInt8} {q : Nat} (h : s.length ≤ q) : escL (s.drop q) = (0, 0, false) := by
 rw [List.drop_of_length_le h]; rfl
theorem escL_self {s : List UInt8} {q : Nat} (h : q < s.length) (hc : (s.getD q 0).toNat = 34 ∨ (s.getD q 0).toNat = 92) : escL (s.drop q) = (1, ((s.getD q 0).toNat : Int), true) := by
 rw [drop_at h]; simp only [escL]; rw [if_pos hc]
theorem escL_n {s : List UInt8} {q : Nat} (h : q < s.length) (hc : (s.getD q 0).toNat = 110) : escL (s.drop q) = (1, 10, true) := by
 rw [drop_at h]; simp only [escL]; rw [if_neg (by omega), if_pos hc]
theorem escL_x {s : List UInt8} {q : Nat} (h : q + 2 < s.length) (hc : (s.getD q 0).toNat = 120) :
  escL (s.drop q) = (3, IntKind.u8.wrap (16 * hexI (s.getD (q + 1) 0) + hexI (s.getD (q + 2) 0)), decide (0 ≤ hexI (s.getD (q + 1) 0)) && decide (0 ≤ hexI (s.getD (q + 2) 0))) := by
 rw [drop_at (by omega), drop_at (k := q + 1) (by omega), drop_at (k := q + 1 + 1) (by omega)]; simp only [escL]; rw [if_neg (by omega), if_neg (by omega), if_pos hc]
theorem escL_short {s : List UInt8} {q : Nat} (h : q < s.length) (hs : s.length ≤ q + 2) (hc : (s.getD q 0).toNat = 120) : escL (s.drop q) = (0, 0, false) := by
 rw [drop_at h]; simp only [escL]; rw [if_neg (by omega), if_neg (by omega), if_pos hc]
 have hl : (s.drop (q + 1)).length ≤ 1 := by rw [List.length_drop]; omega
 split
 ·rename_i h l t e
  rw [e] at hl
  simp at hl
 ·rfl
theorem escL_no {s : List UInt8} {q : Nat} (h : q < s.length) (h1 : ¬ ((s.getD q 0).toNat = 34 ∨ (s.getD q 0).toNat = 92)) (h2 : ¬ (s.getD q 0).toNat = 110) (h3 : ¬ (s.getD q 0).toNat = 120) : escL (s.drop q) = (0, 0, false) := by
 rw [drop_at h]; simp only [escL]; rw [if_neg h1, if_neg h2, if_neg h3]
theorem charL_bad {s : List UInt8} {p : Nat} (h : p < s.length) (hc : ((s.getD p 0).toNat < 32 ∨ 126 < (s.getD p 0).toNat) ∨ (s.getD p 0).toNat = 34) : charL (s.drop p) = (0, 0) := by
 rw [drop_at h]; simp only [charL]; rw [if_pos hc]
theorem charL_plain {s : List UInt8} {p : Nat} (h : p < s.length) (hc : ¬ (((s.getD p 0).toNat < 32 ∨ 126 < (s.getD p 0).toNat) ∨ (s.getD p 0).toNat = 34)) (h2 : (s.getD p 0).toNat ≠ 92) : charL (s.drop p) = (((s.getD p 0).toNat : Int), 1) := by
 rw [drop_at h]; simp only [charL]; rw [if_neg hc, if_pos h2]
theorem charL_esc {s : List UInt8} {p : Nat} (h : p < s.length) (h2 : (s.getD p 0).toNat = 92) {x : Nat × Int × Bool} (he : escL (s.drop (p + 1)) = x) : charL (s.drop p) = if x.2.2 = true then (x.2.1, 1 + x.1) else (0, 0) := by
 rw [drop_at h]; simp only [charL]; rw [if_neg (by omega), if_neg (by omega), he]
theorem char_spec (s : List UInt8) (p : Nat) (m : Mem) (hp : p < s.length) (hs : s.length ≤ 1000000) :
  FnH Tryz.prog 180 [.v (.string (bs s)), .v (.int .i64 p)] ⟨[], []⟩ m fun r H' m' => r = .tup [.v (.int .u8 (charL (s.drop p)).1), .v (.int .i64 (charL (s.drop p)).2)] ∧ H' = ⟨[], []⟩ ∧ m' = m := by
 have e1 : ((p : Int) + 1).toNat = p + 1 := by omega
 have e2 : ((p : Int) + 2).toNat = p + 2 := by omega
 have e3 : ((p : Int) + 3).toNat = p + 3 := by omega
 have hb : ∀ x : UInt8, (0 : Int) ≤ x.toNat ∧ (x.toNat : Int) ≤ 255 := fun x => by have := x.toNat_lt; omega
 refine enter cf9 pu9 Tryz.func180 rfl rfl (by kernel_rfl) rfl ?_ ?_
 ·simp only [go_sem, ↓tfi, ↓fti, ↓reduceIte]
 ·simp only [go_sem, ↓tfi, ↓fti, ↓reduceIte, e1, e2, e3, hexR_eq]
  have hI : ∀ n : Int, 0 ≤ n → n ≤ 2000000 → I64 n := fun n _ _ => by unfold I64; omega
  refine ⟨by omega, fun h => by rw [charL_bad hp (by omega)]; rfl, fun h => ⟨fun h2 => by rw [charL_plain hp (by omega) (by omega)]; rfl, fun h92 => ⟨by unfold I64; omega, fun hsh => ?_, fun hsh => ?_⟩⟩⟩
  ·rw [charL_esc hp (by omega) (escL_end (by omega))]; rfl
  ·have hq : p + 1 < s.length := by omega
   refine ⟨by unfold I64; omega, by omega, fun h34 => ⟨fun _ => ⟨by unfold I64; omega, by omega, ?_⟩, fun h => absurd h34 h⟩, fun h34 => ⟨fun h => ?_, fun h => ?_⟩⟩
   ·rw [charL_esc hp (by omega) (escL_self hq (by omega))]; rfl
   ·rw [charL_esc hp (by omega) (escL_self hq (by omega))]; exact ⟨by unfold I64; omega, by omega, rfl⟩
   ·refine ⟨fun h110 => by rw [charL_esc hp (by omega) (escL_n hq (by omega))]; rfl, fun h110 => ⟨fun h120 => ⟨by unfold I64; omega, fun _ => by unfold I64; omega, fun _ => by omega, fun _ => hb _, fun _ => by unfold I64; omega, fun _ => by omega, fun _ => hb _, fun h4 => ?_, fun h4 => ?_⟩, fun h120 => ?_⟩⟩
    ·have hx := charL_esc hp (by omega) (escL_x (q := p + 1) (by omega) (by omega))
     rw [if_pos (by rw [decide_eq_true h4.1.2, decide_eq_true h4.2]; rfl)] at hx
     have hb1 : Lib.indexByte hexL (s.getD (p + 2) 0) < 16 := idx_lt _ hexL
     have hb2 : Lib.indexByte hexL (s.getD (p + 3) 0) < 16 := idx_lt _ hexL
     have h41 := h4.1.2
     have h42 := h4.2
     refine WP_drawQ pu9 (by kernel_rfl) (by kernel_rfl) (by kernel_rfl) ?_
     simp only [go_sem, ↓tfi, ↓fti, ↓reduceIte, e1, e2, e3, hexR_eq]
     rw [hx]
     unfold hexI at h41 h42 ⊢
     refine ⟨by unfold I64; omega, by omega, hb _, by unfold I64; omega, by unfold I64; omega, by omega, hb _, by unfold I64; omega, ?_⟩
     rw [Int.mul_comm]; rfl
    ·rcases Nat.lt_or_ge (p + 3) s.length with h5 | h5
     ·rw [charL_esc hp (by omega) (escL_x (q := p + 1) (by omega) (by omega)), if_neg]
      ·rfl
      ·simp only [Bbt, decide_eq_true_eq]
       rintro ⟨x, y⟩
       rcases h4 with (h4 | h4) | h4
       ·omega
       ·exact h4 x
       ·exact h4 y
     ·rw [charL_esc hp (by omega) (escL_short (q := p + 1) (by omega) (by omega) (by omega))]; rfl
    ·rw [charL_esc hp (by omega) (escL_no hq (by omega) (by omega) (by omega))]; rfl
def RN (p : Nat) (o : Option (Int × List UInt8 × Int × Nat)) (r : SV) : Prop :=
 ∃ (t : Tk) (e : Int) (b : Bool), r = .tup [Tk.sv t, .v (.int .i64 e), .v (.bool b)] ∧
  match o with
  | some (k, tt, n, len) => b = true ∧ t = ⟨k, tt, n, p⟩ ∧ e = (p + len : Nat)
  | none => b = false
theorem charL_len (l : List UInt8) : (charL l).2 ≤ l.length := by
 cases l with
 | nil => simp [charL]
 | cons c r =>
  have := (escL_len r).1
  simp only [charL, Llc]
  split
  ·omega
  ·split
   ·omega
   ·split <;> simp only <;> omega
theorem charL_byte (l : List UInt8) : ∃ x : UInt8, (charL l).1 = x.toNat := by
 cases l with
 | nil => exact ⟨0, rfl⟩
 | cons c r =>
  simp only [charL]
  split
  ·exact ⟨0, rfl⟩
  ·split
   ·exact ⟨c, rfl⟩
   ·split
    ·exact escL_byte r
    ·exact ⟨0, rfl⟩
theorem qScan_step {f : Nat} {c : UInt8} {r : List UInt8} {x : UInt8} (hc : c.toNat ≠ 34) (hx : (charL (c :: r)).1 = x.toNat) :
  qScanF (f + 1) (c :: r) = if (charL (c :: r)).2 = 0 then none else (qScanF f ((c :: r).drop (charL (c :: r)).2)).map fun y => (x :: y.1, (charL (c :: r)).2 + y.2) := by
 simp only [qScanF]
 rw [if_neg hc]
 by_cases h1 : c.toNat < 32 ∨ 126 < c.toNat
 ·have hch : charL (c :: r) = (0, 0) := by simp only [charL]; rw [if_pos (.inl h1)]
  rw [if_pos h1, hch]; rfl
 ·rw [if_neg h1]
  by_cases h2 : c.toNat = 92
  ·rw [if_pos h2]
   by_cases h3 : (escL r).2.2 = true
   ·have h4 := (escL_len r).2 h3
    have hch : charL (c :: r) = ((escL r).2.1, 1 + (escL r).1) := by simp only [charL]; rw [if_neg (by omega), if_neg (by omega), if_pos h3]
    rw [hch] at hx ⊢
    have hx : (escL r).2.1 = x.toNat := hx
    rw [if_pos h3, hx]
    have e1 : UInt8.ofNat ((x.toNat : Nat) : Int).toNat = x := by simp
    have e2 : (c :: r).drop (1 + (escL r).1) = r.drop (escL r).1 := by rw [Nat.add_comm, List.drop_succ_cons]
    show _ = if 1 + (escL r).1 = 0 then none else (qScanF f ((c :: r).drop (1 + (escL r).1))).map fun y => (x :: y.1, 1 + (escL r).1 + y.2)
    rw [if_neg (by omega), e1, e2]
   ·have hch : charL (c :: r) = (0, 0) := by simp only [charL]; rw [if_neg (by omega), if_neg (by omega), if_neg h3]
    rw [if_neg h3, hch]; rfl
  ·rw [if_neg h2]
   have hch : charL (c :: r) = ((c.toNat : Int), 1) := by simp only [charL]; rw [if_neg (by omega), if_pos h2]
   rw [hch] at hx ⊢
   have hx : (c.toNat : Int) = x.toNat := hx
   have e1 : c = x := UInt8.toNat_inj.1 (by omega)
   show _ = if 1 = 0 then none else (qScanF f ((c :: r).drop 1)).map fun y => (x :: y.1, 1 + y.2)
   rw [if_neg (by decide), List.drop_succ_cons, List.drop_zero, e1]
theorem text_spec (s : List UInt8) (p : Nat) (m : Mem) (hp : p < s.length) (hs : s.length ≤ 1000000) :
  FnH Tryz.prog 118 [.v (.string (bs s)), .v (.int .i64 p)] ⟨[], []⟩ m fun r H' m' => m' = m ∧ H' = ⟨[], []⟩ ∧
   RN p (match qScan (s.drop (p + 1)) with
    | some (b, n) => if b.length ≤ 1024 then some (5, b, 0, 1 + n) else none
    | none => none) r := by
 refine enter cf9 pu9 Tryz.func118 rfl rfl (by kernel_rfl) rfl ?_ ?_
 ·simp only [go_sem, ↓tfi, ↓fti, ↓reduceIte]
 ·simp only [go_sem, ↓tfi, ↓fti, ↓reduceIte]
  refine ⟨by unfold I64; omega, ?_⟩
  refine WP_loop pu9 (fun x : Nat × List UInt8 × Nat => ⟨[⟨0, [], .v (.string (bs s))⟩, ⟨1, [], .v (.int .i64 p)⟩, ⟨4, [], .box 0 0⟩, ⟨7, [], .vec 1 x.2.2⟩, ⟨8, [], .v (.int .i64 x.1)⟩], [], [⟨0, 50, Tk0.cells⟩], [⟨1, x.2.2, 5, 1, x.2.1.length, u8s x.2.1⟩], 2, m⟩)
   (fun x => p + 1 ≤ x.1 ∧ x.1 ≤ s.length ∧ x.2.1.length ≤ x.1 ∧ ∃ f, s.length - x.1 < f ∧ qScan (s.drop (p + 1)) = (qScanF f (s.drop x.1)).map fun y => (x.2.1 ++ y.1, x.1 - (p + 1) + y.2)) (fun x => s.length - x.1) (p + 1, [], 0) (by kernel_rfl) (fun _ _ => Nnr _) (fun _ _ => .inl rfl) (fun _ => ?_) ?_ ?_ ?_
  ·simp only [go_sem, ↓tfi, ↓fti, ↓reduceIte]
  ·simp only [go_sem, ↓tfi, ↓fti, ↓reduceIte]
   exact ⟨rfl, rfl⟩
  ·refine ⟨Nnr _, hp, Nat.zero_le _, (s.drop (p + 1)).length + 1, by rw [List.length_drop]; omega, ?_⟩
   show qScan _ = (qScan _).map _
   cases qScan (s.drop (p + 1)) with
   | none => rfl
   | some x => simp
  ·rintro ⟨q, b, v⟩ ⟨h1, h2, h3, f, hf, hq⟩
   simp only at h1 h2 h3 hf hq
   have ef : f = (f - 1) + 1 := by omega
   rw [ef] at hq
   simp only [go_sem, ↓tfi, ↓fti, ↓reduceIte]
   refine ⟨fun h => by omega, fun h => cvl ((char_spec s q m (by omega) hs).mono ?_), fun h => ⟨b, rfl, by unfold I64; omega, ?_⟩⟩
   ·rintro r H' m' hm ⟨rfl, rfl, rfl⟩
    simp only [go_sem, ↓tfi, ↓fti, ↓reduceIte]
    have hql : q < s.length := by omega
    have hcl := charL_len (s.drop q)
    rw [List.length_drop] at hcl
    obtain ⟨x, hx⟩ := charL_byte (s.drop q)
    have hst : qScanF (f - 1 + 1) (s.drop q) = if (charL (s.drop q)).2 = 0 then none else (qScanF (f - 1) ((s.drop q).drop (charL (s.drop q)).2)).map fun y => (x :: y.1, (charL (s.drop q)).2 + y.2) := by
     rw [drop_at hql] at hx ⊢
     exact qScan_step (by omega) hx
    rw [hst, List.drop_drop] at hq
    rw [hx]
    generalize (charL (s.drop q)).2 = n at hq hcl ⊢
    refine ⟨fun h0 => ?_, fun h0 => ⟨⟨by omega, by simp only [maxLen]; omega⟩, by unfold I64; omega, (q + n, b ++ [x], v + 1), ⟨⟨rfl, rfl⟩, rfl, by simp, by rw [u8s_app]; rfl⟩, ⟨by simp only; omega, by simp only; omega, by simp only [Lla, List.length_singleton]; omega, f - 1, by simp only; omega, ?_⟩, by simp only; omega⟩⟩
    ·rw [if_pos (by omega)] at hq
     have hq : qScan (s.drop (p + 1)) = none := hq
     rw [hq]
     exact ⟨Tk0, 0, false, rfl, rfl⟩
    ·rw [if_neg (by omega)] at hq
     rw [hq]
     cases qScanF (f - 1) (s.drop (q + n)) with
     | none => rfl
     | some y =>
      have : q - (p + 1) + (n + y.2) = q + n - (p + 1) + y.2 := by omega
      simp [this]
   ·rcases Nat.lt_or_ge q s.length with hl | hl
    ·have h34 : (s.getD q 0).toNat = 34 := by omega
     rw [drop_at hl] at hq
     simp only [qScanF] at hq
     rw [if_pos h34] at hq
     have hq : qScan (s.drop (p + 1)) = some (b ++ [], q - (p + 1) + 1) := hq
     rw [hq, List.append_nil, decide_eq_true (by omega : (q : Int) < s.length), Bool.true_and]
     refine ⟨⟨5, b, 0, p⟩, _, _, rfl, ?_⟩
     by_cases hb : b.length ≤ 1024
     ·simp only [if_pos hb]
      exact ⟨decide_eq_true (by omega), trivial, by omega⟩
     ·simp only [if_neg hb]
      exact decide_eq_false (by omega)
    ·rw [List.drop_of_length_le hl] at hq
     have hq : qScan (s.drop (p + 1)) = none := hq
     rw [hq, decide_eq_false (by omega : ¬ (q : Int) < s.length), Bool.false_and]
     refine ⟨⟨5, b, 0, p⟩, _, false, rfl, ?_⟩
     rfl
def pIs (B : List UInt8 → Int → List UInt8 → Prop) (F : List UInt8 → Int → List UInt8 → Value) : List Value → Option (Prop × Value)
 | [.string a, .int .i64 c, .string b] => some (B (tl a) c (tl b), F (tl a) c (tl b))
 | _ => none
theorem pureIs {P : Program} {f : FuncId} {B : List UInt8 → Int → List UInt8 → Prop} {F : List UInt8 → Int → List UInt8 → Value}
  (h : ∀ a c b m, B a c b → FnH P f [.v (.string (bs a)), .v (.int .i64 c), .v (.string (bs b))] ⟨[], []⟩ m fun r H' _ => r = .v (F a c b) ∧ H' = ⟨[], []⟩) :
  Pure0 P f (pIs B F) := fun vals y hy hB m => by
 unfold pIs at hy
 split at hy
 ·rename_i a c b
  cases hy
  have := h (tl a) c (tl b) m hB
  rwa [bs_tl, bs_tl] at this
 ·cases hy
attribute [go_sem] pIs.eq_1
abbrev isB (s : List UInt8) (i : Int) (b : List UInt8) : Prop := 0 ≤ i ∧ i ≤ s.length ∧ s.length ≤ 4611686018427387904 ∧ b.length ≤ 1000
abbrev cfA : Cfg := mkCf (fun _ => false) [(113, pIs isB fun s i b => .bool (isAt s i b)), (114, pf1 isStartB), (116, pf1 isDigitB)]
theorem puA : PureOk cfA Tryz.prog := pure_cons (by kernel_rfl) (fun vals y hy hB m => pureIs (fun a c b m h => is_spec a b c m h.1 h.2.1 h.2.2.1 h.2.2.2) vals y hy hB m) (pure_cons (by kernel_rfl) (pure1 letter_spec) (pure_cons (by kernel_rfl) (pure1 digit_spec) pure_nil))
theorem isAt_pre {s b : List UInt8} {q : Nat} (h : q ≤ s.length) : isAt s q b = hasPre (s.drop q) b := by
 unfold isAt hasPre
 have e1 : decide ((b.length : Int) ≤ s.length - q) = decide ((b.length : Int) ≤ (s.drop q).length) := by rw [decide_eq_decide, List.length_drop]; omega
 have e2 : ((q : Int) + b.length).toNat = q + b.length := by omega
 rw [e1, e2, Int.toNat_natCast, List.drop_take]
 have e3 : q + b.length - q = b.length := by omega
 rw [e3]
theorem skip_spec (s : List UInt8) (p : Nat) (m : Mem) (hp : p ≤ s.length) (hs : s.length ≤ 1000000) :
  FnH Tryz.prog 45 [.v (.string (bs s)), .v (.int .i64 p)] ⟨[], []⟩ m fun r H' m' => r = .v (.int .i64 (p + skipW false (s.drop p) : Nat)) ∧ H' = ⟨[], []⟩ ∧ m' = m := by
 refine enter cfA puA Tryz.func45 rfl rfl (by kernel_rfl) rfl ?_ ?_
 ·simp only [go_sem, ↓tfi, ↓fti, ↓reduceIte]
 ·simp only [go_sem, ↓tfi, ↓fti, ↓reduceIte]
  refine WP_loop puA (fun k : Nat => ⟨[⟨0, [], .v (.string (bs s))⟩, ⟨1, [], .v (.int .i64 k)⟩], [], [], [], 0, m⟩)
   (fun k => p ≤ k ∧ k ≤ s.length ∧ p + skipW false (s.drop p) = k + skipW false (s.drop k)) (fun k => s.length - k) p (by kernel_rfl) (fun _ _ => Nnr _) (fun _ _ => .inl rfl) (fun _ => ?_) ?_ ?_ ?_
  ·simp only [go_sem, ↓tfi, ↓fti, ↓reduceIte]
  ·simp only [go_sem, ↓tfi, ↓fti, ↓reduceIte]
  ·exact ⟨Nnr _, hp, rfl⟩
  ·rintro k ⟨h1, h2, h3⟩
   simp only [go_sem, ↓tfi, ↓fti, ↓reduceIte]
   refine ⟨fun hlt => ?_, fun hge => ?_⟩
   ·have hkl : k < s.length := by omega
    rw [drop_at hkl] at h3
    simp only [skipW] at h3
    refine ⟨by omega, fun hw => ⟨by unfold I64; omega, k + 1, rfl, ⟨by omega, hkl, ?_⟩, by omega⟩, fun hw => ⟨⟨by omega, by omega, by omega, by simp⟩, fun hi => ?_, fun hi => ?_⟩⟩
    ·rw [if_pos (by omega)] at h3
     omega
    ·rw [isAt_pre h2, drop_at hkl] at hi
     rw [if_neg (by omega), if_neg (fun hh => by rw [hasPre_two.2 hh] at hi; cases hi)] at h3
     rw [h3]; rfl
    ·rw [isAt_pre h2, drop_at hkl] at hi
     rw [if_neg (by omega), if_pos (hasPre_two.1 hi)] at h3
     have hst : p + skipW false (s.drop p) = k + skipW true (s.drop k) := by
      rw [h3, drop_at hkl]
      simp only [skipW]
      rw [if_neg (by have := (hasPre_two.1 hi).1; omega)]
     refine WP_loop puA (fun j : Nat => ⟨[⟨0, [], .v (.string (bs s))⟩, ⟨1, [], .v (.int .i64 j)⟩], [], [], [], 0, m⟩)
      (fun j => k ≤ j ∧ j ≤ s.length ∧ p + skipW false (s.drop p) = j + skipW true (s.drop j)) (fun j => s.length - j) k (by kernel_rfl) (fun _ _ => Nnr _) (fun _ _ => .inl rfl) (fun _ => ?_) ?_ ?_ ?_
     ·simp only [go_sem, ↓tfi, ↓fti, ↓reduceIte]
     ·simp only [go_sem, ↓tfi, ↓fti, ↓reduceIte]
     ·exact ⟨Nnr _, h2, hst⟩
     ·rintro j ⟨g1, g2, g3⟩
      simp only [go_sem, ↓tfi, ↓fti, ↓reduceIte]
      refine ⟨fun h => by omega, fun h => ⟨by unfold I64; omega, j + 1, rfl, ⟨by omega, by omega, ?_⟩, by omega⟩, fun h => ⟨j, rfl, ⟨by omega, g2, ?_⟩, ?_⟩⟩
      ·rw [g3, drop_at (by omega)]
       simp only [skipW]
       rw [if_neg (by omega)]
       omega
      ·rcases Nat.lt_or_ge j s.length with g4 | g4
       ·rw [g3, drop_at g4]
        simp only [skipW]
        rw [if_pos (by omega), if_pos (by omega)]
       ·rw [g3, List.drop_of_length_le g4]; rfl
      ·rcases Nat.lt_or_ge k j with g4 | g4
       ·omega
       ·have := (hasPre_two.1 hi).1
        obtain rfl : j = k := by omega
        omega
   ·have e : s.drop k = [] := List.drop_of_length_le (by omega)
    rw [e] at h3
    rw [h3]; rfl
theorem roperator_spec (s : List UInt8) (p : Nat) (m : Mem) (hp : p ≤ s.length) (hs : s.length ≤ 1000000) :
  FnH Tryz.prog 119 [.v (.string (bs s)), .v (.int .i64 p)] ⟨[], []⟩ m fun r H' m' => m' = m ∧ H' = ⟨[], []⟩ ∧ RN p ((signAt (s.drop p)).map fun o => (6, o, 0, o.length)) r := by
 refine enter cfA puA Tryz.func119 rfl rfl (by kernel_rfl) rfl ?_ ?_
 ·simp only [go_sem, ↓tfi, ↓fti, ↓reduceIte]
 ·simp only [go_sem, ↓tfi, ↓fti, ↓reduceIte]
  refine cvl ((rsigns_spec m).mono ?_)
  rintro r H' m' hm ⟨rfl, rfl, rfl⟩
  simp only [go_sem, ↓tfi, ↓fti, ↓reduceIte]
  refine WP_loop puA (fun k : Nat => ⟨[⟨0, [], .v (.string (bs s))⟩, ⟨1, [], .v (.int .i64 p)⟩, ⟨4, [], .box 0 0⟩, ⟨7, [], .vec 1 0⟩, ⟨8, [], .v (.int .i64 k)⟩], [], [⟨0, 50, Tk0.cells⟩], [⟨1, 0, 9, 1, 30, strs signsL⟩], 2, m'⟩)
   (fun k => k ≤ 30 ∧ signAt (s.drop p) = (signsL.drop k).find? fun o => hasPre (s.drop p) o) (fun k => 30 - k) 0 (by kernel_rfl) (fun _ _ => Nnr _) (fun _ _ => .inl rfl) (fun _ => ?_) ?_ ?_ ?_
  ·simp only [go_sem, ↓tfi, ↓fti, ↓reduceIte]
  ·simp only [go_sem, ↓tfi, ↓fti, ↓reduceIte]
   rfl
  ·exact ⟨by omega, rfl⟩
  ·rintro k ⟨hk, hf⟩
   have hsl : signsL.length = 30 := rfl
   have hst : (strs signsL).length = 30 := rfl
   refine Classical.byCases (fun hlt : k < 30 => ?_) (fun hge : ¬ k < 30 => ?_)
   ·have hk30 : k < signsL.length := hlt
    have e : (strs signsL).getD k undef = .string (bs signsL[k]) := by
     rw [List.getD_eq_getElem?_getD, strs, List.getElem?_map, List.getElem?_eq_getElem hk30]; rfl
    have hol : signsL[k].length ≤ 3 := (by decide : ∀ o ∈ signsL, o.length ≤ 3) _ (List.getElem_mem hk30)
    rw [List.drop_eq_getElem_cons hk30, List.find?_cons] at hf
    simp only [go_sem, ↓tfi, ↓fti, ↓reduceIte, e]
    rw [isAt_pre hp]
    refine ⟨fun h => ⟨by omega, by omega, ⟨by omega, by omega, by omega, by omega⟩, fun hi => ?_, fun hi => ⟨by unfold I64; omega, k + 1, rfl, ⟨by omega, ?_⟩, by omega⟩⟩, fun h => by omega⟩
    ·have hf' : signAt (s.drop p) = some signsL[k] := by rw [hf, hi]
     refine WP_draw (.hoist 0 (.hoist 1 (.hoist 2 (.hoist 3 (.hoist 4 (.hoist 5 (.hoist 6 (.hoist 7 (.hoist 8 (.hoist 9 (.hoist 10 (.hoist 11 (.hoist 12 (.alt 13 [12, 11, 10, 9, 8, 7, 6] (.hoist 14 (.hoist 15 .done)) .stop)))))))))))))) puA (by kernel_rfl) (by kernel_rfl) ?_
     simp only [go_sem, ↓tfi, ↓fti, ↓reduceIte, e]
     rw [hf']
     exact ⟨by omega, by omega, by omega, by omega, by unfold I64; omega, ⟨6, signsL[k], 0, p⟩, _, _, rfl, rfl, rfl, rfl⟩
    ·rw [hf, hi]
   ·simp only [go_sem, ↓tfi, ↓fti, ↓reduceIte]
    refine ⟨fun h => by omega, fun h => ?_⟩
    obtain rfl : k = 30 := by omega
    have e : signsL.drop 30 = [] := rfl
    rw [e] at hf
    have hf : signAt (s.drop p) = none := hf
    rw [hf]
    exact ⟨Tk0, 0, false, rfl, rfl⟩
def refDig : Nat → List UInt8 → Option Nat
 | n, [] => some n
 | n, c :: r => if n ≤ (9223372036854775807 - (c.toNat - 48)) / 10 then refDig (n * 10 + (c.toNat - 48)) r else none
theorem uintM_ge {M : Nat} : ∀ (l : List UInt8) (acc u : Nat), Lib.parseUintM M acc l = .ok u → acc ≤ u
 | [], acc, u, h => by simp only [Lib.parseUintM, Lib.NumEnd.ok.injEq] at h; omega
 | c :: r, acc, u, h => by
  simp only [Lib.parseUintM] at h
  split at h
  ·split at h
   ·cases h
   ·split at h
    ·cases h
    ·have := uintM_ge r _ u h
     omega
  ·cases h
theorem refDig_uint : ∀ (l : List UInt8) (n : Nat), n ≤ 9223372036854775807 → (∀ c ∈ l, isDigitB c.toNat = true) →
  match refDig n l with
  | some v => Lib.parseUintM 18446744073709551615 n l = .ok v ∧ v ≤ 9223372036854775807
  | none => ∀ u, Lib.parseUintM 18446744073709551615 n l = .ok u → 9223372036854775808 ≤ u
 | [], n, hn, _ => ⟨rfl, hn⟩
 | c :: r, n, hn, hd => by
  have hc := (dig_iff _).1 (hd c (List.mem_cons_self ..))
  have hr := fun x hx => hd x (List.mem_cons_of_mem _ hx)
  simp only [refDig]
  by_cases h : n ≤ (9223372036854775807 - (c.toNat - 48)) / 10
  ·rw [if_pos h]
   have ih := refDig_uint r (n * 10 + (c.toNat - 48)) (by omega) hr
   have e : Lib.parseUintM 18446744073709551615 n (c :: r) = Lib.parseUintM 18446744073709551615 (n * 10 + (c.toNat - 48)) r := by
    simp only [Lib.parseUintM]
    rw [if_pos (by omega), if_neg (by omega), if_neg (by omega)]
   rw [e]
   exact ih
  ·rw [if_neg h]
   intro u hu
   simp only [Lib.parseUintM] at hu
   rw [if_pos (by omega)] at hu
   split at hu
   ·cases hu
   ·split at hu
    ·cases hu
    ·have := uintM_ge r _ u hu
     omega
theorem parseN_ref {l : List UInt8} (hne : l ≠ []) (hd : ∀ c ∈ l, isDigitB c.toNat = true) :
  match refDig 0 l with
  | some v => parseN l = ((v : Int), true) ∧ v ≤ 9223372036854775807
  | none => (parseN l).2 = false := by
 have h := refDig_uint l 0 (by omega) hd
 cases l with
 | nil => exact absurd rfl hne
 | cons c r =>
  have hc := (dig_iff _).1 (hd c (List.mem_cons_self ..))
  have e : parseN (c :: r) = match Lib.parseUintM 18446744073709551615 0 (c :: r) with
   | .ok u => if 9223372036854775808 ≤ u then (Lib.intSat 64 (c :: r), false) else ((u : Int), true)
   | .range => (Lib.intSat 64 (c :: r), false)
   | _ => (0, false) := by
   unfold parseN Lib.parseIntB
   simp only [Lib.parseUintB]
   have h43 : ¬ (c.toNat = 43 ∨ c.toNat = 45) := by omega
   have h45 : ¬ c.toNat = 45 := by omega
   rw [if_neg h43, if_neg (List.cons_ne_nil _ _)]
   cases Lib.parseUintM (2 ^ 64 - 1) 0 (c :: r) with
   | ok u =>
    by_cases hu : 9223372036854775808 ≤ u
    ·simp [h45, hu]
    ·simp [h45, hu]
   | range => rfl
   | _ => rfl
  rw [e]
  cases hr : refDig 0 (c :: r) with
  | some v =>
   rw [hr] at h
   rw [h.1]
   simp only
   rw [if_neg (by omega)]
   exact ⟨rfl, h.2⟩
  | none =>
   rw [hr] at h
   cases hm : Lib.parseUintM 18446744073709551615 0 (c :: r) with
   | ok u =>
    have := h u hm
    simp only
    rw [if_pos this]
   | range => rfl
   | _ => rfl
theorem dig_all : ∀ (l : List UInt8), ∀ c ∈ l.take (digL l), isDigitB c.toNat = true
 | [], c, h => by simp at h
 | d :: r, c, h => by
  simp only [digL] at h
  split at h
  ·rename_i hd
   rw [Nat.add_comm, List.take_succ_cons] at h
   rcases List.mem_cons.1 h with rfl | h
   ·exact hd
   ·exact dig_all r c h
  ·simp at h
theorem rnumber_spec (s : List UInt8) (p : Nat) (m : Mem) (hp : p < s.length) (hs : s.length ≤ 1000000) (hd : isDigitB (s.getD p 0).toNat = true) :
  FnH Tryz.prog 117 [.v (.string (bs s)), .v (.int .i64 p)] ⟨[], []⟩ m fun r H' m' => m' = m ∧ H' = ⟨[], []⟩ ∧
   RN p (if (numL (s.drop p)).2.2.2 = true then some (if (numL (s.drop p)).1 = true then 4 else 3, [], (numL (s.drop p)).2.1, (numL (s.drop p)).2.2.1) else none) r := by
 refine enter cf8 pu8 Tryz.func117 rfl rfl (by kernel_rfl) rfl ?_ ?_
 ·simp only [go_sem, ↓tfi, ↓fti, ↓reduceIte]
 ·simp only [go_sem, ↓tfi, ↓fti, ↓reduceIte]
  refine WP_loop pu8 (fun x : Nat × Nat × Bool => ⟨[⟨0, [], .v (.string (bs s))⟩, ⟨1, [], .v (.int .i64 p)⟩, ⟨4, [], .box 0 0⟩, ⟨7, [], .v (.int .i64 x.1)⟩, ⟨8, [], .v (.int .i64 x.2.1)⟩, ⟨9, [], .v (.bool x.2.2)⟩], [], [⟨0, 50, Tk0.cells⟩], [], 1, m⟩)
   (fun x => p ≤ x.1 ∧ x.1 ≤ s.length ∧ p + digL (s.drop p) = x.1 + digL (s.drop x.1) ∧ x.2.1 ≤ 9223372036854775807 ∧ refDig 0 (numT s p) = if x.2.2 = true then refDig x.2.1 ((s.drop x.1).take (digL (s.drop x.1))) else none) (fun x => s.length - x.1) (p, 0, true) (by kernel_rfl) (fun _ _ => Nnr _) (fun _ _ => .inl rfl) (fun _ => ?_) ?_ ?_ ?_
  ·simp only [go_sem, ↓tfi, ↓fti, ↓reduceIte]
  ·simp only [go_sem, ↓tfi, ↓fti, ↓reduceIte]
   rfl
  ·exact ⟨Nnr _, by omega, rfl, by simp, rfl⟩
  ·rintro ⟨k, n, ok⟩ ⟨h1, h2, h3, h4, h5⟩
   simp only at h1 h2 h3 h4 h5
   simp only [go_sem, ↓tfi, ↓fti, ↓reduceIte]
   refine ⟨fun h => by omega, fun h => ?_, fun h => ?_⟩
   ·have hkl : k < s.length := by omega
    have hdg := (dig_iff _).1 h.2
    have hds : digL (s.drop k) = 1 + digL (s.drop (k + 1)) := by
     rw [drop_at hkl]; simp only [digL]; rw [if_pos h.2]
    have htk : (s.drop k).take (digL (s.drop k)) = s.getD k 0 :: (s.drop (k + 1)).take (digL (s.drop (k + 1))) := by
     rw [hds, drop_at hkl, Nat.add_comm, List.take_succ_cons]
    rw [htk] at h5
    simp only [refDig] at h5
    generalize s.getD k 0 = c at hdg h5 ⊢
    have hW : IntKind.i64.wrap (IntKind.u8.wrap ((c.toNat : Int) - 48)) = ((c.toNat - 48 : Nat) : Int) := by
     rw [wrap_u8_eq, wrap_i64_eq (by omega)]; omega
    have hT : ((9223372036854775807 : Int) - ((c.toNat - 48 : Nat) : Int)).tdiv 10 = (((9223372036854775807 - (c.toNat - 48)) / 10 : Nat) : Int) := by
     rw [Int.tdiv_eq_ediv_of_nonneg (by omega)]; omega
    rw [hW, hT]
    generalize hdd : c.toNat - 48 = d at h5 ⊢
    have hd9 : d ≤ 9 := by omega
    have hle : decide ((n : Int) ≤ (((9223372036854775807 - d) / 10 : Nat) : Int)) = decide (n ≤ (9223372036854775807 - d) / 10) := by rw [decide_eq_decide]; omega
    rw [hle]
    refine ⟨by omega, fun _ => by unfold I64; omega, fun _ => by decide, fun _ => by unfold I64; omega, fun hy => ⟨by unfold I64; omega, by unfold I64; omega, by unfold I64; omega, (k + 1, n * 10 + d, true), ⟨rfl, by simp only; omega, ?_⟩, ⟨by simp only; omega, by simp only; omega, by simp only; omega, by simp only; omega, ?_⟩, by simp only; omega⟩,
     fun hno => ⟨by unfold I64; omega, (k + 1, n, false), ⟨rfl, rfl, ?_⟩, ⟨by simp only; omega, by simp only; omega, by simp only; omega, h4, ?_⟩, by simp only; omega⟩⟩
    ·rw [hy.1, decide_eq_true (by omega : n ≤ (9223372036854775807 - d) / 10)]; rfl
    ·rw [h5, hy.1, if_pos rfl, if_pos (by omega : n ≤ (9223372036854775807 - d) / 10), if_pos rfl]
    ·rcases hno with h' | h'
     ·rw [h']; rfl
     ·rw [decide_eq_false (by omega : ¬ n ≤ (9223372036854775807 - d) / 10), Bool.and_false]
    ·rw [h5]
     rcases hno with h' | h'
     ·rw [h']; rfl
     ·rw [if_neg (by omega : ¬ n ≤ (9223372036854775807 - d) / 10)]; simp
   ·have hend : digL (s.drop k) = 0 := by
     rcases h with h | h
     ·rw [List.drop_of_length_le (by omega)]; rfl
     ·rcases Nat.lt_or_ge k s.length with h' | h'
      ·rw [drop_at h']; simp only [digL]; rw [h]; rfl
      ·rw [List.drop_of_length_le h']; rfl
    have hk0 : k = p + digL (s.drop p) := by omega
    have hpos : p < k := by
     have : digL (s.drop p) = 1 + digL (s.drop (p + 1)) := by rw [drop_at hp]; simp only [digL]; rw [if_pos hd]
     omega
    rw [hend, List.take_zero] at h5
    simp only [refDig] at h5
    obtain ⟨hdt, hdl, hnum⟩ := num_at hp h2 hk0 hpos
    have hne : numT s p ≠ [] := fun e => by rw [e] at hdl; simp at hdl; omega
    have hpr := parseN_ref hne (fun c hc => dig_all (s.drop p) c hc)
    have hg0 : (numT s p).getD 0 0 = s.getD p 0 := by
     rw [numT, List.getD_eq_getElem?_getD, List.getElem?_take, if_pos (by omega), drop_at hp]; rfl
    rw [hg0] at hnum
    rw [hdl] at hnum
    have hz : (!decide ((((s.getD p 0).toNat : Nat) : Int) = 48) || decide ((k : Int) = p + 1)) = (decide ((s.getD p 0).toNat ≠ 48) || decide (k - p = 1)) := by
     have e1 : decide ((((s.getD p 0).toNat : Nat) : Int) = 48) = decide ((s.getD p 0).toNat = 48) := by rw [decide_eq_decide]; omega
     have e2 : decide ((k : Int) = p + 1) = decide (k - p = 1) := by rw [decide_eq_decide]; omega
     rw [e1, e2]
     simp
    refine ⟨fun _ => by omega, fun _ => by unfold I64; omega, fun h => by omega, fun h => ⟨by unfold I64; omega, ?_⟩, fun h => ?_⟩
    ·rw [hnum]
     simp only [if_pos h, decide_eq_true h]
     rw [hz]
     cases ok with
     | false =>
      have h5 : refDig 0 (numT s p) = none := h5
      rw [h5] at hpr
      rw [hpr]
      exact ⟨⟨4, [], n, p⟩, _, false, rfl, rfl⟩
     | true =>
      have h5 : refDig 0 (numT s p) = some n := h5
      rw [h5] at hpr
      rw [hpr.1]
      simp only [decide_eq_true (by omega : (n : Int) ≤ 9223372036854775807), Bool.true_and]
      refine ⟨⟨4, [], n, p⟩, _, _, rfl, ?_⟩
      by_cases hzz : (decide ((s.getD p 0).toNat ≠ 48) || decide (k - p = 1)) = true
      ·rw [if_pos hzz]
       exact ⟨hzz, rfl, by omega⟩
      ·rw [if_neg hzz]
       simpa using hzz
    ·have h' : ¬ ((k : Int) < s.length ∧ (((s.getD k 0).toNat : Nat) : Int) = 76) := fun x => h.elim (fun y => y x.1) (fun y => y x.2)
     rw [hnum]
     simp only [if_neg h', decide_eq_false h']
     rw [hz]
     cases ok with
     | false =>
      have h5 : refDig 0 (numT s p) = none := h5
      rw [h5] at hpr
      rw [hpr]
      exact ⟨⟨3, [], n, p⟩, _, false, rfl, rfl⟩
     | true =>
      have h5 : refDig 0 (numT s p) = some n := h5
      rw [h5] at hpr
      rw [hpr.1]
      simp only [Bool.true_and]
      refine ⟨⟨3, [], n, p⟩, _, _, rfl, ?_⟩
      by_cases hzz : (decide ((n : Int) ≤ 2147483647) && (decide ((s.getD p 0).toNat ≠ 48) || decide (k - p = 1))) = true
      ·rw [if_pos hzz]
       exact ⟨by rw [Bool.and_comm]; exact hzz, rfl, by omega⟩
      ·rw [if_neg hzz]
       rw [Bool.and_comm]
       simpa using hzz
abbrev cfB : Cfg := mkCf (fun _ => false) [(113, pIs isB fun s i b => .bool (isAt s i b)), (114, pf1 isStartB), (116, pf1 isDigitB), (170, pS1 BL fun s => .bool (isName s))]
theorem puB : PureOk cfB Tryz.prog := pure_cons (by kernel_rfl) (fun vals y hy hB m => pureIs (fun a c b m h => is_spec a b c m h.1 h.2.1 h.2.2.1 h.2.2.2) vals y hy hB m) (pure_cons (by kernel_rfl) (pure1 letter_spec) (pure_cons (by kernel_rfl) (pure1 digit_spec) (pure_cons (by kernel_rfl) (pureS risName_spec) pure_nil)))
theorem part_no58 : ∀ (b : Bool) (l : List UInt8), ∀ c ∈ l.take (partL b l), c ≠ 58
 | _, [], c, h => by simp at h
 | b, d :: r, c, h => by
  simp only [partL] at h
  split at h
  ·rename_i hd
   rw [Nat.add_comm, List.take_succ_cons] at h
   rcases List.mem_cons.1 h with rfl | h
   ·rintro rfl
    revert hd
    cases b <;> decide
   ·exact part_no58 false r c h
  ·simp at h
theorem index_no : ∀ (A : List UInt8), (∀ c ∈ A, c ≠ 58) → Lib.index A [58, 58] = -1
 | [], _ => rfl
 | a :: A, h => by
  have ih := index_no A fun c hc => h c (List.mem_cons_of_mem _ hc)
  have ha := h a (List.mem_cons_self ..)
  have hp : List.isPrefixOf [58, 58] (a :: A) = false := by
   simp only [List.isPrefixOf, Bool.and_eq_false_iff]
   left; exact beq_eq_false_iff_ne.2 fun e => ha e.symm
  simp only [Lib.index, hp, ih]
  rfl
theorem index_at : ∀ (A r : List UInt8), (∀ c ∈ A, c ≠ 58) → Lib.index (A ++ 58 :: 58 :: r) [58, 58] = A.length
 | [], r, _ => by simp [Lib.index, List.isPrefixOf]
 | a :: A, r, h => by
  have ih := index_at A r fun c hc => h c (List.mem_cons_of_mem _ hc)
  have ha := h a (List.mem_cons_self ..)
  have hp : List.isPrefixOf [58, 58] (a :: (A ++ 58 :: 58 :: r)) = false := by
   simp only [List.isPrefixOf, Bool.and_eq_false_iff]
   left; exact beq_eq_false_iff_ne.2 fun e => ha e.symm
  simp only [List.cons_append, Lib.index, hp, ih]
  rw [if_neg (by decide), if_neg (by simp), Llc]
  rfl
def repF (F : Nat) (s : List UInt8) : List UInt8 := Lib.replaceK [58, 58] [47] (Lib.countFrom [58, 58] F s) s
theorem repF_no {F : Nat} {A : List UInt8} (h : ∀ c ∈ A, c ≠ 58) : repF (F + 1) A = A := by
 unfold repF Lib.countFrom
 rw [index_no A h]
 rfl
theorem repF_at {F : Nat} {A r : List UInt8} (h : ∀ c ∈ A, c ≠ 58) : repF (F + 1) (A ++ 58 :: 58 :: r) = A ++ 47 :: repF F r := by
 have hi := index_at A r h
 have hd : (A ++ 58 :: 58 :: r).drop (A.length + ([58, 58] : List UInt8).length) = r := by
  rw [List.drop_append]
  simp
 unfold repF
 have hc : Lib.countFrom [58, 58] (F + 1) (A ++ 58 :: 58 :: r) = Lib.countFrom [58, 58] F r + 1 := by
  simp only [Lib.countFrom]
  rw [hi, if_neg (by simp), Int.toNat_natCast, hd]
  omega
 rw [hc, Lib.replaceK_hit _ _ _ _ _ hi, hd]
 simp
def idTF : Nat → List UInt8 → List UInt8
 | 0, _ => []
 | f + 1, l => if hasPre l [58, 58] = true ∧ partL true (l.drop 2) ≠ 0 then 47 :: ((l.drop 2).take (partL true (l.drop 2)) ++ idTF f (l.drop (2 + partL true (l.drop 2)))) else []
theorem rep_id : ∀ (f : Nat) (l A : List UInt8) (F : Nat), (∀ c ∈ A, c ≠ 58) → (A ++ l.take (idRF f l)).length < F → repF F (A ++ l.take (idRF f l)) = A ++ idTF f l
 | 0, l, A, F, hA, hF => by
  obtain ⟨F, rfl⟩ : ∃ g, F = g + 1 := ⟨F - 1, by omega⟩
  simp only [idRF, idTF, List.take_zero, List.append_nil]
  exact repF_no hA
 | f + 1, l, A, F, hA, hF => by
  obtain ⟨F, rfl⟩ : ∃ g, F = g + 1 := ⟨F - 1, by omega⟩
  simp only [idRF] at hF
  simp only [idRF, idTF]
  by_cases h : hasPre l [58, 58] = true ∧ partL true (l.drop 2) ≠ 0
  ·rw [if_pos h] at hF
   rw [if_pos h, if_pos h]
   obtain ⟨r, hr⟩ := hasPre_iff.1 h.1
   subst hr
   have e2 : ([58, 58] ++ r).drop 2 = r := rfl
   have e3 : ([58, 58] ++ r).drop (2 + partL true r) = r.drop (partL true r) := by
    rw [← List.drop_drop, e2]
   rw [e2, e3] at hF
   rw [e2, e3]
   have e4 : ([58, 58] ++ r).take (2 + partL true r + idRF f (r.drop (partL true r))) = 58 :: 58 :: (r.take (partL true r) ++ (r.drop (partL true r)).take (idRF f (r.drop (partL true r)))) := by
    rw [Nat.add_assoc, Nat.add_comm 2]
    show 58 :: 58 :: r.take (partL true r + idRF f (r.drop (partL true r))) = _
    rw [List.take_add]
   rw [e4] at hF
   have ih := rep_id f (r.drop (partL true r)) (r.take (partL true r)) F (part_no58 true r) (by rw [Lla, Llc, Llc] at hF; omega)
   rw [e4, repF_at hA, ih]
  ·rw [if_neg h, if_neg h, List.take_zero, List.append_nil]
   exact repF_no hA
theorem idS_eq (l : List UInt8) : idS l = l.take (partL true l) ++ idTF (l.length + 1) (l.drop (partL true l)) := by
 have e : ∀ s, Lib.replaceAll s [58, 58] [47] = repF (s.length + 1) s := fun s => by
  unfold Lib.replaceAll Lib.replace repF
  rw [if_neg (by decide)]
  have : Lib.replaceNum s [58, 58] (-1) = Lib.count s [58, 58] := by simp [Lib.replaceNum]
  rw [this]; rfl
 have h1 : l.take (idN l) = l.take (partL true l) ++ (l.drop (partL true l)).take (idRF (l.length + 1) (l.drop (partL true l))) := by
  unfold idN; rw [List.take_add]
 unfold idS
 rw [e, h1]
 exact rep_id _ _ _ _ (part_no58 true l) (Nat.lt_succ_self _)
theorem kw_name {s : List UInt8} (h : keywordsL.contains s = true) : isName s = true :=
 (by decide : ∀ k ∈ keywordsL, isName k = true) s (by simpa using h)
theorem start_nodig {c : Int} (h : isStartB c = true) : isDigitB c = false := by
 cases hd : isDigitB c with
 | false => rfl
 | true =>
  have := (dig_iff _).1 hd
  simp only [isStartB, Bool.or_eq_true, Bbt, decide_eq_true_eq] at h
  omega
theorem part_zero {c : UInt8} {r : List UInt8} : partL true (c :: r) ≠ 0 ↔ isStartB c.toNat = true := by
 simp only [partL]
 cases h : isStartB c.toNat
 ·simp
 ·simp
theorem ridentifier_spec (s : List UInt8) (p : Nat) (m : Mem) (hp : p < s.length) (hs : s.length ≤ 1000000) (hst : isStartB (s.getD p 0).toNat = true) :
  FnH Tryz.prog 115 [.v (.string (bs s)), .v (.int .i64 p)] ⟨[], []⟩ m fun r H' m' => m.le m' ∧ H' = ⟨[], []⟩ ∧
   RN p (if isName (idS (s.drop p)) = true then some (if keywordsL.contains (idS (s.drop p)) = true then 2 else 1, idS (s.drop p), 0, idN (s.drop p)) else none) r := by
 have hds : isDigitB (s.getD p 0).toNat = false := by
  cases hd : isDigitB (s.getD p 0).toNat with
  | false => rfl
  | true =>
   have := (dig_iff _).1 hd
   simp only [isStartB, Bool.or_eq_true, Bbt, decide_eq_true_eq] at hst
   omega
 have hpl := part_le true (s.drop p)
 rw [List.length_drop] at hpl
 refine enter cfB puB Tryz.func115 rfl rfl (by kernel_rfl) rfl ?_ ?_
 ·simp only [go_sem, ↓tfi, ↓fti, ↓reduceIte]
 ·simp only [go_sem, ↓tfi, ↓fti, ↓reduceIte]
  refine cvl ((rpart_spec s p m (by omega) hs (fun _ => hds)).mono ?_)
  rintro r H' m' hm ⟨rfl, rfl, rfl⟩
  have hdt : (s.take (p + partL true (s.drop p))).drop p = (s.drop p).take (partL true (s.drop p)) := by
   rw [List.drop_take]; congr 1; omega
  simp only [go_sem, ↓tfi, ↓fti, ↓reduceIte, hdt]
  refine ⟨⟨by omega, by omega, by omega⟩, ?_⟩
  refine WP_loop puB (fun x : Nat × List UInt8 × Nat => ⟨[⟨0, [], .v (.string (bs s))⟩, ⟨1, [], .v (.int .i64 p)⟩, ⟨4, [], .box 0 0⟩, ⟨7, [], .v (.int .i64 x.1)⟩, ⟨8, [], .v (.string (bs x.2.1))⟩], [], [⟨0, 50, Tk0.cells⟩], [], 1, m'⟩)
   (fun x => p ≤ x.1 ∧ x.1 ≤ s.length ∧ x.2.1.length ≤ x.1 ∧ s.length - x.1 < x.2.2 ∧ idS (s.drop p) = x.2.1 ++ idTF x.2.2 (s.drop x.1) ∧ p + idN (s.drop p) = x.1 + idRF x.2.2 (s.drop x.1)) (fun x => s.length - x.1)
   (p + partL true (s.drop p), (s.drop p).take (partL true (s.drop p)), (s.drop p).length + 1) (by kernel_rfl) (fun _ _ => Nnr _) (fun _ _ => .inl rfl) (fun _ => ?_) ?_ ?_ ?_
  ·simp only [go_sem, ↓tfi, ↓fti, ↓reduceIte]
  ·simp only [go_sem, ↓tfi, ↓fti, ↓reduceIte]
  ·refine ⟨Nat.le_add_right _ _, by simp only; omega, by simp only [List.length_take]; omega, by simp only [List.length_drop]; omega, ?_, ?_⟩
   ·rw [idS_eq, List.drop_drop]
   ·simp only [idN, List.drop_drop]; omega
  ·rintro ⟨e, t, f⟩ ⟨h1, h2, h3, h4, h5, h6⟩
   simp only at h1 h2 h3 h4 h5 h6
   have ef : f = (f - 1) + 1 := by omega
   rw [ef] at h5 h6
   simp only [idTF] at h5
   simp only [idRF] at h6
   have e2 : ((e : Int) + 2).toNat = e + 2 := by omega
   have h2c : (e : Int) + 2 = ((e + 2 : Nat) : Int) := by omega
   have hn58 := pre_len (a := s.drop e) (b := [58, 58])
   rw [List.length_drop] at hn58
   simp only [go_sem, ↓tfi, ↓fti, ↓reduceIte, e2, isAt_pre h2]
   rw [List.drop_drop] at h5 h6
   rw [List.drop_drop] at h5 h6
   refine ⟨⟨by omega, by omega, by omega, by simp⟩, fun _ => by unfold I64; omega, fun _ => by unfold I64; omega, fun h => by omega, fun h => ⟨by unfold I64; omega, by kernel_rfl, ?_⟩, fun h => ⟨by kernel_rfl, ?_⟩⟩
   ·have hl2 : e + 2 < s.length := by omega
    have hrp := rpart_spec s (e + 2) m' (by omega) hs (fun _ => start_nodig h.2)
    rw [← h2c] at hrp
    have hn0 : partL true (s.drop (e + 2)) ≠ 0 := by rw [drop_at hl2]; exact part_zero.2 h.2
    have hpl2 := part_le true (s.drop (e + 2))
    rw [List.length_drop] at hpl2
    have hdt2 : (s.take (e + 2 + partL true (s.drop (e + 2)))).drop (e + 2) = (s.drop (e + 2)).take (partL true (s.drop (e + 2))) := by
     rw [List.drop_take]; congr 1; omega
    rw [if_pos ⟨h.1.1, hn0⟩] at h5 h6
    refine FnV_of (hrp.mono ?_)
    rintro r H' m'' hm2 ⟨rfl, rfl, rfl⟩
    clear hrp
    simp only [go_sem, ↓tfi, ↓fti, ↓reduceIte, e2, hdt2]
    refine ⟨by omega, by unfold I64; omega, ⟨by omega, by omega, by omega⟩, by simp only [Lla, List.length_take, List.length_singleton]; omega,
     (e + 2 + partL true (s.drop (e + 2)), t ++ [47] ++ (s.drop (e + 2)).take (partL true (s.drop (e + 2))), f - 1), ⟨rfl, rfl⟩, ⟨by simp only; omega, by simp only; omega, by simp only [Lla, List.length_take, List.length_singleton]; omega, by simp only; omega, ?_, ?_⟩, by simp only; omega⟩
    ·rw [h5]
     simp only [Nat.add_assoc, List.append_assoc, List.cons_append, List.nil_append]
    ·rw [h6]
     simp only [Nat.add_assoc]
   ·have hno : ¬ (hasPre (s.drop e) [58, 58] = true ∧ partL true (s.drop (e + 2)) ≠ 0) := by
     rintro ⟨g1, g2⟩
     rcases h with (h | h) | h
     ·rw [h] at g1; cases g1
     ·rw [List.drop_of_length_le (by omega)] at g2
      exact g2 rfl
     ·rcases Nat.lt_or_ge (e + 2) s.length with g3 | g3
      ·rw [drop_at g3] at g2
       have := part_zero.1 g2
       rw [h] at this; cases this
      ·rw [List.drop_of_length_le g3] at g2
       exact g2 rfl
    rw [if_neg hno] at h5 h6
    rw [List.append_nil] at h5
    refine FnV_of ((rkeywords_spec m').mono ?_)
    rintro r H' m'' hm2 ⟨rfl, rfl, rfl⟩
    simp only [go_sem, ↓tfi, ↓fti, ↓reduceIte]
    refine ⟨by kernel_rfl, fun ad cp m1 hm1 hcp hrd => FnV_of ((has_spec keywordsL t ad 28 cp m1 hrd (by decide)).mono ?_)⟩
    rintro r H' m4 hm4 ⟨rfl, rfl⟩
    simp only [go_sem, ↓tfi, ↓fti, ↓reduceIte]
    rw [h5]
    have he : p + idN (s.drop p) = e := h6
    refine ⟨fun hk => ⟨Mem.le_trans hm1 hm4, ?_⟩, fun hk => ⟨by unfold BL; omega, Mem.le_trans hm1 hm4, ?_⟩⟩
    ·rw [if_pos (kw_name hk), if_pos hk]
     exact ⟨⟨2, t, 0, p⟩, _, true, rfl, rfl, rfl, by omega⟩
    ·have hkk : (if keywordsL.contains t = true then (2 : Int) else 1) = 1 := if_neg (by rw [hk]; exact Bool.false_ne_true)
     rw [hkk]
     cases hn : isName t with
     | true => exact ⟨⟨1, t, 0, p⟩, _, true, rfl, rfl, rfl, by omega⟩
     | false => exact ⟨⟨1, t, 0, p⟩, _, false, rfl, rfl⟩
theorem tokL_id {s : List UInt8} {p : Nat} (hp : p < s.length) (h1 : isStartB (s.getD p 0).toNat = true) :
  tokL (s.drop p) = if isName (idS (s.drop p)) = true then some (if keywordsL.contains (idS (s.drop p)) = true then 2 else 1, idS (s.drop p), 0, idN (s.drop p)) else none := by
 rw [drop_at hp]
 show (if isStartB (s.getD p 0).toNat = true then _ else _) = _
 rw [if_pos h1]
theorem tokL_num {s : List UInt8} {p : Nat} (hp : p < s.length) (h1 : isStartB (s.getD p 0).toNat = false) (h2 : isDigitB (s.getD p 0).toNat = true) :
  tokL (s.drop p) = if (numL (s.drop p)).2.2.2 = true then some (if (numL (s.drop p)).1 = true then 4 else 3, [], (numL (s.drop p)).2.1, (numL (s.drop p)).2.2.1) else none := by
 rw [drop_at hp]
 show (if isStartB (s.getD p 0).toNat = true then _ else if isDigitB (s.getD p 0).toNat = true then _ else _) = _
 rw [if_neg (by rw [h1]; exact Bool.false_ne_true), if_pos h2]
theorem tokL_quo {s : List UInt8} {p : Nat} (hp : p < s.length) (h1 : isStartB (s.getD p 0).toNat = false) (h2 : isDigitB (s.getD p 0).toNat = false) (h3 : (((s.getD p 0).toNat : Nat) : Int) = 34) :
  tokL (s.drop p) = match qScan (s.drop (p + 1)) with
   | some (b, n) => if b.length ≤ 1024 then some (5, b, 0, 1 + n) else none
   | none => none := by
 rw [drop_at hp]
 show (if isStartB (s.getD p 0).toNat = true then _ else if isDigitB (s.getD p 0).toNat = true then _ else if (s.getD p 0).toNat = 34 then _ else _) = _
 rw [if_neg (by rw [h1]; exact Bool.false_ne_true), if_neg (by rw [h2]; exact Bool.false_ne_true), if_pos (by omega)]
 first | done | rfl
theorem tokL_op {s : List UInt8} {p : Nat} (hp : p < s.length) (h1 : isStartB (s.getD p 0).toNat = false) (h2 : isDigitB (s.getD p 0).toNat = false) (h3 : ¬ (((s.getD p 0).toNat : Nat) : Int) = 34) :
  tokL (s.drop p) = (signAt (s.drop p)).map fun o => (6, o, 0, o.length) := by
 rw [drop_at hp]
 show (if isStartB (s.getD p 0).toNat = true then _ else if isDigitB (s.getD p 0).toNat = true then _ else if (s.getD p 0).toNat = 34 then _ else _) = _
 rw [if_neg (by rw [h1]; exact Bool.false_ne_true), if_neg (by rw [h2]; exact Bool.false_ne_true), if_neg (by omega)]
theorem scan_spec (s : List UInt8) (p : Nat) (m : Mem) (hp : p < s.length) (hs : s.length ≤ 1000000) :
  FnH Tryz.prog 46 [.v (.string (bs s)), .v (.int .i64 p)] ⟨[], []⟩ m fun r H' m' => m.le m' ∧ H' = ⟨[], []⟩ ∧ RN p (tokL (s.drop p)) r := by
 refine enter cfA puA Tryz.func46 rfl rfl (by kernel_rfl) rfl ?_ ?_
 ·simp only [go_sem, ↓tfi, ↓fti, ↓reduceIte]
 ·simp only [go_sem, ↓tfi, ↓fti, ↓reduceIte]
  refine ⟨by omega, fun h1 => cvl ((ridentifier_spec s p m hp hs h1).mono ?_), fun h1 => ⟨fun h2 => cvl ((rnumber_spec s p m hp hs h2).mono ?_),
   fun h2 => ⟨fun h3 => cvl ((text_spec s p m hp hs).mono ?_), fun h3 => cvl ((roperator_spec s p m (by omega) hs).mono ?_)⟩⟩⟩
  ·rintro r H' m' hm ⟨_, rfl, t, e, b, rfl, hN⟩
   rw [← tokL_id hp h1] at hN
   simp only [go_sem, ↓tfi, ↓fti, ↓reduceIte, Tk.sv, Tk.cells]
   exact ⟨hm, t, e, b, rfl, hN⟩
  ·rintro r H' m' hm ⟨_, rfl, t, e, b, rfl, hN⟩
   rw [← tokL_num hp h1 h2] at hN
   simp only [go_sem, ↓tfi, ↓fti, ↓reduceIte, Tk.sv, Tk.cells]
   exact ⟨hm, t, e, b, rfl, hN⟩
  ·rintro r H' m' hm ⟨_, rfl, t, e, b, rfl, hN⟩
   simp only [go_sem, ↓tfi, ↓fti, ↓reduceIte, Tk.sv, Tk.cells]
   exact ⟨hm, t, e, b, rfl, by rw [tokL_quo hp h1 h2 h3]; exact hN⟩
  ·rintro r H' m' hm ⟨_, rfl, t, e, b, rfl, hN⟩
   rw [← tokL_op hp h1 h2 h3] at hN
   simp only [go_sem, ↓tfi, ↓fti, ↓reduceIte, Tk.sv, Tk.cells]
   exact ⟨hm, t, e, b, rfl, hN⟩
def lenOf : Option (Int × List UInt8 × Int × Nat) → Nat
 | some x => x.2.2.2
 | none => 0
theorem RN_yes {o : Option (Int × List UInt8 × Int × Nat)} {t : Tk} {e : Int} {b : Bool} {q : Nat}
  (h : match o with
   | some (k, tt, n, len) => b = true ∧ t = ⟨k, tt, n, q⟩ ∧ e = (q + len : Nat)
   | none => b = false) (hb : b = true) : o = some (t.k, t.s, t.n, lenOf o) ∧ t.at_ = q ∧ e = (q + lenOf o : Nat) := by
 cases o with
 | none => rw [hb] at h; cases h
 | some x =>
  obtain ⟨k, tt, n, len⟩ := x
  obtain ⟨_, rfl, rfl⟩ := h
  exact ⟨rfl, rfl, rfl⟩
theorem rtokenize_spec (s : List UInt8) (m : Mem) (hs : s.length ≤ 4611686018427387904) :
  FnH Tryz.prog 22 [.v (.string (bs s))] ⟨[], []⟩ m fun r H' m' => leM m m' ∧ ROut (tokenizeL s) r H' := by
 refine enter cfA puA Tryz.func22 rfl rfl (by kernel_rfl) rfl ?_ ?_
 ·simp only [go_sem, ↓tfi, ↓fti, ↓reduceIte]
 ·simp only [go_sem, ↓tfi, ↓fti, ↓reduceIte]
  refine ⟨fun h => ?_, fun h => cvl ((skip_spec s 0 m (Nat.zero_le _) (by omega)).mono ?_)⟩
  ·have e : tokenizeL s = ([], 0, 8) := if_pos (by omega)
   rw [e]
   exact .inr ⟨by decide, rfl, rfl, rfl⟩
  ·rintro r H' m' hm ⟨rfl, rfl, rfl⟩
   simp only [go_sem, ↓tfi, ↓fti, ↓reduceIte]
   refine WP_adopt 5 50 4 (by decide) rfl ?_
   have hts : tokenizeL s = lexF s (s.length + 1) 0 [] := if_neg (by omega)
   have hsk0 := skip_le false (s.drop 0)
   rw [List.length_drop] at hsk0
   refine WP_loop puA (fun x : Nat × List Tk × Nat × Mem × Nat × Nat => ⟨[⟨0, [], .v (.string (bs s))⟩, ⟨5, [], .vec 0 x.2.2.1⟩, ⟨6, [], .v (.int .i64 x.2.2.2.2.2)⟩], [], [], [⟨0, x.2.2.1, 50, 4, x.2.1.length, tkCells x.2.1⟩], 1, x.2.2.2.1⟩)
    (fun x => leM m' x.2.2.2.1 ∧ x.1 ≤ s.length ∧ x.2.1.length ≤ 5000 ∧ s.length - x.1 < x.2.2.2.2.1 ∧ tokenizeL s = lexF s x.2.2.2.2.1 x.1 x.2.1 ∧ x.2.2.2.2.2 = x.1 + skipW false (s.drop x.1)) (fun x => s.length - x.1) (0, [], 0, m', s.length + 1, 0 + skipW false (s.drop 0)) (by kernel_rfl) (fun _ _ => Nnr _) (fun x hx => hx.1) (fun _ => ?_) ?_ ?_ ?_
   ·simp only [go_sem, ↓tfi, ↓fti, ↓reduceIte]
   ·simp only [go_sem, ↓tfi, ↓fti, ↓reduceIte]
    rfl
   ·exact ⟨.inl rfl, Nat.zero_le _, Nat.zero_le _, by simp only; omega, hts, rfl⟩
   ·rintro ⟨p, acc, u, mm, f, q⟩ ⟨h1, h3, h4, h5, h6, hq⟩
    simp only at h1 h3 h4 h5 h6 hq
    have ef : f = (f - 1) + 1 := by omega
    rw [ef] at h6
    simp only [lexF] at h6
    have hsk := skip_le false (s.drop p)
    rw [List.length_drop] at hsk
    rw [← hq] at h6
    have hqs : q ≤ s.length := by omega
    simp only [go_sem, ↓tfi, ↓fti, ↓reduceIte]
    refine ⟨fun hlt => ⟨fun h5k => ⟨h1, ?_⟩, fun h5k => cvl ((scan_spec s q mm (by omega) (by omega)).mono ?_)⟩, fun hge => ⟨h1, ?_⟩⟩
    ·rw [h6, if_neg (by omega), if_pos (by omega)]
     exact .inr ⟨by decide, rfl, rfl, rfl⟩
    ·rintro r H' m'' hm2 ⟨hle, rfl, t, e, b, rfl, hN⟩
     simp only [go_sem, ↓tfi, ↓fti, ↓reduceIte, Tk.sv, Tk.cells]
     refine ⟨fun hb => ⟨leM_trans h1 hle, ?_⟩, fun hb => ⟨⟨by omega, by simp only [maxLen]; omega⟩, by kernel_rfl, ?_⟩⟩
     ·rw [h6, if_neg (by omega), if_neg (by omega)]
      cases ht : tokL (s.drop q) with
      | none => exact .inr ⟨by simp, rfl, rfl, rfl⟩
      | some x =>
       rw [ht] at hN
       rw [hN.1] at hb
       cases hb
     ·have hy := RN_yes hN hb
      have hlen := tokL_len hy.1
      rw [List.length_drop] at hlen
      rw [hy.1, if_neg (by omega), if_neg (by omega)] at h6
      have hsp := skip_spec s (q + lenOf (tokL (s.drop q))) m'' (by omega) (by omega)
      rw [← hy.2.2] at hsp
      have et : (⟨t.k, t.s, t.n, q⟩ : Tk) = t := by rw [← hy.2.1]
      have h6 : tokenizeL s = lexF s (f - 1) (q + lenOf (tokL (s.drop q))) (acc ++ [⟨t.k, t.s, t.n, q⟩]) := h6
      rw [et] at h6
      have happ := xtkCells_app acc t
      refine FnV_of (hsp.mono ?_)
      rintro r H' m3 hm3 ⟨rfl, rfl, rfl⟩
      clear hsp
      simp only [go_sem, ↓tfi, ↓fti, ↓reduceIte, Tk.sv, Tk.cells]
      exact ⟨(q + lenOf (tokL (s.drop q)), acc ++ [t], u + 1, m3, f - 1, q + lenOf (tokL (s.drop q)) + skipW false (s.drop (q + lenOf (tokL (s.drop q))))), ⟨⟨rfl, rfl⟩, ⟨rfl, by simp, happ⟩, .inl rfl⟩,
       ⟨leM_trans h1 hle, by simp only; omega, by simp only [Lla, List.length_singleton]; omega, by simp only; omega, h6, rfl⟩, by simp only; omega⟩
    ·rw [h6, if_pos (by omega)]
     exact .inl ⟨rfl, _, _, rfl, rfl⟩
def consR (t : Tk) (x : List Tk × Int × Int) : List Tk × Int × Int := if x.2.2 = 0 then (t :: x.1, x.2.1, 0) else ([], x.2.1, x.2.2)
def lexG : Nat → Nat → Nat → List UInt8 → List Tk × Int × Int
 | 0, _, _, _ => ([], 0, 0)
 | f + 1, cnt, pos, l =>
  if l.drop (skipW false l) = [] then ([], 0, 0) else if 5000 ≤ cnt then ([], 0, 5) else
   match tokL (l.drop (skipW false l)) with
   | none => ([], (pos + skipW false l : Nat), 70)
   | some (k, t, n, len) => consR ⟨k, t, n, (pos + skipW false l : Nat)⟩ (lexG f (cnt + 1) (pos + skipW false l + len) (l.drop (skipW false l + len)))
def putR (acc : List Tk) (x : List Tk × Int × Int) : List Tk × Int × Int := if x.2.2 = 0 then (acc ++ x.1, x.2.1, 0) else ([], x.2.1, x.2.2)
theorem putR_cons (acc : List Tk) (t : Tk) (x : List Tk × Int × Int) : putR acc (consR t x) = putR (acc ++ [t]) x := by
 unfold putR consR
 by_cases h : x.2.2 = 0
 ·simp [h]
 ·simp [h]
theorem lexF_eq (s : List UInt8) : ∀ (f p : Nat) (acc : List Tk), lexF s f p acc = putR acc (lexG f acc.length p (s.drop p))
 | 0, p, acc => by simp [lexF, lexG, putR]
 | f + 1, p, acc => by
  simp only [lexF, lexG]
  have e1 : (s.drop p).drop (skipW false (s.drop p)) = s.drop (p + skipW false (s.drop p)) := List.drop_drop
  rw [e1]
  by_cases h1 : s.length ≤ p + skipW false (s.drop p)
  ·rw [if_pos h1, if_pos (List.drop_eq_nil_of_le h1)]; simp [putR]
  ·rw [if_neg h1, if_neg (fun h => h1 (List.drop_eq_nil_iff.1 h))]
   by_cases h2 : 5000 ≤ acc.length
   ·rw [if_pos h2, if_pos h2]; simp [putR]
   ·rw [if_neg h2, if_neg h2]
    cases ht : tokL (s.drop (p + skipW false (s.drop p))) with
    | none => simp [putR]
    | some y =>
     obtain ⟨k, t, n, len⟩ := y
     simp only
     rw [lexF_eq s f, putR_cons]
     simp only [Lla, List.length_singleton, List.drop_drop, Nat.add_assoc]
theorem consR_norm {t : Tk} {x : List Tk × Int × Int} (h : (x.2.2 = 0 → x.2.1 = 0) ∧ (x.2.2 ≠ 0 → x.1 = [])) : ((consR t x).2.2 = 0 → (consR t x).2.1 = 0) ∧ ((consR t x).2.2 ≠ 0 → (consR t x).1 = []) := by
 unfold consR
 by_cases e : x.2.2 = 0
 ·simp only [if_pos e]; exact ⟨fun _ => h.1 e, fun h => absurd rfl h⟩
 ·simp only [if_neg e]; exact ⟨fun h => absurd h e, fun _ => trivial⟩
theorem lexG_norm : ∀ (f cnt pos : Nat) (l : List UInt8), ((lexG f cnt pos l).2.2 = 0 → (lexG f cnt pos l).2.1 = 0) ∧ ((lexG f cnt pos l).2.2 ≠ 0 → (lexG f cnt pos l).1 = [])
 | 0, _, _, _ => ⟨fun _ => rfl, fun _ => rfl⟩
 | f + 1, cnt, pos, l => by
  simp only [lexG]
  split
  ·exact ⟨fun _ => rfl, fun _ => rfl⟩
  ·split
   ·exact ⟨fun _ => rfl, fun _ => rfl⟩
   ·split
    ·exact ⟨fun h => absurd h (by simp), fun _ => rfl⟩
    ·exact consR_norm (lexG_norm f _ _ _)
theorem putR_nil {x : List Tk × Int × Int} (h : x.2.2 ≠ 0 → x.1 = []) : putR [] x = x := by
 obtain ⟨a, b, c⟩ := x
 unfold putR
 by_cases e : c = 0
 ·subst e; rfl
 ·simp only [if_neg e]; have h1 : a = [] := h e; rw [h1]
theorem tokenize_eq {s : List UInt8} (h : s.length ≤ 20000) : tokenizeL s = lexG (s.length + 1) 0 0 s := by
 have e : tokenizeL s = lexF s (s.length + 1) 0 [] := if_neg (by omega)
 rw [e, lexF_eq, putR_nil (lexG_norm _ _ _ _).2]; rfl
def Stop (rest : List UInt8) : Prop := rest = [] ∨ ∃ c r, rest = c :: r ∧ (c = 10 ∨ c = 32)
theorem part_stop {rest : List UInt8} (h : Stop rest) : ∀ (b : Bool) (l : List UInt8), partL b (l ++ rest) = partL b l
 | b, [] => by
  rcases h with rfl | ⟨c, r, rfl, rfl | rfl⟩
  ·rfl
  ·cases b <;> rfl
  ·cases b <;> rfl
 | b, c :: l => by simp only [List.cons_append, partL, part_stop h false l]
theorem dig_stop {rest : List UInt8} (h : Stop rest) : ∀ (l : List UInt8), digL (l ++ rest) = digL l
 | [] => by
  rcases h with rfl | ⟨c, r, rfl, rfl | rfl⟩
  ·rfl
  ·rfl
  ·rfl
 | c :: l => by simp only [List.cons_append, digL, dig_stop h l]
theorem hasPre_stop {rest : List UInt8} (h : Stop rest) : ∀ (o l : List UInt8), (∀ c ∈ o, c ≠ 10 ∧ c ≠ 32) → hasPre (l ++ rest) o = hasPre l o
 | [], l, _ => by rw [hasPre_nil, hasPre_nil]
 | x :: o, [], ho => by
  rw [hasPre_nil', List.nil_append]
  rcases h with rfl | ⟨c, r, rfl, hc⟩
  ·rw [hasPre_nil']
  ·rw [hasPre_cons]
   have := ho x (List.mem_cons_self ..)
   have hne : c ≠ x := by rcases hc with rfl | rfl; exact fun e => this.1 e.symm; exact fun e => this.2 e.symm
   simp [hne]
 | x :: o, y :: l, ho => by
  rw [List.cons_append, hasPre_cons, hasPre_cons, hasPre_stop h o l fun c hc => ho c (List.mem_cons_of_mem _ hc)]
theorem find_congr {α : Type} {p q : α → Bool} : ∀ (l : List α), (∀ a ∈ l, p a = q a) → l.find? p = l.find? q
 | [], _ => rfl
 | a :: l, h => by
  simp only [List.find?_cons, h a (List.mem_cons_self ..)]
  rw [find_congr l fun b hb => h b (List.mem_cons_of_mem _ hb)]
theorem signs_white : ∀ o ∈ signsL, ∀ c ∈ o, c ≠ 10 ∧ c ≠ 32 := by decide
theorem sign_stop {rest : List UInt8} (h : Stop rest) (l : List UInt8) : signAt (l ++ rest) = signAt l :=
 find_congr _ fun o ho => hasPre_stop h o l (signs_white o ho)
theorem idRF_fuel : ∀ (f f' : Nat) (l : List UInt8), l.length < f → l.length < f' → idRF f l = idRF f' l
 | 0, _, _, h, _ => absurd h (Nat.not_lt_zero _)
 | _ + 1, 0, _, _, h => absurd h (Nat.not_lt_zero _)
 | f + 1, f' + 1, l, h, h' => by
  simp only [idRF]
  split
  ·rename_i hc
   have := pre_len hc.1
   simp only [Llc, Lln] at this
   rw [idRF_fuel f f' _ (by rw [List.length_drop]; omega) (by rw [List.length_drop]; omega)]
  ·rfl
theorem idRF_stop {rest : List UInt8} (h : Stop rest) : ∀ (f : Nat) (l : List UInt8), idRF f (l ++ rest) = idRF f l
 | 0, _ => rfl
 | f + 1, l => by
  simp only [idRF, hasPre_stop h [58, 58] l (by decide)]
  by_cases hp : hasPre l [58, 58] = true
  ·obtain ⟨r, rfl⟩ := colons l hp
   have e1 : (58 :: 58 :: r ++ rest).drop 2 = r ++ rest := rfl
   have e2 : (58 :: 58 :: r).drop 2 = r := rfl
   have e3 : ∀ k, k ≤ r.length → (58 :: 58 :: r ++ rest).drop (2 + k) = (58 :: 58 :: r).drop (2 + k) ++ rest := fun k hk => by
    rw [Nat.add_comm, List.drop_append_of_le_length (by simp only [Llc]; omega)]
   rw [e1, e2, part_stop h, e3 _ (part_le _ _), idRF_stop h f]
  ·rw [if_neg (fun hc => hp hc.1), if_neg (fun hc => hp hc.1)]
theorem idN_stop {rest : List UInt8} (h : Stop rest) (l : List UInt8) : idN (l ++ rest) = idN l := by
 unfold idN
 rw [part_stop h, List.drop_append_of_le_length (part_le _ _), idRF_stop h]
 rw [idRF_fuel ((l ++ rest).length + 1) (l.length + 1) _ (by rw [List.length_drop, Lla]; omega) (by rw [List.length_drop]; omega)]
theorem idS_stop {rest : List UInt8} (h : Stop rest) (l : List UInt8) : idS (l ++ rest) = idS l := by
 unfold idS
 rw [idN_stop h, List.take_append_of_le_length (idN_le l)]
theorem num_stop {rest : List UInt8} (h : Stop rest) {l : List UInt8} (hl : l ≠ []) : numL (l ++ rest) = numL l := by
 have e2 : ((l.drop (digL l) ++ rest).head?.map UInt8.toNat = some 76) = ((l.drop (digL l)).head?.map UInt8.toNat = some 76) := by
  cases l.drop (digL l) with
  | nil =>
   rcases h with rfl | ⟨c, r, rfl, rfl | rfl⟩
   ·rfl
   ·simp
   ·simp
  | cons => rfl
 have e3 : (l ++ rest).head? = l.head? := by
  cases l with
  | nil => exact absurd rfl hl
  | cons => rfl
 simp only [numL, dig_stop h, List.drop_append_of_le_length (dig_le l), List.take_append_of_le_length (dig_le l), e3, e2]
theorem esc_some {r : List UInt8} (h : (escL r).2.2 = true) (rest : List UInt8) : escL (r ++ rest) = escL r := by
 match r, h with
 | [], h => cases h
 | c :: r, h =>
  simp only [List.cons_append, escL] at h ⊢
  by_cases h1 : c.toNat = 34 ∨ c.toNat = 92
  ·rw [if_pos h1, if_pos h1]
  ·rw [if_neg h1, if_neg h1]
   rw [if_neg h1] at h
   by_cases h2 : c.toNat = 110
   ·rw [if_pos h2, if_pos h2]
   ·rw [if_neg h2, if_neg h2]
    rw [if_neg h2] at h
    by_cases h3 : c.toNat = 120
    ·rw [if_pos h3, if_pos h3]
     rw [if_pos h3] at h
     match r, h with
     | [], h => cases h
     | [_], h => cases h
     | _ :: _ :: _, _ => rfl
    ·rw [if_neg h3] at h; cases h
theorem esc_none {r rest : List UInt8} (h : (escL r).2.2 = false) : (escL (r ++ 10 :: rest)).2.2 = false := by
 match r, h with
 | [], _ => rfl
 | c :: r, h =>
  simp only [List.cons_append, escL] at h ⊢
  by_cases h1 : c.toNat = 34 ∨ c.toNat = 92
  ·rw [if_pos h1] at h; cases h
  ·rw [if_neg h1]
   rw [if_neg h1] at h
   by_cases h2 : c.toNat = 110
   ·rw [if_pos h2] at h; cases h
   ·rw [if_neg h2]
    rw [if_neg h2] at h
    by_cases h3 : c.toNat = 120
    ·rw [if_pos h3]
     rw [if_pos h3] at h
     match r, h with
     | [], _ =>
      have e : hexI 10 = -1 := by decide
      cases rest with
      | nil => rfl
      | cons a b => simp [e]
     | [x], _ =>
      have e : hexI 10 = -1 := by decide
      simp [e]
     | _ :: _ :: _, h => exact h
    ·rw [if_neg h3]
theorem qScanF_fuel : ∀ (f f' : Nat) (l : List UInt8), l.length < f → l.length < f' → qScanF f l = qScanF f' l
 | 0, _, _, h, _ => absurd h (Nat.not_lt_zero _)
 | _ + 1, 0, _, _, h => absurd h (Nat.not_lt_zero _)
 | f + 1, f' + 1, [], _, _ => rfl
 | f + 1, f' + 1, c :: r, h, h' => by
  simp only [Llc] at h h'
  simp only [qScanF]
  rw [qScanF_fuel f f' r (by omega) (by omega), qScanF_fuel f f' (r.drop (escL r).1) (by rw [List.length_drop]; omega) (by rw [List.length_drop]; omega)]
theorem qScanF_some : ∀ (f : Nat) (l rest : List UInt8) (y : List UInt8 × Nat), qScanF f l = some y → qScanF f (l ++ rest) = some y
 | 0, _, _, _, h => by cases h
 | f + 1, [], _, _, h => by cases h
 | f + 1, c :: r, rest, y, h => by
  simp only [List.cons_append, qScanF] at h ⊢
  by_cases h1 : c.toNat = 34
  ·rw [if_pos h1] at h ⊢; exact h
  ·rw [if_neg h1] at h ⊢
   by_cases h2 : c.toNat < 32 ∨ 126 < c.toNat
   ·rw [if_pos h2] at h; cases h
   ·rw [if_neg h2] at h ⊢
    by_cases h3 : c.toNat = 92
    ·rw [if_pos h3] at h ⊢
     by_cases h4 : (escL r).2.2 = true
     ·rw [if_pos h4] at h
      rw [esc_some h4, if_pos h4, List.drop_append_of_le_length (escL_len r).1]
      obtain ⟨y', h', e⟩ := Option.map_eq_some_iff.1 h
      rw [qScanF_some f _ rest y' h', ← e]; rfl
     ·rw [if_neg h4] at h; cases h
    ·rw [if_neg h3] at h ⊢
     obtain ⟨y', h', e⟩ := Option.map_eq_some_iff.1 h
     rw [qScanF_some f _ rest y' h', ← e]; rfl
theorem qScanF_none : ∀ (f : Nat) (l rest : List UInt8), l.length < f → qScanF f l = none → qScanF f (l ++ 10 :: rest) = none
 | 0, _, _, h, _ => absurd h (Nat.not_lt_zero _)
 | f + 1, [], rest, _, _ => rfl
 | f + 1, c :: r, rest, hf, h => by
  simp only [Llc] at hf
  simp only [List.cons_append, qScanF] at h ⊢
  by_cases h1 : c.toNat = 34
  ·rw [if_pos h1] at h; cases h
  ·rw [if_neg h1] at h ⊢
   by_cases h2 : c.toNat < 32 ∨ 126 < c.toNat
   ·rw [if_pos h2]
   ·rw [if_neg h2] at h ⊢
    by_cases h3 : c.toNat = 92
    ·rw [if_pos h3] at h ⊢
     by_cases h4 : (escL r).2.2 = true
     ·rw [if_pos h4] at h
      rw [esc_some h4, if_pos h4, List.drop_append_of_le_length (escL_len r).1]
      rw [qScanF_none f _ rest (by rw [List.length_drop]; omega) (Option.map_eq_none_iff.1 h)]; rfl
     ·rw [if_neg (by rw [esc_none (by simpa using h4)]; exact Bool.false_ne_true)]
    ·rw [if_neg h3] at h ⊢
     rw [qScanF_none f _ rest (by omega) (Option.map_eq_none_iff.1 h)]; rfl
theorem qScan_some {l : List UInt8} {y : List UInt8 × Nat} (h : qScan l = some y) (rest : List UInt8) : qScan (l ++ rest) = some y := by
 unfold qScan at h ⊢
 rw [qScanF_fuel _ ((l ++ rest).length + 1) l (by omega) (by rw [Lla]; omega)] at h
 exact qScanF_some _ _ _ _ h
theorem qScan_none {l : List UInt8} (h : qScan l = none) (rest : List UInt8) : qScan (l ++ 10 :: rest) = none := by
 unfold qScan at h ⊢
 rw [qScanF_fuel _ ((l ++ 10 :: rest).length + 1) l (by omega) (by rw [Lla]; omega)] at h
 exact qScanF_none _ _ _ (by rw [Lla]; omega) h
theorem tok_stop {l rest : List UInt8} (hl : l ≠ []) (h : Stop rest) (hy : tokL l ≠ none ∨ ∃ r, rest = 10 :: r) : tokL (l ++ rest) = tokL l := by
 cases l with
 | nil => exact absurd rfl hl
 | cons c r =>
  have e1 := idS_stop h (c :: r)
  have e2 := idN_stop h (c :: r)
  have e3 := num_stop h hl
  have e4 := sign_stop h (c :: r)
  simp only [List.cons_append] at e1 e2 e3 e4
  simp only [List.cons_append, tokL, e1, e2, e3, e4] at hy ⊢
  by_cases h1 : isStartB c.toNat = true
  ·rw [if_pos h1, if_pos h1]
  ·rw [if_neg h1, if_neg h1]
   by_cases h2 : isDigitB c.toNat = true
   ·rw [if_pos h2, if_pos h2]
   ·rw [if_neg h2, if_neg h2]
    by_cases h3 : c.toNat = 34
    ·rw [if_pos h3, if_pos h3]
     rw [if_neg h1, if_neg h2, if_pos h3] at hy
     cases hq : qScan r with
     | some y => rw [qScan_some hq]
     | none =>
      rw [hq] at hy
      rcases hy with hy | ⟨r', rfl⟩
      ·exact absurd rfl hy
      ·rw [qScan_none hq]
    ·rw [if_neg h3, if_neg h3]
/-! Numbers. -/
/-! Strings. -/
/-! A comment behind the text. -/
end Go.Proofs.YtimddhkipjedcaaGreatDoor.E
namespace Go.Proofs
open Go.Shelf
def Tryz.laysC174_ren : Go.Shelf.Ren := ⟨fun | 174 => 225 | 247 => 246 | 245 => 247 | 287 => 259 | 279 => 260 | 280 => 261 | 281 => 262 | 282 => 263 | 321 => 272 | 322 => 273 | 316 => 274 | 171 => 276 | 205 => 275 | 243 => 282 | 246 => 284 | 283 => 285 | 284 => 286 | 285 => 287 | 286 => 288 | 129 => 290 | 317 => 289 | 318 => 291 | 319 => 292 | 320 => 293 | 337 => 294 | 338 => 295 | n => n, fun | 9 => 9 | 3 => 3 | 2 => 2 | 75 => 195 | 85 => 196 | 4 => 4 | 167 => 216 | 5 => 5 | 53 => 217 | 175 => 218 | 46 => 220 | 168 => 221 | 37 => 83 | 0 => 0 | 210 => 228 | 21 => 21 | 127 => 225 | 145 => 239 | 143 => 237 | 171 => 244 | 173 => 247 | 212 => 250 | 51 => 240 | 20 => 20 | 213 => 251 | 232 => 254 | 233 => 255 | 80 => 85 | n => n, fun | 15 => 2 | 16 => 3 | 17 => 6 | 18 => 7 | 19 => 8 | n => n⟩
theorem Tryz.laysC174 : Go.Proofs.LaysC.n174 Tryz.prog Tryz.laysC174_ren := {
 mixed := by kernel_rfl
 f129 := Tryz.func290.trans (congrArg some (by kernel_rfl))
 f171 := Tryz.func276.trans (congrArg some (by kernel_rfl))
 f174 := Tryz.func225.trans (congrArg some (by kernel_rfl))
 f205 := Tryz.func275.trans (congrArg some (by kernel_rfl))
 f243 := Tryz.func282.trans (congrArg some (by kernel_rfl))
 f245 := Tryz.func247.trans (congrArg some (by kernel_rfl))
 f246 := Tryz.func284.trans (congrArg some (by kernel_rfl))
 f247 := Tryz.func246.trans (congrArg some (by kernel_rfl))
 f279 := Tryz.func260.trans (congrArg some (by kernel_rfl))
 f280 := Tryz.func261.trans (congrArg some (by kernel_rfl))
 f281 := Tryz.func262.trans (congrArg some (by kernel_rfl))
 f282 := Tryz.func263.trans (congrArg some (by kernel_rfl))
 f283 := Tryz.func285.trans (congrArg some (by kernel_rfl))
 f284 := Tryz.func286.trans (congrArg some (by kernel_rfl))
 f285 := Tryz.func287.trans (congrArg some (by kernel_rfl))
 f286 := Tryz.func288.trans (congrArg some (by kernel_rfl))
 f287 := Tryz.func259.trans (congrArg some (by kernel_rfl))
 f316 := Tryz.func274.trans (congrArg some (by kernel_rfl))
 f317 := Tryz.func289.trans (congrArg some (by kernel_rfl))
 f318 := Tryz.func291.trans (congrArg some (by kernel_rfl))
 f319 := Tryz.func292.trans (congrArg some (by kernel_rfl))
 f320 := Tryz.func293.trans (congrArg some (by kernel_rfl))
 f321 := Tryz.func272.trans (congrArg some (by kernel_rfl))
 f322 := Tryz.func273.trans (congrArg some (by kernel_rfl))
 f337 := Tryz.func294.trans (congrArg some (by kernel_rfl))
 f338 := Tryz.func295.trans (congrArg some (by kernel_rfl))
 t0 := Tryz.underlying0
 a0 := Tryz.isAgg0
 z0 := Tryz.sizeOf0
 v0 := Tryz.zeroValue0
 t2 := Tryz.underlying2
 a2 := Tryz.isAgg2
 z2 := Tryz.sizeOf2
 v2 := Tryz.zeroValue2
 t3 := Tryz.underlying3
 a3 := Tryz.isAgg3
 z3 := Tryz.sizeOf3
 v3 := Tryz.zeroValue3
 t4 := Tryz.underlying4
 a4 := Tryz.isAgg4
 z4 := Tryz.sizeOf4
 v4 := Tryz.zeroValue4
 t5 := Tryz.underlying5
 a5 := Tryz.isAgg5
 z5 := Tryz.sizeOf5
 v5 := Tryz.zeroValue5
 t9 := Tryz.underlying9
 a9 := Tryz.isAgg9
 z9 := Tryz.sizeOf9
 v9 := Tryz.zeroValue9
 t20 := Tryz.underlying20
 a20 := Tryz.isAgg20
 z20 := Tryz.sizeOf20
 v20 := Tryz.zeroValue20
 t21 := Tryz.underlying21
 a21 := Tryz.isAgg21
 z21 := Tryz.sizeOf21
 v21 := Tryz.zeroValue21
 t37 := Tryz.underlying83
 a37 := Tryz.isAgg83
 z37 := Tryz.sizeOf83
 v37 := Tryz.zeroValue83
 t46 := Tryz.underlying220
 a46 := Tryz.isAgg220
 z46 := Tryz.sizeOf220
 v46 := Tryz.zeroValue220
 t51 := Tryz.underlying240
 a51 := Tryz.isAgg240
 z51 := Tryz.sizeOf240
 v51 := Tryz.zeroValue240
 t53 := Tryz.underlying217
 a53 := Tryz.isAgg217
 z53 := Tryz.sizeOf217
 v53 := Tryz.zeroValue217
 t75 := Tryz.underlying195
 a75 := Tryz.isAgg195
 z75 := Tryz.sizeOf195
 v75 := Tryz.zeroValue195
 t85 := Tryz.underlying196
 a85 := Tryz.isAgg196
 z85 := Tryz.sizeOf196
 v85 := Tryz.zeroValue196
 t127 := Tryz.underlying225
 a127 := Tryz.isAgg225
 z127 := Tryz.sizeOf225
 v127 := Tryz.zeroValue225
 t143 := Tryz.underlying237
 a143 := Tryz.isAgg237
 z143 := Tryz.sizeOf237
 v143 := Tryz.zeroValue237
 t145 := Tryz.underlying239
 a145 := Tryz.isAgg239
 z145 := Tryz.sizeOf239
 v145 := Tryz.zeroValue239
 t167 := Tryz.underlying216
 a167 := Tryz.isAgg216
 z167 := Tryz.sizeOf216
 v167 := Tryz.zeroValue216
 t168 := Tryz.underlying221
 a168 := Tryz.isAgg221
 z168 := Tryz.sizeOf221
 v168 := Tryz.zeroValue221
 t171 := Tryz.underlying244
 a171 := Tryz.isAgg244
 z171 := Tryz.sizeOf244
 v171 := Tryz.zeroValue244
 t173 := Tryz.underlying247
 a173 := Tryz.isAgg247
 z173 := Tryz.sizeOf247
 v173 := Tryz.zeroValue247
 t175 := Tryz.underlying218
 a175 := Tryz.isAgg218
 z175 := Tryz.sizeOf218
 v175 := Tryz.zeroValue218
 t210 := Tryz.underlying228
 a210 := Tryz.isAgg228
 z210 := Tryz.sizeOf228
 v210 := Tryz.zeroValue228
 t212 := Tryz.underlying250
 a212 := Tryz.isAgg250
 z212 := Tryz.sizeOf250
 v212 := Tryz.zeroValue250
 t213 := Tryz.underlying251
 a213 := Tryz.isAgg251
 z213 := Tryz.sizeOf251
 t232 := Tryz.underlying254
 a232 := Tryz.isAgg254
 z232 := Tryz.sizeOf254
 v232 := Tryz.zeroValue254
 t233 := Tryz.underlying255
 a233 := Tryz.isAgg255
 z233 := Tryz.sizeOf255
 v233 := Tryz.zeroValue255
 g15 := by kernel_rfl
 g16 := by kernel_rfl
 g17 := by kernel_rfl
 g18 := by kernel_rfl
 g19 := by kernel_rfl
 t80 := Tryz.underlying85
 a80 := Tryz.isAgg85
 z80 := Tryz.sizeOf85
 v80 := Tryz.zeroValue85
 i0 := by kernel_rfl
 i2 := by kernel_rfl
 i3 := by kernel_rfl
 i4 := by kernel_rfl
 i5 := by kernel_rfl
 i9 := by kernel_rfl
 i20 := by kernel_rfl
 i21 := by kernel_rfl
 i37 := by kernel_rfl
 i46 := by kernel_rfl
 i51 := by kernel_rfl
 i53 := by kernel_rfl
 i75 := by kernel_rfl
 i80 := by kernel_rfl
 i85 := by kernel_rfl
 i127 := by kernel_rfl
 i143 := by kernel_rfl
 i145 := by kernel_rfl
 i167 := by kernel_rfl
 i168 := by kernel_rfl
 i171 := by kernel_rfl
 i173 := by kernel_rfl
 i175 := by kernel_rfl
 i210 := by kernel_rfl
 i212 := by kernel_rfl
 i232 := by kernel_rfl
 i233 := by kernel_rfl
 m15 := by kernel_rfl
 m16 := by kernel_rfl
 m17 := by kernel_rfl
 m18 := by kernel_rfl
 m19 := by kernel_rfl
 c0 := by kernel_rfl
 c2 := by kernel_rfl
 c3 := by kernel_rfl
 c4 := by kernel_rfl
 c5 := by kernel_rfl
 c9 := by kernel_rfl
 c20 := by kernel_rfl
 c21 := by kernel_rfl
 c37 := by kernel_rfl
 c46 := by kernel_rfl
 c51 := by kernel_rfl
 c53 := by kernel_rfl
 c75 := by kernel_rfl
 c80 := by kernel_rfl
 c85 := by kernel_rfl
 c127 := by kernel_rfl
 c143 := by kernel_rfl
 c145 := by kernel_rfl
 c167 := by kernel_rfl
 c168 := by kernel_rfl
 c171 := by kernel_rfl
 c173 := by kernel_rfl
 c175 := by kernel_rfl
 c210 := by kernel_rfl
 c212 := by kernel_rfl
 c213 := by kernel_rfl
 c232 := by kernel_rfl
 c233 := by kernel_rfl }
open Go.RowKit in
theorem Tryz.strconv_ParseInt_10_at64_ok (s : ByteArray) (hmax : s.size ≤ 9223372036854775806) (v : Int) (h : Lib.parseIntB 64 s.data.toList = .ok v) (w : World) :
  Calls Tryz.prog 225 #[.string s, .int .i64 10, .int .i64 64] w fun e w' => e = .returned (.tuple #[.int .i64 v, .nilIface]) ∧ (w' = w ∨ ∃ t, w' = Lib.bytesWorld w 5 t) := Any.strconv_ParseInt_10_at64_ok Tryz.laysC174 s hmax v h w
open Go.RowKit in
theorem Tryz.strconv_ParseInt_10_at64_bad (s : ByteArray) (hlim : s.size ≤ 281474976710656) (h1 : ∀ v, Lib.parseIntB 64 s.data.toList ≠ .ok v) (h2 : Lib.parseIntB 64 s.data.toList ≠ .range) (ev : Value) (w : World) (hv : w.cell? ⟨2, 0, none⟩ = some ev) (hev : ev = .nilIface ∨ ∃ te pe, ev = .iface te pe) :
  Calls Tryz.prog 225 #[.string s, .int .i64 10, .int .i64 64] w fun e w' => ∃ N, e = .returned (.tuple #[.int .i64 (0), .iface 221 (.pointer (some ⟨N, 0, none⟩))]) ∧ w.heap.size ≤ N ∧ w'.heap[N]? = some (.cells #[.string ⟨#[80, 97, 114, 115, 101, 73, 110, 116]⟩, .string s, ev] 228 (0, 0)) ∧ Below w.heap.size w w' := by
 cases hp : Lib.parseIntB 64 s.data.toList with
 | ok v => exact absurd hp (h1 v)
 | range => exact absurd hp h2
 | _ => exact Any.strconv_ParseInt_10_at64_syntax Tryz.laysC174 s hlim hp ev w hv hev
open Go.RowKit in
theorem Tryz.strconv_ParseInt_10_at64_range (s : ByteArray) (hlim : s.size ≤ 281474976710656) (h : Lib.parseIntB 64 s.data.toList = .range) (ev : Value) (w : World) (hv : w.cell? ⟨3, 0, none⟩ = some ev) (hev : ev = .nilIface ∨ ∃ te pe, ev = .iface te pe) :
  Calls Tryz.prog 225 #[.string s, .int .i64 10, .int .i64 64] w fun e w' => ∃ N, e = .returned (.tuple #[.int .i64 (Lib.intSat 64 s.data.toList), .iface 221 (.pointer (some ⟨N, 0, none⟩))]) ∧ w.heap.size ≤ N ∧ w'.heap[N]? = some (.cells #[.string ⟨#[80, 97, 114, 115, 101, 73, 110, 116]⟩, .string s, ev] 228 (0, 0)) ∧ Below w.heap.size w w' := Any.strconv_ParseInt_10_at64_range Tryz.laysC174 s hlim h ev w hv hev
end Go.Proofs
namespace Go.Proofs.YtimddhkipjedcaaGreatDoor.E
open Go Go.RowKit
theorem fld41 : fldO Tryz.prog 138 0 = some (0, none, 1) := by kernel_rfl
theorem fld41' : fldO Tryz.prog 138 1 = some (1, none, 1) := by kernel_rfl
theorem bld41 : bldOk Tryz.prog 138 = true := by kernel_rfl
theorem zero41 : zeroO Tryz.prog 138 = some [.v (.string (bs [])), .v (.int .i64 0)] := by kernel_rfl
theorem if62 : isIfT Tryz.prog 195 = true := by kernel_rfl
attribute [go_sem] fld41 fld41' bld41 zero41 if62
def GlobX (m : Mem) : Prop := Glob m ∧ ∀ w D, m.le ⟨w, D⟩ → (∃ k, w.cell? ⟨1, 0, none⟩ = some (.int .i64 k)) ∧ (∃ t p, w.cell? ⟨2, 0, none⟩ = some (.iface t p)) ∧ (∃ t p, w.cell? ⟨3, 0, none⟩ = some (.iface t p)) ∧
 Lib.TabIs Tryz.prog w "internal/strconv.uint64pow10" .u64 Lib.pow10Tab
theorem GlobX.up {m m' : Mem} (h : GlobX m) (hm : m.le m') : GlobX m' := ⟨Glob.up h.1 hm, fun w D hw => h.2 w D (Mem.le_trans hm hw)⟩
theorem isStart_spec (c : Int) (m : Mem) : FnH Tryz.prog 184 [.v (.int .u8 c)] ⟨[], []⟩ m fun r H' _ => r = .v (.bool (isStartB c)) ∧ H' = ⟨[], []⟩ := by
 refine enter cf0 pu0 Tryz.func184 rfl rfl (by kernel_rfl) rfl ?_ ?_
 ·simp only [go_sem, ↓tfi, ↓fti, ↓reduceIte]
 ·simp only [go_sem, ↓tfi, ↓fti, ↓reduceIte]
  rfl
theorem isDigit_spec (c : Int) (m : Mem) : FnH Tryz.prog 186 [.v (.int .u8 c)] ⟨[], []⟩ m fun r H' _ => r = .v (.bool (isDigitB c)) ∧ H' = ⟨[], []⟩ := by
 refine enter cf0 pu0 Tryz.func186 rfl rfl (by kernel_rfl) rfl ?_ ?_
 ·simp only [go_sem, ↓tfi, ↓fti, ↓reduceIte]
 ·simp only [go_sem, ↓tfi, ↓fti, ↓reduceIte]
  rfl
abbrev cf1 : Cfg := mkCf (fun _ => false) [(184, pf1 isStartB), (186, pf1 isDigitB)]
theorem pu1 : PureOk cf1 Tryz.prog := by
 refine pure_cons (by kernel_rfl) (fun vals y hy _ m => ?_) (pure_cons (by kernel_rfl) (fun vals y hy _ m => ?_) pure_nil)
 ·obtain ⟨c, rfl, rfl⟩ := pf1_some hy
  exact isStart_spec c m
 ·obtain ⟨c, rfl, rfl⟩ := pf1_some hy
  exact isDigit_spec c m
theorem part_spec (s : List UInt8) (p at_ : Int) (m : Mem) (h0 : 0 ≤ at_) (h1 : at_ ≤ s.length) (hs : s.length ≤ 4611686018427387904) : FnH Tryz.prog 223 [.box 0 0, .v (.int .i64 at_)] ⟨[⟨0, 138, [.v (.string (bs s)), .v (.int .i64 p)]⟩], []⟩ m
  fun r H' m' => r = .v (.int .i64 (partL true (s.drop at_.toNat))) ∧ H' = ⟨[⟨0, 138, [.v (.string (bs s)), .v (.int .i64 p)]⟩], []⟩ ∧ m' = m := by
 refine enter cf1 pu1 Tryz.func223 rfl rfl (by kernel_rfl) rfl ?_ ?_
 ·simp only [go_sem, ↓tfi, ↓fti, ↓reduceIte]
 ·simp only [go_sem, ↓tfi, ↓fti, ↓reduceIte]
  refine WP_loop pu1 (fun k : Nat => ⟨[⟨0, [], .box 0 0⟩, ⟨1, [], .v (.int .i64 at_)⟩, ⟨5, [], .v (.int .i64 k)⟩], [], [⟨0, 138, [.v (.string (bs s)), .v (.int .i64 p)]⟩], [], 1, m⟩)
   (fun k => at_ + k ≤ s.length ∧ partL true (s.drop at_.toNat) = k + partL (k == 0) (s.drop (at_.toNat + k))) (fun k => s.length - k) 0 (by kernel_rfl) (fun _ _ => Nnr _) (fun _ _ => .inl rfl) (fun _ => ?_) ?_ ?_ ?_
  ·simp only [go_sem, ↓tfi, ↓fti, ↓reduceIte]
  ·simp only [go_sem, ↓tfi, ↓fti, ↓reduceIte]
   rfl
  ·simp
   omega
  ·rintro k ⟨hk, hp⟩
   simp only [go_sem, ↓tfi, ↓fti, ↓reduceIte]
   have hi : I64 (at_ + k) := by unfold I64; omega
   have hd : ∀ h : at_ + k < s.length, s.drop (at_.toNat + k) = s.getD (at_ + k).toNat 0 :: s.drop (at_.toNat + (k + 1)) := fun h => by
    have e : (at_ + (k : Int)).toNat = at_.toNat + k := by omega
    have hl : at_.toNat + k < s.length := by omega
    rw [e, List.drop_eq_getElem_cons hl, List.getD_eq_getElem?_getD, List.getElem?_eq_getElem hl]
    rfl
   refine ⟨hi, fun _ => hi, fun h => ⟨by omega, h⟩, fun _ => hi, fun h => ⟨by omega, h.2.2⟩, fun h => ⟨by unfold I64; omega, k + 1, by omega, ⟨by omega, ?_⟩, by omega⟩, fun h => ?_⟩
   ·rw [hp, hd h.1]
    have : (isStartB ((s.getD (at_ + k).toNat 0).toNat : Int) || (!(k == 0) && isDigitB ((s.getD (at_ + k).toNat 0).toNat : Int))) = true := by
     rcases h.2 with h2 | ⟨h2, h3⟩
     ·rw [h2]; rfl
     ·rw [h3]
      have : (k == 0) = false := by simp; omega
      rw [this]; simp
    simp only [partL]
    rw [if_pos this]
    have e0 : ((k + 1) == 0) = false := rfl
    rw [e0]
    omega
   ·rw [hp]
    have : partL (k == 0) (s.drop (at_.toNat + k)) = 0 := by
     by_cases hlt : at_ + k < s.length
     ·rw [hd hlt]
      rcases h with h | ⟨h2, h3⟩
      ·exact absurd hlt h
      ·simp only [partL]
       rw [if_neg]
       rw [h2]
       rcases h3 with h3 | h3
       ·have : (k == 0) = true := by simp; omega
        rw [this]; simp
       ·rw [h3]; simp
     ·rw [List.drop_of_length_le (by omega)]; rfl
    rw [this]
    rfl
def pSS (B : List UInt8 → List UInt8 → Prop) (F : List UInt8 → List UInt8 → Value) : List Value → Option (Prop × Value)
 | [.string a, .string b] => some (B (tl a) (tl b), F (tl a) (tl b))
 | _ => none
theorem pSS_some {B : List UInt8 → List UInt8 → Prop} {F : List UInt8 → List UInt8 → Value} {l : List Value} {y : Prop × Value} (h : pSS B F l = some y) : ∃ a b, l = [.string (bs a), .string (bs b)] ∧ y = (B a b, F a b) := by
 unfold pSS at h
 split at h
 ·rename_i a b
  cases h; exact ⟨tl a, tl b, by rw [bs_tl, bs_tl], rfl⟩
 ·cases h
attribute [go_sem] pSS.eq_1
theorem hasPrefix0_spec (a b : List UInt8) (m : Mem) : FnH Tryz.prog 221 [.v (.string (bs a)), .v (.string (bs b))] ⟨[], []⟩ m fun r H' _ => r = .v (.bool (hasPre a b)) ∧ H' = ⟨[], []⟩ := by
 refine enter cf0 pu0 Tryz.func221 rfl rfl (by kernel_rfl) rfl ?_ ?_
 ·simp only [go_sem, ↓tfi, ↓fti, ↓reduceIte]
 ·simp only [go_sem, ↓tfi, ↓fti, ↓reduceIte]
  refine ⟨fun h => ⟨by omega, by omega, h⟩, ?_⟩
  rfl
abbrev cf2 : Cfg := mkCf (fun _ => false) [(221, pSS (fun _ _ => True) fun a b => .bool (hasPre a b))]
theorem pu2 : PureOk cf2 Tryz.prog := by
 refine pure_cons (by kernel_rfl) (fun vals y hy _ m => ?_) pure_nil
 obtain ⟨a, b, rfl, rfl⟩ := pSS_some hy
 exact hasPrefix0_spec a b m
theorem hasPrefix_spec (a b : List UInt8) (m : Mem) : FnH Tryz.prog 182 [.v (.string (bs a)), .v (.string (bs b))] ⟨[], []⟩ m fun r H' _ => r = .v (.bool (hasPre a b)) ∧ H' = ⟨[], []⟩ := by
 refine enter cf2 pu2 Tryz.func182 rfl rfl (by kernel_rfl) rfl ?_ ?_
 ·simp only [go_sem, ↓tfi, ↓fti, ↓reduceIte]
 ·simp only [go_sem, ↓tfi, ↓fti, ↓reduceIte]
def pSB (B : List UInt8 → Int → Prop) (F : List UInt8 → Int → Value) : List Value → Option (Prop × Value)
 | [.string a, .int .u8 c] => some (B (tl a) c, F (tl a) c)
 | _ => none
attribute [go_sem] pSB.eq_1
theorem pureSS {P : Program} {f : FuncId} {B : List UInt8 → List UInt8 → Prop} {F : List UInt8 → List UInt8 → Value} (h : ∀ a b m, B a b → FnH P f [.v (.string (bs a)), .v (.string (bs b))] ⟨[], []⟩ m fun r H' _ => r = .v (F a b) ∧ H' = ⟨[], []⟩) : Pure0 P f (pSS B F) := fun vals y hy hB m => by
 obtain ⟨a, b, rfl, rfl⟩ := pSS_some hy
 exact h a b m hB
theorem pureSB {P : Program} {f : FuncId} {B : List UInt8 → Int → Prop} {F : List UInt8 → Int → Value} (h : ∀ a c m, B a c → FnH P f [.v (.string (bs a)), .v (.int .u8 c)] ⟨[], []⟩ m fun r H' _ => r = .v (F a c) ∧ H' = ⟨[], []⟩) : Pure0 P f (pSB B F) := fun vals y hy hB m => by
 unfold pSB at hy
 split at hy
 ·rename_i a c
  cases hy
  have := h (tl a) c m hB
  rwa [bs_tl] at this
 ·cases hy
theorem parseInt_spec (s : List UInt8) (m : Mem) (hg : GlobX m) (hs : s.length ≤ 2147483648) :
  FnH Tryz.prog 225 [.v (.string (bs s)), .v (.int .i64 10), .v (.int .i64 64)] ⟨[], []⟩ m fun r H' m' => (∃ e, r = .v (.tuple ⟨[.int .i64 (parseN s).1, e]⟩) ∧ ifV e ∧ isNilV e = (parseN s).2) ∧ H' = ⟨[], []⟩ ∧ m' = m := by
 refine (FnH_of (args := [.string (bs s), .int .i64 10, .int .i64 64]) (R := fun y => ∃ e, y = .tuple ⟨[.int .i64 (parseN s).1, e]⟩ ∧ ifV e ∧ isNilV e = (parseN s).2) fun w D hwf hle => ?_).mono ?_
 ·have hsz := bs_size s
  obtain ⟨_, ⟨t4, p4, h4⟩, ⟨t5, p5, h5⟩, _⟩ := hg.2 w D hle
  cases hp : Lib.parseIntB 64 s with
  | ok v =>
   refine (Tryz.strconv_ParseInt_10_at64_ok (bs s) (by omega) v hp w).mono ?_
   rintro e w' ⟨rfl, hw⟩
   refine ⟨_, rfl, ⟨.nilIface, by simp [parseN, hp], .inl rfl, by simp [parseN, hp, isNilV]⟩, ?_⟩
   rcases hw with rfl | ⟨t, rfl⟩
   ·exact Below.refl _ _
   ·exact Lib.bytesWorld_below _ _ _
  | range =>
   have hts : (bs s).data.toList = s := tl_bs s
   refine (Tryz.strconv_ParseInt_10_at64_range (bs s) (by omega) hp _ w h5 (.inr ⟨_, _, rfl⟩)).mono ?_
   rintro e w' ⟨N, rfl, _, _, hb⟩
   exact ⟨_, rfl, ⟨.iface 221 (.pointer (some ⟨N, 0, none⟩)), by simp [parseN, hp, hts], .inr ⟨_, _, rfl⟩, by simp [parseN, hp, isNilV]⟩, hb⟩
  | _ =>
   refine (Tryz.strconv_ParseInt_10_at64_bad (bs s) (by omega) (by rw [show (bs s).data.toList = s from tl_bs s, hp]; intro v e; cases e) (by rw [show (bs s).data.toList = s from tl_bs s, hp]; intro e; cases e) _ w h4 (.inr ⟨_, _, rfl⟩)).mono ?_
   rintro e w' ⟨N, rfl, _, _, hb⟩
   exact ⟨_, rfl, ⟨.iface 221 (.pointer (some ⟨N, 0, none⟩)), by simp [parseN, hp], .inr ⟨_, _, rfl⟩, by simp [parseN, hp, isNilV]⟩, hb⟩
 ·rintro r H' m' hm ⟨⟨y, rfl, e, rfl, h3⟩, h1, h2⟩
  exact ⟨⟨e, rfl, h3⟩, h1, h2⟩
theorem skip_line : ∀ (l : List UInt8), skipW true l = (if Lib.indexByte l 10 < 0 then l.length else (Lib.indexByte l 10).toNat + skipW false (l.drop (Lib.indexByte l 10).toNat))
 | [] => rfl
 | c :: r => by
  have ih := skip_line r
  have hge := Lib.indexByte_ge r 10
  simp only [skipW, Lib.indexByte, beq_iff_eq]
  by_cases h : c.toNat = 10
  ·have : c = 10 := u8_eq h
   subst this
   simp [skipW]
  ·have h' : ¬ c = 10 := fun e => h (by rw [e]; rfl)
   rw [if_neg h, if_neg h', ih]
   by_cases hn : Lib.indexByte r 10 = -1
   ·rw [if_pos hn, if_pos (by omega), if_pos (by omega), Llc]; omega
   ·rw [if_neg hn, if_neg (by omega), if_neg (by omega)]
    have e : (Lib.indexByte r 10 + 1).toNat = (Lib.indexByte r 10).toNat + 1 := by omega
    rw [e, List.drop_succ_cons]; omega
def ixB (s : List UInt8) (c : Int) : Int := Lib.indexByte s c.toNat.toUInt8
theorem ixB_at (s : List UInt8) (c : UInt8) : ixB s c.toNat = Lib.indexByte s c := by unfold ixB; rw [Int.toNat_natCast]; simp
abbrev pIB : List Value → Option (Prop × Value) := pSB (fun _ _ => True) fun s c => .int .i64 (ixB s c)
abbrev cf7 : Cfg := mkCf (fun f => f == 223 || f == 226 || f == 185 || f == 187 || f == 188 || f == 189 || f == 124 || f == 125) [(184, pf1 isStartB), (186, pf1 isDigitB), (182, pSS (fun _ _ => True) fun a b => .bool (hasPre a b)), (183, pIB), (192, pS1 BL fun s => .bool (isName s))]
theorem pu7 : PureOk cf7 Tryz.prog := by
 refine pure_cons (by kernel_rfl) (pure1 isStart_spec) (pure_cons (by kernel_rfl) (pure1 isDigit_spec) (pure_cons (by kernel_rfl) (pureSS fun a b m _ => hasPrefix_spec a b m) (pure_cons (by kernel_rfl) (pureSB fun a c m _ => indexByte_spec a c m) (pure_cons (by kernel_rfl) (pureS isName_spec) pure_nil))))
theorem blank_spec (s : List UInt8) (p : Nat) (m : Mem) (hp : p ≤ s.length) (hs : s.length ≤ 1000000) :
  FnH Tryz.prog 124 [.box 0 0] ⟨[⟨0, 138, [.v (.string (bs s)), .v (.int .i64 p)]⟩], []⟩ m fun r H' m' => r = .tup [] ∧ H' = ⟨[⟨0, 138, [.v (.string (bs s)), .v (.int .i64 (p + skipW false (s.drop p) : Nat))]⟩], []⟩ ∧ m' = m := by
 refine enter cf7 pu7 Tryz.func124 rfl rfl (by kernel_rfl) rfl ?_ ?_
 ·simp only [go_sem, ↓tfi, ↓fti, ↓reduceIte]
 ·simp only [go_sem, ↓tfi, ↓fti, ↓reduceIte]
  refine WP_scope1 pu7 (fun k : Nat => ⟨[⟨0, [], .box 0 0⟩], [], [⟨0, 138, [.v (.string (bs s)), .v (.int .i64 k)]⟩], [], 1, m⟩)
   (fun k => k ≤ s.length ∧ p + skipW false (s.drop p) = k + skipW false (s.drop k)) (fun k => s.length - k) p (by kernel_rfl) (fun _ _ => Nnr _) (fun _ _ => .inl rfl) (fun _ => ?_) ?_ ?_ ?_
  ·simp only [go_sem, ↓tfi, ↓fti, ↓reduceIte]
  ·simp only [go_sem, ↓tfi, ↓fti, ↓reduceIte]
  ·exact ⟨hp, rfl⟩
  ·rintro k0 ⟨hk0, hp0⟩
   simp only [go_sem, ↓tfi, ↓fti, ↓reduceIte]
   refine WP_loop pu7 (fun k : Nat => ⟨[⟨0, [], .box 0 0⟩], [], [⟨0, 138, [.v (.string (bs s)), .v (.int .i64 k)]⟩], [], 1, m⟩)
    (fun k => k0 ≤ k ∧ k ≤ s.length ∧ p + skipW false (s.drop p) = k + skipW false (s.drop k)) (fun k => s.length - k) k0 (by kernel_rfl) (fun _ _ => Nnr _) (fun _ _ => .inl rfl) (fun _ => ?_) ?_ ?_ ?_
   ·simp only [go_sem, ↓tfi, ↓fti, ↓reduceIte]
   ·simp only [go_sem, ↓tfi, ↓fti, ↓reduceIte]
   ·exact ⟨Nnr _, hk0, hp0⟩
   ·rintro k ⟨hkk, hk, hpk⟩
    simp only [go_sem, ↓tfi, ↓fti, ↓reduceIte]
    refine WP_drawQ pu7 (by kernel_rfl) (by kernel_rfl) (by kernel_rfl) ?_
    simp only [go_sem, ↓tfi, ↓fti, ↓reduceIte]
    refine ⟨fun hlt => ?_, fun hge => ?_⟩
    ·refine WP_drawQ pu7 (by kernel_rfl) (by kernel_rfl) (by kernel_rfl) ?_
     simp only [go_sem, ↓tfi, ↓fti, ↓reduceIte]
     refine ⟨⟨by omega, hlt⟩, ?_⟩
     have hkl : k < s.length := by omega
     have hI : I64 (k + 1) := by unfold I64; omega
     rw [drop_at hkl] at hpk
     simp only [skipW] at hpk
     have ws : ((s.getD k 0).toNat = 9 ∨ (s.getD k 0).toNat = 10 ∨ (s.getD k 0).toNat = 13 ∨ (s.getD k 0).toNat = 32) →
       ∃ x' : Nat, (k : Int) + 1 = x' ∧ (k0 ≤ x' ∧ x' ≤ s.length ∧ p + skipW false (s.drop p) = x' + skipW false (s.drop x')) ∧ s.length - x' < s.length - k := fun hc => by
      rw [if_pos hc] at hpk
      exact ⟨k + 1, rfl, ⟨by omega, hkl, by omega⟩, by omega⟩
     refine ⟨fun h => ⟨fun _ => ⟨hI, ws (by omega)⟩, fun h' => absurd h h'⟩, fun h9 => ⟨fun h => ⟨fun _ => ⟨hI, ws (by omega)⟩, fun h' => absurd h h'⟩, fun h10 => ⟨fun h => ⟨fun _ => ⟨hI, ws (by omega)⟩, fun h' => absurd h h'⟩,
      fun h13 => ⟨fun h => ⟨hI, ws (by omega)⟩, fun h32 => ?_⟩⟩⟩⟩
     rw [if_neg (by omega)] at hpk
     refine WP_drawQ pu7 (by kernel_rfl) (by kernel_rfl) (by kernel_rfl) ?_
     simp only [go_sem, ↓tfi, ↓fti, ↓reduceIte]
     refine ⟨⟨by omega, by omega, by omega⟩, fun hc => ?_, fun hc => ?_⟩
     ·have e10 : ixB (s.drop k) 10 = Lib.indexByte (s.drop k) 10 := rfl
      have hh : (s.getD k 0).toNat = 47 ∧ (s.drop (k + 1)).head?.map UInt8.toNat = some 47 := hasPre_two.1 (by rw [← drop_at hkl]; exact hc)
      rw [if_pos hh] at hpk
      have hst : p + skipW false (s.drop p) = k + skipW true (s.drop k) := by
       rw [hpk, drop_at hkl]
       simp only [skipW]
       rw [if_neg (by omega)]
      have hi : Lib.indexByte (s.drop k) 10 ≠ 0 := by
       rw [drop_at hkl]
       have hge := Lib.indexByte_ge (s.drop (k + 1)) 10
       simp only [Lib.indexByte, beq_iff_eq]
       rw [if_neg (fun e => by rw [e] at hh; exact absurd hh.1 (by decide))]
       split <;> omega
      have hge := Lib.indexByte_ge (s.drop k) 10
      have hlt2 := idx_lt 10 (s.drop k)
      rw [List.length_drop] at hlt2
      have hsl := skip_line (s.drop k)
      refine WP_drawQ pu7 (by kernel_rfl) (by kernel_rfl) (by kernel_rfl) ?_
      simp only [go_sem, ↓tfi, ↓fti, ↓reduceIte, e10]
      refine ⟨⟨by omega, by omega, by omega⟩, fun hn => ?_, fun hn => ⟨by unfold I64; omega, k + (Lib.indexByte (s.drop k) 10).toNat, by omega, ⟨by omega, ?_⟩, by omega⟩⟩
      ·refine WP_drawQ pu7 (by kernel_rfl) (by kernel_rfl) (by kernel_rfl) ?_
       simp only [go_sem, ↓tfi, ↓fti, ↓reduceIte]
       refine ⟨by unfold I64; omega, by unfold I64; omega, s.length, by omega, ⟨Nnr _, ?_⟩, by omega⟩
       rw [if_pos hn, List.length_drop] at hsl
       rw [List.drop_length]
       simp only [skipW]
       omega
      ·rw [if_neg hn, List.drop_drop] at hsl
       omega
     ·have : p + skipW false (s.drop p) = k := by
       rw [hpk, if_neg, Nat.add_zero]
       rintro ⟨e1, e2⟩
       rw [drop_at hkl, hasPre_two.2 ⟨e1, e2⟩] at hc
       cases hc
      rw [this]
    ·have e : s.drop k = [] := List.drop_of_length_le (by omega)
     rw [e] at hpk
     rw [hpk]
     rfl
abbrev scB (s : List UInt8) (p : Int) : Bx := ⟨0, 138, [.v (.string (bs s)), .v (.int .i64 p)]⟩
theorem yoperator_spec (s : List UInt8) (p : Nat) (m : Mem) (hp : p ≤ s.length) (hs : s.length ≤ 1000000) :
  FnH Tryz.prog 189 [.box 0 0] ⟨[scB s p], []⟩ m fun r H' m' => m' = m ∧ match signAt (s.drop p) with
   | some o => r = .tup [Tk.sv ⟨6, o, 0, p⟩, .v (.bool true)] ∧ H' = ⟨[scB s (p + o.length)], []⟩
   | none => r = .tup [Tk.sv Tk0, .v (.bool false)] ∧ H' = ⟨[scB s p], []⟩ := by
 refine enter cf7 pu7 Tryz.func189 rfl rfl (by kernel_rfl) rfl ?_ ?_
 ·simp only [go_sem, ↓tfi, ↓fti, ↓reduceIte]
 ·simp only [go_sem, ↓tfi, ↓fti, ↓reduceIte]
  refine cvl ((operators_spec m).mono ?_)
  rintro r H' m' hm ⟨rfl, rfl, rfl⟩
  simp only [go_sem, ↓tfi, ↓fti, ↓reduceIte]
  refine WP_loop pu7 (fun k : Nat => ⟨[⟨0, [], .box 0 0⟩, ⟨2, [], .box 1 0⟩, ⟨7, [], .vec 2 0⟩, ⟨8, [], .v (.int .i64 30)⟩, ⟨9, [], .v (.int .i64 k)⟩], [], [⟨1, 50, Tk0.cells⟩, scB s p], [⟨2, 0, 9, 1, 30, strs signsL⟩], 3, m'⟩)
   (fun k => k ≤ 30 ∧ signAt (s.drop p) = (signsL.drop k).find? fun o => hasPre (s.drop p) o) (fun k => 30 - k) 0 (by kernel_rfl) (fun _ _ => Nnr _) (fun _ _ => .inl rfl) (fun _ => ?_) ?_ ?_ ?_
  ·simp only [go_sem, ↓tfi, ↓fti, ↓reduceIte]
  ·simp only [go_sem, ↓tfi, ↓fti, ↓reduceIte]
   exact ⟨rfl, rfl⟩
  ·exact ⟨by omega, rfl⟩
  ·rintro k ⟨hk, hf⟩
   simp only [go_sem, ↓tfi, ↓fti, ↓reduceIte]
   have hsl : signsL.length = 30 := rfl
   have hst : (strs signsL).length = 30 := rfl
   refine ⟨fun hlt => ⟨⟨by omega, hlt⟩, by omega, ?_⟩, fun hge => ?_⟩
   ·have hk30 : k < signsL.length := by omega
    have e : (strs signsL).getD k undef = .string (bs signsL[k]) := by
     rw [List.getD_eq_getElem?_getD, strs, List.getElem?_map, List.getElem?_eq_getElem hk30]; rfl
    rw [e]
    have hol : signsL[k].length ≤ 3 := (by decide : ∀ o ∈ signsL, o.length ≤ 3) _ (List.getElem_mem hk30)
    rw [List.drop_eq_getElem_cons hk30, List.find?_cons] at hf
    generalize signsL[k] = o at hol hf
    refine WP_drawQ pu7 (by kernel_rfl) (by kernel_rfl) (by kernel_rfl) ?_
    simp only [go_sem, ↓tfi, ↓fti, ↓reduceIte]
    refine ⟨⟨by omega, by omega, by omega⟩, fun h => ?_, fun h => ⟨by unfold I64; omega, k + 1, by omega, ⟨by omega, ?_⟩, by omega⟩⟩
    ·simp only [h] at hf
     rw [hf]
     exact ⟨by unfold I64; omega, rfl, rfl⟩
    ·simp only [h] at hf
     exact hf
   ·obtain rfl : k = 30 := by omega
    have e : signsL.drop 30 = [] := rfl
    rw [e] at hf
    simp only [List.find?_nil] at hf
    rw [hf]
    trivial
theorem escape_spec (s : List UInt8) (p : Nat) (m : Mem) (hp : p ≤ s.length) (hs : s.length ≤ 1000000) :
  FnH Tryz.prog 226 [.box 0 0] ⟨[scB s p], []⟩ m fun r H' m' => m' = m ∧ r = .tup [.v (.int .u8 (escL (s.drop p)).2.1), .v (.bool (escL (s.drop p)).2.2)] ∧ H' = ⟨[scB s (p + (escL (s.drop p)).1 : Nat)], []⟩ := by
 refine enter cf7 pu7 Tryz.func226 rfl rfl (by kernel_rfl) rfl ?_ ?_
 ·simp only [go_sem, ↓tfi, ↓fti, ↓reduceIte]
 ·simp only [go_sem, ↓tfi, ↓fti, ↓reduceIte]
  cases hr : s.drop p with
  | nil =>
   refine WP_drawQ pu7 (by kernel_rfl) (by kernel_rfl) (by kernel_rfl) ?_
   simp only [go_sem, ↓tfi, ↓fti, ↓reduceIte, hr]
   exact ⟨⟨by omega, by omega, by omega⟩, ⟨rfl, rfl⟩, fun h => absurd trivial h⟩
  | cons c r =>
   have hlen : (s.drop p).length = r.length + 1 := by rw [hr]; rfl
   rw [List.length_drop] at hlen
   refine WP_drawQ pu7 (by kernel_rfl) (by kernel_rfl) (by kernel_rfl) ?_
   simp only [go_sem, ↓tfi, ↓fti, ↓reduceIte, hr]
   have h0 : (0 : Int) ≤ 0 ∧ (0 : Int) < ((r.length + 1 : Nat) : Int) := by omega
   refine ⟨⟨by omega, by omega, by omega⟩, h0, fun _ => h0, fun h => ?_, fun h => ⟨h0, fun h1 => ?_, fun h1 => ⟨h0, fun h2 => ?_, fun h2 => ?_⟩⟩⟩
   ·have e : escL (c :: r) = (1, (c.toNat : Int), true) := by
     simp only [escL]; rw [if_pos (by omega)]
    rw [e]
    exact ⟨by unfold I64; omega, h0, rfl, rfl⟩
   ·have e : escL (c :: r) = (1, 10, true) := by
     simp only [escL]; rw [if_neg (by omega), if_pos (by omega)]
    rw [e]
    exact ⟨by unfold I64; omega, rfl, rfl⟩
   ·match r, hlen, h2, h0 with
    | [], _, h2, _ => exact absurd h2.2 (by simp)
    | [_], _, h2, _ => exact absurd h2.2 (by simp)
    | x :: y :: r, hlen, h2, h0 =>
     have e : escL (c :: x :: y :: r) = (3, IntKind.u8.wrap (16 * hexI x + hexI y), decide (0 ≤ hexI x) && decide (0 ≤ hexI y)) := by
      simp only [escL]; rw [if_neg (by omega), if_neg (by omega), if_pos (by omega)]
     rw [e]
     simp only [List.getD_cons_zero, List.getD_cons_succ, ixB_at]
     have hb : ∀ z : UInt8, -1 ≤ Lib.indexByte hexL z ∧ Lib.indexByte hexL z < 16 := fun z => ⟨Lib.indexByte_ge _ _, idx_lt z hexL⟩
     have h3 := hb x
     have h4 := hb y
     simp only [hexI]
     simp only [hexL] at h3 h4 ⊢
     simp only [Llc] at hlen ⊢
     exact ⟨by omega, by omega, by unfold I64; omega, by unfold I64; omega, by unfold I64; omega, rfl, rfl⟩
   ·have e : escL (c :: r) = (0, 0, false) := by
     simp only [escL]; rw [if_neg (by omega), if_neg (by omega)]
     split
     ·match r, h2 with
      | [], _ => rfl
      | [_], _ => rfl
      | x :: y :: r, h2 => simp only [Llc] at h2; omega
     ·rfl
    rw [e]
    exact ⟨rfl, rfl⟩
def QOut (s : List UInt8) (p : Nat) (o : Option (List UInt8 × Nat)) (r : SV) (H' : Hp) : Prop :=
 match o with
 | some (b, n) => r = .tup [Tk.sv ⟨5, b, 0, p⟩, .v (.bool (decide (b.length ≤ 1024)))] ∧ H' = ⟨[scB s (p + 1 + n : Nat)], []⟩
 | none => ∃ t q, r = .tup [Tk.sv t, .v (.bool false)] ∧ H' = ⟨[scB s q], []⟩
theorem quoted_spec (s : List UInt8) (p : Nat) (m : Mem) (hp : p < s.length) (hs : s.length ≤ 1000000) :
  FnH Tryz.prog 188 [.box 0 0] ⟨[scB s p], []⟩ m fun r H' m' => m' = m ∧ QOut s p (qScan (s.drop (p + 1))) r H' := by
 refine enter cf7 pu7 Tryz.func188 rfl rfl (by kernel_rfl) rfl ?_ ?_
 ·simp only [go_sem, ↓tfi, ↓fti, ↓reduceIte]
 ·simp only [go_sem, ↓tfi, ↓fti, ↓reduceIte]
  refine WP_scope0 pu7 (by kernel_rfl) ?_
  simp only [go_sem, ↓tfi, ↓fti, ↓reduceIte]
  refine ⟨by unfold I64; omega, ?_⟩
  refine WP_adopt 5 5 1 (by decide) rfl ?_
  refine WP_loop pu7 (fun x : Nat × List UInt8 × Nat => ⟨[⟨0, [], .box 0 0⟩, ⟨2, [], .box 1 0⟩, ⟨4, [], .box 2 0⟩, ⟨5, [], .vec 3 x.2.2⟩], [], [⟨2, 50, Tk.cells ⟨5, [], 0, p⟩⟩, ⟨1, 50, Tk0.cells⟩, scB s x.1], [⟨3, x.2.2, 5, 1, x.2.1.length, u8s x.2.1⟩], 4, m⟩)
   (fun x => p + 1 ≤ x.1 ∧ x.1 ≤ s.length ∧ x.2.1.length ≤ x.1 ∧ ∃ f, s.length - x.1 < f ∧ qScan (s.drop (p + 1)) = (qScanF f (s.drop x.1)).map fun y => (x.2.1 ++ y.1, x.1 - (p + 1) + y.2)) (fun x => s.length - x.1) (p + 1, [], 0) (by kernel_rfl) (fun _ _ => by first | omega | (simp only; omega)) (fun _ _ => .inl rfl) (fun _ => ?_) ?_ ?_ ?_
  ·simp only [go_sem, ↓tfi, ↓fti, ↓reduceIte]
  ·simp only [go_sem, ↓tfi, ↓fti, ↓reduceIte]
   exact ⟨rfl, rfl⟩
  ·refine ⟨Nnr _, hp, Nat.zero_le _, (s.drop (p + 1)).length + 1, by rw [List.length_drop]; omega, ?_⟩
   show qScan _ = (qScan _).map _
   cases qScan (s.drop (p + 1)) with
   | none => rfl
   | some x => simp
  ·rintro ⟨q, b, v⟩ ⟨h1, h2, h3, f, hf, hq⟩
   simp only at h1 h2 h3 hf hq
   obtain ⟨f, rfl⟩ : ∃ g, f = g + 1 := ⟨f - 1, by omega⟩
   simp only [go_sem, ↓tfi, ↓fti, ↓reduceIte]
   refine WP_drawQ pu7 (by kernel_rfl) (by kernel_rfl) (by kernel_rfl) ?_
   simp only [go_sem, ↓tfi, ↓fti, ↓reduceIte]
   refine ⟨fun hge => ?_, fun hlt => ?_⟩
   ·have e : s.drop q = [] := List.drop_of_length_le (by omega)
    rw [e] at hq
    have hq' : qScan (s.drop (p + 1)) = none := hq
    rw [hq']
    exact ⟨⟨5, [], 0, p⟩, _, rfl, rfl⟩
   ·have hql : q < s.length := by omega
    rw [drop_at hql] at hq
    simp only [qScanF] at hq
    refine WP_drawQ pu7 (by kernel_rfl) (by kernel_rfl) (by kernel_rfl) ?_
    simp only [go_sem, ↓tfi, ↓fti, ↓reduceIte]
    refine ⟨⟨by omega, by omega⟩, by unfold I64; omega, fun h34 => ?_, fun h34 => ?_⟩
    ·rw [if_pos (by omega)] at hq
     refine ⟨b, rfl, ?_⟩
     rw [hq]
     refine ⟨?_, ?_⟩
     ·have : decide ((b.length : Int) ≤ 1024) = decide ((b ++ []).length ≤ 1024) := by rw [List.append_nil, decide_eq_decide]; omega
      rw [this, List.append_nil]
     ·have : ((p + 1 + (q - (p + 1) + 1) : Nat) : Int) = q + 1 := by omega
      simp only [this]
    ·rw [if_neg (by omega)] at hq
     refine ⟨fun hbad => ?_, fun hbad => ⟨fun h92 => ⟨by kernel_rfl, ?_⟩, fun h92 => ?_⟩⟩
     ·rw [if_pos (by omega)] at hq
      have hq' : qScan (s.drop (p + 1)) = none := hq
      rw [hq']
      exact ⟨⟨5, [], 0, p⟩, _, rfl, rfl⟩
     ·rw [if_neg (by omega), if_pos (by omega)] at hq
      have hsp := escape_spec s (q + 1) m (by omega) hs
      refine FnV_of (hsp.mono ?_)
      rintro r H' m' hm ⟨rfl, rfl, rfl⟩
      simp only [go_sem, ↓tfi, ↓fti, ↓reduceIte]
      obtain ⟨hl1, hl2⟩ := escL_len (s.drop (q + 1))
      obtain ⟨x, hx⟩ := escL_byte (s.drop (q + 1))
      rw [hx] at hq ⊢
      rw [List.length_drop] at hl1
      rw [List.drop_drop] at hq
      generalize (escL (s.drop (q + 1))).1 = a at hq hl1 hl2 ⊢
      generalize (escL (s.drop (q + 1))).2.2 = k at hq hl2 ⊢
      have ex : UInt8.ofNat ((x.toNat : Int)).toNat = x := by rw [Int.toNat_natCast]; simp
      rw [ex] at hq
      refine ⟨fun hk => ?_, fun hk => ?_⟩
      ·subst hk
       have hq' : qScan (s.drop (p + 1)) = none := hq
       rw [hq']
       exact ⟨⟨5, [], 0, p⟩, _, rfl, rfl⟩
      ·subst hk
       have ha := hl2 rfl
       have hsnoc : u8s b ++ [Value.int .u8 (x.toNat : Int)] = u8s (b ++ [x]) := by rw [u8s_app]; rfl
       refine ⟨⟨by omega, by simp only [maxLen]; omega⟩, (q + 1 + a, b ++ [x], v + 1), ⟨rfl, rfl, rfl, by simp, hsnoc⟩, ⟨by first | omega | (simp only; omega), by first | omega | (simp only; omega), by simp only [Lla, List.length_singleton]; omega, f, by first | omega | (simp only; omega), ?_⟩, by first | omega | (simp only; omega)⟩
       rw [hq, if_pos rfl]
       cases qScanF f (s.drop (q + 1 + a)) with
       | none => rfl
       | some x =>
        have : q - (p + 1) + (1 + a + x.2) = q + 1 + a - (p + 1) + x.2 := by omega
        simp [this]
     ·rw [if_neg (by omega), if_neg (by omega)] at hq
      have hsnoc : u8s b ++ [Value.int .u8 ((s.getD q 0).toNat : Int)] = u8s (b ++ [s.getD q 0]) := by rw [u8s_app]; rfl
      refine ⟨⟨by omega, by simp only [maxLen]; omega⟩, (q + 1, b ++ [s.getD q 0], v + 1), ⟨rfl, rfl, rfl, by simp, hsnoc⟩, ⟨by first | omega | (simp only; omega), by first | omega | (simp only; omega), by simp only [Lla, List.length_singleton]; omega, f, by first | omega | (simp only; omega), ?_⟩, by first | omega | (simp only; omega)⟩
      rw [hq]
      cases qScanF f (s.drop (q + 1)) with
      | none => rfl
      | some x =>
       have : q - (p + 1) + (1 + x.2) = q + 1 - (p + 1) + x.2 := by omega
       simp [this]
theorem num_end {t : List UInt8} : (!decide (((t.getD 0 0).toNat : Int) = 48) || decide ((t.length : Int) = 1)) = (decide ((t.getD 0 0).toNat ≠ 48) || decide (t.length = 1)) := by
 have e1 : decide (((t.getD 0 0).toNat : Int) = 48) = decide ((t.getD 0 0).toNat = 48) := by rw [decide_eq_decide]; omega
 have e2 : decide ((t.length : Int) = 1) = decide (t.length = 1) := by rw [decide_eq_decide]; omega
 rw [e1, e2]
 simp
theorem number_spec (s : List UInt8) (p : Nat) (m : Mem) (hg : GlobX m) (hp : p < s.length) (hs : s.length ≤ 1000000) (hd : isDigitB (s.getD p 0).toNat = true) :
  FnH Tryz.prog 187 [.box 0 0] ⟨[scB s p], []⟩ m fun r H' m' => m' = m ∧
   r = .tup [Tk.sv ⟨if (numL (s.drop p)).1 = true then 4 else 3, [], (numL (s.drop p)).2.1, p⟩, .v (.bool (numL (s.drop p)).2.2.2)] ∧ H' = ⟨[scB s (p + (numL (s.drop p)).2.2.1 : Nat)], []⟩ := by
 refine enter cf7 pu7 Tryz.func187 rfl rfl (by kernel_rfl) rfl ?_ ?_
 ·simp only [go_sem, ↓tfi, ↓fti, ↓reduceIte]
 ·simp only [go_sem, ↓tfi, ↓fti, ↓reduceIte]
  refine WP_loop pu7 (fun k : Nat => ⟨[⟨0, [], .box 0 0⟩, ⟨2, [], .box 1 0⟩, ⟨4, [], .v (.int .i64 p)⟩], [], [⟨1, 50, Tk0.cells⟩, scB s k], [], 2, m⟩)
   (fun k => p ≤ k ∧ k ≤ s.length ∧ p + digL (s.drop p) = k + digL (s.drop k)) (fun k => s.length - k) p (by kernel_rfl) (fun _ _ => Nnr _) (fun _ _ => .inl rfl) (fun _ => ?_) ?_ ?_ ?_
  ·simp only [go_sem, ↓tfi, ↓fti, ↓reduceIte]
  ·simp only [go_sem, ↓tfi, ↓fti, ↓reduceIte]
  ·exact ⟨Nnr _, by omega, rfl⟩
  ·rintro k ⟨hpk, hk, hdk⟩
   simp only [go_sem, ↓tfi, ↓fti, ↓reduceIte]
   refine WP_drawQ pu7 (by kernel_rfl) (by kernel_rfl) (by kernel_rfl) ?_
   simp only [go_sem, ↓tfi, ↓fti, ↓reduceIte]
   refine ⟨fun h => ⟨by omega, h⟩, fun h => ⟨by unfold I64; omega, k + 1, rfl, ⟨by omega, by omega, ?_⟩, by omega⟩, fun h => ?_⟩
   ·have e : digL (s.drop k) = 1 + digL (s.drop (k + 1)) := by
     rw [drop_at (by omega)]; simp only [digL]; rw [if_pos h.2]
    omega
   ·have hend : digL (s.drop k) = 0 := by
     rcases h with h | h
     ·rw [List.drop_of_length_le (by omega)]; rfl
     ·rcases Nat.lt_or_ge k s.length with h' | h'
      ·rw [drop_at h']; simp only [digL]; rw [h]; rfl
      ·rw [List.drop_of_length_le h']; rfl
    have hk0 : k = p + digL (s.drop p) := by omega
    have hpos : p < k := by
     rw [hk0, drop_at hp]; simp only [digL]; rw [if_pos hd]; omega
    clear hdk h hend
    have hna := num_at hp hk hk0 hpos
    have hdt := hna.1
    have hdl := hna.2.1
    have hnum := hna.2.2
    have hps := parseInt_spec (numT s p) m hg (by rw [hdl]; omega)
    refine WP_drawQ pu7 (by kernel_rfl) (by kernel_rfl) (by kernel_rfl) ?_
    simp only [go_sem, ↓tfi, ↓fti, ↓reduceIte, hdt]
    refine ⟨⟨by omega, by omega, by omega⟩, ?_⟩
    refine WP_drawQ pu7 (by kernel_rfl) (by kernel_rfl) (by kernel_rfl) ?_
    simp only [go_sem, ↓tfi, ↓fti, ↓reduceIte, hdt]
    refine ⟨fun h => ⟨by omega, h⟩, fun h => ⟨by unfold I64; omega, by kernel_rfl, FnV_of (hps.mono ?_)⟩, fun h => cvl (hps.mono ?_)⟩
    ·rintro r H' m' hm ⟨⟨e, rfl, he1, he2⟩, rfl, rfl⟩
     clear hps
     rcases he1 with rfl | ⟨te, ve, rfl⟩
     ·simp only [go_sem, ↓tfi, ↓fti, ↓reduceIte]
      refine WP_draw (.hoist 0 (.hoist 1 (.hoist 2 (.hoist 3 (.hoist 4 (.hoist 5 (.hoist 6 (.hoist 7 (.hoist 8 (.hoist 9 (.hoist 10 (.hoist 11 (.hoist 12 (.hoist 13 (.hoist 14 (.hoist 15 (.hoist 16 (.hoist 17 (.hoist 18 (.alt 19 [18, 17, 16, 15, 14] (.hoist 20 .done) .stop)))))))))))))))))))) pu7 (by kernel_rfl) (by kernel_rfl) ?_
      simp only [go_sem, ↓tfi, ↓fti, ↓reduceIte, hnum]
      have hp2 : (parseN (numT s p)).2 = true := he2.symm
      refine ⟨.inl rfl, fun _ => by rw [hdl]; omega, ?_, ?_⟩
      ·rw [if_pos h, if_pos h, hp2, Bool.true_and, num_end]
      ·rw [if_pos h]
       have : ((p + (k - p + 1) : Nat) : Int) = k + 1 := by omega
       rw [this]
     ·simp only [go_sem, ↓tfi, ↓fti, ↓reduceIte]
      refine WP_draw (.hoist 0 (.hoist 1 (.hoist 2 (.hoist 3 (.hoist 4 (.hoist 5 (.hoist 6 (.hoist 7 (.hoist 8 (.hoist 9 (.hoist 10 (.hoist 11 (.hoist 12 (.hoist 13 (.hoist 14 (.hoist 15 (.hoist 16 (.hoist 17 (.hoist 18 (.alt 19 [18, 17, 16, 15, 14] (.hoist 20 .done) .stop)))))))))))))))))))) pu7 (by kernel_rfl) (by kernel_rfl) ?_
      simp only [go_sem, ↓tfi, ↓fti, ↓reduceIte, hnum]
      have hp2 : (parseN (numT s p)).2 = false := he2.symm
      refine ⟨.inr ⟨_, _, rfl⟩, ?_, ?_⟩
      ·rw [if_pos h, if_pos h, hp2]; rfl
      ·rw [if_pos h]
       have : ((p + (k - p + 1) : Nat) : Int) = k + 1 := by omega
       rw [this]
    ·rintro r H' m' hm ⟨⟨e, rfl, he1, he2⟩, rfl, rfl⟩
     clear hps
     rcases he1 with rfl | ⟨te, ve, rfl⟩
     ·simp only [go_sem, ↓tfi, ↓fti, ↓reduceIte]
      refine WP_draw (.hoist 0 (.hoist 1 (.hoist 2 (.hoist 3 (.hoist 4 (.hoist 5 (.hoist 6 (.hoist 7 (.hoist 8 (.hoist 9 (.hoist 10 (.hoist 11 (.hoist 12 (.hoist 13 (.hoist 14 (.hoist 15 (.hoist 16 (.hoist 17 (.hoist 18 (.alt 19 [18, 17, 16, 15, 14] (.hoist 20 .done) .stop)))))))))))))))))))) pu7 (by kernel_rfl) (by kernel_rfl) ?_
      simp only [go_sem, ↓tfi, ↓fti, ↓reduceIte, hnum]
      have h : ¬((k : Int) < s.length ∧ (((s.getD k 0).toNat : Nat) : Int) = 76) := fun x => h.elim (fun y => y x.1) (fun y => y x.2)
      have hp2 : (parseN (numT s p)).2 = true := he2.symm
      refine ⟨.inl rfl, fun _ => by rw [hdl]; omega, ?_, ?_⟩
      ·rw [if_neg h, if_neg h, hp2, Bool.true_and, num_end]
      ·rw [if_neg h]
       have : ((p + (k - p) : Nat) : Int) = k := by omega
       rw [this]
     ·simp only [go_sem, ↓tfi, ↓fti, ↓reduceIte]
      refine WP_draw (.hoist 0 (.hoist 1 (.hoist 2 (.hoist 3 (.hoist 4 (.hoist 5 (.hoist 6 (.hoist 7 (.hoist 8 (.hoist 9 (.hoist 10 (.hoist 11 (.hoist 12 (.hoist 13 (.hoist 14 (.hoist 15 (.hoist 16 (.hoist 17 (.hoist 18 (.alt 19 [18, 17, 16, 15, 14] (.hoist 20 .done) .stop)))))))))))))))))))) pu7 (by kernel_rfl) (by kernel_rfl) ?_
      simp only [go_sem, ↓tfi, ↓fti, ↓reduceIte, hnum]
      have h : ¬((k : Int) < s.length ∧ (((s.getD k 0).toNat : Nat) : Int) = 76) := fun x => h.elim (fun y => y x.1) (fun y => y x.2)
      have hp2 : (parseN (numT s p)).2 = false := he2.symm
      refine ⟨.inr ⟨_, _, rfl⟩, ?_, ?_⟩
      ·rw [if_neg h, if_neg h, hp2]; rfl
      ·rw [if_neg h]
       have : ((p + (k - p) : Nat) : Int) = k := by omega
       rw [this]
theorem idS_len (l : List UInt8) (hl : l.length ≤ 1000000) : BL (idS l) := by
 have h := rep_len (l.take (idN l)) [58, 58] [47] (by simp) (by rw [List.length_take]; omega)
 rw [List.length_take] at h
 simp only [Llc, Lln] at h
 unfold BL idS
 omega
theorem identifier_spec (s : List UInt8) (p : Nat) (m : Mem) (hg : GlobX m) (hp : p < s.length) (hs : s.length ≤ 1000000) :
  FnH Tryz.prog 185 [.box 0 0] ⟨[scB s p], []⟩ m fun r H' m' => m.le m' ∧
   r = .tup [Tk.sv ⟨if keywordsL.contains (idS (s.drop p)) = true then 2 else 1, idS (s.drop p), 0, p⟩, .v (.bool (isName (idS (s.drop p))))] ∧ H' = ⟨[scB s (p + idN (s.drop p) : Nat)], []⟩ := by
 refine enter cf7 pu7 Tryz.func185 rfl rfl (by kernel_rfl) rfl ?_ ?_
 ·simp only [go_sem, ↓tfi, ↓fti, ↓reduceIte]
 ·simp only [go_sem, ↓tfi, ↓fti, ↓reduceIte]
  refine WP_draw (.hoist 0 (.hoist 1 (.hoist 2 (.hoist 3 (.hoist 4 (.hoist 5 (.hoist 6 (.hoist 7 (.hoist 8 (.alt 9 [3, 2, 1, 0] (.hoist 10 (.hoist 11 (.hoist 12 (.alt 13 [] .done .stop)))) .stop)))))))))) pu7 (by kernel_rfl) (by kernel_rfl) ?_
  simp only [go_sem, ↓tfi, ↓fti, ↓reduceIte]
  have hpl := part_le true (s.drop p)
  rw [List.length_drop] at hpl
  refine cvl ((part_spec s p p m (by omega) (by omega) (by omega)).mono ?_)
  rintro r H' m' hm ⟨rfl, rfl, rfl⟩
  simp only [go_sem, ↓tfi, ↓fti, ↓reduceIte]
  refine ⟨by unfold I64; omega, ?_⟩
  refine WP_loopX pu7 (fun x : Nat × Nat => ⟨[⟨0, [], .box 0 0⟩, ⟨2, [], .box 1 0⟩, ⟨3, [], .v (.bool false)⟩, ⟨4, [], .v (.int .i64 p)⟩], [], [⟨1, 50, Tk0.cells⟩, scB s x.1], [], 3, m'⟩)
   (fun x => p ≤ x.1 ∧ x.1 ≤ s.length ∧ s.length - x.1 < x.2 ∧ p + idN (s.drop p) = x.1 + idRF x.2 (s.drop x.1)) (fun x => s.length - x.1) (p + partL true (s.drop p), (s.drop p).length + 1)
   (fun _ : Unit => ⟨[⟨0, [], .box 0 0⟩, ⟨2, [], .box 1 0⟩, ⟨3, [], .v (.bool false)⟩, ⟨4, [], .v (.int .i64 p)⟩], [], [⟨1, 50, Tk0.cells⟩, scB s (p + idN (s.drop p) : Nat)], [], 3, m'⟩) (fun _ => p + idN (s.drop p) ≤ s.length)
   (by kernel_rfl) (fun _ _ => Nnr _) (fun _ _ => .inl rfl) (fun _ => ?_) ?_ ?_ (fun _ _ => Nnr _) (fun _ _ => .inl rfl) (fun _ => ?_) (fun _ hJ => ?_) ?_
  ·simp only [go_sem, ↓tfi, ↓fti, ↓reduceIte]
  ·simp only [go_sem, ↓tfi, ↓fti, ↓reduceIte]
   rfl
  ·refine ⟨Nat.le_add_right _ _, by omega, by rw [List.length_drop]; simp only; omega, ?_⟩
   simp only [idN, List.drop_drop]
   omega
  ·simp only [go_sem, ↓tfi, ↓fti, ↓reduceIte]
  ·simp only [go_sem, ↓tfi, ↓fti, ↓reduceIte]
   have et : (s.take (p + idN (s.drop p))).drop p = (s.drop p).take (idN (s.drop p)) := by
    rw [List.drop_take]; congr 1; omega
   have hrep := replace_spec ((s.drop p).take (idN (s.drop p))) [58, 58] [47] m' hg.1 (by rw [List.length_take, List.length_drop]; omega) (by simp) (by simp)
   have eS : Lib.replaceAll ((s.drop p).take (idN (s.drop p))) [58, 58] [47] = idS (s.drop p) := rfl
   have hnl : BL (idS (s.drop p)) := idS_len _ (by rw [List.length_drop]; omega)
   refine WP_draw (.hoist 0 (.hoist 1 (.hoist 2 (.hoist 3 (.hoist 4 (.hoist 5 (.hoist 6 (.hoist 7 (.hoist 8 (.hoist 9 (.hoist 11 (.alt 10 [11] (.hoist 12 (.alt 13 [12, 11] (.alt 14 [] .done .stop) .stop)) (.alt 13 [11, 9, 8, 7, 6, 5, 4, 3, 2, 1, 0] (.alt 10 [11] (.hoist 12 (.alt 14 [] .done .stop)) .stop) .stop))))))))))))) pu7 (by kernel_rfl) (by kernel_rfl) ?_
   simp only [go_sem, ↓tfi, ↓fti, ↓reduceIte, et]
   refine ⟨⟨by omega, by omega, by omega⟩, cvl (hrep.mono ?_), cvl (hrep.mono ?_)⟩
   ·clear hrep
    rintro r H' m'' hm2 ⟨rfl, rfl, rfl⟩
    simp only [go_sem, ↓tfi, ↓fti, ↓reduceIte, eS]
    refine WP_draw (.hoist 1 (.hoist 2 (.alt 0 [2, 1] (.alt 3 [] .done .stop) .stop))) pu7 (by kernel_rfl) (by kernel_rfl) ?_
    simp only [go_sem, ↓tfi, ↓fti, ↓reduceIte]
    refine cvl ((keywords_spec m'').mono ?_)
    rintro r H' m3 hm3 ⟨rfl, rfl, rfl⟩
    simp only [go_sem, ↓tfi, ↓fti, ↓reduceIte]
    refine ⟨by kernel_rfl, fun ad cp m1 hm1 hcp hrd => FnV_of ((contains_spec keywordsL (idS (s.drop p)) ad 28 cp m1 hrd (by decide)).mono ?_)⟩
    rintro r H' m4 hm4 ⟨rfl, rfl⟩
    simp only [go_sem, ↓tfi, ↓fti, ↓reduceIte]
    refine ⟨fun hk => ?_, fun hk => ?_⟩
    ·refine WP_draw (.hoist 0 (.hoist 1 (.hoist 2 (.alt 3 [0] (.alt 4 [] (.hoist 5 .done) .stop) .stop)))) pu7 (by kernel_rfl) (by kernel_rfl) ?_
     simp only [go_sem, ↓tfi, ↓fti, ↓reduceIte]
     refine ⟨hnl, Mem.le_trans hm1 hm4, ?_⟩
     rw [if_pos hk]
    ·refine WP_draw (.hoist 0 (.hoist 1 (.hoist 2 (.alt 3 [0] (.alt 4 [] (.hoist 5 .done) .stop) .stop)))) pu7 (by kernel_rfl) (by kernel_rfl) ?_
     simp only [go_sem, ↓tfi, ↓fti, ↓reduceIte]
     refine ⟨hnl, Mem.le_trans hm1 hm4, ?_⟩
     rw [if_neg (by rw [hk]; exact Bool.false_ne_true)]
   ·clear hrep
    rintro r H' m'' hm2 ⟨rfl, rfl, rfl⟩
    simp only [go_sem, ↓tfi, ↓fti, ↓reduceIte, eS]
    refine WP_draw (.hoist 1 (.hoist 2 (.alt 0 [2, 1] (.alt 3 [] .done .stop) .stop))) pu7 (by kernel_rfl) (by kernel_rfl) ?_
    simp only [go_sem, ↓tfi, ↓fti, ↓reduceIte]
    refine cvl ((keywords_spec m'').mono ?_)
    rintro r H' m3 hm3 ⟨rfl, rfl, rfl⟩
    simp only [go_sem, ↓tfi, ↓fti, ↓reduceIte]
    refine ⟨by kernel_rfl, fun ad cp m1 hm1 hcp hrd => FnV_of ((contains_spec keywordsL (idS (s.drop p)) ad 28 cp m1 hrd (by decide)).mono ?_)⟩
    rintro r H' m4 hm4 ⟨rfl, rfl⟩
    simp only [go_sem, ↓tfi, ↓fti, ↓reduceIte]
    refine ⟨fun hk => ?_, fun hk => ?_⟩
    ·refine WP_draw (.hoist 0 (.hoist 1 (.hoist 2 (.alt 3 [0] (.alt 4 [] (.hoist 5 .done) .stop) .stop)))) pu7 (by kernel_rfl) (by kernel_rfl) ?_
     simp only [go_sem, ↓tfi, ↓fti, ↓reduceIte]
     refine ⟨hnl, Mem.le_trans hm1 hm4, ?_⟩
     rw [if_pos hk]
    ·refine WP_draw (.hoist 0 (.hoist 1 (.hoist 2 (.alt 3 [0] (.alt 4 [] (.hoist 5 .done) .stop) .stop)))) pu7 (by kernel_rfl) (by kernel_rfl) ?_
     simp only [go_sem, ↓tfi, ↓fti, ↓reduceIte]
     refine ⟨hnl, Mem.le_trans hm1 hm4, ?_⟩
     rw [if_neg (by rw [hk]; exact Bool.false_ne_true)]
  ·rintro ⟨k, f⟩ ⟨h1, h2, h3, h4⟩
   simp only at h1 h2 h3 h4
   obtain ⟨f, rfl⟩ : ∃ g, f = g + 1 := ⟨f - 1, by omega⟩
   simp only [idRF] at h4
   simp only [go_sem, ↓tfi, ↓fti, ↓reduceIte]
   refine WP_drawQ pu7 (by kernel_rfl) (by kernel_rfl) (by kernel_rfl) ?_
   simp only [go_sem, ↓tfi, ↓fti, ↓reduceIte]
   refine ⟨⟨by omega, by omega, by omega⟩, fun h => ?_, fun h => ?_⟩
   ·have hk2 : k + 2 ≤ s.length := by
     have := pre_len h
     rw [List.length_drop] at this
     simp only [Llc, Lln] at this
     omega
    have hpl2 := part_le true (s.drop (k + 2))
    rw [List.length_drop] at hpl2
    rw [List.drop_drop, List.drop_drop] at h4
    have e2 : ((k : Int) + 2).toNat = k + 2 := by omega
    refine ⟨by unfold I64; omega, by kernel_rfl, FnV_of ((part_spec s k (k + 2) m' (by omega) (by omega) (by omega)).mono ?_)⟩
    rintro r H' m'' hm2 ⟨rfl, rfl, rfl⟩
    simp only [go_sem, ↓tfi, ↓fti, ↓reduceIte, e2]
    refine ⟨fun h0 => ⟨(), ?_, ?_⟩, fun h0 => ⟨by unfold I64; omega, by unfold I64; omega, (k + (2 + partL true (s.drop (k + 2))), f), by simp only; omega, ⟨by simp only; omega, by simp only; omega, by simp only; omega, ?_⟩, by simp only; omega⟩⟩
    ·rw [if_neg (by rintro ⟨_, x⟩; exact x (by omega))] at h4
     rw [h4]; rfl
    ·rw [if_neg (by rintro ⟨_, x⟩; exact x (by omega))] at h4
     omega
    ·rw [if_pos ⟨h, by omega⟩] at h4
     simp only
     omega
   ·rw [if_neg (by rw [h]; rintro ⟨x, _⟩; cases x)] at h4
    exact ⟨(), by rw [h4]; rfl, by omega⟩
def NOut (s : List UInt8) (p : Nat) (o : Option (Int × List UInt8 × Int × Nat)) (r : SV) (H' : Hp) : Prop :=
 match o with
 | some (k, t, n, len) => r = .tup [Tk.sv ⟨k, t, n, p⟩, .v (.bool true)] ∧ H' = ⟨[scB s (p + len : Nat)], []⟩
 | none => ∃ t q, r = .tup [Tk.sv t, .v (.bool false)] ∧ H' = ⟨[scB s q], []⟩
def NRes (s : List UInt8) (p : Nat) (m : Mem) (r : SV) (H' : Hp) (m' : Mem) : Prop :=
 m.le m' ∧ ∃ (t : Tk) (b : Bool) (q : Int), r = .tup [Tk.sv t, .v (.bool b)] ∧ H' = ⟨[scB s q], []⟩ ∧ NOut s p (tokL (s.drop p)) (.tup [Tk.sv t, .v (.bool b)]) ⟨[scB s q], []⟩
theorem next_id {s : List UInt8} {p : Nat} {m m' : Mem} {r : SV} {H' : Hp} (hp : p < s.length) (h1 : isStartB (s.getD p 0).toNat = true)
  (h : m.le m' ∧ r = .tup [Tk.sv ⟨if keywordsL.contains (idS (s.drop p)) = true then 2 else 1, idS (s.drop p), 0, p⟩, .v (.bool (isName (idS (s.drop p))))] ∧ H' = ⟨[scB s (p + idN (s.drop p) : Nat)], []⟩) : NRes s p m r H' m' := by
 obtain ⟨hle, rfl, rfl⟩ := h
 refine ⟨hle, _, _, _, rfl, rfl, ?_⟩
 have e : tokL (s.drop p) = if isName (idS (s.drop p)) = true then some (if keywordsL.contains (idS (s.drop p)) = true then 2 else 1, idS (s.drop p), 0, idN (s.drop p)) else none := by
  rw [drop_at hp]
  show (if isStartB (s.getD p 0).toNat = true then _ else _) = _
  rw [if_pos h1]
 rw [e]
 cases hn : isName (idS (s.drop p)) with
 | true => exact ⟨rfl, rfl⟩
 | false => exact ⟨_, _, rfl, rfl⟩
theorem next_num {s : List UInt8} {p : Nat} {m m' : Mem} {r : SV} {H' : Hp} (hm : m.le m') (hp : p < s.length) (h1 : isStartB (s.getD p 0).toNat = false) (h2 : isDigitB (s.getD p 0).toNat = true)
  (h : m' = m ∧ r = .tup [Tk.sv ⟨if (numL (s.drop p)).1 = true then 4 else 3, [], (numL (s.drop p)).2.1, p⟩, .v (.bool (numL (s.drop p)).2.2.2)] ∧ H' = ⟨[scB s (p + (numL (s.drop p)).2.2.1 : Nat)], []⟩) : NRes s p m r H' m' := by
 obtain ⟨_, rfl, rfl⟩ := h
 refine ⟨hm, _, _, _, rfl, rfl, ?_⟩
 have e : tokL (s.drop p) = if (numL (s.drop p)).2.2.2 = true then some (if (numL (s.drop p)).1 = true then 4 else 3, [], (numL (s.drop p)).2.1, (numL (s.drop p)).2.2.1) else none := by
  rw [drop_at hp]
  show (if isStartB (s.getD p 0).toNat = true then _ else if isDigitB (s.getD p 0).toNat = true then _ else _) = _
  rw [if_neg (by rw [h1]; exact Bool.false_ne_true), if_pos h2]
 rw [e]
 cases hn : (numL (s.drop p)).2.2.2 with
 | true => exact ⟨rfl, rfl⟩
 | false => exact ⟨_, _, rfl, rfl⟩
theorem next_quo {s : List UInt8} {p : Nat} {m m' : Mem} {r : SV} {H' : Hp} (hm : m.le m') (hp : p < s.length) (h1 : isStartB (s.getD p 0).toNat = false) (h2 : isDigitB (s.getD p 0).toNat = false) (h3 : (((s.getD p 0).toNat : Nat) : Int) = 34)
  (h : m' = m ∧ QOut s p (qScan (s.drop (p + 1))) r H') : NRes s p m r H' m' := by
 obtain ⟨_, h⟩ := h
 have e : tokL (s.drop p) = match qScan (s.drop (p + 1)) with
   | some (b, n) => if b.length ≤ 1024 then some (5, b, 0, 1 + n) else none
   | none => none := by
  rw [drop_at hp]
  show (if isStartB (s.getD p 0).toNat = true then _ else if isDigitB (s.getD p 0).toNat = true then _ else if (s.getD p 0).toNat = 34 then _ else _) = _
  rw [if_neg (by rw [h1]; exact Bool.false_ne_true), if_neg (by rw [h2]; exact Bool.false_ne_true), if_pos (by omega)]
  first | done | rfl
 unfold NRes
 rw [e]
 cases hq : qScan (s.drop (p + 1)) with
 | none =>
  rw [hq] at h
  obtain ⟨t, q, rfl, rfl⟩ := h
  exact ⟨hm, t, false, q, rfl, rfl, t, q, rfl, rfl⟩
 | some x =>
  obtain ⟨b, n⟩ := x
  rw [hq] at h
  obtain ⟨rfl, rfl⟩ := h
  refine ⟨hm, _, _, _, rfl, rfl, ?_⟩
  by_cases hb : b.length ≤ 1024
  ·simp only [if_pos hb, decide_eq_true hb]
   exact ⟨rfl, by rw [Nat.add_assoc]⟩
  ·simp only [if_neg hb, decide_eq_false hb]
   exact ⟨_, _, rfl, rfl⟩
theorem next_op {s : List UInt8} {p : Nat} {m m' : Mem} {r : SV} {H' : Hp} (hm : m.le m') (hp : p < s.length) (h1 : isStartB (s.getD p 0).toNat = false) (h2 : isDigitB (s.getD p 0).toNat = false) (h3 : ¬ (((s.getD p 0).toNat : Nat) : Int) = 34)
  (h : m' = m ∧ match signAt (s.drop p) with
   | some o => r = .tup [Tk.sv ⟨6, o, 0, p⟩, .v (.bool true)] ∧ H' = ⟨[scB s (p + o.length)], []⟩
   | none => r = .tup [Tk.sv Tk0, .v (.bool false)] ∧ H' = ⟨[scB s p], []⟩) : NRes s p m r H' m' := by
 obtain ⟨_, h⟩ := h
 have e : tokL (s.drop p) = (signAt (s.drop p)).map fun o => (6, o, 0, o.length) := by
  rw [drop_at hp]
  show (if isStartB (s.getD p 0).toNat = true then _ else if isDigitB (s.getD p 0).toNat = true then _ else if (s.getD p 0).toNat = 34 then _ else _) = _
  rw [if_neg (by rw [h1]; exact Bool.false_ne_true), if_neg (by rw [h2]; exact Bool.false_ne_true), if_neg (by omega)]
 unfold NRes
 rw [e]
 cases hq : signAt (s.drop p) with
 | none =>
  rw [hq] at h
  obtain ⟨rfl, rfl⟩ := h
  exact ⟨hm, Tk0, false, p, rfl, rfl, Tk0, p, rfl, rfl⟩
 | some o =>
  rw [hq] at h
  obtain ⟨rfl, rfl⟩ := h
  exact ⟨hm, _, _, _, rfl, rfl, rfl, rfl⟩
theorem next_spec (s : List UInt8) (p : Nat) (m : Mem) (hg : GlobX m) (hp : p < s.length) (hs : s.length ≤ 1000000) :
  FnH Tryz.prog 125 [.box 0 0] ⟨[scB s p], []⟩ m fun r H' m' => NRes s p m r H' m' := by
 refine enter cf7 pu7 Tryz.func125 rfl rfl (by kernel_rfl) rfl ?_ ?_
 ·simp only [go_sem, ↓tfi, ↓fti, ↓reduceIte]
 ·simp only [go_sem, ↓tfi, ↓fti, ↓reduceIte]
  refine WP_drawQ pu7 (by kernel_rfl) (by kernel_rfl) (by kernel_rfl) ?_
  simp only [go_sem, ↓tfi, ↓fti, ↓reduceIte]
  refine ⟨by omega, fun h1 => cvl (((identifier_spec s p m hg hp hs).mono fun r H' m' hm h => next_id hp h1 h).mono ?_), fun h1 => ⟨fun h2 => cvl (((number_spec s p m hg hp hs h2).mono fun r H' m' hm h => next_num hm hp h1 h2 h).mono ?_),
   fun h2 => ⟨fun h3 => cvl (((quoted_spec s p m hp hs).mono fun r H' m' hm h => next_quo hm hp h1 h2 h3 h).mono ?_), fun h3 => cvl (((yoperator_spec s p m (by omega) hs).mono fun r H' m' hm h => next_op hm hp h1 h2 h3 h).mono ?_)⟩⟩⟩
  all_goals
   rintro r H' m' hm ⟨hle, t, b, q, rfl, rfl, hN⟩
   simp only [go_sem, ↓tfi, ↓fti, ↓reduceIte]
   exact ⟨hle, t, b, q, rfl, rfl, hN⟩
theorem NOut_no {s : List UInt8} {p : Nat} {o : Option (Int × List UInt8 × Int × Nat)} {t : Tk} {q : Int} (h : NOut s p o (.tup [Tk.sv t, .v (.bool false)]) ⟨[scB s q], []⟩) : o = none := by
 cases o with
 | none => rfl
 | some x =>
  obtain ⟨k, tt, n, len⟩ := x
  have h1 := h.1
  simp at h1
theorem NOut_yes {s : List UInt8} {p : Nat} {o : Option (Int × List UInt8 × Int × Nat)} {t : Tk} {q : Int} (h : NOut s p o (.tup [Tk.sv t, .v (.bool true)]) ⟨[scB s q], []⟩) :
  ∃ k tt n len, o = some (k, tt, n, len) ∧ t = ⟨k, tt, n, p⟩ ∧ q = (p + len : Nat) := by
 cases o with
 | none =>
  obtain ⟨t', q', h1, _⟩ := h
  simp at h1
 | some x =>
  obtain ⟨k, tt, n, len⟩ := x
  obtain ⟨h1, h2⟩ := h
  obtain ⟨tk, ts, tn, ta⟩ := t
  simp only [Tk.sv, Tk.cells, SV.tup.injEq, List.cons.injEq, SV.agg.injEq, SV.v.injEq, Value.int.injEq, Value.string.injEq, true_and, and_true] at h1
  simp only [Hp.mk.injEq, List.cons.injEq, Bx.mk.injEq, SV.v.injEq, Value.int.injEq, true_and, and_true] at h2
  obtain ⟨rfl, h12, rfl, rfl⟩ := h1
  have := bs_inj h12
  subst this
  exact ⟨_, _, _, _, rfl, rfl, h2⟩
theorem tokenize_spec (s : List UInt8) (m : Mem) (hg : GlobX m) (hs : s.length ≤ 4611686018427387904) :
  FnH Tryz.prog 48 [.v (.string (bs s))] ⟨[], []⟩ m fun r H' m' => leM m m' ∧ ROut (tokenizeL s) r H' := by
 refine enter cf7 pu7 Tryz.func48 rfl rfl (by kernel_rfl) rfl ?_ ?_
 ·simp only [go_sem, ↓tfi, ↓fti, ↓reduceIte]
 ·simp only [go_sem, ↓tfi, ↓fti, ↓reduceIte]
  refine ⟨fun h => ?_, fun h => ?_⟩
  ·have e : tokenizeL s = ([], 0, 8) := if_pos (by omega)
   rw [e]
   exact .inr ⟨by decide, rfl, rfl, rfl⟩
  ·refine WP_adopt 5 50 4 (by decide) rfl ?_
   have hts : tokenizeL s = lexF s (s.length + 1) 0 [] := if_neg (by omega)
   refine WP_loop pu7 (fun x : Nat × List Tk × Nat × Mem => ⟨[⟨0, [], .v (.string (bs s))⟩, ⟨5, [], .vec 1 x.2.2.1⟩, ⟨6, [], .box 0 0⟩], [], [scB s x.1], [⟨1, x.2.2.1, 50, 4, x.2.1.length, tkCells x.2.1⟩], 2, x.2.2.2⟩)
    (fun x => leM m x.2.2.2 ∧ GlobX x.2.2.2 ∧ x.1 ≤ s.length ∧ x.2.1.length ≤ 5000 ∧ ∃ f, s.length - x.1 < f ∧ tokenizeL s = lexF s f x.1 x.2.1) (fun x => s.length - x.1) (0, [], 0, m) (by kernel_rfl) (fun _ _ => Nnr _) (fun x hx => hx.1) (fun _ => ?_) ?_ ?_ ?_
   ·simp only [go_sem, ↓tfi, ↓fti, ↓reduceIte]
   ·simp only [go_sem, ↓tfi, ↓fti, ↓reduceIte]
    exact ⟨rfl, rfl⟩
   ·exact ⟨.inl rfl, hg, Nat.zero_le _, Nat.zero_le _, s.length + 1, by simp only; omega, hts⟩
   ·rintro ⟨p, acc, u, mm⟩ ⟨h1, h2, h3, h4, f, h5, h6⟩
    simp only at h1 h2 h3 h4 h5 h6
    obtain ⟨f, rfl⟩ : ∃ g, f = g + 1 := ⟨f - 1, by omega⟩
    simp only [lexF] at h6
    have hsk := skip_le false (s.drop p)
    rw [List.length_drop] at hsk
    have hbl := blank_spec s p mm h3 (by omega)
    obtain ⟨q, hq⟩ : ∃ q, p + skipW false (s.drop p) = q := ⟨_, rfl⟩
    rw [hq] at h6 hbl
    have hqs : q ≤ s.length := by omega
    simp only [go_sem, ↓tfi, ↓fti, ↓reduceIte]
    refine cvl (hbl.mono ?_)
    rintro r H' m' hm ⟨rfl, rfl, rfl⟩
    clear hbl
    simp only [go_sem, ↓tfi, ↓fti, ↓reduceIte]
    refine ⟨fun hge => ⟨h1, ?_⟩, fun hlt => ⟨fun hmany => ⟨h1, ?_⟩, fun hfew => cvl ((next_spec s q m' h2 (by omega) (by omega)).mono ?_)⟩⟩
    ·rw [h6, if_pos (by omega)]
     exact .inl ⟨rfl, _, _, rfl, rfl⟩
    ·rw [h6, if_neg (by omega), if_pos (by omega)]
     exact .inr ⟨by decide, rfl, rfl, rfl⟩
    ·rintro r H' m'' hm2 ⟨hle, t, b, qq, rfl, rfl, hN⟩
     simp only [go_sem, ↓tfi, ↓fti, ↓reduceIte, Tk.sv, Tk.cells]
     have hlm : leM m m'' := leM_trans h1 hle
     refine ⟨fun hb => ⟨hlm, ?_⟩, fun hb => ⟨⟨by omega, by simp only [maxLen]; omega⟩, ?_⟩⟩
     ·have ht := NOut_no (hb ▸ hN)
      rw [h6, if_neg (by omega), if_neg (by omega), ht]
      exact .inr ⟨by simp, rfl, rfl, rfl⟩
     ·obtain ⟨k, tt, n, len, ht, e1, e2⟩ := NOut_yes (hb ▸ hN)
      rw [ht] at h6
      rw [if_neg (by omega), if_neg (by omega)] at h6
      have hlen := tokL_len ht
      rw [List.length_drop] at hlen
      refine ⟨(q + len, acc ++ [t], u + 1, m''), ⟨rfl, e2, ⟨rfl, by simp, xtkCells_app acc t⟩, .inl rfl⟩, ⟨hlm, h2.up hle, by simp only; omega, by simp only [Lla, List.length_singleton]; omega, f, by simp only; omega, ?_⟩, by simp only; omega⟩
      rw [h6, e1]
end Go.Proofs.YtimddhkipjedcaaGreatDoor.E
namespace Go.Proofs.YtimddhkipjedcaaGreatDoor.E
open Go Go.ChangeShapes Go.WideShapes Go.ChangeAt Go.RowKit
theorem starE : "*" ++ "errors.errorString" = "*errors.errorString" := by decide
theorem hrow (u : TypeId) (h : Tryz.prog.typeName? 3 u = some "*errors.errorString") : u = 237 :=
 typeName_ptr_named (nm := "errors.errorString") (by rw [starE]; kernel_rfl) (by kernel_rfl) (by decide) u (by rw [starE]; exact h)
theorem globX_of {W : World} (hL0 : laidMetH Tryz.prog laidZ W) (hs : W.ShapedOpen Tryz.prog) : GlobX ⟨W, DoW W⟩ := by
 have hg := glob_of hL0 hs
 have hL := hL0
 rw [MakeChecks.laidMetH_plain _ _ _ (by kernel_rfl)] at hL
 have h3 := hL.tail.tail
 have ht := Lib.tabIs_of_head (P := Tryz.prog) (zs := Lib.pow10Tab) (g := 6) (t := 250) (e := 217) (n := 20) (by kernel_rfl) (by kernel_rfl) (by kernel_rfl) (by kernel_rfl) (by kernel_rfl) (by kernel_rfl) h3
 obtain ⟨a5, _, v5, _⟩ := laid_sentinel (P := Tryz.prog) (g := 3) (ti := 195) (tp := 237) (te := 239) (ts := 9) h3.tail.tail (by kernel_rfl) (by kernel_rfl) Tryz.underlying195 hrow Tryz.underlying237 Tryz.underlying239 rfl rfl (by kernel_rfl) (by kernel_rfl) (by kernel_rfl)
 obtain ⟨a4, _, v4, _⟩ := laid_sentinel (P := Tryz.prog) (g := 2) (ti := 195) (tp := 237) (te := 239) (ts := 9) h3.tail.tail.tail (by kernel_rfl) (by kernel_rfl) Tryz.underlying195 hrow Tryz.underlying237 Tryz.underlying239 rfl rfl (by kernel_rfl) (by kernel_rfl) (by kernel_rfl)
 obtain ⟨k, hk⟩ := g1 W hs
 refine ⟨hg, fun w D hle => ?_⟩
 exact ⟨⟨k, DoW_cell hle hk⟩, ⟨_, _, DoW_cell hle (by rw [World.var?_cell (by kernel_rfl) v4 0]; rfl)⟩, ⟨_, _, DoW_cell hle (by rw [World.var?_cell (by kernel_rfl) v5 0]; rfl)⟩, DoW_var hle ht⟩
theorem returns_of {H : Type} {enc : TypeId × Value → H} {a : Assume} {C : Checked} {os : Os} {f : FuncId} {fn : Func} {s : ChangeSpec} {conds : List PathCond} {apart fresh handsOn again : Bool} {X : World → Array Value → Prop}
  (hX : ∀ (w w' : World) (args : Array Value), w.heap = w'.heap → X w args → X w' args)
  (own : ownKnob C.prog.godebug = none) (started : os.Started) (noInit : C.prog.inits.idxOf? f = none) (hfn : C.prog.funcs[f]? = some fn)
  (witness : ∃ (w : World) (tape : Tape) (i : Input), w.os = os ∧ (w.forCall tape i).Shaped C.prog ∧ i.vars = [] ∧ Input.okWide C.prog (w.forCall tape i) .any w.heap.size f i ∧
   ((s.pre enc C.prog fn conds apart (w.forCall tape i).memory i.args ∧ X (w.forCall tape i).memory i.args) ∧ sizedMet enc C.prog fn (OpenSpec.ofChange s) apart (w.forCall tape i).memory i.args) ∧ a.holds C.prog (lone (Frame.enter C.prog f i.args .normal) [] (w.forCall tape i)))
  (contract : ∀ (W : World) (base : Nat) (args : Array Value) (ds gs : List (DataW H)) (before : List MemPlace),
   (∀ (j : Nat) t v, fn.params[j]? = some t → args[j]? = some v → Value.okWide C.prog W .any base t v) →
   DataW.Whole enc C.prog fn.params.toList s.vars apart W args.toList ds gs before → X W args → W.ShapedOpen C.prog →
   (DataW.weightsEach C.prog (fn.params.toList ++ s.plain.varTypes C.prog) (ds ++ gs)).all (· ≤ reachBytes) = true →
   Calls C.prog f args W fun e W' => ∃ v, e = .returned v ∧ s.post enc C.prog fn apart fresh handsOn again W args v W') :
  ReturnsInHanded a C os f .any (fun w args => (s.pre enc C.prog fn conds apart w args ∧ X w args) ∧ sizedMet enc C.prog fn (OpenSpec.ofChange s) apart w args) (s.post enc C.prog fn apart fresh handsOn again) := by
 refine returnsInHanded_of_calls own started noInit witness ?_
 intro w tape i _ hsh _ hok hpre hholds
 obtain ⟨_, _, _, fn', hfn', _, _, _, _, hval⟩ := hok
 have e : fn' = fn := Option.some.inj (hfn'.symm.trans hfn)
 subst e
 obtain ⟨⟨⟨ds, gs, before, hw, hc⟩, hx⟩, hz⟩ := hpre
 have hw' := DataW.Whole.of_heap (w' := w.forCall tape i) (by rfl) hw
 refine (contract (w.forCall tape i) w.heap.size i.args ds gs before hval hw' (hX _ _ _ (by rfl) hx) hsh (hz.weights hw)).mono fun e W' ⟨v, he, hp⟩ => ?_
 subst he
 exact ChangeSpec.post_blind hp
theorem zeroPr : zeroO Tryz.prog 62 = some [.v (.slice none 0 0), .v (.int .i64 0), .v (.int .i64 0), .v (.bool false), .v (.int .i64 0)] := by kernel_rfl
theorem aggPr : aggN Tryz.prog 62 = some (some 5) := by kernel_rfl
theorem szPr : szT Tryz.prog 62 = 5 := by kernel_rfl
theorem fldPr_0 : fldO Tryz.prog 62 0 = some (0, none, 1) := by kernel_rfl
theorem fldPr_1 : fldO Tryz.prog 62 1 = some (1, none, 1) := by kernel_rfl
theorem fldPr_2 : fldO Tryz.prog 62 2 = some (2, none, 1) := by kernel_rfl
theorem fldPr_3 : fldO Tryz.prog 62 3 = some (3, none, 1) := by kernel_rfl
theorem fldPr_4 : fldO Tryz.prog 62 4 = some (4, none, 1) := by kernel_rfl
theorem bldPr : bldOk Tryz.prog 62 = true := by kernel_rfl
theorem aggTl : aggN Tryz.prog 45 = some none := by kernel_rfl
theorem aggBo : aggN Tryz.prog 4 = some none := by kernel_rfl
theorem szBo : szT Tryz.prog 4 = 1 := by kernel_rfl
attribute [go_sem] aggBo szBo aggTl zeroPr aggPr szPr fldPr_0 fldPr_1 fldPr_2 fldPr_3 fldPr_4 bldPr tkC
structure PSt where
 i : Nat
 fl : Bool
 off : Int
abbrev pH (ts : List Tk) (en : Int) (s : PSt) : Hp := ⟨[⟨0, 62, [.vec 1 0, .v (.int .i64 s.i), .v (.int .i64 en), .v (.bool s.fl), .v (.int .i64 s.off)]⟩], [⟨1, 0, 50, 4, ts.length, tkCells ts⟩]⟩
abbrev tkS (t : Tk) : SV := .agg [.v (.int .i64 t.k), .v (.string (bs t.s)), .v (.int .i64 t.n), .v (.int .i64 t.at_)]
def zT : Tk := ⟨0, [], 0, 0⟩
def curT (ts : List Tk) (i : Nat) : Tk := ts.getD i zT
theorem cur_cells {ts : List Tk} {i : Nat} (h : i < ts.length) : ((tkCells ts).drop (i * 4)).take 4 = tkC (curT ts i) := by
 induction ts generalizing i with
 | nil => cases h
 | cons t r ih =>
  cases i with
  | zero => simp [tkCells, tkC, curT]
  | succ i =>
   have := ih (i := i) (by simpa using h)
   have e : tkCells (t :: r) = tkC t ++ tkCells r := by simp [tkCells, tkC]
   have e2 : curT (t :: r) (i + 1) = curT r i := rfl
   rw [e2, e, show (i + 1) * 4 = 4 + i * 4 by omega, ← List.drop_drop]
   exact this
theorem peek_spec (ts : List Tk) (en : Int) (s : PSt) (m : Mem) (hn : ts.length ≤ 100000000) : FnH Tryz.prog 151 [.box 0 0] (pH ts en s) m fun r H' _ => r = tkS (curT ts s.i) ∧ H' = pH ts en s := by
 refine enter cfN puN Tryz.func151 rfl rfl (by kernel_rfl) rfl ?_ ?_
 ·simp only [go_sem, ↓tfi, ↓fti, ↓reduceIte]
 ·simp only [go_sem, ↓tfi, ↓fti, ↓reduceIte]
  refine WP_draw (.hoist 0 (.hoist 1 (.hoist 2 (.hoist 3 (.hoist 4 (.hoist 5 (.hoist 6 (.hoist 7 (.hoist 8 (.hoist 9 .done)))))))))) puN (by kernel_rfl) (by kernel_rfl) ?_
  simp only [go_sem, ↓tfi, ↓fti, ↓reduceIte]
  refine ⟨fun h => ?_, fun h => ?_⟩
  ·have hi : s.i < ts.length := by omega
   have hc := cur_cells hi
   refine WP_draw (.hoist 0 (.hoist 1 (.hoist 2 (.hoist 3 (.hoist 4 (.hoist 5 (.hoist 6 (.hoist 7 (.hoist 8 (.hoist 9 (.alt 10 [] .done .stop))))))))))) puN (by kernel_rfl) (by kernel_rfl) ?_
   simp only [go_sem, ↓tfi, ↓fti, ↓reduceIte, hc]
   exact ⟨⟨by omega, h⟩, by have : (tkCells ts).length = ts.length * 4 := tk_len ts; omega⟩
  ·have : curT ts s.i = zT := by rw [curT, List.getD_eq_getElem?_getD, List.getElem?_eq_none (by omega)]; rfl
   rw [this]
   rfl
def isC (ts : List Tk) (i : Nat) (w : List UInt8) : Bool := (decide ((curT ts i).k = 2) || decide ((curT ts i).k = 6)) && decide ((curT ts i).s = w)
theorem pis_spec (ts : List Tk) (en : Int) (s : PSt) (w : List UInt8) (m : Mem) (hn : ts.length ≤ 100000000) : FnH Tryz.prog 74 [.box 0 0, .v (.string (bs w))] (pH ts en s) m fun r H' m' => leM m m' ∧ r = .v (.bool (isC ts s.i w)) ∧ H' = pH ts en s := by
 have hp := peek_spec ts en s m hn
 refine enter cfN puN Tryz.func74 rfl rfl (by kernel_rfl) rfl ?_ ?_
 ·simp only [go_sem, ↓tfi, ↓fti, ↓reduceIte]
 ·simp only [go_sem, ↓tfi, ↓fti, ↓reduceIte]
  refine cvl (hp.mono ?_)
  clear hp
  rintro r H' m1 hm1 ⟨rfl, rfl⟩
  simp only [go_sem, ↓tfi, ↓fti, ↓reduceIte]
  exact ⟨.inr hm1, rfl⟩
def failS (ts : List Tk) (en : Int) (s : PSt) : PSt := if s.fl = true then s else ⟨ts.length, true, if s.i < ts.length then (curT ts s.i).at_ else en⟩
theorem cur_at {ts : List Tk} {i : Nat} (h : i < ts.length) : (tkCells ts).getD (i * 4 + 3) undef = .int .i64 (curT ts i).at_ := by
 have := congrArg (fun l => l[3]?) (cur_cells h)
 simp only [List.getElem?_take, List.getElem?_drop] at this
 rw [if_pos (by decide)] at this
 rw [List.getD_eq_getElem?_getD, this]
 rfl
theorem fail_spec (ts : List Tk) (en : Int) (s : PSt) (m : Mem) (hn : ts.length ≤ 100000000) : FnH Tryz.prog 32 [.box 0 0] (pH ts en s) m fun r H' m' => r = .tup [] ∧ m' = m ∧ H' = pH ts en (failS ts en s) := by
 refine enter cfN puN Tryz.func32 rfl rfl (by kernel_rfl) rfl ?_ ?_
 ·simp only [go_sem, ↓tfi, ↓fti, ↓reduceIte]
 ·simp only [go_sem, ↓tfi, ↓fti, ↓reduceIte]
  refine ⟨fun h => by rw [failS, if_pos h], fun h => ?_⟩
  have h' : ¬ s.fl = true := by rw [h]; decide
  refine WP_draw (.hoist 0 (.hoist 1 (.hoist 2 (.hoist 3 (.hoist 4 (.hoist 5 (.hoist 6 (.hoist 7 (.hoist 8 (.hoist 9 .done)))))))))) puN (by kernel_rfl) (by kernel_rfl) ?_
  simp only [go_sem, ↓tfi, ↓fti, ↓reduceIte]
  refine ⟨fun hi => ?_, fun hi => ?_⟩
  ·have hi' : s.i < ts.length := by omega
   have hc := cur_at hi'
   refine WP_draw (.hoist 0 (.hoist 1 (.hoist 2 (.hoist 3 (.hoist 4 (.hoist 5 (.hoist 6 (.hoist 7 (.hoist 8 (.hoist 9 (.hoist 10 (.hoist 11 (.hoist 12 (.hoist 13 (.alt 14 [] .done .stop))))))))))))))) puN (by kernel_rfl) (by kernel_rfl) ?_
   simp only [go_sem, ↓tfi, ↓fti, ↓reduceIte, hc]
   have hl := tk_len ts
   rw [failS, if_neg h', if_pos hi']
   exact ⟨⟨by omega, hi⟩, by omega, by omega, rfl⟩
  ·have hi' : ¬ s.i < ts.length := by omega
   rw [failS, if_neg h', if_neg hi']
def PSt.next (s : PSt) : PSt := ⟨s.i + 1, s.fl, s.off⟩
theorem isC_lt {ts : List Tk} {i : Nat} {w : List UInt8} (h : isC ts i w = true) : i < ts.length := by
 by_cases hi : i < ts.length
 ·exact hi
 ·have e : curT ts i = zT := by rw [curT, List.getD_eq_getElem?_getD, List.getElem?_eq_none (by omega)]; rfl
  rw [isC, e] at h
  simp [zT] at h
theorem accept_spec (ts : List Tk) (en : Int) (s : PSt) (w : List UInt8) (m : Mem) (hn : ts.length ≤ 100000000) : FnH Tryz.prog 49 [.box 0 0, .v (.string (bs w))] (pH ts en s) m fun r H' m' => leM m m' ∧ r = .v (.bool (isC ts s.i w)) ∧ H' = pH ts en (if isC ts s.i w = true then s.next else s) := by
 have hp := pis_spec ts en s w m hn
 have hlt := isC_lt (ts := ts) (i := s.i) (w := w)
 refine enter cfN puN Tryz.func49 rfl rfl (by kernel_rfl) rfl ?_ ?_
 ·simp only [go_sem, ↓tfi, ↓fti, ↓reduceIte]
 ·simp only [go_sem, ↓tfi, ↓fti, ↓reduceIte]
  refine cvl (hp.mono ?_)
  clear hp
  rintro r H' m1 hm1 ⟨l1, rfl, rfl⟩
  simp only [go_sem, ↓tfi, ↓fti, ↓reduceIte]
  refine ⟨fun h => ⟨l1, ?_⟩, fun h => ?_⟩
  ·rw [h]
   exact ⟨rfl, rfl⟩
  ·have hi := hlt h
   rw [h]
   exact ⟨by unfold I64; omega, l1, rfl, rfl⟩
theorem expect_spec (ts : List Tk) (en : Int) (s : PSt) (w : List UInt8) (m : Mem) (hn : ts.length ≤ 100000000) : FnH Tryz.prog 52 [.box 0 0, .v (.string (bs w))] (pH ts en s) m fun r H' m' => leM m m' ∧ r = .tup [] ∧ H' = pH ts en (if isC ts s.i w = true then s.next else failS ts en s) := by
 have hp := accept_spec ts en s w m hn
 have hf := fun m' => fail_spec ts en s m' hn
 refine enter cfN puN Tryz.func52 rfl rfl (by kernel_rfl) rfl ?_ ?_
 ·simp only [go_sem, ↓tfi, ↓fti, ↓reduceIte]
 ·simp only [go_sem, ↓tfi, ↓fti, ↓reduceIte]
  refine cvl (hp.mono ?_)
  clear hp
  rintro r H' m1 hm1 ⟨l1, rfl, rfl⟩
  cases h : isC ts s.i w with
  | true =>
   clear hf
   simp only [go_sem, ↓tfi, ↓fti, ↓reduceIte]
   exact l1
  | false =>
   simp only [go_sem, ↓tfi, ↓fti, ↓reduceIte]
   refine cvl ((hf m1).mono ?_)
   clear hf
   rintro r H' m2 hm2 ⟨rfl, rfl, rfl⟩
   simp only [go_sem, ↓tfi, ↓fti, ↓reduceIte]
   exact l1
theorem fit_int {k : IntKind} {n : Int} {x : Value} (h : fitC (.v (.int k n)) (.v x) = true) : ∃ a, x = .int k a := by
 cases x <;> simp only [fitC] at h
 case int k' a => exact ⟨a, by have := of_decide_eq_true h; subst this; rfl⟩
 all_goals cases h
theorem fit_str {s : ByteArray} {x : Value} (h : fitC (.v (.string s)) (.v x) = true) : ∃ a, x = .string a := by
 cases x <;> simp only [fitC] at h
 case string a => exact ⟨a, rfl⟩
 all_goals cases h
theorem eq_int {k : IntKind} {a : Int} {y : Value} {e : Bool} (h : cellEq (.v (.int k a)) (.v y) = some e) : ∃ b, y = .int k b ∧ e = decide (a = b) := by
 cases y <;> simp only [cellEq] at h
 case int k' b =>
  split at h
  ·rename_i hk; subst hk; exact ⟨b, rfl, (Option.some.inj h).symm⟩
  ·cases h
 all_goals cases h
theorem eq_str {a : ByteArray} {y : Value} {e : Bool} (h : cellEq (.v (.string a)) (.v y) = some e) : ∃ b, y = .string b ∧ e = decide (tl a = tl b) := by
 cases y <;> simp only [cellEq] at h
 case string b => exact ⟨b, rfl, (Option.some.inj h).symm⟩
 all_goals cases h
theorem fitL_cons {z : SV} {zs : List SV} {xs : List Value} (h : fitL (z :: zs) (xs.map .v) = true) : ∃ x r, xs = x :: r ∧ fitC z (.v x) = true ∧ fitL zs (r.map .v) = true := by
 cases xs with
 | nil => simp [fitL] at h
 | cons x r => simp only [List.map_cons, fitL, Bbt] at h; exact ⟨x, r, rfl, h.1, h.2⟩
theorem fitL_nil {xs : List Value} (h : fitL [] (xs.map .v) = true) : xs = [] := by
 cases xs with
 | nil => rfl
 | cons x r => simp [fitL] at h
theorem cells_cons {x : Value} {xs ys : List Value} {b : Bool} (h : cellsEq ((x :: xs).map .v) (ys.map .v) = some b) : ∃ y r e e', ys = y :: r ∧ cellEq (.v x) (.v y) = some e ∧ cellsEq (xs.map .v) (r.map .v) = some e' ∧ b = (e && e') := by
 cases ys with
 | nil => simp [cellsEq] at h
 | cons y r =>
  simp only [List.map_cons, cellsEq, Option.bind_eq_some_iff, Option.map_eq_some_iff] at h
  obtain ⟨e, he, e', he', rfl⟩ := h
  exact ⟨y, r, e, e', rfl, he, he', rfl⟩
theorem cells_nil {ys : List Value} {b : Bool} (h : cellsEq [] (ys.map .v) = some b) : ys = [] ∧ b = true := by
 cases ys with
 | nil => simp only [List.map_nil, cellsEq, Option.some.injEq] at h; exact ⟨rfl, h.symm⟩
 | cons y r => simp [cellsEq] at h
def kindOk (P : Program) (t : TypeId) : SV → Bool
 | .v (.int _ _) => match P.underlying t with | some (.int _) => true | _ => false
 | .v (.string _) => match P.underlying t with | some .string => true | _ => false
 | .v (.bool _) => match P.underlying t with | some .bool => true | _ => false
 | _ => false
def eqFs (P : Program) : Nat → List SV → List Field → Bool
 | _, [], [] => true
 | off, z :: zs, f :: fs => f.name != "_" && decide (f.offset = off) && decide (aggN P f.type = some none) && kindOk P f.type z && eqFs P (off + 1) zs fs
 | _, _, _ => false
theorem run_eqCell {P : Program} {t : TypeId} {z : SV} {x y : Value} {e : Bool} {w : World} (d : Nat) (hk : kindOk P t z = true) (hf : fitC z (.v x) = true) (he : cellEq (.v x) (.v y) = some e) :
  (Op.equalIn (d + 1) t x y).run P w = .ok e w := by
 cases z with
 | v z =>
  cases z with
  | int k n =>
   obtain ⟨a, rfl⟩ := fit_int hf
   obtain ⟨b, rfl, rfl⟩ := eq_int he
   simp only [kindOk] at hk
   split at hk
   ·rename_i k' hu
    rw [run_equalIn_int w d t k k' a b hu, Bool.beq_eq_decide_eq]
   ·cases hk
  | string n =>
   obtain ⟨a, rfl⟩ := fit_str hf
   obtain ⟨b, rfl, rfl⟩ := eq_str he
   simp only [kindOk] at hk
   split at hk
   ·rename_i hu
    rw [run_equalIn_string w d t a b hu, toList_tl, toList_tl, Bool.beq_eq_decide_eq]
   ·cases hk
  | bool n =>
   cases x <;> simp only [fitC] at hf
   case bool a =>
    cases y <;> simp only [cellEq] at he
    case bool b =>
     cases he
     simp only [kindOk] at hk
     split at hk
     ·rename_i hu
      rw [run_equalIn_bool' w d t a b hu]
     ·cases hk
    all_goals cases he
   all_goals cases hf
  | _ => cases hk
 | _ => cases hk
theorem run_eqFs {P : Program} {d : Nat} {w : World} {cs ds : List Value} : ∀ {fs : List Field} {zs : List SV} {off : Nat} {us vs : List Value} {b : Bool},
  eqFs P off zs fs = true → fitL zs (us.map .v) = true → cellsEq (us.map .v) (vs.map .v) = some b → cs.drop off = us → ds.drop off = vs → (Op.eqFields (d + 1) ⟨cs⟩ ⟨ds⟩ fs).run P w = .ok b w
 | [], zs, off, us, vs, b, h, hf, he, hu, hv => by
  cases zs with
  | nil =>
   cases fitL_nil hf
   rw [List.map_nil] at he
   obtain ⟨_, rfl⟩ := cells_nil he
   rfl
  | cons z zs => cases h
 | f :: fs, zs, off, us, vs, b, h, hf, he, hu, hv => by
  cases zs with
  | nil => cases h
  | cons z zs =>
   simp only [eqFs, Bbt, decide_eq_true_eq, bne_iff_ne] at h
   obtain ⟨⟨⟨⟨h1, h2⟩, h3⟩, h4⟩, h5⟩ := h
   obtain ⟨x, us', rfl, g1, g2⟩ := fitL_cons hf
   obtain ⟨y, vs', e, e', rfl, g3, g4, rfl⟩ := cells_cons he
   have hx : cs[off]? = some x := by
    have := congrArg (fun l : List Value => l[0]?) hu
    simpa using this
   have hy : ds[off]? = some y := by
    have := congrArg (fun l : List Value => l[0]?) hv
    simpa using this
   have hu' : cs.drop (off + 1) = us' := by
    have := congrArg (List.drop 1) hu
    rw [List.drop_drop] at this
    simpa [Nat.add_comm] using this
   have hv' : ds.drop (off + 1) = vs' := by
    have := congrArg (List.drop 1) hv
    rw [List.drop_drop] at this
    simpa [Nat.add_comm] using this
   subst h2
   simp only [Op.eqFields, if_pos h1, Sem.run_bind, run_part h3 (show _ from hx), run_part h3 (show _ from hy), Result.andThen_ok, run_eqCell d h4 g1 g3]
   cases e with
   | false => simp
   | true =>
    simp only [Bool.not_true, Bool.false_eq_true, if_false, Bool.true_and]
    exact run_eqFs h5 g2 g4 hu' hv'
theorem eqOk_of {P : Program} {t : TypeId} {zs : List SV} {fs : List Field} (hz : zeroO P t = some zs) (hg : P.eqGuardType P.depth t = false) (hu : P.underlying t = some (.struct (P.fieldsOf t))) (hp : P.stoodInHeld t = false)
  (hfs : (P.fieldsOf t).toList = fs) (h : eqFs P 0 zs fs = true) : EqOk P t := by
 intro xs ys b w o o' op he hf
 rw [hz] at hf
 refine ⟨run_eqGuard_agg w op t o o' _ _ hg, ?_⟩
 show (Op.equalIn (9999 + 1) t _ _).run _ w = _
 rw [run_equalIn_struct w 9999 t _ _ hu hp, hfs]
 exact run_eqFs (d := 9998) h hf he rfl rfl
theorem agg4 : aggN Tryz.prog 4 = some none := by kernel_rfl
theorem sz4 : szT Tryz.prog 4 = 1 := by kernel_rfl
theorem aggT : aggN Tryz.prog 30 = some (some 3) := by kernel_rfl
theorem szTy : szT Tryz.prog 30 = 3 := by kernel_rfl
theorem zeroT : zeroO Tryz.prog 30 = some [.v (.int .i64 0), .v (.int .u8 0), .v (.string (bs []))] := by kernel_rfl
theorem fldT_0 : fldO Tryz.prog 30 0 = some (0, none, 1) := by kernel_rfl
theorem fldT_1 : fldO Tryz.prog 30 1 = some (1, none, 1) := by kernel_rfl
theorem fldT_2 : fldO Tryz.prog 30 2 = some (2, none, 1) := by kernel_rfl
theorem bldT : bldOk Tryz.prog 30 = true := by kernel_rfl
theorem eqOkT : EqOk Tryz.prog 30 := eqOk_of zeroT (by kernel_rfl) (by kernel_rfl) (by kernel_rfl) rfl (by kernel_rfl)
theorem aggX : aggN Tryz.prog 33 = some (some 8) := by kernel_rfl
theorem szX : szT Tryz.prog 33 = 8 := by kernel_rfl
theorem zeroX : zeroO Tryz.prog 33 = some [.v (.int .i64 0), .v (.int .i64 0), .v (.string (bs [])), .v (.string (bs [])), .v (.int .i64 0), .v (.int .u8 0), .v (.string (bs [])), .v (.slice none 0 0)] := by kernel_rfl
theorem fldX_0 : fldO Tryz.prog 33 0 = some (0, none, 1) := by kernel_rfl
theorem fldX_1 : fldO Tryz.prog 33 1 = some (1, none, 1) := by kernel_rfl
theorem fldX_2 : fldO Tryz.prog 33 2 = some (2, none, 1) := by kernel_rfl
theorem fldX_3 : fldO Tryz.prog 33 3 = some (3, none, 1) := by kernel_rfl
theorem fldX_4 : fldO Tryz.prog 33 4 = some (4, some 3, 3) := by kernel_rfl
theorem fldX_5 : fldO Tryz.prog 33 5 = some (7, none, 1) := by kernel_rfl
theorem bldX : bldOk Tryz.prog 33 = true := by kernel_rfl
theorem aggLX : aggN Tryz.prog 31 = some none := by kernel_rfl
theorem szLX : szT Tryz.prog 31 = 1 := by kernel_rfl
theorem elLX : elT Tryz.prog 31 = some 33 := by kernel_rfl
theorem aggLs : aggN Tryz.prog 55 = some none := by kernel_rfl
theorem aggS : aggN Tryz.prog 165 = some (some 5) := by kernel_rfl
theorem szS : szT Tryz.prog 165 = 5 := by kernel_rfl
theorem zeroS : zeroO Tryz.prog 165 = some [.v (.bool false), .v (.bool false), .v (.bool false), .v (.int .i64 0), .v (.int .i64 0)] := by kernel_rfl
theorem fldS_0 : fldO Tryz.prog 165 0 = some (0, none, 1) := by kernel_rfl
theorem fldS_1 : fldO Tryz.prog 165 1 = some (1, none, 1) := by kernel_rfl
theorem fldS_2 : fldO Tryz.prog 165 2 = some (2, none, 1) := by kernel_rfl
theorem fldS_3 : fldO Tryz.prog 165 3 = some (3, none, 1) := by kernel_rfl
theorem fldS_4 : fldO Tryz.prog 165 4 = some (4, none, 1) := by kernel_rfl
theorem bldS : bldOk Tryz.prog 165 = true := by kernel_rfl
attribute [go_sem] agg4 sz4 aggT szTy zeroT fldT_0 fldT_1 fldT_2 bldT aggX szX zeroX fldX_0 fldX_1 fldX_2 fldX_3 fldX_4 fldX_5 bldX aggLX szLX elLX aggLs aggS szS zeroS fldS_0 fldS_1 fldS_2 fldS_3 fldS_4 bldS
def initS : List UInt8 := [60, 105, 110, 105, 116, 62]
def clinitS : List UInt8 := [60, 99, 108, 105, 110, 105, 116, 62]
def isMem (s : List UInt8) : Bool := decide (s = initS) || decide (s = clinitS) || (isName s && decide (Lib.indexByte s 47 < 0))
def identL (s : List UInt8) : Bool := isMem s && decide (s.getD 0 0 ≠ 60) && !isCls s && !keywordsL.contains s
theorem isMem_spec (s : List UInt8) (m : Mem) (hs : BL s) : FnH Tryz.prog 208 [.v (.string (bs s))] ⟨[], []⟩ m fun r H' _ => r = .v (.bool (isMem s)) ∧ H' = ⟨[], []⟩ := by
 refine enter cf6 pu6 Tryz.func208 rfl rfl (by kernel_rfl) rfl ?_ ?_
 ·simp only [go_sem, ↓tfi, ↓fti, ↓reduceIte]
 ·simp only [go_sem, ↓tfi, ↓fti, ↓reduceIte]
  refine ⟨fun h => ?_, fun h => ⟨hs, fun h1 => cvl ((indexByte_spec s 47 m).mono ?_), fun h1 => ?_⟩⟩
  ·simp only [isMem, initS, clinitS]; rcases h with h | h <;> simp [h]
  ·rintro r H' m' hm ⟨rfl, rfl⟩
   simp only [go_sem, ↓tfi, ↓fti, ↓reduceIte]
   have h2 := h.1
   have h3 := h.2
   simp [isMem, initS, clinitS, h1, h2, h3]
  ·have h2 := h.1
   have h3 := h.2
   simp [isMem, initS, clinitS, h1, h2, h3]
abbrev cfM : Cfg := mkCf (fun _ => false) [(208, pS1 BL fun s => .bool (isMem s)), (192, pS1 BL fun s => .bool (isName s)), (134, pS1 BL fun s => .bool (isCls s))]
theorem puM : PureOk cfM Tryz.prog := pure_cons (by kernel_rfl) (pureS isMem_spec) (pure_cons (by kernel_rfl) (pureS isName_spec) (pure_cons (by kernel_rfl) (pureS isCls_spec) pure_nil))
theorem isMem_ne {s : List UInt8} (h : isMem s = true) : 0 < s.length := by
 cases s with
 | nil => simp [isMem, initS, clinitS, isName, nmScan] at h
 | cons a r => simp
theorem ident_spec (s : List UInt8) (m : Mem) (hs : BL s) : FnH Tryz.prog 155 [.v (.string (bs s))] ⟨[], []⟩ m fun r H' _ => r = .v (.bool (identL s)) ∧ H' = ⟨[], []⟩ := by
 refine enter cfM puM Tryz.func155 rfl rfl (by kernel_rfl) rfl ?_ ?_
 ·simp only [go_sem, ↓tfi, ↓fti, ↓reduceIte]
 ·simp only [go_sem, ↓tfi, ↓fti, ↓reduceIte]
  have e : ∀ u : UInt8, ((u.toNat : Int) = 60) = (u = 60) := fun u => propext ⟨fun h => UInt8.toNat_inj.1 (by have : (60 : UInt8).toNat = 60 := rfl; omega), fun h => by rw [h]; rfl⟩
  simp only [e]
  refine ⟨hs, fun h => ⟨by omega, by have := isMem_ne h; omega⟩, fun _ => hs, fun h => cvl ((keywords_spec m).mono ?_), fun h => ?_⟩
  ·rintro r H' m' hm ⟨rfl, rfl, rfl⟩
   simp only [go_sem, ↓tfi, ↓fti, ↓reduceIte]
   refine ⟨by kernel_rfl, fun a c m1 hm1 hc hrd => FnV_of ((contains_spec keywordsL s a 28 c m1 hrd (by omega)).mono ?_)⟩
   rintro r H' m' hm2 ⟨rfl, rfl⟩
   have h1 := h.1.1
   have h2 := h.1.2
   have h3 := h.2
   generalize hb : keywordsL.contains s = kb
   simp only [go_sem, ↓tfi, ↓fti, ↓reduceIte]
   rw [identL, h1, h3, hb, decide_eq_true h2]
   rfl
  ·rw [identL]
   rcases h with (h | h) | h
   ·simp [h]
   ·have : decide (s.getD 0 0 ≠ 60) = false := by rw [h]; rfl
    rw [this]; simp
   ·simp [h]
def validTy (d b : Int) (s : List UInt8) : Bool := if d < 0 ∨ 8 < d then false else if b = 73 ∨ b = 74 then decide (s = []) else if b = 86 then decide (d = 0) && decide (s = []) else if b = 76 then isName s else false
def valueTy (d b : Int) (s : List UInt8) : Bool := validTy d b s && decide (b ≠ 86) && (decide (b ≠ 76) || isCls s)
def pTy (F : Int → Int → List UInt8 → Bool) : List Value → Option (Prop × Value)
 | [.agg ⟨[.int .i64 d, .int .u8 b, .string s]⟩] => some (BL (tl s), .bool (F d b (tl s)))
 | _ => none
attribute [go_sem] pTy.eq_1
theorem pureTy {P : Program} {f : FuncId} {F : Int → Int → List UInt8 → Bool} (h : ∀ d b a m, BL a → FnH P f [.v (.agg ⟨[.int .i64 d, .int .u8 b, .string (bs a)]⟩)] ⟨[], []⟩ m fun r H' _ => r = .v (.bool (F d b a)) ∧ H' = ⟨[], []⟩) : Pure0 P f (pTy F) := fun vals y hy hB m => by
 unfold pTy at hy
 split at hy
 ·rename_i d b a
  cases hy
  have := h d b (tl a) m hB
  rwa [bs_tl] at this
 ·cases hy
theorem valid_spec (d b : Int) (s : List UInt8) (m : Mem) (hs : BL s) : FnH Tryz.prog 211 [.v (.agg ⟨[.int .i64 d, .int .u8 b, .string (bs s)]⟩)] ⟨[], []⟩ m fun r H' _ => r = .v (.bool (validTy d b s)) ∧ H' = ⟨[], []⟩ := by
 refine enter cfM puM Tryz.func211 rfl rfl (by kernel_rfl) rfl ?_ ?_
 ·simp only [go_sem, ↓tfi, ↓fti, ↓reduceIte]
 ·simp only [go_sem, ↓tfi, ↓fti, ↓reduceIte]
  refine ⟨fun h => by simp only [validTy, if_pos h], fun h => ?_⟩
  have h0 : ¬ (d < 0 ∨ 8 < d) := fun h' => h'.elim h.1 h.2
  simp only [validTy, if_neg h0]
  refine ⟨fun h1 => ?_, fun h1 => ?_⟩
  ·simp [h1]
  ·refine ⟨fun h2 => by simp [h2], fun h2 => ?_⟩
   refine ⟨fun h3 => by simp [h3], fun h3 => ⟨fun h4 => ⟨hs, by simp [h4]⟩, fun h4 => by simp [h1, h2, h3, h4]⟩⟩
abbrev cfT : Cfg := mkCf (fun _ => false) [(211, pTy validTy), (134, pS1 BL fun s => .bool (isCls s))]
theorem puT : PureOk cfT Tryz.prog := pure_cons (by kernel_rfl) (pureTy valid_spec) (pure_cons (by kernel_rfl) (pureS isCls_spec) pure_nil)
theorem value_spec (d b : Int) (s : List UInt8) (m : Mem) (hs : BL s) : FnH Tryz.prog 157 [.v (.agg ⟨[.int .i64 d, .int .u8 b, .string (bs s)]⟩)] ⟨[], []⟩ m fun r H' _ => r = .v (.bool (valueTy d b s)) ∧ H' = ⟨[], []⟩ := by
 refine enter cfT puT Tryz.func157 rfl rfl (by kernel_rfl) rfl ?_ ?_
 ·simp only [go_sem, ↓tfi, ↓fti, ↓reduceIte]
 ·simp only [go_sem, ↓tfi, ↓fti, ↓reduceIte]
  refine ⟨hs, fun _ => hs, ?_⟩
  simp [valueTy]
def printB (c : UInt8) : Bool := decide (c.toNat = 10) || (decide (32 ≤ c.toNat) && decide (c.toNat ≤ 126))
def printL (s : List UInt8) : Bool := s.all printB && decide (s.length ≤ 1024)
theorem print_spec (s : List UInt8) (m : Mem) (hs : BL s) : FnH Tryz.prog 210 [.v (.string (bs s))] ⟨[], []⟩ m fun r H' _ => r = .v (.bool (printL s)) ∧ H' = ⟨[], []⟩ := by
 refine enter cf0 pu0 Tryz.func210 rfl rfl (by kernel_rfl) rfl ?_ ?_
 ·simp only [go_sem, ↓tfi, ↓fti, ↓reduceIte]
 ·simp only [go_sem, ↓tfi, ↓fti, ↓reduceIte]
  refine WP_loop pu0 (fun k : Nat => ⟨[⟨0, [], .v (.string (bs s))⟩, ⟨6, [], .v (.int .i64 s.length)⟩, ⟨7, [], .v (.int .i64 k)⟩], [], [], [], 0, m⟩)
   (fun k => k ≤ s.length ∧ (s.take k).all printB = true) (fun k => s.length - k) 0 (by kernel_rfl) (fun _ _ => Nnr _) (fun _ _ => .inl rfl) (fun _ => ?_) ?_ ?_ ?_
  ·simp only [go_sem, ↓tfi, ↓fti, ↓reduceIte]
  ·simp only [go_sem, ↓tfi, ↓fti, ↓reduceIte]
   rfl
  ·simp
  ·rintro k ⟨hk, hp⟩
   simp only [go_sem, ↓tfi, ↓fti, ↓reduceIte]
   refine ⟨fun hlt => ?_, fun hge => ?_⟩
   ·have hkl : k < s.length := by omega
    have hd := drop_at hkl
    refine ⟨⟨by omega, hlt⟩, fun h => ?_, fun h => ⟨by unfold I64; have : s.length ≤ 4611686018427387904 := hs; omega, k + 1, by omega, ⟨by omega, ?_⟩, by omega⟩⟩
    ·have hb : printB (s.getD k 0) = false := by
      simp only [printB, Bool.or_eq_false_iff, Bool.and_eq_false_iff, decide_eq_false_iff_not]
      exact ⟨by omega, by omega⟩
     have : s.all printB = false := by
      rw [← List.take_append_drop k s, List.all_append, hd, List.all_cons, hb]
      simp
     rw [printL, this, Bool.false_and]
    ·have hb : printB (s.getD k 0) = true := by
      simp only [printB, Bool.or_eq_true, Bbt, decide_eq_true_eq]
      omega
     rw [List.take_succ_eq_append_getElem hkl, List.all_append, hp, List.all_cons]
     have e : s.getD k 0 = s[k] := by rw [List.getD_eq_getElem?_getD, List.getElem?_eq_getElem hkl]; rfl
     rw [e] at hb
     simp [hb]
   ·rw [List.take_of_length_le (by omega)] at hp
    rw [printL, hp, Bool.true_and, decide_eq_decide]
    omega
def shapeL (k : Int) : Bool × Bool × Bool × Int × Int :=
 if k = 6 then (true, false, false, 0, 0)
 else if k = 7 then (true, false, false, 1, 1)
 else if k = 8 then (true, true, false, 0, 0)
 else if k = 9 ∨ k = 16 then (false, false, false, 2, 2)
 else if k = 10 then (true, false, false, 1, 17)
 else if k = 11 then (true, true, false, 0, 16)
 else if k = 12 then (true, false, false, 0, 16)
 else if k = 13 then (false, true, false, 0, 16)
 else if k = 14 ∨ k = 17 ∨ k = 18 then (false, false, true, 1, 1)
 else if k = 15 ∨ k = 19 ∨ k = 20 ∨ k = 21 then (false, false, false, 1, 1)
 else (false, false, false, 0, 0)
def isKind (k : Int) : Bool := decide (1 ≤ k) && decide (k ≤ 21)
theorem kinds {k : Int} (h : isKind k = true) : k = 1 ∨ k = 2 ∨ k = 3 ∨ k = 4 ∨ k = 5 ∨ k = 6 ∨ k = 7 ∨ k = 8 ∨ k = 9 ∨ k = 10 ∨ k = 11 ∨ k = 12 ∨ k = 13 ∨ k = 14 ∨ k = 15 ∨ k = 16 ∨ k = 17 ∨ k = 18 ∨ k = 19 ∨ k = 20 ∨ k = 21 := by
 simp only [isKind, Bbt, decide_eq_true_eq] at h
 omega
theorem shape_spec (k : Int) (m : Mem) : FnH Tryz.prog 154 [.v (.int .i64 k)] ⟨[], []⟩ m fun r H' m' => m' = m ∧ H' = ⟨[], []⟩ ∧ r = .tup [.agg [.v (.bool (shapeL k).1), .v (.bool (shapeL k).2.1), .v (.bool (shapeL k).2.2.1), .v (.int .i64 (shapeL k).2.2.2.1), .v (.int .i64 (shapeL k).2.2.2.2)], .v (.bool (isKind k))] := by
 refine enter cf0 pu0 Tryz.func154 rfl rfl (by kernel_rfl) rfl ?_ ?_
 ·simp only [go_sem, ↓tfi, ↓fti, ↓reduceIte]
 ·cases hk : isKind k with
  | true =>
   rcases kinds hk with h | h | h | h | h | h | h | h | h | h | h | h | h | h | h | h | h | h | h | h | h <;> subst h <;> simp only [go_sem, ↓tfi, ↓fti, ↓reduceIte, shapeL, Int.reduceEq, decide_true, decide_false]
  | false =>
   have hk' : ¬ (1 ≤ k ∧ k ≤ 21) := by simpa [isKind] using hk
   have e : ∀ j : Int, 1 ≤ j → j ≤ 21 → (k = j) = False := fun j h1 h2 => eq_false fun h => hk' (h ▸ ⟨h1, h2⟩)
   have e1 := e 1 (by decide) (by decide)
   have e2 := e 2 (by decide) (by decide)
   have e3 := e 3 (by decide) (by decide)
   have e4 := e 4 (by decide) (by decide)
   have e5 := e 5 (by decide) (by decide)
   have e6 := e 6 (by decide) (by decide)
   have e7 := e 7 (by decide) (by decide)
   have e8 := e 8 (by decide) (by decide)
   have e9 := e 9 (by decide) (by decide)
   have e10 := e 10 (by decide) (by decide)
   have e11 := e 11 (by decide) (by decide)
   have e12 := e 12 (by decide) (by decide)
   have e13 := e 13 (by decide) (by decide)
   have e14 := e 14 (by decide) (by decide)
   have e15 := e 15 (by decide) (by decide)
   have e16 := e 16 (by decide) (by decide)
   have e17 := e 17 (by decide) (by decide)
   have e18 := e 18 (by decide) (by decide)
   have e19 := e 19 (by decide) (by decide)
   have e20 := e 20 (by decide) (by decide)
   have e21 := e 21 (by decide) (by decide)
   simp only [go_sem, ↓tfi, ↓fti, ↓reduceIte, shapeL, e1, e2, e3, e4, e5, e6, e7, e8, e9, e10, e11, e12, e13, e14, e15, e16, e17, e18, e19, e20, e21, decide_false]
def litL (k n : Int) (s : List UInt8) : Bool :=
 if k = 1 then decide (0 ≤ n) && decide (n ≤ 2147483647) && decide (s = [])
 else if k = 2 then decide (0 ≤ n) && decide (s = [])
 else if k = 3 then decide (n = 0) && printL s
 else if k = 15 then decide (n = 0) && (decide (s = [45]) || decide (s = [33]))
 else if k = 16 then decide (n = 0) && opsL.contains s
 else decide (n = 0) && decide (s = [])
abbrev cfP : Cfg := mkCf (fun _ => false) [(210, pS1 BL fun s => .bool (printL s))]
theorem puP : PureOk cfP Tryz.prog := pure_cons (by kernel_rfl) (pureS print_spec) pure_nil
theorem lit_spec (k n : Int) (s c : List UInt8) (d b : Int) (nm : List UInt8) (sl : Value) (m : Mem) (hg : Glob m) (hs : BL s) :
  FnH Tryz.prog 156 [.v (.agg ⟨[.int .i64 k, .int .i64 n, .string (bs s), .string (bs c), .int .i64 d, .int .u8 b, .string (bs nm), sl]⟩)] ⟨[], []⟩ m fun r H' m' => leM m m' ∧ H' = ⟨[], []⟩ ∧ r = .v (.bool (litL k n s)) := by
 refine enter cfP puP Tryz.func156 rfl rfl (by kernel_rfl) rfl ?_ ?_
 ·simp only [go_sem, ↓tfi, ↓fti, ↓reduceIte]
 ·simp only [go_sem, ↓tfi, ↓fti, ↓reduceIte]
  refine ⟨fun h => by simp only [litL, if_pos h], fun h1 => ⟨fun h => by simp only [litL, if_neg h1, if_pos h], fun h2 => ⟨fun h => ⟨fun _ => hs, by simp only [litL, if_neg h1, if_neg h2, if_pos h]⟩, fun h3 => ⟨fun h => by simp only [litL, if_neg h1, if_neg h2, if_neg h3, if_pos h], fun h4 => ⟨fun h => ?_, fun h => by simp only [litL, if_neg h1, if_neg h2, if_neg h3, if_neg h4, if_neg h]⟩⟩⟩⟩⟩
  have hg2 := hg.2
  refine hg2.elim fun ad hg2 => hg2.elim fun cp hg2 => ⟨.slice (some ad) 19 cp, fun _ => hg2.1, fun hn => cvl ((contains_spec opsL s (some ad) 19 cp m hg2.2.2 (by omega)).mono ?_), fun hn => ?_⟩
  ·rintro r H' m' hm ⟨rfl, rfl⟩
   simp only [go_sem, ↓tfi, ↓fti, ↓reduceIte]
   refine ⟨.inr hm, ?_⟩
   simp only [litL, if_neg h1, if_neg h2, if_neg h3, if_neg h4, if_pos h, decide_eq_true hn, Bool.true_and]
  ·simp only [litL, if_neg h1, if_neg h2, if_neg h3, if_neg h4, if_pos h, decide_eq_false hn, Bool.false_and]
def nodeL (k n : Int) (s c : List UInt8) (d b : Int) (nm : List UInt8) (l : Nat) : Bool :=
 isKind k && decide ((shapeL k).2.2.2.1 ≤ l) && decide (l ≤ (shapeL k).2.2.2.2) && (if (shapeL k).1 = true then identL s && decide (n = 0) else litL k n s) && (if (shapeL k).2.1 = true then isCls c else decide (c = []))
  && (if (shapeL k).2.2.1 = true then valueTy d b nm && (decide (k ≠ 14) || decide (d < 8)) else decide (d = 0) && decide (b = 0) && decide (nm = []))
abbrev cfV : Cfg := mkCf (fun _ => false) [(155, pS1 BL fun s => .bool (identL s)), (157, pTy valueTy), (134, pS1 BL fun s => .bool (isCls s))]
theorem puV : PureOk cfV Tryz.prog := pure_cons (by kernel_rfl) (pureS ident_spec) (pure_cons (by kernel_rfl) (pureTy value_spec) (pure_cons (by kernel_rfl) (pureS isCls_spec) pure_nil))
theorem FnH_den {P : Program} {f : FuncId} {args args' : List SV} {H : Hp} {m : Mem} {R : SV → Hp → Mem → Prop} (h : FnH P f args H m R) (e : ∀ V, args'.map (den V) = args.map (den V)) : FnH P f args' H m R :=
 fun V w D h1 h2 h3 => by rw [e V]; exact h V w D h1 h2 h3
theorem node_spec (k n : Int) (s c : List UInt8) (d b : Int) (nm : List UInt8) (a : Option Addr) (l cp : Nat) (m : Mem) (hg : Glob m) (hs : BL s) (hc : BL c) (hn : BL nm) :
  FnH Tryz.prog 64 [.v (.agg ⟨[.int .i64 k, .int .i64 n, .string (bs s), .string (bs c), .int .i64 d, .int .u8 b, .string (bs nm), .slice a l cp]⟩)] ⟨[], []⟩ m fun r H' m' => leM m m' ∧ H' = ⟨[], []⟩ ∧ r = .v (.bool (nodeL k n s c d b nm l)) := by
 refine enter cfV puV Tryz.func64 rfl rfl (by kernel_rfl) rfl ?_ ?_
 ·simp only [go_sem, ↓tfi, ↓fti, ↓reduceIte]
 ·simp only [go_sem, ↓tfi, ↓fti, ↓reduceIte]
  refine cvl (((shape_spec k m).mono (R' := fun r H' m' => m' = m ∧ H' = ⟨[], []⟩ ∧ ∃ i cl ty lo hi, shapeL k = (i, cl, ty, lo, hi) ∧ r = .tup [.agg [.v (.bool i), .v (.bool cl), .v (.bool ty), .v (.int .i64 lo), .v (.int .i64 hi)], .v (.bool (isKind k))]) fun r H' m' hm h => ⟨h.1, h.2.1, _, _, _, _, _, rfl, h.2.2⟩).mono ?_)
  rintro r H' m' hm ⟨rfl, rfl, i, cl, ty, lo, hi, hsh, rfl⟩
  simp only [go_sem, ↓tfi, ↓fti, ↓reduceIte, eqOkT]
  have hn0 : ∀ x : Bool, (isKind k = false ∨ (l : Int) < lo) ∨ hi < (l : Int) → false = (isKind k && decide (lo ≤ (l : Int)) && decide ((l : Int) ≤ hi) && x) := fun x h => by
   rcases h with (h | h) | h
   ·simp [h]
   ·rw [decide_eq_false (by omega : ¬ lo ≤ (l : Int))]; simp
   ·rw [decide_eq_false (by omega : ¬ (l : Int) ≤ hi)]; simp
  have hN : nodeL k n s c d b nm l = (isKind k && decide (lo ≤ (l : Int)) && decide ((l : Int) ≤ hi) && (if i = true then identL s && decide (n = 0) else litL k n s) && (if cl = true then isCls c else decide (c = []))
    && (if ty = true then valueTy d b nm && (decide (k ≠ 14) || decide (d < 8)) else decide (d = 0) && decide (b = 0) && decide (nm = []))) := by simp only [nodeL, hsh]
  refine ⟨fun h => ?_, fun h => ?_⟩
  ·rw [hN, Bool.and_assoc, Bool.and_assoc]
   exact hn0 _ h
  ·have e1 := h.1.1
   have e2 : decide (lo ≤ (l : Int)) = true := decide_eq_true (by have := h.1.2; omega)
   have e3 : decide ((l : Int) ≤ hi) = true := decide_eq_true (by have := h.2; omega)
   have hM : nodeL k n s c d b nm l = ((if i = true then identL s && decide (n = 0) else litL k n s) && (if cl = true then isCls c else decide (c = [])) && (if ty = true then valueTy d b nm && (decide (k ≠ 14) || decide (d < 8)) else decide (d = 0) && decide (b = 0) && decide (nm = []))) := by
    rw [hN, e1, e2, e3]
    simp only [Bool.true_and]
   refine ⟨fun hi => ⟨hs, fun hcl => ⟨fun _ => hc, fun ht => ⟨fun _ => hn, by rw [hM]; simp [hi, hcl, ht, Bool.and_assoc]⟩, fun ht => by rw [hM]; simp [hi, hcl, ht, Bool.and_assoc]⟩, fun hcl => ⟨fun ht => ⟨fun _ => hn, by rw [hM]; simp [hi, hcl, ht, Bool.and_assoc]⟩, fun ht => by rw [hM]; simp [hi, hcl, ht, Bool.and_assoc]⟩⟩, fun hi => cvl ((FnH_den (lit_spec k n s c d b nm (.slice a l cp) m' hg hs) (fun V => rfl)).mono ?_)⟩
   rintro r H' m2 hm2 ⟨hle, rfl, rfl⟩
   simp only [go_sem, ↓tfi, ↓fti, ↓reduceIte, eqOkT]
   exact ⟨fun hcl => ⟨fun _ => hc, fun ht => ⟨fun _ => hn, hle, by rw [hM]; simp [hi, hcl, ht, Bool.and_assoc]⟩, fun ht => ⟨hle, by rw [hM]; simp [hi, hcl, ht, Bool.and_assoc]⟩⟩, fun hcl => ⟨fun ht => ⟨fun _ => hn, hle, by rw [hM]; simp [hi, hcl, ht, Bool.and_assoc]⟩, fun ht => ⟨hle, by rw [hM]; simp [hi, hcl, ht, Bool.and_assoc]⟩⟩⟩
structure Ty where
 dim : Int
 base : Int
 name : List UInt8
inductive Ex where
 | mk (k n : Int) (s c : List UInt8) (ty : Ty) (args : List Ex)
inductive St where
 | mk (k : Int) (name : List UInt8) (ty : Ty) (tg ex : Ex) (body alt : List St)
abbrev big : Nat := 2000000
def TyOk (t : Ty) : Prop := I64 t.dim ∧ (0 ≤ t.base ∧ t.base < 256) ∧ t.name.length ≤ big
def exC (k n : Int) (s c : List UInt8) (ty : Ty) (sl : Value) : List Value := [.int .i64 k, .int .i64 n, .string (bs s), .string (bs c), .int .i64 ty.dim, .int .u8 ty.base, .string (bs ty.name), sl]
def ExOk (k n : Int) (s c : List UInt8) (ty : Ty) (l : Nat) : Prop := I64 k ∧ I64 n ∧ s.length ≤ big ∧ c.length ≤ big ∧ TyOk ty ∧ l ≤ big
mutual
def exRep (m : Mem) : Ex → List Value → Prop
 | .mk k n s c ty args, cs => ∃ a cp xs, cs = exC k n s c ty (.slice a args.length cp) ∧ args.length ≤ cp ∧ Rds m a args.length 8 xs ∧ ExOk k n s c ty args.length ∧ exsRep m args xs
def exsRep (m : Mem) : List Ex → List Value → Prop
 | [], _ => True
 | e :: r, xs => exRep m e (xs.take 8) ∧ exsRep m r (xs.drop 8)
end
theorem exs_at {m : Mem} : ∀ {l : List Ex} {xs : List Value} {i : Nat} (_ : exsRep m l xs) (hi : i < l.length), exRep m l[i] ((xs.drop (i * 8)).take 8)
 | [], _, _, _, hi => absurd hi (Nat.not_lt_zero _)
 | e :: r, xs, 0, h, _ => by simp only [exsRep] at h; simpa using h.1
 | e :: r, xs, i + 1, h, hi => by
  simp only [exsRep] at h
  have := exs_at (i := i) h.2 (by simpa using hi)
  rw [List.drop_drop] at this
  rw [show (i + 1) * 8 = 8 + i * 8 by omega]
  exact this
mutual
theorem exRep_up {m m' : Mem} (hle : m.le m') : ∀ (e : Ex) (cs : List Value), exRep m e cs → exRep m' e cs
 | .mk k n s c ty args, cs, h => by
  simp only [exRep] at h ⊢
  obtain ⟨a, cp, xs, h1, h2, h3, h4, h5⟩ := h
  exact ⟨a, cp, xs, h1, h2, Rds_up hle h3, h4, exsRep_up hle args xs h5⟩
theorem exsRep_up {m m' : Mem} (hle : m.le m') : ∀ (l : List Ex) (xs : List Value), exsRep m l xs → exsRep m' l xs
 | [], _, _ => by simp only [exsRep]
 | e :: r, xs, h => by
  simp only [exsRep] at h ⊢
  exact ⟨exRep_up hle e _ h.1, exsRep_up hle r _ h.2⟩
end
mutual
def depthE : Ex → Nat
 | .mk _ _ _ _ _ args => depthL args + 1
def depthL : List Ex → Nat
 | [] => 0
 | e :: r => max (depthE e) (depthL r)
end
theorem depth_mem : ∀ {l : List Ex} {i : Nat} (hi : i < l.length), depthE l[i] ≤ depthL l
 | [], _, hi => absurd hi (Nat.not_lt_zero _)
 | e :: r, 0, _ => by simp only [depthL]; exact Nat.le_max_left _ _
 | e :: r, i + 1, hi => by
  have := depth_mem (l := r) (i := i) (by simpa using hi)
  simp only [depthL]
  exact Nat.le_trans this (Nat.le_max_right _ _)
theorem depth_take : ∀ {l : List Ex} {i : Nat} (hi : i < l.length), depthL (l.take (i + 1)) = max (depthL (l.take i)) (depthE l[i])
 | [], _, hi => absurd hi (Nat.not_lt_zero _)
 | e :: r, 0, _ => by simp [depthL]
 | e :: r, i + 1, hi => by
  have := depth_take (l := r) (i := i) (by simpa using hi)
  simp only [List.take_succ_cons, depthL, this]
  rw [List.getElem_cons_succ, Nat.max_assoc]
def Ans (f : FuncId) (args : List SV) (m : Mem) (v : Value) : Prop := FnH Tryz.prog f args ⟨[], []⟩ m fun r H' m' => leM m m' ∧ H' = ⟨[], []⟩ ∧ r = .v v
theorem take_any {α : Type} {l : List α} {B : α → Bool} {k : Nat} (h : k < l.length) : (l.take (k + 1)).any B = ((l.take k).any B || B l[k]) := by
 rw [List.take_succ_eq_append_getElem h, List.any_append]
 simp
theorem Glob.upM {m m' : Mem} (h : Glob m) (hm : leM m m') : Glob m' := by
 rcases hm with rfl | hm
 ·exact h
 ·exact h.up hm
theorem exRep_upM {m m' : Mem} {e : Ex} {cs : List Value} (hle : leM m m') (h : exRep m e cs) : exRep m' e cs := by
 rcases hle with rfl | hle
 ·exact h
 ·exact exRep_up hle e cs h
theorem exsRep_upM {m m' : Mem} {l : List Ex} {cs : List Value} (hle : leM m m') (h : exsRep m l cs) : exsRep m' l cs := by
 rcases hle with rfl | hle
 ·exact h
 ·exact exsRep_up hle l cs h
theorem Rds_upM {m m' : Mem} {a : Option Addr} {n sz : Nat} {xs : List Value} (hle : leM m m') (h : Rds m a n sz xs) : Rds m' a n sz xs := by
 rcases hle with rfl | hle
 ·exact h
 ·exact Rds_up hle h
theorem leM_tr {m m' m'' : Mem} (h : leM m m') (h' : leM m' m'') : leM m m'' := by
 rcases h with rfl | h
 ·exact h'
 ·rcases h' with rfl | h'
  ·exact .inr h
  ·exact .inr (Mem.le_trans h h')
theorem indexX_spec (f : FuncId) (B : Ex → Bool) (l : List Ex) (a : Option Addr) (n c : Nat) (xs : List Value) (m : Mem) (hl : l.length = n) (hr : Rds m a n 8 xs) (he : exsRep m l xs) (hn : n ≤ big) (hok : fnOk Tryz.prog f = true)
  (hf : ∀ i (hi : i < l.length) cs m', leM m m' → exRep m' l[i] cs → Ans f [.v (.agg ⟨cs⟩)] m' (.bool (B l[i]))) :
  FnH Tryz.prog 158 [.v (.slice a n c), .v (.func (.func f) ⟨[]⟩ ⟨[]⟩)] ⟨[], []⟩ m fun r H' m' => leM m m' ∧ H' = ⟨[], []⟩ ∧ ∃ i : Int, r = .v (.int .i64 i) ∧ decide (0 ≤ i) = l.any B := by
 refine enter cfN puN Tryz.func158 rfl rfl (by kernel_rfl) rfl ?_ ?_
 ·simp only [go_sem, ↓tfi, ↓fti, ↓reduceIte]
 ·simp only [go_sem, ↓tfi, ↓fti, ↓reduceIte]
  refine WP_loop puN (fun x : Nat × Mem => ⟨[⟨0, [], .v (.slice a n c)⟩, ⟨1, [], .v (.func (.func f) ⟨[]⟩ ⟨[]⟩)⟩, ⟨7, [], .v (.int .i64 n)⟩, ⟨8, [], .v (.int .i64 x.1)⟩], [], [], [], 0, x.2⟩)
   (fun x => leM m x.2 ∧ x.1 ≤ n ∧ (l.take x.1).any B = false) (fun x => n - x.1) (0, m) (by kernel_rfl) (fun _ _ => Nnr _) (fun x hx => hx.1) (fun _ => ?_) ?_ ?_ ?_
  ·simp only [go_sem, ↓tfi, ↓fti, ↓reduceIte]
  ·simp only [go_sem, ↓tfi, ↓fti, ↓reduceIte]
   rfl
  ·exact ⟨.inl rfl, Nat.zero_le _, rfl⟩
  ·rintro ⟨k, mm⟩ ⟨h1, h2, h3⟩
   simp only at h1 h2 h3
   have hown : cfN.own f = false := rfl
   have hrk : ∀ (hk : k < n), Rd mm (ptrAt a (k * 8)) ((xs.drop (k * 8)).take 8) ∧ a ≠ none := fun hk => Rds_cells (Rds_upM h1 hr) hk
   have hln : ∀ (hk : k < n), ((xs.drop (k * 8)).take 8).length = 8 := fun hk => by
    have := hr.1
    have hm : (k + 1) * 8 ≤ n * 8 := Nat.mul_le_mul_right _ hk
    rw [List.length_take, List.length_drop]; omega
   simp only [go_sem, ↓tfi, ↓fti, ↓reduceIte, hown]
   refine ⟨fun hlt => ?_, fun hge => ⟨h1, ?_⟩⟩
   ·have hk : k < n := by clear hf; omega
    have hkl : k < l.length := by clear hf; omega
    refine ⟨⟨by clear hf; omega, hlt, (hrk hk).2⟩, _, ⟨(hrk hk).1, hln hk⟩, hok, FnV_of ((hf k hkl _ mm h1 (exRep_upM h1 (exs_at he hkl))).mono ?_)⟩
    clear hf
    rintro r H' m' hm ⟨hle, rfl, rfl⟩
    simp only [go_sem, ↓tfi, ↓fti, ↓reduceIte]
    refine ⟨fun hb => ⟨leM_tr h1 hle, ?_⟩, fun hb => ⟨by unfold I64; simp only [big] at hn; omega, (k + 1, m'), ⟨by simp, .inl rfl⟩, ⟨leM_tr h1 hle, by simp only; omega, ?_⟩, by simp only; omega⟩⟩
    ·have : l.any B = true := List.any_eq_true.2 ⟨_, List.getElem_mem hkl, hb⟩
     rw [this]
     simp
    ·simp only
     rw [take_any hkl, h3, hb]
     rfl
   ·rw [List.take_of_length_le (by clear hf; omega)] at h3
    rw [h3]
    rfl
theorem containsX_spec (f : FuncId) (B : Ex → Bool) (l : List Ex) (a : Option Addr) (n c : Nat) (xs : List Value) (m : Mem) (hl : l.length = n) (hr : Rds m a n 8 xs) (he : exsRep m l xs) (hn : n ≤ big) (hok : fnOk Tryz.prog f = true)
  (hf : ∀ i (hi : i < l.length) cs m', leM m m' → exRep m' l[i] cs → Ans f [.v (.agg ⟨cs⟩)] m' (.bool (B l[i]))) :
  Ans 65 [.v (.slice a n c), .v (.func (.func f) ⟨[]⟩ ⟨[]⟩)] m (.bool (l.any B)) := by
 refine enter cfN puN Tryz.func65 rfl rfl (by kernel_rfl) rfl ?_ ?_
 ·simp only [go_sem, ↓tfi, ↓fti, ↓reduceIte]
 ·simp only [go_sem, ↓tfi, ↓fti, ↓reduceIte]
  refine cvl ((indexX_spec f B l a n c xs m hl hr he hn hok hf).mono ?_)
  clear hf
  rintro r H' m' hm ⟨hle, rfl, i, rfl, hi⟩
  simp only [go_sem, ↓tfi, ↓fti, ↓reduceIte]
  exact ⟨hle, hi⟩
mutual
def validE : Ex → Bool
 | .mk k n s c ty args => nodeL k n s c ty.dim ty.base ty.name args.length && validEs args
def validEs : List Ex → Bool
 | [] => true
 | e :: r => validE e && validEs r
end
theorem validEs_any : ∀ (l : List Ex), (!l.any fun e => !validE e) = validEs l
 | [] => rfl
 | e :: r => by
  simp only [List.any_cons, validEs, ← validEs_any r]
  cases validE e <;> simp
theorem valid_all : ∀ (h : Nat) (e : Ex) (cs : List Value) (m : Mem), depthE e ≤ h → Glob m → exRep m e cs → Ans 33 [.v (.agg ⟨cs⟩)] m (.bool (validE e))
 | 0, .mk k n s c ty args, cs, m, hd, _, _ => by simp [depthE] at hd
 | h + 1, .mk k n s c ty args, cs, m, hd, hg, he => by
  simp only [exRep] at he
  obtain ⟨a, cp, xs, rfl, hcp, hr, hok, hes⟩ := he
  have hn := hok.2.2.2.2.2
  simp only [depthE] at hd
  have hf : ∀ i (hi : i < args.length) cs m', leM m m' → exRep m' args[i] cs → Ans 66 [.v (.agg ⟨cs⟩)] m' (.bool (!validE args[i])) := fun i hi cs m' hle hrep => by
   have hlen : ∃ c0 c1 c2 c3 c4 c5 c6 c7, cs = [c0, c1, c2, c3, c4, c5, c6, c7] := by
    cases hargs : args[i] with
    | mk k n s c ty args =>
     rw [hargs] at hrep
     simp only [exRep] at hrep
     obtain ⟨a, cp, xs, rfl, _⟩ := hrep
     exact ⟨_, _, _, _, _, _, _, _, rfl⟩
   have ih := valid_all h args[i] cs m' (by have := depth_mem hi; omega) (hg.upM hle) hrep
   obtain ⟨c0, c1, c2, c3, c4, c5, c6, c7, rfl⟩ := hlen
   refine enter cfN puN Tryz.func66 rfl rfl (by kernel_rfl) rfl ?_ ?_
   ·simp only [go_sem, ↓tfi, ↓fti, ↓reduceIte]
   ·simp only [go_sem, ↓tfi, ↓fti, ↓reduceIte]
    refine cvl ((FnH_den ih (fun V => rfl)).mono ?_)
    rintro r H' m2 hm2 ⟨hle2, rfl, rfl⟩
    simp only [go_sem, ↓tfi, ↓fti, ↓reduceIte]
    exact hle2
  have hv := fun m' (hm : leM m m') => containsX_spec 66 (fun e => !validE e) args a args.length cp xs m' rfl (Rds_upM hm hr) (exsRep_upM hm hes) hn (by kernel_rfl) (fun i hi cs m2 hle => hf i hi cs m2 (leM_tr hm hle))
  have hnode := node_spec k n s c ty.dim ty.base ty.name a args.length cp m hg (Nat.le_trans hok.2.2.1 (by decide)) (Nat.le_trans hok.2.2.2.1 (by decide)) (Nat.le_trans hok.2.2.2.2.1.2.2 (by decide))
  clear hf
  refine enter cfN puN Tryz.func33 rfl rfl (by kernel_rfl) rfl ?_ ?_
  ·simp only [go_sem, ↓tfi, ↓fti, ↓reduceIte, exC]
  ·simp only [go_sem, ↓tfi, ↓fti, ↓reduceIte, exC]
   refine cvl ((FnH_den hnode (fun V => rfl)).mono ?_)
   rintro r H' m2 hm2 ⟨hle, rfl, rfl⟩
   simp only [go_sem, ↓tfi, ↓fti, ↓reduceIte]
   refine ⟨fun hb => cvl ((hv m2 hle).mono ?_), fun hb => ⟨hle, ?_⟩⟩
   ·clear hv
    rintro r H' m3 hm3 ⟨hle3, rfl, rfl⟩
    simp only [go_sem, ↓tfi, ↓fti, ↓reduceIte]
    refine ⟨leM_tr hle hle3, ?_⟩
    rw [validEs_any, validE, hb, Bool.true_and]
   ·rw [validE, hb, Bool.false_and]
structure Nd where
 k : Int
 n : Int
 s : List UInt8
 c : List UInt8
 ty : Ty
 a : Option Addr
 l : Nat
 cp : Nat
def Nd.cs (x : Nd) : List Value := [.int .i64 x.k, .int .i64 x.n, .string (bs x.s), .string (bs x.c), .int .i64 x.ty.dim, .int .u8 x.ty.base, .string (bs x.ty.name), .slice x.a x.l x.cp]
theorem exRep_nd {m : Mem} {e : Ex} {cs : List Value} (h : exRep m e cs) : ∃ x : Nd, cs = x.cs := by
 cases e with
 | mk k n s c ty args =>
  simp only [exRep] at h
  obtain ⟨a, cp, xs, rfl, _⟩ := h
  exact ⟨⟨k, n, s, c, ty, a, args.length, cp⟩, rfl⟩
theorem depth_all : ∀ (h : Nat) (e : Ex) (cs : List Value) (m : Mem), depthE e ≤ h → h ≤ big → exRep m e cs → Ans 34 [.v (.agg ⟨cs⟩)] m (.int .i64 (depthE e))
 | 0, .mk k n s c ty args, cs, m, hd, _, _ => by simp [depthE] at hd
 | h + 1, .mk k n s c ty args, cs, m, hd, hb, he => by
  simp only [exRep] at he
  obtain ⟨a, cp, xs, rfl, hcp, hr, hok, hes⟩ := he
  have hn := hok.2.2.2.2.2
  simp only [depthE] at hd
  refine enter cfN puN Tryz.func34 rfl rfl (by kernel_rfl) rfl ?_ ?_
  ·simp only [go_sem, ↓tfi, ↓fti, ↓reduceIte, exC]
  ·simp only [go_sem, ↓tfi, ↓fti, ↓reduceIte, exC]
   refine WP_loop puN (fun x : Nat × Mem => ⟨[⟨3, [], .v (.int .i64 (depthL (args.take x.1)))⟩, ⟨7, [], .v (.slice a args.length cp)⟩, ⟨8, [], .v (.int .i64 args.length)⟩, ⟨9, [], .v (.int .i64 x.1)⟩], [], [], [], 1, x.2⟩)
    (fun x => leM m x.2 ∧ x.1 ≤ args.length) (fun x => args.length - x.1) (0, m) (by kernel_rfl) (fun _ _ => Nnr _) (fun x hx => hx.1) (fun _ => ?_) ?_ ?_ ?_
   ·simp only [go_sem, ↓tfi, ↓fti, ↓reduceIte]
   ·simp only [go_sem, ↓tfi, ↓fti, ↓reduceIte]
    exact ⟨rfl, rfl⟩
   ·exact ⟨.inl rfl, Nat.zero_le _⟩
   ·rintro ⟨i, mm⟩ ⟨h1, h2⟩
    simp only at h1 h2
    have hx : ∀ (hi : i < args.length), ∃ x : Nd, Rd mm (ptrAt a (i * 8)) x.cs ∧ a ≠ none ∧ Ans 34 [.v (.agg ⟨x.cs⟩)] mm (.int .i64 (depthE args[i])) := fun hi => by
     have hrep := exRep_upM h1 (exs_at hes hi)
     obtain ⟨x, hx⟩ := exRep_nd hrep
     have hrd := Rds_cells (Rds_upM h1 hr) hi
     rw [hx] at hrep hrd
     exact ⟨x, hrd.1, hrd.2, depth_all h args[i] x.cs mm (by have := depth_mem hi; omega) (by omega) hrep⟩
    simp only [go_sem, ↓tfi, ↓fti, ↓reduceIte]
    refine ⟨fun hlt => ?_, fun hge => ?_⟩
    ·refine Exists.elim (hx (by clear hx; omega)) fun x hx' => ⟨⟨by clear hx hx'; omega, hlt, hx'.2.1⟩, x.cs, ⟨hx'.1, rfl⟩, ?_⟩
     clear hx
     have ha := hx'.2.2
     simp only [go_sem, ↓tfi, ↓fti, ↓reduceIte, Nd.cs]
     refine cvl ((FnH_den ha (fun V => rfl)).mono ?_)
     clear hx' ha
     rintro r H' m2 hm2 ⟨hle2, rfl, rfl⟩
     simp only [go_sem, ↓tfi, ↓fti, ↓reduceIte]
     have hi : i < args.length := by omega
     have hdt := depth_take hi
     refine ⟨by unfold I64; simp only [big] at hn; omega, (i + 1, m2), ⟨⟨?_, by simp⟩, .inl rfl⟩, ⟨leM_tr h1 hle2, by simp only; omega⟩, by simp only; omega⟩
     simp only
     rw [hdt]
     split <;> omega
    ·clear hx
     have : args.take i = args := List.take_of_length_le (by omega)
     rw [this]
     simp only [depthE]
     exact ⟨by unfold I64; simp only [big] at hb; omega, h1, by omega⟩
mutual
def sizeE : Ex → Nat
 | .mk _ _ _ _ _ args => sizeL args + 1
def sizeL : List Ex → Nat
 | [] => 0
 | e :: r => sizeE e + sizeL r
end
theorem aggLT : aggN Tryz.prog 45 = some none := by kernel_rfl
theorem szLT : szT Tryz.prog 45 = 1 := by kernel_rfl
attribute [go_sem] aggLT szLT
theorem strs_rd {l : List (List UInt8)} {a : Option Addr} {n : Nat} {m : Mem} (hr : Rds m a n 1 (strs l)) {k : Nat} (hk : k < l.length) : Rd m (ptrAt a k) [.string (bs l[k])] ∧ a ≠ none := by
 have hl : l.length = n := by have := hr.1; simpa [strs] using this
 obtain ⟨hx, h, hne⟩ := Rds_one hr (by omega : k < n)
 have e : (strs l)[k] = .string (bs l[k]) := by simp [strs]
 rw [e] at h
 exact ⟨h, hne⟩
def intS : List UInt8 := [105, 110, 116]
def longS : List UInt8 := [108, 111, 110, 103]
def voidS : List UInt8 := [118, 111, 105, 100]
def Ex.k : Ex → Int | .mk k _ _ _ _ _ => k
abbrev cap : Nat := 800000000
theorem depthL_mem : ∀ {l : List Ex} {e : Ex}, e ∈ l → depthE e ≤ depthL l
 | [], e, he => by cases he
 | x :: r, e, he => by
  simp only [depthL]
  rcases List.mem_cons.1 he with rfl | he
  ·omega
  ·have := depthL_mem he; omega
structure Sd where
 k : Int
 name : List UInt8
 ty : Ty
 tg : Nd
 ex : Nd
 a : Option Addr
 l : Nat
 cp : Nat
 b : Option Addr
 l2 : Nat
 cp2 : Nat
def Sd.cs (x : Sd) : List Value := [.int .i64 x.k, .string (bs x.name), .int .i64 x.ty.dim, .int .u8 x.ty.base, .string (bs x.ty.name), .int .i64 x.tg.k, .int .i64 x.tg.n, .string (bs x.tg.s), .string (bs x.tg.c), .int .i64 x.tg.ty.dim, .int .u8 x.tg.ty.base, .string (bs x.tg.ty.name), .slice x.tg.a x.tg.l x.tg.cp, .int .i64 x.ex.k, .int .i64 x.ex.n, .string (bs x.ex.s), .string (bs x.ex.c), .int .i64 x.ex.ty.dim, .int .u8 x.ex.ty.base, .string (bs x.ex.ty.name), .slice x.ex.a x.ex.l x.ex.cp, .slice x.a x.l x.cp, .slice x.b x.l2 x.cp2]
theorem aggSd : aggN Tryz.prog 73 = some (some 23) := by kernel_rfl
theorem szSd : szT Tryz.prog 73 = 23 := by kernel_rfl
theorem zeroSd : zeroO Tryz.prog 73 = some [.v (.int .i64 0), .v (.string (bs [])), .v (.int .i64 0), .v (.int .u8 0), .v (.string (bs [])), .v (.int .i64 0), .v (.int .i64 0), .v (.string (bs [])), .v (.string (bs [])), .v (.int .i64 0), .v (.int .u8 0), .v (.string (bs [])), .v (.slice none 0 0), .v (.int .i64 0), .v (.int .i64 0), .v (.string (bs [])), .v (.string (bs [])), .v (.int .i64 0), .v (.int .u8 0), .v (.string (bs [])), .v (.slice none 0 0), .v (.slice none 0 0), .v (.slice none 0 0)] := by kernel_rfl
theorem bldSd : bldOk Tryz.prog 73 = true := by kernel_rfl
theorem aggLSd : aggN Tryz.prog 36 = some none := by kernel_rfl
theorem szLSd : szT Tryz.prog 36 = 1 := by kernel_rfl
theorem elLSd : elT Tryz.prog 36 = some 73 := by kernel_rfl
theorem fldSd_0 : fldO Tryz.prog 73 0 = some (0, none, 1) := by kernel_rfl
theorem fldSd_1 : fldO Tryz.prog 73 1 = some (1, none, 1) := by kernel_rfl
theorem fldSd_2 : fldO Tryz.prog 73 2 = some (2, some 3, 3) := by kernel_rfl
theorem fldSd_3 : fldO Tryz.prog 73 3 = some (5, some 8, 8) := by kernel_rfl
theorem fldSd_4 : fldO Tryz.prog 73 4 = some (13, some 8, 8) := by kernel_rfl
theorem fldSd_5 : fldO Tryz.prog 73 5 = some (21, none, 1) := by kernel_rfl
theorem fldSd_6 : fldO Tryz.prog 73 6 = some (22, none, 1) := by kernel_rfl
structure Mc where
 fl : Int
 res : Ty
 name : List UInt8
 pa : Option Addr
 pl : Nat
 pc : Nat
 hb : Bool
 a : Option Addr
 l : Nat
 cp : Nat
def Mc.cs (x : Mc) : List Value := [.int .i64 x.fl, .int .i64 x.res.dim, .int .u8 x.res.base, .string (bs x.res.name), .string (bs x.name), .slice x.pa x.pl x.pc, .bool x.hb, .slice x.a x.l x.cp]
theorem aggMc : aggN Tryz.prog 98 = some (some 8) := by kernel_rfl
theorem szMc : szT Tryz.prog 98 = 8 := by kernel_rfl
theorem zeroMc : zeroO Tryz.prog 98 = some [.v (.int .i64 0), .v (.int .i64 0), .v (.int .u8 0), .v (.string (bs [])), .v (.string (bs [])), .v (.slice none 0 0), .v (.bool false), .v (.slice none 0 0)] := by kernel_rfl
theorem bldMc : bldOk Tryz.prog 98 = true := by kernel_rfl
theorem aggLMc : aggN Tryz.prog 57 = some none := by kernel_rfl
theorem szLMc : szT Tryz.prog 57 = 1 := by kernel_rfl
theorem elLMc : elT Tryz.prog 57 = some 98 := by kernel_rfl
theorem fldMc_0 : fldO Tryz.prog 98 0 = some (0, none, 1) := by kernel_rfl
theorem fldMc_1 : fldO Tryz.prog 98 1 = some (1, some 3, 3) := by kernel_rfl
theorem fldMc_2 : fldO Tryz.prog 98 2 = some (4, none, 1) := by kernel_rfl
theorem fldMc_3 : fldO Tryz.prog 98 3 = some (5, none, 1) := by kernel_rfl
theorem fldMc_4 : fldO Tryz.prog 98 4 = some (6, none, 1) := by kernel_rfl
theorem fldMc_5 : fldO Tryz.prog 98 5 = some (7, none, 1) := by kernel_rfl
structure Cc where
 fl : Int
 name : List UInt8
 super : List UInt8
 ia : Option Addr
 il : Nat
 ic : Nat
 fa : Option Addr
 fn : Nat
 fc : Nat
 ma : Option Addr
 ml : Nat
 mc : Nat
 sa : Option Addr
 sl : Nat
 sc : Nat
def Cc.cs (x : Cc) : List Value := [.int .i64 x.fl, .string (bs x.name), .string (bs x.super), .slice x.ia x.il x.ic, .slice x.fa x.fn x.fc, .slice x.ma x.ml x.mc, .slice x.sa x.sl x.sc]
theorem aggCc : aggN Tryz.prog 59 = some (some 7) := by kernel_rfl
theorem szCc : szT Tryz.prog 59 = 7 := by kernel_rfl
theorem zeroCc : zeroO Tryz.prog 59 = some [.v (.int .i64 0), .v (.string (bs [])), .v (.string (bs [])), .v (.slice none 0 0), .v (.slice none 0 0), .v (.slice none 0 0), .v (.slice none 0 0)] := by kernel_rfl
theorem bldCc : bldOk Tryz.prog 59 = true := by kernel_rfl
theorem aggLCc : aggN Tryz.prog 23 = some none := by kernel_rfl
theorem szLCc : szT Tryz.prog 23 = 1 := by kernel_rfl
theorem elLCc : elT Tryz.prog 23 = some 59 := by kernel_rfl
theorem fldCc_0 : fldO Tryz.prog 59 0 = some (0, none, 1) := by kernel_rfl
theorem fldCc_1 : fldO Tryz.prog 59 1 = some (1, none, 1) := by kernel_rfl
theorem fldCc_2 : fldO Tryz.prog 59 2 = some (2, none, 1) := by kernel_rfl
theorem fldCc_3 : fldO Tryz.prog 59 3 = some (3, none, 1) := by kernel_rfl
theorem fldCc_4 : fldO Tryz.prog 59 4 = some (4, none, 1) := by kernel_rfl
theorem fldCc_5 : fldO Tryz.prog 59 5 = some (5, none, 1) := by kernel_rfl
theorem fldCc_6 : fldO Tryz.prog 59 6 = some (6, none, 1) := by kernel_rfl
structure Pc where
 ty : Ty
 name : List UInt8
def Pc.cs (x : Pc) : List Value := [.int .i64 x.ty.dim, .int .u8 x.ty.base, .string (bs x.ty.name), .string (bs x.name)]
theorem aggPc : aggN Tryz.prog 160 = some (some 4) := by kernel_rfl
theorem szPc : szT Tryz.prog 160 = 4 := by kernel_rfl
theorem zeroPc : zeroO Tryz.prog 160 = some [.v (.int .i64 0), .v (.int .u8 0), .v (.string (bs [])), .v (.string (bs []))] := by kernel_rfl
theorem bldPc : bldOk Tryz.prog 160 = true := by kernel_rfl
theorem aggLPc : aggN Tryz.prog 96 = some none := by kernel_rfl
theorem szLPc : szT Tryz.prog 96 = 1 := by kernel_rfl
theorem elLPc : elT Tryz.prog 96 = some 160 := by kernel_rfl
theorem fldPc_0 : fldO Tryz.prog 160 0 = some (0, some 3, 3) := by kernel_rfl
theorem fldPc_1 : fldO Tryz.prog 160 1 = some (3, none, 1) := by kernel_rfl
structure Fc where
 fl : Int
 ty : Ty
 name : List UInt8
def Fc.cs (x : Fc) : List Value := [.int .i64 x.fl, .int .i64 x.ty.dim, .int .u8 x.ty.base, .string (bs x.ty.name), .string (bs x.name)]
theorem aggFc : aggN Tryz.prog 94 = some (some 5) := by kernel_rfl
theorem szFc : szT Tryz.prog 94 = 5 := by kernel_rfl
theorem zeroFc : zeroO Tryz.prog 94 = some [.v (.int .i64 0), .v (.int .i64 0), .v (.int .u8 0), .v (.string (bs [])), .v (.string (bs []))] := by kernel_rfl
theorem bldFc : bldOk Tryz.prog 94 = true := by kernel_rfl
theorem aggLFc : aggN Tryz.prog 56 = some none := by kernel_rfl
theorem szLFc : szT Tryz.prog 56 = 1 := by kernel_rfl
theorem elLFc : elT Tryz.prog 56 = some 94 := by kernel_rfl
theorem fldFc_0 : fldO Tryz.prog 94 0 = some (0, none, 1) := by kernel_rfl
theorem fldFc_1 : fldO Tryz.prog 94 1 = some (1, some 3, 3) := by kernel_rfl
theorem fldFc_2 : fldO Tryz.prog 94 2 = some (4, none, 1) := by kernel_rfl
theorem szLs : szT Tryz.prog 55 = 1 := by kernel_rfl
attribute [go_sem] aggSd szSd zeroSd bldSd aggLSd szLSd elLSd fldSd_0 fldSd_1 fldSd_2 fldSd_3 fldSd_4 fldSd_5 fldSd_6 aggMc szMc zeroMc bldMc aggLMc szLMc elLMc fldMc_0 fldMc_1 fldMc_2 fldMc_3 fldMc_4 fldMc_5 aggCc szCc zeroCc bldCc aggLCc szLCc elLCc fldCc_0 fldCc_1 fldCc_2 fldCc_3 fldCc_4 fldCc_5 fldCc_6 aggPc szPc zeroPc bldPc aggLPc szLPc elLPc fldPc_0 fldPc_1 aggFc szFc zeroFc bldFc aggLFc szLFc elLFc fldFc_0 fldFc_1 fldFc_2 szLs
def allB (n : Nat) (B : Nat → Bool) : Bool := (List.range n).all B
theorem allB_succ {n : Nat} {B : Nat → Bool} : allB (n + 1) B = (allB n B && B n) := by simp [allB, List.range_succ, List.all_append]
theorem allB_no {n k : Nat} {B : Nat → Bool} (hk : k < n) (h : B k = false) : allB n B = false := by
 simp only [allB, List.all_eq_false, List.mem_range]
 exact ⟨k, hk, by simp [h]⟩
theorem eqfNd (f : FuncId) (B : Nat → Bool) (a : Option Addr) (n c : Nat) (a2 : Option Addr) (n2 c2 : Nat) (xs ys : List Value) (m : Mem) (hr : Rds m a n 8 xs) (hr2 : Rds m a2 n2 8 ys) (hn : n ≤ big) (hok : fnOk Tryz.prog f = true)
  (hx : ∀ i, i < n → n = n2 → ∃ X Y : Nd, (xs.drop (i * 8)).take 8 = X.cs ∧ (ys.drop (i * 8)).take 8 = Y.cs ∧ ∀ m', leM m m' → Ans f [.v (.agg ⟨X.cs⟩), .v (.agg ⟨Y.cs⟩)] m' (.bool (B i))) :
  Ans 266 [.v (.slice a n c), .v (.slice a2 n2 c2), .v (.func (.func f) ⟨[]⟩ ⟨[]⟩)] m (.bool (decide (n = n2) && allB n B)) := by
 refine enter cfN puN Tryz.func266 rfl rfl (by kernel_rfl) rfl ?_ ?_
 ·simp only [go_sem, ↓tfi, ↓fti, ↓reduceIte]
 ·simp only [go_sem, ↓tfi, ↓fti, ↓reduceIte]
  refine ⟨fun hne => ?_, fun heq => ?_⟩
  ·have : ¬ n = n2 := by clear hx; omega
   rw [decide_eq_false this]
   rfl
  ·have heq : n = n2 := by clear hx; omega
   subst heq
   refine WP_loop puN (fun x : Nat × Mem => ⟨[⟨1, [], .v (.slice a2 n c2)⟩, ⟨2, [], .v (.func (.func f) ⟨[]⟩ ⟨[]⟩)⟩, ⟨15, [], .v (.slice a n c)⟩, ⟨16, [], .v (.int .i64 n)⟩, ⟨17, [], .v (.int .i64 x.1)⟩], [], [], [], 0, x.2⟩)
    (fun x => leM m x.2 ∧ x.1 ≤ n ∧ allB x.1 B = true) (fun x => n - x.1) (0, m) (by kernel_rfl) (fun _ _ => Nnr _) (fun x hx => hx.1) (fun _ => ?_) ?_ ?_ ?_
   ·simp only [go_sem, ↓tfi, ↓fti, ↓reduceIte]
   ·simp only [go_sem, ↓tfi, ↓fti, ↓reduceIte]
    rfl
   ·exact ⟨.inl rfl, Nat.zero_le _, rfl⟩
   ·rintro ⟨k, mm⟩ ⟨h1, h2, h3⟩
    simp only at h1 h2 h3
    have hown : cfN.own f = false := rfl
    have hy : ∀ (hk : k < n), ∃ X Y : Nd, (Rd mm (ptrAt a (k * 8)) X.cs ∧ a ≠ none) ∧ (Rd mm (ptrAt a2 (k * 8)) Y.cs ∧ a2 ≠ none) ∧ Ans f [.v (.agg ⟨X.cs⟩), .v (.agg ⟨Y.cs⟩)] mm (.bool (B k)) := fun hk => by
     obtain ⟨X, Y, e1, e2, e3⟩ := hx k hk rfl
     have r1 := Rds_cells (Rds_upM h1 hr) hk
     have r2 := Rds_cells (Rds_upM h1 hr2) hk
     rw [e1] at r1
     rw [e2] at r2
     exact ⟨X, Y, r1, r2, e3 mm h1⟩
    clear hx
    simp only [go_sem, ↓tfi, ↓fti, ↓reduceIte, hown]
    refine ⟨fun hlt => ?_, fun hge => ⟨h1, ?_⟩⟩
    ·have hk : k < n := by clear hy; omega
     refine Exists.elim (hy hk) fun X hy' => Exists.elim hy' fun Y hy'' => ⟨⟨by clear hy hy' hy''; omega, hlt, hy''.1.2⟩, X.cs, ⟨hy''.1.1, rfl⟩, ?_⟩
     clear hy hy'
     have ha := hy''.2.2
     simp only [go_sem, ↓tfi, ↓fti, ↓reduceIte, hown, Nd.cs]
     refine ⟨⟨by clear hy'' ha; omega, hlt, hy''.2.1.2⟩, Y.cs, ⟨hy''.2.1.1, rfl⟩, ?_⟩
     clear hy''
     simp only [go_sem, ↓tfi, ↓fti, ↓reduceIte, hown, Nd.cs]
     refine ⟨hok, FnV_of ((FnH_den ha (fun V => rfl)).mono ?_)⟩
     clear ha
     rintro r H' m2 hm2 ⟨hle2, rfl, rfl⟩
     simp only [go_sem, ↓tfi, ↓fti, ↓reduceIte]
     refine ⟨fun hb => ⟨leM_tr h1 hle2, ?_⟩, fun hb => ⟨by unfold I64; simp only [big] at hn; omega, (k + 1, m2), ⟨by simp, .inl rfl⟩, ⟨leM_tr h1 hle2, by simp only; omega, ?_⟩, by simp only; omega⟩⟩
     ·rw [allB_no hk hb]; simp
     ·simp only
      rw [allB_succ, h3, hb]
      rfl
    ·have : k = n := by clear hy; omega
     rw [← this, h3]; simp
theorem eqfSd (f : FuncId) (B : Nat → Bool) (a : Option Addr) (n c : Nat) (a2 : Option Addr) (n2 c2 : Nat) (xs ys : List Value) (m : Mem) (hr : Rds m a n 23 xs) (hr2 : Rds m a2 n2 23 ys) (hn : n ≤ big) (hok : fnOk Tryz.prog f = true)
  (hx : ∀ i, i < n → n = n2 → ∃ X Y : Sd, (xs.drop (i * 23)).take 23 = X.cs ∧ (ys.drop (i * 23)).take 23 = Y.cs ∧ ∀ m', leM m m' → Ans f [.v (.agg ⟨X.cs⟩), .v (.agg ⟨Y.cs⟩)] m' (.bool (B i))) :
  Ans 252 [.v (.slice a n c), .v (.slice a2 n2 c2), .v (.func (.func f) ⟨[]⟩ ⟨[]⟩)] m (.bool (decide (n = n2) && allB n B)) := by
 refine enter cfN puN Tryz.func252 rfl rfl (by kernel_rfl) rfl ?_ ?_
 ·simp only [go_sem, ↓tfi, ↓fti, ↓reduceIte]
 ·simp only [go_sem, ↓tfi, ↓fti, ↓reduceIte]
  refine ⟨fun hne => ?_, fun heq => ?_⟩
  ·have : ¬ n = n2 := by clear hx; omega
   rw [decide_eq_false this]
   rfl
  ·have heq : n = n2 := by clear hx; omega
   subst heq
   refine WP_loop puN (fun x : Nat × Mem => ⟨[⟨1, [], .v (.slice a2 n c2)⟩, ⟨2, [], .v (.func (.func f) ⟨[]⟩ ⟨[]⟩)⟩, ⟨15, [], .v (.slice a n c)⟩, ⟨16, [], .v (.int .i64 n)⟩, ⟨17, [], .v (.int .i64 x.1)⟩], [], [], [], 0, x.2⟩)
    (fun x => leM m x.2 ∧ x.1 ≤ n ∧ allB x.1 B = true) (fun x => n - x.1) (0, m) (by kernel_rfl) (fun _ _ => Nnr _) (fun x hx => hx.1) (fun _ => ?_) ?_ ?_ ?_
   ·simp only [go_sem, ↓tfi, ↓fti, ↓reduceIte]
   ·simp only [go_sem, ↓tfi, ↓fti, ↓reduceIte]
    rfl
   ·exact ⟨.inl rfl, Nat.zero_le _, rfl⟩
   ·rintro ⟨k, mm⟩ ⟨h1, h2, h3⟩
    simp only at h1 h2 h3
    have hown : cfN.own f = false := rfl
    have hy : ∀ (hk : k < n), ∃ X Y : Sd, (Rd mm (ptrAt a (k * 23)) X.cs ∧ a ≠ none) ∧ (Rd mm (ptrAt a2 (k * 23)) Y.cs ∧ a2 ≠ none) ∧ Ans f [.v (.agg ⟨X.cs⟩), .v (.agg ⟨Y.cs⟩)] mm (.bool (B k)) := fun hk => by
     obtain ⟨X, Y, e1, e2, e3⟩ := hx k hk rfl
     have r1 := Rds_cells (Rds_upM h1 hr) hk
     have r2 := Rds_cells (Rds_upM h1 hr2) hk
     rw [e1] at r1
     rw [e2] at r2
     exact ⟨X, Y, r1, r2, e3 mm h1⟩
    clear hx
    simp only [go_sem, ↓tfi, ↓fti, ↓reduceIte, hown]
    refine ⟨fun hlt => ?_, fun hge => ⟨h1, ?_⟩⟩
    ·have hk : k < n := by clear hy; omega
     refine Exists.elim (hy hk) fun X hy' => Exists.elim hy' fun Y hy'' => ⟨⟨by clear hy hy' hy''; omega, hlt, hy''.1.2⟩, X.cs, ⟨hy''.1.1, rfl⟩, ?_⟩
     clear hy hy'
     have ha := hy''.2.2
     simp only [go_sem, ↓tfi, ↓fti, ↓reduceIte, hown, Sd.cs]
     refine ⟨⟨by clear hy'' ha; omega, hlt, hy''.2.1.2⟩, Y.cs, ⟨hy''.2.1.1, rfl⟩, ?_⟩
     clear hy''
     simp only [go_sem, ↓tfi, ↓fti, ↓reduceIte, hown, Sd.cs]
     refine ⟨hok, FnV_of ((FnH_den ha (fun V => rfl)).mono ?_)⟩
     clear ha
     rintro r H' m2 hm2 ⟨hle2, rfl, rfl⟩
     simp only [go_sem, ↓tfi, ↓fti, ↓reduceIte]
     refine ⟨fun hb => ⟨leM_tr h1 hle2, ?_⟩, fun hb => ⟨by unfold I64; simp only [big] at hn; omega, (k + 1, m2), ⟨by simp, .inl rfl⟩, ⟨leM_tr h1 hle2, by simp only; omega, ?_⟩, by simp only; omega⟩⟩
     ·rw [allB_no hk hb]; simp
     ·simp only
      rw [allB_succ, h3, hb]
      rfl
    ·have : k = n := by clear hy; omega
     rw [← this, h3]; simp
def Ty.eq (x y : Ty) : Bool := decide (x.dim = y.dim) && (decide (x.base = y.base) && decide (x.name = y.name))
def Pc.eq (x y : Pc) : Bool := decide (x.ty.dim = y.ty.dim) && (decide (x.ty.base = y.ty.base) && (decide (x.ty.name = y.ty.name) && decide (x.name = y.name)))
def Fc.eq (x y : Fc) : Bool := decide (x.fl = y.fl) && (decide (x.ty.dim = y.ty.dim) && (decide (x.ty.base = y.ty.base) && (decide (x.ty.name = y.ty.name) && decide (x.name = y.name))))
structure Md where
 fl : Int
 res : Ty
 name : List UInt8
 params : List Pc
 hb : Bool
 body : List St
structure Cd where
 fl : Int
 name : List UInt8
 super : List UInt8
 ifs : List (List UInt8)
 fields : List Fc
 methods : List Md
 init : List St
def all2 {α : Type} (e : α → α → Bool) : List α → List α → Bool
 | [], [] => true
 | a :: r, b :: t => e a b && all2 e r t
 | _, _ => false
def atB {α : Type} (e : α → α → Bool) (l l2 : List α) (i : Nat) : Bool := match l[i]?, l2[i]? with | some a, some b => e a b | _, _ => false
theorem allB_zero {n : Nat} {B : Nat → Bool} : allB (n + 1) B = (B 0 && allB n fun i => B (i + 1)) := by
 simp only [allB, List.range_succ_eq_map, List.all_cons, List.all_map]
 rfl
theorem all2_allB {α : Type} (e : α → α → Bool) : ∀ (l l2 : List α), all2 e l l2 = (decide (l.length = l2.length) && allB l.length (atB e l l2))
 | [], [] => rfl
 | [], b :: t => by simp [all2]
 | a :: r, [] => by simp [all2]
 | a :: r, b :: t => by
  rw [all2, all2_allB e r t, Llc, Llc, allB_zero]
  have e1 : decide (r.length + 1 = t.length + 1) = decide (r.length = t.length) := by rw [decide_eq_decide]; omega
  have e2 : atB e (a :: r) (b :: t) 0 = e a b := rfl
  have e3 : (fun i => atB e (a :: r) (b :: t) (i + 1)) = atB e r t := by funext i; simp only [atB, List.getElem?_cons_succ]
  rw [e1, e2, e3]
  cases e a b <;> cases decide (r.length = t.length) <;> rfl
theorem atB_at {α : Type} {e : α → α → Bool} {l l2 : List α} {i : Nat} (h : i < l.length) (h2 : i < l2.length) : atB e l l2 i = e l[i] l2[i] := by
 simp only [atB, List.getElem?_eq_getElem h, List.getElem?_eq_getElem h2]
mutual
def eqE : Ex → Ex → Bool
 | .mk k n s c ty args, .mk k' n' s' c' ty' args' => decide (k = k') && decide (n = n') && decide (s = s') && decide (c = c') && Ty.eq ty ty' && eqEs args args'
def eqEs : List Ex → List Ex → Bool
 | [], [] => true
 | a :: r, b :: t => eqE a b && eqEs r t
 | [], _ :: _ => false
 | _ :: _, [] => false
end
theorem eqEs_all2 : ∀ (l l2 : List Ex), eqEs l l2 = all2 eqE l l2
 | [], [] => by simp only [eqEs, all2]
 | a :: r, b :: t => by simp only [eqEs, all2, eqEs_all2 r t]
 | [], _ :: _ => by simp only [eqEs, all2]
 | _ :: _, [] => by simp only [eqEs, all2]
mutual
def eqS : St → St → Bool
 | .mk k nm ty tg ex body alt, .mk k' nm' ty' tg' ex' body' alt' => decide (k = k') && decide (nm = nm') && Ty.eq ty ty' && eqE tg tg' && eqE ex ex' && eqSs body body' && eqSs alt alt'
def eqSs : List St → List St → Bool
 | [], [] => true
 | a :: r, b :: t => eqS a b && eqSs r t
 | [], _ :: _ => false
 | _ :: _, [] => false
end
theorem eqSs_all2 : ∀ (l l2 : List St), eqSs l l2 = all2 eqS l l2
 | [], [] => by simp only [eqSs, all2]
 | a :: r, b :: t => by simp only [eqSs, all2, eqSs_all2 r t]
 | [], _ :: _ => by simp only [eqSs, all2]
 | _ :: _, [] => by simp only [eqSs, all2]
/-! In memory. -/
structure StOk (k : Int) (nm : List UInt8) (ty : Ty) (l l2 : Nat) : Prop where
 k : I64 k
 nm : nm.length ≤ big
 ty : TyOk ty
 l : l ≤ big
 l2 : l2 ≤ big
mutual
def stRep (m : Mem) : St → List Value → Prop
 | .mk k nm ty tg ex body alt, cs => ∃ x : Sd, (cs = x.cs ∧ x.k = k ∧ x.name = nm ∧ x.ty = ty) ∧ exRep m tg x.tg.cs ∧ exRep m ex x.ex.cs ∧ (x.l = body.length ∧ x.l ≤ x.cp ∧ x.l2 = alt.length ∧ x.l2 ≤ x.cp2) ∧ StOk k nm ty body.length alt.length ∧
   ∃ xs ys, Rds m x.a x.l 23 xs ∧ Rds m x.b x.l2 23 ys ∧ stsRep m body xs ∧ stsRep m alt ys
def stsRep (m : Mem) : List St → List Value → Prop
 | [], _ => True
 | e :: r, xs => stRep m e (xs.take 23) ∧ stsRep m r (xs.drop 23)
end
theorem sts_at {m : Mem} : ∀ {l : List St} {xs : List Value} {i : Nat} (_ : stsRep m l xs) (hi : i < l.length), stRep m l[i] ((xs.drop (i * 23)).take 23)
 | [], _, _, _, hi => absurd hi (Nat.not_lt_zero _)
 | e :: r, xs, 0, h, _ => by simp only [stsRep] at h; simpa using h.1
 | e :: r, xs, i + 1, h, hi => by
  simp only [stsRep] at h
  have := sts_at (i := i) h.2 (by simpa using hi)
  rw [List.drop_drop] at this
  rw [show (i + 1) * 23 = 23 + i * 23 by omega]
  exact this
mutual
theorem stRep_up {m m' : Mem} (hle : m.le m') : ∀ (e : St) (cs : List Value), stRep m e cs → stRep m' e cs
 | .mk k nm ty tg ex body alt, cs, h => by
  simp only [stRep] at h ⊢
  obtain ⟨x, h1, h2, h3, h4, h5, xs, ys, h6, h7, h8, h9⟩ := h
  exact ⟨x, h1, exRep_up hle _ _ h2, exRep_up hle _ _ h3, h4, h5, xs, ys, Rds_up hle h6, Rds_up hle h7, stsRep_up hle body xs h8, stsRep_up hle alt ys h9⟩
theorem stsRep_up {m m' : Mem} (hle : m.le m') : ∀ (l : List St) (xs : List Value), stsRep m l xs → stsRep m' l xs
 | [], _, _ => by simp only [stsRep]
 | e :: r, xs, h => by
  simp only [stsRep] at h ⊢
  exact ⟨stRep_up hle e _ h.1, stsRep_up hle r _ h.2⟩
end
theorem stsRep_upM {m m' : Mem} {l : List St} {cs : List Value} (hle : leM m m') (h : stsRep m l cs) : stsRep m' l cs := by
 rcases hle with rfl | hle
 ·exact h
 ·exact stsRep_up hle l cs h
theorem stRep_upM {m m' : Mem} {l : St} {cs : List Value} (hle : leM m m') (h : stRep m l cs) : stRep m' l cs := by
 rcases hle with rfl | hle
 ·exact h
 ·exact stRep_up hle l cs h
theorem stRep_sd {m : Mem} {e : St} {cs : List Value} (h : stRep m e cs) : ∃ x : Sd, cs = x.cs := by
 cases e with
 | mk k nm ty tg ex body alt =>
  simp only [stRep] at h
  obtain ⟨x, h1, _⟩ := h
  exact ⟨x, h1.1⟩
def lsRep {α : Type} (R : α → List Value → Prop) (sz : Nat) : List α → List Value → Prop
 | [], _ => True
 | e :: r, xs => R e (xs.take sz) ∧ lsRep R sz r (xs.drop sz)
theorem ls_at {α : Type} {R : α → List Value → Prop} {sz : Nat} : ∀ {l : List α} {xs : List Value} {i : Nat} (_ : lsRep R sz l xs) (hi : i < l.length), R l[i] ((xs.drop (i * sz)).take sz)
 | [], _, _, _, hi => absurd hi (Nat.not_lt_zero _)
 | e :: r, xs, 0, h, _ => by simpa using h.1
 | e :: r, xs, i + 1, h, hi => by
  have := ls_at (i := i) h.2 (by simpa using hi)
  rw [List.drop_drop] at this
  rw [show (i + 1) * sz = sz + i * sz by rw [Nat.succ_mul, Nat.add_comm]]
  exact this
theorem ls_up {α : Type} {R R' : α → List Value → Prop} {sz : Nat} (h : ∀ a cs, R a cs → R' a cs) : ∀ {l : List α} {xs : List Value}, lsRep R sz l xs → lsRep R' sz l xs
 | [], _, _ => trivial
 | _ :: _, _, hl => ⟨h _ _ hl.1, ls_up h hl.2⟩
def flat {α : Type} (f : α → List Value) (l : List α) : List Value := (l.map f).flatten
theorem flat_at {α : Type} {f : α → List Value} {sz : Nat} (hf : ∀ x, (f x).length = sz) : ∀ {l : List α} {i : Nat} (hi : i < l.length), ((flat f l).drop (i * sz)).take sz = f l[i]
 | [], _, hi => absurd hi (Nat.not_lt_zero _)
 | x :: r, 0, _ => by
  simp only [flat, List.map_cons, List.flatten_cons, Nat.zero_mul, List.drop_zero, List.getElem_cons_zero]
  rw [← hf x, List.take_left]
 | x :: r, i + 1, hi => by
  have := flat_at hf (l := r) (i := i) (by simpa using hi)
  simp only [List.getElem_cons_succ]
  rw [← this, Nat.succ_mul, Nat.add_comm, ← List.drop_drop]
  congr 2
  simp only [flat, List.map_cons, List.flatten_cons]
  rw [← hf x, List.drop_left]
structure PcOk (p : Pc) : Prop where
 ty : TyOk p.ty
 name : p.name.length ≤ big
structure FcOk (p : Fc) : Prop where
 fl : I64 p.fl
 ty : TyOk p.ty
 name : p.name.length ≤ big
structure MdOk (d : Md) : Prop where
 fl : I64 d.fl
 res : TyOk d.res
 name : d.name.length ≤ big
 pl : d.params.length ≤ big
 ps : ∀ p ∈ d.params, PcOk p
 l : d.body.length ≤ big
def mdRep (m : Mem) (d : Md) (cs : List Value) : Prop := ∃ x : Mc, (cs = x.cs ∧ x.fl = d.fl ∧ x.res = d.res ∧ x.name = d.name ∧ x.hb = d.hb) ∧ (x.pl = d.params.length ∧ x.pl ≤ x.pc ∧ x.l = d.body.length ∧ x.l ≤ x.cp) ∧ MdOk d ∧
 Rds m x.pa x.pl 4 (flat Pc.cs d.params) ∧ ∃ xs, Rds m x.a x.l 23 xs ∧ stsRep m d.body xs
structure CdOk (d : Cd) : Prop where
 fl : I64 d.fl
 name : d.name.length ≤ big
 super : d.super.length ≤ big
 il : d.ifs.length ≤ big
 ifs : ∀ s ∈ d.ifs, s.length ≤ big
 fn : d.fields.length ≤ big
 fs : ∀ s ∈ d.fields, FcOk s
 ml : d.methods.length ≤ big
 l : d.init.length ≤ big
def cdRep (m : Mem) (d : Cd) (cs : List Value) : Prop := ∃ x : Cc, (cs = x.cs ∧ x.fl = d.fl ∧ x.name = d.name ∧ x.super = d.super) ∧ (x.il = d.ifs.length ∧ x.il ≤ x.ic ∧ x.fn = d.fields.length ∧ x.fn ≤ x.fc ∧ x.ml = d.methods.length ∧ x.ml ≤ x.mc ∧ x.sl = d.init.length ∧ x.sl ≤ x.sc) ∧ CdOk d ∧
 Rds m x.ia x.il 1 (strs d.ifs) ∧ Rds m x.fa x.fn 5 (flat Fc.cs d.fields) ∧ ∃ xs ys, Rds m x.ma x.ml 8 xs ∧ lsRep (mdRep m) 8 d.methods xs ∧ Rds m x.sa x.sl 23 ys ∧ stsRep m d.init ys
theorem mdRep_up {m m' : Mem} (hle : leM m m') {d : Md} {cs : List Value} (h : mdRep m d cs) : mdRep m' d cs := by
 obtain ⟨x, h1, h2, h3, h4, xs, h5, h6⟩ := h
 exact ⟨x, h1, h2, h3, Rds_upM hle h4, xs, Rds_upM hle h5, stsRep_upM hle h6⟩
theorem cdRep_up {m m' : Mem} (hle : leM m m') {d : Cd} {cs : List Value} (h : cdRep m d cs) : cdRep m' d cs := by
 obtain ⟨x, h1, h2, h3, h4, h5, xs, ys, h6, h7, h8, h9⟩ := h
 exact ⟨x, h1, h2, h3, Rds_upM hle h4, Rds_upM hle h5, xs, ys, Rds_upM hle h6, ls_up (fun _ _ => mdRep_up hle) h7, Rds_upM hle h8, stsRep_upM hle h9⟩
def prRep (m : Mem) (l : List Cd) (a : Option Addr) (n c : Nat) : Prop := n = l.length ∧ n ≤ c ∧ n ≤ big ∧ ∃ xs, Rds m a n 7 xs ∧ lsRep (cdRep m) 7 l xs
mutual
def depthS : St → Nat
 | .mk _ _ _ _ _ body alt => max (depthSs body) (depthSs alt) + 1
def depthSs : List St → Nat
 | [] => 0
 | e :: r => max (depthS e) (depthSs r)
end
theorem depthSs_mem : ∀ {l : List St} {e : St}, e ∈ l → depthS e ≤ depthSs l
 | [], e, he => by cases he
 | x :: r, e, he => by
  simp only [depthSs]
  rcases List.mem_cons.1 he with rfl | he
  ·omega
  ·have := depthSs_mem he; omega
theorem eqX_fact {m : Mem} {l l2 : List Ex} {xs ys : List Value} (h1 : exsRep m l xs) (h2 : exsRep m l2 ys) {f : FuncId} (hf : ∀ a ∈ l, ∀ b ∈ l2, ∀ ca cb m', leM m m' → exRep m' a ca → exRep m' b cb → Ans f [.v (.agg ⟨ca⟩), .v (.agg ⟨cb⟩)] m' (.bool (eqE a b))) :
  ∀ i, i < l.length → l.length = l2.length → ∃ X Y : Nd, (xs.drop (i * 8)).take 8 = X.cs ∧ (ys.drop (i * 8)).take 8 = Y.cs ∧ ∀ m', leM m m' → Ans f [.v (.agg ⟨X.cs⟩), .v (.agg ⟨Y.cs⟩)] m' (.bool (atB eqE l l2 i)) := fun i hi he => by
 have r1 := exs_at h1 hi
 have r2 := exs_at h2 (by omega : i < l2.length)
 obtain ⟨X, hX⟩ := exRep_nd r1
 obtain ⟨Y, hY⟩ := exRep_nd r2
 rw [hX] at r1
 rw [hY] at r2
 refine ⟨X, Y, hX, hY, fun m' hle => ?_⟩
 rw [atB_at hi (by omega)]
 exact hf _ (List.getElem_mem hi) _ (List.getElem_mem _) _ _ m' hle (exRep_upM hle r1) (exRep_upM hle r2)
theorem eqE_all : ∀ (h : Nat) (a b : Ex) (ca cb : List Value) (m : Mem), depthE a ≤ h → exRep m a ca → exRep m b cb → Ans 251 [.v (.agg ⟨ca⟩), .v (.agg ⟨cb⟩)] m (.bool (eqE a b))
 | 0, .mk k n s c ty args, b, ca, cb, m, hd, _, _ => by simp [depthE] at hd
 | h + 1, .mk k n s c ty args, .mk k' n' s' c' ty' args', ca, cb, m, hd, ha, hb => by
  simp only [exRep] at ha hb
  obtain ⟨a, cp, xs, rfl, hcp, hr, hok, hes⟩ := ha
  obtain ⟨a', cp', xs', rfl, hcp', hr', hok', hes'⟩ := hb
  simp only [depthE] at hd
  have hE := fun m' (hle : leM m m') => eqfNd 251 (atB eqE args args') a args.length cp a' args'.length cp' xs xs' m' (Rds_upM hle hr) (Rds_upM hle hr') hok.2.2.2.2.2 (by kernel_rfl)
   (eqX_fact (exsRep_upM hle hes) (exsRep_upM hle hes') fun x hx y hy cx cy m'' hle2 r1 r2 => eqE_all h x y cx cy m'' (by have := depthL_mem hx; omega) r1 r2)
  simp only [← all2_allB] at hE
  refine enter cfN puN Tryz.func251 rfl rfl (by kernel_rfl) rfl ?_ ?_
  ·simp only [go_sem, ↓tfi, ↓fti, ↓reduceIte, exC]
  ·simp only [go_sem, ↓tfi, ↓fti, ↓reduceIte, exC, eqOkT]
   refine ⟨fun h => cvl ((hE m (.inl rfl)).mono ?_), fun h => ?_⟩
   ·clear hE
    rintro r H' m2 hm2 ⟨hle2, rfl, rfl⟩
    simp only [go_sem, ↓tfi, ↓fti, ↓reduceIte]
    refine ⟨hle2, ?_⟩
    simp only [eqE, eqEs_all2, Ty.eq, h, decide_true, Bool.true_and]
   ·clear hE
    simp only [eqE, Ty.eq]
    rcases h with (((h | h) | h) | h) | h | h | h <;> simp [h]
theorem eq_fact {α N : Type} {R : Mem → α → List Value → Prop} {csN : N → List Value} {sz : Nat} {e : α → α → Bool} (hup : ∀ m m' a c, leM m m' → R m a c → R m' a c) (hN : ∀ m a c, R m a c → ∃ x : N, c = csN x) {m : Mem} {l l2 : List α} {xs ys : List Value}
  (h1 : ∀ i (hi : i < l.length), R m l[i] ((xs.drop (i * sz)).take sz)) (h2 : ∀ i (hi : i < l2.length), R m l2[i] ((ys.drop (i * sz)).take sz)) {f : FuncId} (hf : ∀ a ∈ l, ∀ b ∈ l2, ∀ ca cb m', leM m m' → R m' a ca → R m' b cb → Ans f [.v (.agg ⟨ca⟩), .v (.agg ⟨cb⟩)] m' (.bool (e a b))) :
  ∀ i, i < l.length → l.length = l2.length → ∃ X Y : N, (xs.drop (i * sz)).take sz = csN X ∧ (ys.drop (i * sz)).take sz = csN Y ∧ ∀ m', leM m m' → Ans f [.v (.agg ⟨csN X⟩), .v (.agg ⟨csN Y⟩)] m' (.bool (atB e l l2 i)) := fun i hi he => by
 have r1 := h1 i hi
 have r2 := h2 i (by omega : i < l2.length)
 obtain ⟨X, hX⟩ := hN _ _ _ r1
 obtain ⟨Y, hY⟩ := hN _ _ _ r2
 rw [hX] at r1
 rw [hY] at r2
 refine ⟨X, Y, hX, hY, fun m' hle => ?_⟩
 rw [atB_at hi (by omega)]
 exact hf _ (List.getElem_mem hi) _ (List.getElem_mem _) _ _ m' (hle) (hup _ _ _ _ hle r1) (hup _ _ _ _ hle r2)
theorem eqS_all : ∀ (h : Nat) (a b : St) (ca cb : List Value) (m : Mem), depthS a ≤ h → stRep m a ca → stRep m b cb → Ans 236 [.v (.agg ⟨ca⟩), .v (.agg ⟨cb⟩)] m (.bool (eqS a b))
 | 0, .mk k nm ty tg ex body alt, b, ca, cb, m, hd, _, _ => by simp [depthS] at hd
 | h + 1, .mk k nm ty tg ex body alt, .mk k' nm' ty' tg' ex' body' alt', ca, cb, m, hd, ha, hb => by
  simp only [stRep] at ha hb
  obtain ⟨x, ⟨rfl, rfl, rfl, rfl⟩, htg, hex, ⟨hl, hcp, hl2, hcp2⟩, hok, xs, ys, r1, r2, s1, s2⟩ := ha
  obtain ⟨x', ⟨rfl, rfl, rfl, rfl⟩, htg', hex', ⟨hl', hcp', hl2', hcp2'⟩, hok', xs', ys', r1', r2', s1', s2'⟩ := hb
  simp only [depthS] at hd
  have hT := fun m' (hle : leM m m') => eqE_all _ tg tg' x.tg.cs x'.tg.cs m' (Nnr _) (exRep_upM hle htg) (exRep_upM hle htg')
  have hX := fun m' (hle : leM m m') => eqE_all _ ex ex' x.ex.cs x'.ex.cs m' (Nnr _) (exRep_upM hle hex) (exRep_upM hle hex')
  have hB : ∀ m', leM m m' → Ans 252 [.v (.slice x.a x.l x.cp), .v (.slice x'.a x'.l x'.cp), .v (.func (.func 236) ⟨[]⟩ ⟨[]⟩)] m' (.bool (eqSs body body')) := fun m' hle => by
   have hf := eq_fact (R := stRep) (csN := Sd.cs) (e := eqS) (f := 236) (fun _ _ _ _ => stRep_upM) (fun _ _ _ => stRep_sd) (fun i hi => sts_at (stsRep_upM hle s1) hi) (fun i hi => sts_at (stsRep_upM hle s1') hi)
    (fun a ha b hb ca cb m2 hle2 => eqS_all h a b ca cb m2 (by have := depthSs_mem ha; omega))
   rw [eqSs_all2, all2_allB]
   rw [← hl, ← hl'] at hf ⊢
   exact eqfSd _ _ x.a x.l x.cp x'.a x'.l x'.cp xs xs' m' (Rds_upM hle r1) (Rds_upM hle r1') (by rw [hl]; exact hok.l) (by kernel_rfl) hf
  have hA : ∀ m', leM m m' → Ans 252 [.v (.slice x.b x.l2 x.cp2), .v (.slice x'.b x'.l2 x'.cp2), .v (.func (.func 236) ⟨[]⟩ ⟨[]⟩)] m' (.bool (eqSs alt alt')) := fun m' hle => by
   have hf := eq_fact (R := stRep) (csN := Sd.cs) (e := eqS) (f := 236) (fun _ _ _ _ => stRep_upM) (fun _ _ _ => stRep_sd) (fun i hi => sts_at (stsRep_upM hle s2) hi) (fun i hi => sts_at (stsRep_upM hle s2') hi)
    (fun a ha b hb ca cb m2 hle2 => eqS_all h a b ca cb m2 (by have := depthSs_mem ha; omega))
   rw [eqSs_all2, all2_allB]
   rw [← hl2, ← hl2'] at hf ⊢
   exact eqfSd _ _ x.b x.l2 x.cp2 x'.b x'.l2 x'.cp2 ys ys' m' (Rds_upM hle r2) (Rds_upM hle r2') (by rw [hl2]; exact hok.l2) (by kernel_rfl) hf
  clear s1 s2 s1' s2'
  refine enter cfN puN Tryz.func236 rfl rfl (by kernel_rfl) rfl ?_ ?_
  ·simp only [go_sem, ↓tfi, ↓fti, ↓reduceIte, Sd.cs, Nd.cs]
  ·simp only [go_sem, ↓tfi, ↓fti, ↓reduceIte, Sd.cs, Nd.cs, eqOkT]
   refine ⟨fun h => cvl ((FnH_den (hT m (.inl rfl)) (fun V => rfl)).mono ?_), fun h => ?_⟩
   ·clear hT
    rintro r H' m2 hm2 ⟨l2, rfl, rfl⟩
    simp only [go_sem, ↓tfi, ↓fti, ↓reduceIte, Sd.cs, Nd.cs]
    have e0 : eqS (St.mk x.k x.name x.ty tg ex body alt) (St.mk x'.k x'.name x'.ty tg' ex' body' alt') = (eqE tg tg' && eqE ex ex' && eqSs body body' && eqSs alt alt') := by simp only [eqS, Ty.eq, h, decide_true, Bool.true_and]
    refine ⟨fun h1 => cvl ((FnH_den (hX m2 l2) (fun V => rfl)).mono ?_), fun h1 => ?_⟩
    ·clear hX
     rintro r H' m3 hm3 ⟨l3, rfl, rfl⟩
     simp only [go_sem, ↓tfi, ↓fti, ↓reduceIte, Sd.cs, Nd.cs]
     refine ⟨fun h2 => cvl ((hB m3 (leM_tr l2 l3)).mono ?_), fun h2 => ?_⟩
     ·clear hB
      rintro r H' m4 hm4 ⟨l4, rfl, rfl⟩
      simp only [go_sem, ↓tfi, ↓fti, ↓reduceIte, Sd.cs, Nd.cs]
      refine ⟨fun h3 => cvl ((hA m4 (leM_tr (leM_tr l2 l3) l4)).mono ?_), fun h3 => ?_⟩
      ·clear hA
       rintro r H' m5 hm5 ⟨l5, rfl, rfl⟩
       simp only [go_sem, ↓tfi, ↓fti, ↓reduceIte, Sd.cs, Nd.cs]
       refine ⟨leM_tr (leM_tr (leM_tr l2 l3) l4) l5, ?_⟩
       rw [e0, h1, h2, h3]; rfl
      ·refine ⟨leM_tr (leM_tr l2 l3) l4, ?_⟩
       rw [e0, h3, Bool.and_false]; rfl
     ·refine ⟨leM_tr l2 l3, ?_⟩
      rw [e0, h2, Bool.and_false]; rfl
    ·refine ⟨l2, ?_⟩
     rw [e0, h1]; rfl
   ·clear hT hX hB hA
    simp only [eqS, Ty.eq]
    rcases h with (h | h) | h | h | h <;> simp [h]
theorem mdRep_mc {m : Mem} {e : Md} {cs : List Value} (h : mdRep m e cs) : ∃ x : Mc, cs = x.cs := by
 obtain ⟨x, h1, _⟩ := h
 exact ⟨x, h1.1⟩
end Go.Proofs.YtimddhkipjedcaaGreatDoor.E

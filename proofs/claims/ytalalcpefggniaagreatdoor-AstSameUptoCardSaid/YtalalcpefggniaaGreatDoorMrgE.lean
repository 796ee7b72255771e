/- Several texts in one: AstV, AstB, AstC, AstD, AstE, AstF, AstG. -/
import Derived.Test.YtalalcpefggniaaGreatDoorMrgD
import Derived.Laws.StructEq
/- ast, part V: equal structs (from the lex texts, by pick.py). -/
set_option linter.unusedSimpArgs false
set_option linter.unusedVariables false
namespace Go.Proofs.YtalalcpefggniaaGreatDoor.E
open Go
theorem fit_int {k : IntKind} {n : Int} {x : Value} (h : fitC (.v (.int k n)) (.v x) = true) : ∃ a, x = .int k a := by
  cases x <;> simp only [fitC] at h
  case int k' a => exact ⟨a, by have := of_decide_eq_true h; subst this; rfl⟩
  all_goals cases h
theorem fit_str {s : ByteArray} {x : Value} (h : fitC (.v (.string s)) (.v x) = true) : ∃ a, x = .string a := by
  cases x <;> simp only [fitC] at h
  case string a => exact ⟨a, rfl⟩
  all_goals cases h
theorem eq_int {k : IntKind} {a : Int} {y : Value} {e : Bool} (h : cellEq (.v (.int k a)) (.v y) = some e) : ∃ b, y = .int k b ∧ e = decide (a = b) := by
  cases y <;> simp only [cellEq] at h
  case int k' b =>
    split at h
    · rename_i hk; subst hk; exact ⟨b, rfl, (Option.some.inj h).symm⟩
    · cases h
  all_goals cases h
theorem eq_str {a : ByteArray} {y : Value} {e : Bool} (h : cellEq (.v (.string a)) (.v y) = some e) : ∃ b, y = .string b ∧ e = decide (tl a = tl b) := by
  cases y <;> simp only [cellEq] at h
  case string b => exact ⟨b, rfl, (Option.some.inj h).symm⟩
  all_goals cases h
theorem fitL_cons {z : SV} {zs : List SV} {xs : List Value} (h : fitL (z :: zs) (xs.map .v) = true) : ∃ x r, xs = x :: r ∧ fitC z (.v x) = true ∧ fitL zs (r.map .v) = true := by
  cases xs with
  | nil => simp [fitL] at h
  | cons x r => simp only [List.map_cons, fitL, Bool.and_eq_true] at h; exact ⟨x, r, rfl, h.1, h.2⟩
theorem fitL_nil {xs : List Value} (h : fitL [] (xs.map .v) = true) : xs = [] := by
  cases xs with
  | nil => rfl
  | cons x r => simp [fitL] at h
theorem cells_cons {x : Value} {xs ys : List Value} {b : Bool} (h : cellsEq ((x :: xs).map .v) (ys.map .v) = some b) : ∃ y r e e', ys = y :: r ∧ cellEq (.v x) (.v y) = some e ∧ cellsEq (xs.map .v) (r.map .v) = some e' ∧ b = (e && e') := by
  cases ys with
  | nil => simp [cellsEq] at h
  | cons y r =>
    simp only [List.map_cons, cellsEq, Option.bind_eq_some_iff, Option.map_eq_some_iff] at h
    obtain ⟨e, he, e', he', rfl⟩ := h
    exact ⟨y, r, e, e', rfl, he, he', rfl⟩
theorem cells_nil {ys : List Value} {b : Bool} (h : cellsEq [] (ys.map .v) = some b) : ys = [] ∧ b = true := by
  cases ys with
  | nil => simp only [List.map_nil, cellsEq, Option.some.injEq] at h; exact ⟨rfl, h.symm⟩
  | cons y r => simp [cellsEq] at h
/-- The fields are plain cells, one behind the other. -/
def kindOk (P : Program) (t : TypeId) : SV → Bool
  | .v (.int _ _) => match P.underlying t with | some (.int _) => true | _ => false
  | .v (.string _) => match P.underlying t with | some .string => true | _ => false
  | .v (.bool _) => match P.underlying t with | some .bool => true | _ => false
  | _ => false
def eqFs (P : Program) : Nat → List SV → List Field → Bool
  | _, [], [] => true
  | off, z :: zs, f :: fs => f.name != "_" && decide (f.offset = off) && decide (aggN P f.type = some none) && kindOk P f.type z && eqFs P (off + 1) zs fs
  | _, _, _ => false
theorem run_eqCell {P : Program} {t : TypeId} {z : SV} {x y : Value} {e : Bool} {w : World} (d : Nat) (hk : kindOk P t z = true) (hf : fitC z (.v x) = true) (he : cellEq (.v x) (.v y) = some e) :
    (Op.equalIn (d + 1) t x y).run P w = .ok e w := by
  cases z with
  | v z =>
    cases z with
    | int k n =>
      obtain ⟨a, rfl⟩ := fit_int hf
      obtain ⟨b, rfl, rfl⟩ := eq_int he
      simp only [kindOk] at hk
      split at hk
      · rename_i k' hu
        rw [run_equalIn_int w d t k k' a b hu, Bool.beq_eq_decide_eq]
      · cases hk
    | string n =>
      obtain ⟨a, rfl⟩ := fit_str hf
      obtain ⟨b, rfl, rfl⟩ := eq_str he
      simp only [kindOk] at hk
      split at hk
      · rename_i hu
        rw [run_equalIn_string w d t a b hu, toList_tl, toList_tl, Bool.beq_eq_decide_eq]
      · cases hk
    | bool n =>
      cases x <;> simp only [fitC] at hf
      case bool a =>
        cases y <;> simp only [cellEq] at he
        case bool b =>
          cases he
          simp only [kindOk] at hk
          split at hk
          · rename_i hu
            rw [run_equalIn_bool' w d t a b hu]
          · cases hk
        all_goals cases he
      all_goals cases hf
    | _ => cases hk
  | _ => cases hk
theorem run_eqFs {P : Program} {d : Nat} {w : World} {cs ds : List Value} : ∀ {fs : List Field} {zs : List SV} {off : Nat} {us vs : List Value} {b : Bool},
    eqFs P off zs fs = true → fitL zs (us.map .v) = true → cellsEq (us.map .v) (vs.map .v) = some b → cs.drop off = us → ds.drop off = vs → (Op.eqFields (d + 1) ⟨cs⟩ ⟨ds⟩ fs).run P w = .ok b w
  | [], zs, off, us, vs, b, h, hf, he, hu, hv => by
    cases zs with
    | nil =>
      cases fitL_nil hf
      rw [List.map_nil] at he
      obtain ⟨_, rfl⟩ := cells_nil he
      rfl
    | cons z zs => cases h
  | f :: fs, zs, off, us, vs, b, h, hf, he, hu, hv => by
    cases zs with
    | nil => cases h
    | cons z zs =>
      simp only [eqFs, Bool.and_eq_true, decide_eq_true_eq, bne_iff_ne] at h
      obtain ⟨⟨⟨⟨h1, h2⟩, h3⟩, h4⟩, h5⟩ := h
      obtain ⟨x, us', rfl, g1, g2⟩ := fitL_cons hf
      obtain ⟨y, vs', e, e', rfl, g3, g4, rfl⟩ := cells_cons he
      have hx : cs[off]? = some x := by
        have := congrArg (fun l : List Value => l[0]?) hu
        simpa using this
      have hy : ds[off]? = some y := by
        have := congrArg (fun l : List Value => l[0]?) hv
        simpa using this
      have hu' : cs.drop (off + 1) = us' := by
        have := congrArg (List.drop 1) hu
        rw [List.drop_drop] at this
        simpa [Nat.add_comm] using this
      have hv' : ds.drop (off + 1) = vs' := by
        have := congrArg (List.drop 1) hv
        rw [List.drop_drop] at this
        simpa [Nat.add_comm] using this
      subst h2
      simp only [Op.eqFields, if_pos h1, Sem.run_bind, run_part h3 (show _ from hx), run_part h3 (show _ from hy), Result.andThen_ok, run_eqCell d h4 g1 g3]
      cases e with
      | false => simp
      | true =>
        simp only [Bool.not_true, Bool.false_eq_true, if_false, Bool.true_and]
        exact run_eqFs h5 g2 g4 hu' hv'
theorem eqOk_of {P : Program} {t : TypeId} {zs : List SV} {fs : List Field} (hz : zeroO P t = some zs) (hg : P.eqGuardType P.depth t = false) (hu : P.underlying t = some (.struct (P.fieldsOf t))) (hp : P.stoodInHeld t = false)
    (hfs : (P.fieldsOf t).toList = fs) (h : eqFs P 0 zs fs = true) : EqOk P t := by
  intro xs ys b w o o' op he hf
  rw [hz] at hf
  refine ⟨run_eqGuard_agg w op t o o' _ _ hg, ?_⟩
  show (Op.equalIn (9999 + 1) t _ _).run _ w = _
  rw [run_equalIn_struct w 9999 t _ _ hu hp, hfs]
  exact run_eqFs (d := 9998) h hf he rfl rfl
end Go.Proofs.YtalalcpefggniaaGreatDoor.E

/- ast, part B: identifiers, types, texts. -/
set_option linter.unusedSimpArgs false
set_option linter.unusedVariables false
namespace Go.Proofs.YtalalcpefggniaaGreatDoor.E
open Go

theorem agg4 : aggN Tryz.prog 4 = some none := by kernel_rfl
theorem sz4 : szT Tryz.prog 4 = 1 := by kernel_rfl
theorem aggT : aggN Tryz.prog 29 = some (some 3) := by kernel_rfl
theorem szTy : szT Tryz.prog 29 = 3 := by kernel_rfl
theorem zeroT : zeroO Tryz.prog 29 = some [.v (.int .i64 0), .v (.int .u8 0), .v (.string (bs []))] := by kernel_rfl
theorem fldT_0 : fldO Tryz.prog 29 0 = some (0, none, 1) := by kernel_rfl
theorem fldT_1 : fldO Tryz.prog 29 1 = some (1, none, 1) := by kernel_rfl
theorem fldT_2 : fldO Tryz.prog 29 2 = some (2, none, 1) := by kernel_rfl
theorem bldT : bldOk Tryz.prog 29 = true := by kernel_rfl
theorem eqOkT : EqOk Tryz.prog 29 := eqOk_of zeroT (by kernel_rfl) (by kernel_rfl) (by kernel_rfl) rfl (by kernel_rfl)
theorem aggX : aggN Tryz.prog 32 = some (some 8) := by kernel_rfl
theorem szX : szT Tryz.prog 32 = 8 := by kernel_rfl
theorem zeroX : zeroO Tryz.prog 32 = some [.v (.int .i64 0), .v (.int .i64 0), .v (.string (bs [])), .v (.string (bs [])), .v (.int .i64 0), .v (.int .u8 0), .v (.string (bs [])), .v (.slice none 0 0)] := by kernel_rfl
theorem fldX_0 : fldO Tryz.prog 32 0 = some (0, none, 1) := by kernel_rfl
theorem fldX_1 : fldO Tryz.prog 32 1 = some (1, none, 1) := by kernel_rfl
theorem fldX_2 : fldO Tryz.prog 32 2 = some (2, none, 1) := by kernel_rfl
theorem fldX_3 : fldO Tryz.prog 32 3 = some (3, none, 1) := by kernel_rfl
theorem fldX_4 : fldO Tryz.prog 32 4 = some (4, some 3, 3) := by kernel_rfl
theorem fldX_5 : fldO Tryz.prog 32 5 = some (7, none, 1) := by kernel_rfl
theorem bldX : bldOk Tryz.prog 32 = true := by kernel_rfl
theorem aggLX : aggN Tryz.prog 30 = some none := by kernel_rfl
theorem szLX : szT Tryz.prog 30 = 1 := by kernel_rfl
theorem elLX : elT Tryz.prog 30 = some 32 := by kernel_rfl
theorem aggLs : aggN Tryz.prog 51 = some none := by kernel_rfl
theorem aggS : aggN Tryz.prog 120 = some (some 5) := by kernel_rfl
theorem szS : szT Tryz.prog 120 = 5 := by kernel_rfl
theorem zeroS : zeroO Tryz.prog 120 = some [.v (.bool false), .v (.bool false), .v (.bool false), .v (.int .i64 0), .v (.int .i64 0)] := by kernel_rfl
theorem fldS_0 : fldO Tryz.prog 120 0 = some (0, none, 1) := by kernel_rfl
theorem fldS_1 : fldO Tryz.prog 120 1 = some (1, none, 1) := by kernel_rfl
theorem fldS_2 : fldO Tryz.prog 120 2 = some (2, none, 1) := by kernel_rfl
theorem fldS_3 : fldO Tryz.prog 120 3 = some (3, none, 1) := by kernel_rfl
theorem fldS_4 : fldO Tryz.prog 120 4 = some (4, none, 1) := by kernel_rfl
theorem bldS : bldOk Tryz.prog 120 = true := by kernel_rfl
attribute [go_sem] agg4 sz4 aggT szTy zeroT fldT_0 fldT_1 fldT_2 bldT aggX szX zeroX fldX_0 fldX_1 fldX_2 fldX_3 fldX_4 fldX_5 bldX aggLX szLX elLX aggLs aggS szS zeroS fldS_0 fldS_1 fldS_2 fldS_3 fldS_4 bldS

def initS : List UInt8 := [60, 105, 110, 105, 116, 62]
def clinitS : List UInt8 := [60, 99, 108, 105, 110, 105, 116, 62]
/-- The name of a member. -/
def isMem (s : List UInt8) : Bool := decide (s = initS) || decide (s = clinitS) || (isName s && decide (Lib.indexByte s 47 < 0))
def identL (s : List UInt8) : Bool := isMem s && decide (s.getD 0 0 ≠ 60) && !isCls s && !keywordsL.contains s
set_option maxRecDepth 20000 in
theorem isMem_spec (s : List UInt8) (m : Mem) (hs : BL s) : FnH Tryz.prog 117 [.v (.string (bs s))] ⟨[], []⟩ m fun r H' _ => r = .v (.bool (isMem s)) ∧ H' = ⟨[], []⟩ := by
  refine enter cf6 pu6 Tryz.func117 rfl rfl (by kernel_rfl) rfl ?_ ?_
  · simp only [go_sem, ↓imp_tf, ↓imp_ft, ↓reduceIte, Nat.reduceBEq, Nat.reduceAdd, Nat.reduceMul, Nat.reduceSub, Nat.reduceEqDiff, Nat.reduceLT, Nat.reduceLeDiff, Option.map, Option.bind, List.map, List.length, reduceCtorEq, Option.toList, Option.getD, List.set, List.drop, List.take, Int.reduceToNat]
  · simp only [go_sem, ↓imp_tf, ↓imp_ft, ↓reduceIte, Nat.reduceBEq, Nat.reduceAdd, Nat.reduceMul, Nat.reduceSub, Nat.reduceEqDiff, Nat.reduceLT, Nat.reduceLeDiff, Option.map, Option.bind, List.map, List.length, reduceCtorEq, Option.toList, Option.getD, List.set, List.drop, List.take, Int.reduceToNat]
    refine ⟨fun h => ?_, fun h => ⟨hs, fun h1 => ⟨by kernel_rfl, FnV_of ((indexByte_spec s 47 m).mono ?_)⟩, fun h1 => ?_⟩⟩
    · simp only [isMem, initS, clinitS]; rcases h with h | h <;> simp [h]
    · rintro r H' m' hm ⟨rfl, rfl⟩
      simp only [go_sem, ↓imp_tf, ↓imp_ft, ↓reduceIte, Nat.reduceBEq, Nat.reduceAdd, Nat.reduceMul, Nat.reduceSub, Nat.reduceEqDiff, Nat.reduceLT, Nat.reduceLeDiff, Option.map, Option.bind, List.map, List.length, reduceCtorEq, Option.toList, Option.getD, List.set, List.drop, List.take, Int.reduceToNat]
      have h2 := h.1
      have h3 := h.2
      simp [isMem, initS, clinitS, h1, h2, h3]
    · have h2 := h.1
      have h3 := h.2
      simp [isMem, initS, clinitS, h1, h2, h3]
abbrev cfM : Cfg := mkCf (fun _ => false) [(117, pS1 BL fun s => .bool (isMem s)), (142, pS1 BL fun s => .bool (isName s)), (67, pS1 BL fun s => .bool (isCls s))]
theorem puM : PureOk cfM Tryz.prog := pure_cons (by kernel_rfl) (pureS isMem_spec) (pure_cons (by kernel_rfl) (pureS isName_spec) (pure_cons (by kernel_rfl) (pureS isCls_spec) pure_nil))
theorem isMem_ne {s : List UInt8} (h : isMem s = true) : 0 < s.length := by
  cases s with
  | nil => simp [isMem, initS, clinitS, isName, nmScan] at h
  | cons a r => simp
set_option maxRecDepth 20000 in
theorem ident_spec (s : List UInt8) (m : Mem) (hs : BL s) : FnH Tryz.prog 48 [.v (.string (bs s))] ⟨[], []⟩ m fun r H' _ => r = .v (.bool (identL s)) ∧ H' = ⟨[], []⟩ := by
  refine enter cfM puM Tryz.func48 rfl rfl (by kernel_rfl) rfl ?_ ?_
  · simp only [go_sem, ↓imp_tf, ↓imp_ft, ↓reduceIte, Nat.reduceBEq, Nat.reduceAdd, Nat.reduceMul, Nat.reduceSub, Nat.reduceEqDiff, Nat.reduceLT, Nat.reduceLeDiff, Option.map, Option.bind, List.map, List.length, reduceCtorEq, Option.toList, Option.getD, List.set, List.drop, List.take, Int.reduceToNat]
  · simp only [go_sem, ↓imp_tf, ↓imp_ft, ↓reduceIte, Nat.reduceBEq, Nat.reduceAdd, Nat.reduceMul, Nat.reduceSub, Nat.reduceEqDiff, Nat.reduceLT, Nat.reduceLeDiff, Option.map, Option.bind, List.map, List.length, reduceCtorEq, Option.toList, Option.getD, List.set, List.drop, List.take, Int.reduceToNat]
    have e : ∀ u : UInt8, ((u.toNat : Int) = 60) = (u = 60) := fun u => propext ⟨fun h => UInt8.toNat_inj.1 (by have : (60 : UInt8).toNat = 60 := rfl; omega), fun h => by rw [h]; rfl⟩
    simp only [e]
    refine ⟨hs, fun h => ⟨by omega, by have := isMem_ne h; omega⟩, fun _ => hs, fun h => ⟨by kernel_rfl, FnV_of ((keywords_spec m).mono ?_)⟩, fun h => ?_⟩
    · rintro r H' m' hm ⟨rfl, rfl, rfl⟩
      simp only [go_sem, ↓imp_tf, ↓imp_ft, ↓reduceIte, Nat.reduceBEq, Nat.reduceAdd, Nat.reduceMul, Nat.reduceSub, Nat.reduceEqDiff, Nat.reduceLT, Nat.reduceLeDiff, Option.map, Option.bind, List.map, List.length, reduceCtorEq, Option.toList, Option.getD, List.set, List.drop, List.take, Int.reduceToNat]
      refine ⟨by kernel_rfl, fun a c m1 hm1 hc hrd => FnV_of ((contains_spec keywordsL s a 28 c m1 hrd (by omega)).mono ?_)⟩
      rintro r H' m' hm2 ⟨rfl, rfl⟩
      have h1 := h.1.1
      have h2 := h.1.2
      have h3 := h.2
      generalize hb : keywordsL.contains s = kb
      simp only [go_sem, ↓imp_tf, ↓imp_ft, ↓reduceIte, Nat.reduceBEq, Nat.reduceAdd, Nat.reduceMul, Nat.reduceSub, Nat.reduceEqDiff, Nat.reduceLT, Nat.reduceLeDiff, Option.map, Option.bind, List.map, List.length, reduceCtorEq, Option.toList, Option.getD, List.set, List.drop, List.take, Int.reduceToNat]
      rw [identL, h1, h3, hb, decide_eq_true h2]
      rfl
    · rw [identL]
      rcases h with (h | h) | h
      · simp [h]
      · have : decide (s.getD 0 0 ≠ 60) = false := by rw [h]; rfl
        rw [this]; simp
      · simp [h]
def validTy (d b : Int) (s : List UInt8) : Bool := if d < 0 ∨ 8 < d then false else if b = 73 ∨ b = 74 then decide (s = []) else if b = 86 then decide (d = 0) && decide (s = []) else if b = 76 then isName s else false
def valueTy (d b : Int) (s : List UInt8) : Bool := validTy d b s && decide (b ≠ 86) && (decide (b ≠ 76) || isCls s)
def pTy (F : Int → Int → List UInt8 → Bool) : List Value → Option (Prop × Value)
  | [.agg ⟨[.int .i64 d, .int .u8 b, .string s]⟩] => some (BL (tl s), .bool (F d b (tl s)))
  | _ => none
attribute [go_sem] pTy.eq_1
theorem pureTy {P : Program} {f : FuncId} {F : Int → Int → List UInt8 → Bool} (h : ∀ d b a m, BL a → FnH P f [.v (.agg ⟨[.int .i64 d, .int .u8 b, .string (bs a)]⟩)] ⟨[], []⟩ m fun r H' _ => r = .v (.bool (F d b a)) ∧ H' = ⟨[], []⟩) : Pure0 P f (pTy F) := fun vals y hy hB m => by
  unfold pTy at hy
  split at hy
  · rename_i d b a
    cases hy
    have := h d b (tl a) m hB
    rwa [bs_tl] at this
  · cases hy
set_option maxRecDepth 20000 in
theorem valid_spec (d b : Int) (s : List UInt8) (m : Mem) (hs : BL s) : FnH Tryz.prog 119 [.v (.agg ⟨[.int .i64 d, .int .u8 b, .string (bs s)]⟩)] ⟨[], []⟩ m fun r H' _ => r = .v (.bool (validTy d b s)) ∧ H' = ⟨[], []⟩ := by
  refine enter cfM puM Tryz.func119 rfl rfl (by kernel_rfl) rfl ?_ ?_
  · simp only [go_sem, ↓imp_tf, ↓imp_ft, ↓reduceIte, Nat.reduceBEq, Nat.reduceAdd, Nat.reduceMul, Nat.reduceSub, Nat.reduceEqDiff, Nat.reduceLT, Nat.reduceLeDiff, Option.map, Option.bind, List.map, List.length, reduceCtorEq, Option.toList, Option.getD, List.set, List.drop, List.take, Int.reduceToNat]
  · simp only [go_sem, ↓imp_tf, ↓imp_ft, ↓reduceIte, Nat.reduceBEq, Nat.reduceAdd, Nat.reduceMul, Nat.reduceSub, Nat.reduceEqDiff, Nat.reduceLT, Nat.reduceLeDiff, Option.map, Option.bind, List.map, List.length, reduceCtorEq, Option.toList, Option.getD, List.set, List.drop, List.take, Int.reduceToNat]
    refine ⟨fun h => by simp only [validTy, if_pos h], fun h => ?_⟩
    have h0 : ¬ (d < 0 ∨ 8 < d) := fun h' => h'.elim h.1 h.2
    simp only [validTy, if_neg h0]
    refine ⟨fun h1 => ?_, fun h1 => ?_⟩
    · simp [h1]
    · refine ⟨fun h2 => by simp [h2], fun h2 => ?_⟩
      refine ⟨fun h3 => by simp [h3], fun h3 => ⟨fun h4 => ⟨hs, by simp [h4]⟩, fun h4 => by simp [h1, h2, h3, h4]⟩⟩
abbrev cfT : Cfg := mkCf (fun _ => false) [(119, pTy validTy), (67, pS1 BL fun s => .bool (isCls s))]
theorem puT : PureOk cfT Tryz.prog := pure_cons (by kernel_rfl) (pureTy valid_spec) (pure_cons (by kernel_rfl) (pureS isCls_spec) pure_nil)
set_option maxRecDepth 20000 in
theorem value_spec (d b : Int) (s : List UInt8) (m : Mem) (hs : BL s) : FnH Tryz.prog 49 [.v (.agg ⟨[.int .i64 d, .int .u8 b, .string (bs s)]⟩)] ⟨[], []⟩ m fun r H' _ => r = .v (.bool (valueTy d b s)) ∧ H' = ⟨[], []⟩ := by
  refine enter cfT puT Tryz.func49 rfl rfl (by kernel_rfl) rfl ?_ ?_
  · simp only [go_sem, ↓imp_tf, ↓imp_ft, ↓reduceIte, Nat.reduceBEq, Nat.reduceAdd, Nat.reduceMul, Nat.reduceSub, Nat.reduceEqDiff, Nat.reduceLT, Nat.reduceLeDiff, Option.map, Option.bind, List.map, List.length, reduceCtorEq, Option.toList, Option.getD, List.set, List.drop, List.take, Int.reduceToNat]
  · simp only [go_sem, ↓imp_tf, ↓imp_ft, ↓reduceIte, Nat.reduceBEq, Nat.reduceAdd, Nat.reduceMul, Nat.reduceSub, Nat.reduceEqDiff, Nat.reduceLT, Nat.reduceLeDiff, Option.map, Option.bind, List.map, List.length, reduceCtorEq, Option.toList, Option.getD, List.set, List.drop, List.take, Int.reduceToNat]
    refine ⟨hs, fun _ => hs, ?_⟩
    simp [valueTy]
def printB (c : UInt8) : Bool := decide (c.toNat = 10) || (decide (32 ≤ c.toNat) && decide (c.toNat ≤ 126))
def printL (s : List UInt8) : Bool := s.all printB && decide (s.length ≤ 1024)
set_option maxRecDepth 20000 in
theorem print_spec (s : List UInt8) (m : Mem) (hs : BL s) : FnH Tryz.prog 169 [.v (.string (bs s))] ⟨[], []⟩ m fun r H' _ => r = .v (.bool (printL s)) ∧ H' = ⟨[], []⟩ := by
  refine enter cf0 pu0 Tryz.func169 rfl rfl (by kernel_rfl) rfl ?_ ?_
  · simp only [go_sem, ↓imp_tf, ↓imp_ft, ↓reduceIte, Nat.reduceBEq, Nat.reduceAdd, Nat.reduceMul, Nat.reduceSub, Nat.reduceEqDiff, Nat.reduceLT, Nat.reduceLeDiff, Option.map, Option.bind, List.map, List.length, reduceCtorEq, Option.toList, Option.getD, List.set, List.drop, List.take, Int.reduceToNat]
  · simp only [go_sem, ↓imp_tf, ↓imp_ft, ↓reduceIte, Nat.reduceBEq, Nat.reduceAdd, Nat.reduceMul, Nat.reduceSub, Nat.reduceEqDiff, Nat.reduceLT, Nat.reduceLeDiff, Option.map, Option.bind, List.map, List.length, reduceCtorEq, Option.toList, Option.getD, List.set, List.drop, List.take, Int.reduceToNat]
    refine WP_loop pu0 (fun k : Nat => ⟨[⟨0, [], .v (.string (bs s))⟩, ⟨6, [], .v (.int .i64 s.length)⟩, ⟨7, [], .v (.int .i64 k)⟩], [], [], [], 0, m⟩)
      (fun k => k ≤ s.length ∧ (s.take k).all printB = true) (fun k => s.length - k) 0 (by kernel_rfl) (fun _ _ => Nat.le_refl _) (fun _ _ => .inl rfl) (fun _ => ?_) ?_ ?_ ?_
    · simp only [go_sem, ↓imp_tf, ↓imp_ft, ↓reduceIte, Nat.reduceBEq, Nat.reduceAdd, Nat.reduceMul, Nat.reduceSub, Nat.reduceEqDiff, Nat.reduceLT, Nat.reduceLeDiff, Option.map, Option.bind, List.map, List.length, reduceCtorEq, Option.toList, Option.getD, List.set, List.drop, List.take, Int.reduceToNat]
    · simp only [go_sem, ↓imp_tf, ↓imp_ft, ↓reduceIte, Nat.reduceBEq, Nat.reduceAdd, Nat.reduceMul, Nat.reduceSub, Nat.reduceEqDiff, Nat.reduceLT, Nat.reduceLeDiff, Option.map, Option.bind, List.map, List.length, reduceCtorEq, Option.toList, Option.getD, List.set, List.drop, List.take, Int.reduceToNat]
      rfl
    · simp
    · rintro k ⟨hk, hp⟩
      simp only [go_sem, ↓imp_tf, ↓imp_ft, ↓reduceIte, Nat.reduceBEq, Nat.reduceAdd, Nat.reduceMul, Nat.reduceSub, Nat.reduceEqDiff, Nat.reduceLT, Nat.reduceLeDiff, Option.map, Option.bind, List.map, List.length, reduceCtorEq, Option.toList, Option.getD, List.set, List.drop, List.take, Int.reduceToNat]
      refine ⟨fun hlt => ?_, fun hge => ?_⟩
      · have hkl : k < s.length := by omega
        have hd := drop_at hkl
        refine ⟨⟨by omega, hlt⟩, fun h => ?_, fun h => ⟨by unfold I64; have : s.length ≤ 4611686018427387904 := hs; omega, k + 1, by omega, ⟨by omega, ?_⟩, by omega⟩⟩
        · have hb : printB (s.getD k 0) = false := by
            simp only [printB, Bool.or_eq_false_iff, Bool.and_eq_false_iff, decide_eq_false_iff_not]
            exact ⟨by omega, by omega⟩
          have : s.all printB = false := by
            rw [← List.take_append_drop k s, List.all_append, hd, List.all_cons, hb]
            simp
          rw [printL, this, Bool.false_and]
        · have hb : printB (s.getD k 0) = true := by
            simp only [printB, Bool.or_eq_true, Bool.and_eq_true, decide_eq_true_eq]
            omega
          rw [List.take_succ_eq_append_getElem hkl, List.all_append, hp, List.all_cons]
          have e : s.getD k 0 = s[k] := by rw [List.getD_eq_getElem?_getD, List.getElem?_eq_getElem hkl]; rfl
          rw [e] at hb
          simp [hb]
      · rw [List.take_of_length_le (by omega)] at hp
        rw [printL, hp, Bool.true_and, decide_eq_decide]
        omega
end Go.Proofs.YtalalcpefggniaaGreatDoor.E

/- ast, part C: shapes of expressions. -/
set_option linter.unusedSimpArgs false
set_option linter.unusedVariables false
namespace Go.Proofs.YtalalcpefggniaaGreatDoor.E
open Go

/-- Which fields an expression of a kind uses; how many operands. -/
def shapeL (k : Int) : Bool × Bool × Bool × Int × Int :=
  if k = 6 then (true, false, false, 0, 0)
  else if k = 7 then (true, false, false, 1, 1)
  else if k = 8 then (true, true, false, 0, 0)
  else if k = 9 ∨ k = 16 then (false, false, false, 2, 2)
  else if k = 10 then (true, false, false, 1, 17)
  else if k = 11 then (true, true, false, 0, 16)
  else if k = 12 then (true, false, false, 0, 16)
  else if k = 13 then (false, true, false, 0, 16)
  else if k = 14 ∨ k = 17 ∨ k = 18 then (false, false, true, 1, 1)
  else if k = 15 ∨ k = 19 ∨ k = 20 ∨ k = 21 then (false, false, false, 1, 1)
  else (false, false, false, 0, 0)
def isKind (k : Int) : Bool := decide (1 ≤ k) && decide (k ≤ 21)
theorem kinds {k : Int} (h : isKind k = true) : k = 1 ∨ k = 2 ∨ k = 3 ∨ k = 4 ∨ k = 5 ∨ k = 6 ∨ k = 7 ∨ k = 8 ∨ k = 9 ∨ k = 10 ∨ k = 11 ∨ k = 12 ∨ k = 13 ∨ k = 14 ∨ k = 15 ∨ k = 16 ∨ k = 17 ∨ k = 18 ∨ k = 19 ∨ k = 20 ∨ k = 21 := by
  simp only [isKind, Bool.and_eq_true, decide_eq_true_eq] at h
  omega
set_option maxHeartbeats 4000000 in
set_option maxRecDepth 20000 in
theorem shape_spec (k : Int) (m : Mem) : FnH Tryz.prog 109 [.v (.int .i64 k)] ⟨[], []⟩ m fun r H' m' => m' = m ∧ H' = ⟨[], []⟩ ∧ r = .tup [.agg [.v (.bool (shapeL k).1), .v (.bool (shapeL k).2.1), .v (.bool (shapeL k).2.2.1), .v (.int .i64 (shapeL k).2.2.2.1), .v (.int .i64 (shapeL k).2.2.2.2)], .v (.bool (isKind k))] := by
  refine enter cf0 pu0 Tryz.func109 rfl rfl (by kernel_rfl) rfl ?_ ?_
  · simp only [go_sem, ↓imp_tf, ↓imp_ft, ↓reduceIte, Nat.reduceBEq, Nat.reduceAdd, Nat.reduceMul, Nat.reduceSub, Nat.reduceEqDiff, Nat.reduceLT, Nat.reduceLeDiff, Option.map, Option.bind, List.map, List.length, reduceCtorEq, Option.toList, Option.getD, List.set, List.drop, List.take, Int.reduceToNat]
  · cases hk : isKind k with
    | true =>
      rcases kinds hk with h | h | h | h | h | h | h | h | h | h | h | h | h | h | h | h | h | h | h | h | h <;> subst h <;> simp only [go_sem, ↓imp_tf, ↓imp_ft, ↓reduceIte, Nat.reduceBEq, Nat.reduceAdd, Nat.reduceMul, Nat.reduceSub, Nat.reduceEqDiff, Nat.reduceLT, Nat.reduceLeDiff, Option.map, Option.bind, List.map, List.length, reduceCtorEq, Option.toList, Option.getD, List.set, List.drop, List.take, Int.reduceToNat, shapeL, Int.reduceEq, decide_true, decide_false]
    | false =>
      have hk' : ¬ (1 ≤ k ∧ k ≤ 21) := by simpa [isKind] using hk
      have e : ∀ j : Int, 1 ≤ j → j ≤ 21 → (k = j) = False := fun j h1 h2 => eq_false fun h => hk' (h ▸ ⟨h1, h2⟩)
      have e1 := e 1 (by decide) (by decide)
      have e2 := e 2 (by decide) (by decide)
      have e3 := e 3 (by decide) (by decide)
      have e4 := e 4 (by decide) (by decide)
      have e5 := e 5 (by decide) (by decide)
      have e6 := e 6 (by decide) (by decide)
      have e7 := e 7 (by decide) (by decide)
      have e8 := e 8 (by decide) (by decide)
      have e9 := e 9 (by decide) (by decide)
      have e10 := e 10 (by decide) (by decide)
      have e11 := e 11 (by decide) (by decide)
      have e12 := e 12 (by decide) (by decide)
      have e13 := e 13 (by decide) (by decide)
      have e14 := e 14 (by decide) (by decide)
      have e15 := e 15 (by decide) (by decide)
      have e16 := e 16 (by decide) (by decide)
      have e17 := e 17 (by decide) (by decide)
      have e18 := e 18 (by decide) (by decide)
      have e19 := e 19 (by decide) (by decide)
      have e20 := e 20 (by decide) (by decide)
      have e21 := e 21 (by decide) (by decide)
      simp only [go_sem, ↓imp_tf, ↓imp_ft, ↓reduceIte, Nat.reduceBEq, Nat.reduceAdd, Nat.reduceMul, Nat.reduceSub, Nat.reduceEqDiff, Nat.reduceLT, Nat.reduceLeDiff, Option.map, Option.bind, List.map, List.length, reduceCtorEq, Option.toList, Option.getD, List.set, List.drop, List.take, Int.reduceToNat, shapeL, e1, e2, e3, e4, e5, e6, e7, e8, e9, e10, e11, e12, e13, e14, e15, e16, e17, e18, e19, e20, e21, decide_false]

/-- N and S of an expression that has no identifier. -/
def litL (k n : Int) (s : List UInt8) : Bool :=
  if k = 1 then decide (0 ≤ n) && decide (n ≤ 2147483647) && decide (s = [])
  else if k = 2 then decide (0 ≤ n) && decide (s = [])
  else if k = 3 then decide (n = 0) && printL s
  else if k = 15 then decide (n = 0) && (decide (s = [45]) || decide (s = [33]))
  else if k = 16 then decide (n = 0) && opsL.contains s
  else decide (n = 0) && decide (s = [])
abbrev cfP : Cfg := mkCf (fun _ => false) [(169, pS1 BL fun s => .bool (printL s))]
theorem puP : PureOk cfP Tryz.prog := pure_cons (by kernel_rfl) (pureS print_spec) pure_nil
set_option maxHeartbeats 4000000 in
set_option maxRecDepth 20000 in
theorem lit_spec (k n : Int) (s c : List UInt8) (d b : Int) (nm : List UInt8) (sl : Value) (m : Mem) (hg : Glob m) (hs : BL s) :
    FnH Tryz.prog 110 [.v (.agg ⟨[.int .i64 k, .int .i64 n, .string (bs s), .string (bs c), .int .i64 d, .int .u8 b, .string (bs nm), sl]⟩)] ⟨[], []⟩ m fun r H' m' => leM m m' ∧ H' = ⟨[], []⟩ ∧ r = .v (.bool (litL k n s)) := by
  refine enter cfP puP Tryz.func110 rfl rfl (by kernel_rfl) rfl ?_ ?_
  · simp only [go_sem, ↓imp_tf, ↓imp_ft, ↓reduceIte, Nat.reduceBEq, Nat.reduceAdd, Nat.reduceMul, Nat.reduceSub, Nat.reduceEqDiff, Nat.reduceLT, Nat.reduceLeDiff, Option.map, Option.bind, List.map, List.length, reduceCtorEq, Option.toList, Option.getD, List.set, List.drop, List.take, Int.reduceToNat]
  · simp only [go_sem, ↓imp_tf, ↓imp_ft, ↓reduceIte, Nat.reduceBEq, Nat.reduceAdd, Nat.reduceMul, Nat.reduceSub, Nat.reduceEqDiff, Nat.reduceLT, Nat.reduceLeDiff, Option.map, Option.bind, List.map, List.length, reduceCtorEq, Option.toList, Option.getD, List.set, List.drop, List.take, Int.reduceToNat]
    refine ⟨fun h => by simp only [litL, if_pos h], fun h1 => ⟨fun h => by simp only [litL, if_neg h1, if_pos h], fun h2 => ⟨fun h => ⟨fun _ => hs, by simp only [litL, if_neg h1, if_neg h2, if_pos h]⟩, fun h3 => ⟨fun h => by simp only [litL, if_neg h1, if_neg h2, if_neg h3, if_pos h], fun h4 => ⟨fun h => ?_, fun h => by simp only [litL, if_neg h1, if_neg h2, if_neg h3, if_neg h4, if_neg h]⟩⟩⟩⟩⟩
    have hg2 := hg.2
    refine hg2.elim fun ad hg2 => hg2.elim fun cp hg2 => ⟨.slice (some ad) 19 cp, fun _ => hg2.1, fun hn => ⟨by kernel_rfl, FnV_of ((contains_spec opsL s (some ad) 19 cp m hg2.2.2 (by omega)).mono ?_)⟩, fun hn => ?_⟩
    · rintro r H' m' hm ⟨rfl, rfl⟩
      simp only [go_sem, ↓imp_tf, ↓imp_ft, ↓reduceIte, Nat.reduceBEq, Nat.reduceAdd, Nat.reduceMul, Nat.reduceSub, Nat.reduceEqDiff, Nat.reduceLT, Nat.reduceLeDiff, Option.map, Option.bind, List.map, List.length, reduceCtorEq, Option.toList, Option.getD, List.set, List.drop, List.take, Int.reduceToNat]
      refine ⟨.inr hm, ?_⟩
      simp only [litL, if_neg h1, if_neg h2, if_neg h3, if_neg h4, if_pos h, decide_eq_true hn, Bool.true_and]
    · simp only [litL, if_neg h1, if_neg h2, if_neg h3, if_neg h4, if_pos h, decide_eq_false hn, Bool.false_and]
/-- Well-formed, apart from the operands. -/
def nodeL (k n : Int) (s c : List UInt8) (d b : Int) (nm : List UInt8) (l : Nat) : Bool :=
  isKind k && decide ((shapeL k).2.2.2.1 ≤ l) && decide (l ≤ (shapeL k).2.2.2.2) && (if (shapeL k).1 = true then identL s && decide (n = 0) else litL k n s) && (if (shapeL k).2.1 = true then isCls c else decide (c = []))
    && (if (shapeL k).2.2.1 = true then valueTy d b nm && (decide (k ≠ 14) || decide (d < 8)) else decide (d = 0) && decide (b = 0) && decide (nm = []))
abbrev cfV : Cfg := mkCf (fun _ => false) [(48, pS1 BL fun s => .bool (identL s)), (49, pTy valueTy), (67, pS1 BL fun s => .bool (isCls s))]
theorem puV : PureOk cfV Tryz.prog := pure_cons (by kernel_rfl) (pureS ident_spec) (pure_cons (by kernel_rfl) (pureTy value_spec) (pure_cons (by kernel_rfl) (pureS isCls_spec) pure_nil))
theorem FnH_den {P : Program} {f : FuncId} {args args' : List SV} {H : Hp} {m : Mem} {R : SV → Hp → Mem → Prop} (h : FnH P f args H m R) (e : ∀ V, args'.map (den V) = args.map (den V)) : FnH P f args' H m R :=
  fun V w D h1 h2 h3 => by rw [e V]; exact h V w D h1 h2 h3
set_option maxHeartbeats 4000000 in
set_option maxRecDepth 20000 in
theorem node_spec (k n : Int) (s c : List UInt8) (d b : Int) (nm : List UInt8) (a : Option Addr) (l cp : Nat) (m : Mem) (hg : Glob m) (hs : BL s) (hc : BL c) (hn : BL nm) :
    FnH Tryz.prog 43 [.v (.agg ⟨[.int .i64 k, .int .i64 n, .string (bs s), .string (bs c), .int .i64 d, .int .u8 b, .string (bs nm), .slice a l cp]⟩)] ⟨[], []⟩ m fun r H' m' => leM m m' ∧ H' = ⟨[], []⟩ ∧ r = .v (.bool (nodeL k n s c d b nm l)) := by
  refine enter cfV puV Tryz.func43 rfl rfl (by kernel_rfl) rfl ?_ ?_
  · simp only [go_sem, ↓imp_tf, ↓imp_ft, ↓reduceIte, Nat.reduceBEq, Nat.reduceAdd, Nat.reduceMul, Nat.reduceSub, Nat.reduceEqDiff, Nat.reduceLT, Nat.reduceLeDiff, Option.map, Option.bind, List.map, List.length, reduceCtorEq, Option.toList, Option.getD, List.set, List.drop, List.take, Int.reduceToNat]
  · simp only [go_sem, ↓imp_tf, ↓imp_ft, ↓reduceIte, Nat.reduceBEq, Nat.reduceAdd, Nat.reduceMul, Nat.reduceSub, Nat.reduceEqDiff, Nat.reduceLT, Nat.reduceLeDiff, Option.map, Option.bind, List.map, List.length, reduceCtorEq, Option.toList, Option.getD, List.set, List.drop, List.take, Int.reduceToNat]
    refine ⟨by kernel_rfl, FnV_of (((shape_spec k m).mono (R' := fun r H' m' => m' = m ∧ H' = ⟨[], []⟩ ∧ ∃ i cl ty lo hi, shapeL k = (i, cl, ty, lo, hi) ∧ r = .tup [.agg [.v (.bool i), .v (.bool cl), .v (.bool ty), .v (.int .i64 lo), .v (.int .i64 hi)], .v (.bool (isKind k))]) fun r H' m' hm h => ⟨h.1, h.2.1, _, _, _, _, _, rfl, h.2.2⟩).mono ?_)⟩
    rintro r H' m' hm ⟨rfl, rfl, i, cl, ty, lo, hi, hsh, rfl⟩
    simp only [go_sem, ↓imp_tf, ↓imp_ft, ↓reduceIte, Nat.reduceBEq, Nat.reduceAdd, Nat.reduceMul, Nat.reduceSub, Nat.reduceEqDiff, Nat.reduceLT, Nat.reduceLeDiff, Option.map, Option.bind, List.map, List.length, reduceCtorEq, Option.toList, Option.getD, List.set, List.drop, List.take, Int.reduceToNat, eqOkT]
    have hn0 : ∀ x : Bool, (isKind k = false ∨ (l : Int) < lo) ∨ hi < (l : Int) → false = (isKind k && decide (lo ≤ (l : Int)) && decide ((l : Int) ≤ hi) && x) := fun x h => by
      rcases h with (h | h) | h
      · simp [h]
      · rw [decide_eq_false (by omega : ¬ lo ≤ (l : Int))]; simp
      · rw [decide_eq_false (by omega : ¬ (l : Int) ≤ hi)]; simp
    have hN : nodeL k n s c d b nm l = (isKind k && decide (lo ≤ (l : Int)) && decide ((l : Int) ≤ hi) && (if i = true then identL s && decide (n = 0) else litL k n s) && (if cl = true then isCls c else decide (c = []))
        && (if ty = true then valueTy d b nm && (decide (k ≠ 14) || decide (d < 8)) else decide (d = 0) && decide (b = 0) && decide (nm = []))) := by simp only [nodeL, hsh]
    refine ⟨fun h => ?_, fun h => ?_⟩
    · rw [hN, Bool.and_assoc, Bool.and_assoc]
      exact hn0 _ h
    · have e1 := h.1.1
      have e2 : decide (lo ≤ (l : Int)) = true := decide_eq_true (by have := h.1.2; omega)
      have e3 : decide ((l : Int) ≤ hi) = true := decide_eq_true (by have := h.2; omega)
      have hM : nodeL k n s c d b nm l = ((if i = true then identL s && decide (n = 0) else litL k n s) && (if cl = true then isCls c else decide (c = [])) && (if ty = true then valueTy d b nm && (decide (k ≠ 14) || decide (d < 8)) else decide (d = 0) && decide (b = 0) && decide (nm = []))) := by
        rw [hN, e1, e2, e3]
        simp only [Bool.true_and]
      refine ⟨fun hi => ⟨hs, fun hcl => ⟨fun _ => hc, fun ht => ⟨fun _ => hn, by rw [hM]; simp [hi, hcl, ht, Bool.and_assoc]⟩, fun ht => by rw [hM]; simp [hi, hcl, ht, Bool.and_assoc]⟩, fun hcl => ⟨fun ht => ⟨fun _ => hn, by rw [hM]; simp [hi, hcl, ht, Bool.and_assoc]⟩, fun ht => by rw [hM]; simp [hi, hcl, ht, Bool.and_assoc]⟩⟩, fun hi => ⟨by kernel_rfl, FnV_of ((FnH_den (lit_spec k n s c d b nm (.slice a l cp) m' hg hs) (fun V => rfl)).mono ?_)⟩⟩
      rintro r H' m2 hm2 ⟨hle, rfl, rfl⟩
      simp only [go_sem, ↓imp_tf, ↓imp_ft, ↓reduceIte, Nat.reduceBEq, Nat.reduceAdd, Nat.reduceMul, Nat.reduceSub, Nat.reduceEqDiff, Nat.reduceLT, Nat.reduceLeDiff, Option.map, Option.bind, List.map, List.length, reduceCtorEq, Option.toList, Option.getD, List.set, List.drop, List.take, Int.reduceToNat, eqOkT]
      exact ⟨fun hcl => ⟨fun _ => hc, fun ht => ⟨fun _ => hn, hle, by rw [hM]; simp [hi, hcl, ht, Bool.and_assoc]⟩, fun ht => ⟨hle, by rw [hM]; simp [hi, hcl, ht, Bool.and_assoc]⟩⟩, fun hcl => ⟨fun ht => ⟨fun _ => hn, hle, by rw [hM]; simp [hi, hcl, ht, Bool.and_assoc]⟩, fun ht => ⟨hle, by rw [hM]; simp [hi, hcl, ht, Bool.and_assoc]⟩⟩⟩
end Go.Proofs.YtalalcpefggniaaGreatDoor.E

/- ast, part D: expressions and statements: as plain data, and as they lie in memory. -/
set_option linter.unusedSimpArgs false
set_option linter.unusedVariables false
namespace Go.Proofs.YtalalcpefggniaaGreatDoor.E
open Go

structure Ty where
  dim : Int
  base : Int
  name : List UInt8
inductive Ex where
  | mk (k n : Int) (s c : List UInt8) (ty : Ty) (args : List Ex)
inductive St where
  | mk (k : Int) (name : List UInt8) (ty : Ty) (tg ex : Ex) (body alt : List St)
/-- The bound of all that is read. -/
abbrev big : Nat := 2000000
def tyC (t : Ty) : List Value := [.int .i64 t.dim, .int .u8 t.base, .string (bs t.name)]
def TyOk (t : Ty) : Prop := I64 t.dim ∧ (0 ≤ t.base ∧ t.base < 256) ∧ t.name.length ≤ big
def exC (k n : Int) (s c : List UInt8) (ty : Ty) (sl : Value) : List Value := [.int .i64 k, .int .i64 n, .string (bs s), .string (bs c), .int .i64 ty.dim, .int .u8 ty.base, .string (bs ty.name), sl]
def ExOk (k n : Int) (s c : List UInt8) (ty : Ty) (l : Nat) : Prop := I64 k ∧ I64 n ∧ s.length ≤ big ∧ c.length ≤ big ∧ TyOk ty ∧ l ≤ big
mutual
def exRep (m : Mem) : Ex → List Value → Prop
  | .mk k n s c ty args, cs => ∃ a cp xs, cs = exC k n s c ty (.slice a args.length cp) ∧ args.length ≤ cp ∧ Rds m a args.length 8 xs ∧ ExOk k n s c ty args.length ∧ exsRep m args xs
def exsRep (m : Mem) : List Ex → List Value → Prop
  | [], _ => True
  | e :: r, xs => exRep m e (xs.take 8) ∧ exsRep m r (xs.drop 8)
end
theorem exs_at {m : Mem} : ∀ {l : List Ex} {xs : List Value} {i : Nat} (_ : exsRep m l xs) (hi : i < l.length), exRep m l[i] ((xs.drop (i * 8)).take 8)
  | [], _, _, _, hi => absurd hi (Nat.not_lt_zero _)
  | e :: r, xs, 0, h, _ => by simp only [exsRep] at h; simpa using h.1
  | e :: r, xs, i + 1, h, hi => by
    simp only [exsRep] at h
    have := exs_at (i := i) h.2 (by simpa using hi)
    rw [List.drop_drop] at this
    rw [show (i + 1) * 8 = 8 + i * 8 by omega]
    exact this
mutual
theorem exRep_up {m m' : Mem} (hle : m.le m') : ∀ (e : Ex) (cs : List Value), exRep m e cs → exRep m' e cs
  | .mk k n s c ty args, cs, h => by
    simp only [exRep] at h ⊢
    obtain ⟨a, cp, xs, h1, h2, h3, h4, h5⟩ := h
    exact ⟨a, cp, xs, h1, h2, Rds_up hle h3, h4, exsRep_up hle args xs h5⟩
theorem exsRep_up {m m' : Mem} (hle : m.le m') : ∀ (l : List Ex) (xs : List Value), exsRep m l xs → exsRep m' l xs
  | [], _, _ => by simp only [exsRep]
  | e :: r, xs, h => by
    simp only [exsRep] at h ⊢
    exact ⟨exRep_up hle e _ h.1, exsRep_up hle r _ h.2⟩
end
mutual
/-- The depth. -/
def depthE : Ex → Nat
  | .mk _ _ _ _ _ args => depthL args + 1
def depthL : List Ex → Nat
  | [] => 0
  | e :: r => max (depthE e) (depthL r)
end
theorem depth_mem : ∀ {l : List Ex} {i : Nat} (hi : i < l.length), depthE l[i] ≤ depthL l
  | [], _, hi => absurd hi (Nat.not_lt_zero _)
  | e :: r, 0, _ => by simp only [depthL]; exact Nat.le_max_left _ _
  | e :: r, i + 1, hi => by
    have := depth_mem (l := r) (i := i) (by simpa using hi)
    simp only [depthL]
    exact Nat.le_trans this (Nat.le_max_right _ _)
theorem depth_take : ∀ {l : List Ex} {i : Nat} (hi : i < l.length), depthL (l.take (i + 1)) = max (depthL (l.take i)) (depthE l[i])
  | [], _, hi => absurd hi (Nat.not_lt_zero _)
  | e :: r, 0, _ => by simp [depthL]
  | e :: r, i + 1, hi => by
    have := depth_take (l := r) (i := i) (by simpa using hi)
    simp only [List.take_succ_cons, depthL, this]
    rw [List.getElem_cons_succ, Nat.max_assoc]
end Go.Proofs.YtalalcpefggniaaGreatDoor.E

/- ast, part E: well-formed expressions; the depth; the number of nodes. -/
set_option linter.unusedSimpArgs false
set_option linter.unusedVariables false
namespace Go.Proofs.YtalalcpefggniaaGreatDoor.E
open Go

/-- A call that answers and leaves all as it was. -/
def Ans (f : FuncId) (args : List SV) (m : Mem) (v : Value) : Prop := FnH Tryz.prog f args ⟨[], []⟩ m fun r H' m' => leM m m' ∧ H' = ⟨[], []⟩ ∧ r = .v v
theorem take_any {α : Type} {l : List α} {B : α → Bool} {k : Nat} (h : k < l.length) : (l.take (k + 1)).any B = ((l.take k).any B || B l[k]) := by
  rw [List.take_succ_eq_append_getElem h, List.any_append]
  simp
theorem Glob.upM {m m' : Mem} (h : Glob m) (hm : leM m m') : Glob m' := by
  rcases hm with rfl | hm
  · exact h
  · exact h.up hm
theorem exRep_upM {m m' : Mem} {e : Ex} {cs : List Value} (hle : leM m m') (h : exRep m e cs) : exRep m' e cs := by
  rcases hle with rfl | hle
  · exact h
  · exact exRep_up hle e cs h
theorem exsRep_upM {m m' : Mem} {l : List Ex} {cs : List Value} (hle : leM m m') (h : exsRep m l cs) : exsRep m' l cs := by
  rcases hle with rfl | hle
  · exact h
  · exact exsRep_up hle l cs h
theorem Rds_upM {m m' : Mem} {a : Option Addr} {n sz : Nat} {xs : List Value} (hle : leM m m') (h : Rds m a n sz xs) : Rds m' a n sz xs := by
  rcases hle with rfl | hle
  · exact h
  · exact Rds_up hle h
theorem leM_tr {m m' m'' : Mem} (h : leM m m') (h' : leM m' m'') : leM m m'' := by
  rcases h with rfl | h
  · exact h'
  · rcases h' with rfl | h'
    · exact .inr h
    · exact .inr (Mem.le_trans h h')
set_option maxRecDepth 20000 in
theorem indexX_spec (f : FuncId) (B : Ex → Bool) (l : List Ex) (a : Option Addr) (n c : Nat) (xs : List Value) (m : Mem) (hl : l.length = n) (hr : Rds m a n 8 xs) (he : exsRep m l xs) (hn : n ≤ big) (hok : fnOk Tryz.prog f = true)
    (hf : ∀ i (hi : i < l.length) cs m', leM m m' → exRep m' l[i] cs → Ans f [.v (.agg ⟨cs⟩)] m' (.bool (B l[i]))) :
    FnH Tryz.prog 111 [.v (.slice a n c), .v (.func (.func f) ⟨[]⟩ ⟨[]⟩)] ⟨[], []⟩ m fun r H' m' => leM m m' ∧ H' = ⟨[], []⟩ ∧ ∃ i : Int, r = .v (.int .i64 i) ∧ decide (0 ≤ i) = l.any B := by
  refine enter cfN puN Tryz.func111 rfl rfl (by kernel_rfl) rfl ?_ ?_
  · simp only [go_sem, ↓imp_tf, ↓imp_ft, ↓reduceIte, Nat.reduceBEq, Nat.reduceAdd, Nat.reduceMul, Nat.reduceSub, Nat.reduceEqDiff, Nat.reduceLT, Nat.reduceLeDiff, Option.map, Option.bind, List.map, List.length, reduceCtorEq, Option.toList, Option.getD, List.set, List.drop, List.take, Int.reduceToNat]
  · simp only [go_sem, ↓imp_tf, ↓imp_ft, ↓reduceIte, Nat.reduceBEq, Nat.reduceAdd, Nat.reduceMul, Nat.reduceSub, Nat.reduceEqDiff, Nat.reduceLT, Nat.reduceLeDiff, Option.map, Option.bind, List.map, List.length, reduceCtorEq, Option.toList, Option.getD, List.set, List.drop, List.take, Int.reduceToNat]
    refine WP_loop puN (fun x : Nat × Mem => ⟨[⟨0, [], .v (.slice a n c)⟩, ⟨1, [], .v (.func (.func f) ⟨[]⟩ ⟨[]⟩)⟩, ⟨7, [], .v (.int .i64 n)⟩, ⟨8, [], .v (.int .i64 x.1)⟩], [], [], [], 0, x.2⟩)
      (fun x => leM m x.2 ∧ x.1 ≤ n ∧ (l.take x.1).any B = false) (fun x => n - x.1) (0, m) (by kernel_rfl) (fun _ _ => Nat.le_refl _) (fun x hx => hx.1) (fun _ => ?_) ?_ ?_ ?_
    · simp only [go_sem, ↓imp_tf, ↓imp_ft, ↓reduceIte, Nat.reduceBEq, Nat.reduceAdd, Nat.reduceMul, Nat.reduceSub, Nat.reduceEqDiff, Nat.reduceLT, Nat.reduceLeDiff, Option.map, Option.bind, List.map, List.length, reduceCtorEq, Option.toList, Option.getD, List.set, List.drop, List.take, Int.reduceToNat]
    · simp only [go_sem, ↓imp_tf, ↓imp_ft, ↓reduceIte, Nat.reduceBEq, Nat.reduceAdd, Nat.reduceMul, Nat.reduceSub, Nat.reduceEqDiff, Nat.reduceLT, Nat.reduceLeDiff, Option.map, Option.bind, List.map, List.length, reduceCtorEq, Option.toList, Option.getD, List.set, List.drop, List.take, Int.reduceToNat]
      rfl
    · exact ⟨.inl rfl, Nat.zero_le _, rfl⟩
    · rintro ⟨k, mm⟩ ⟨h1, h2, h3⟩
      simp only at h1 h2 h3
      have hown : cfN.own f = false := rfl
      have hrk : ∀ (hk : k < n), Rd mm (ptrAt a (k * 8)) ((xs.drop (k * 8)).take 8) ∧ a ≠ none := fun hk => Rds_cells (Rds_upM h1 hr) hk
      have hln : ∀ (hk : k < n), ((xs.drop (k * 8)).take 8).length = 8 := fun hk => by
        have := hr.1
        have hm : (k + 1) * 8 ≤ n * 8 := Nat.mul_le_mul_right _ hk
        rw [List.length_take, List.length_drop]; omega
      simp only [go_sem, ↓imp_tf, ↓imp_ft, ↓reduceIte, Nat.reduceBEq, Nat.reduceAdd, Nat.reduceMul, Nat.reduceSub, Nat.reduceEqDiff, Nat.reduceLT, Nat.reduceLeDiff, Option.map, Option.bind, List.map, List.length, reduceCtorEq, Option.toList, Option.getD, List.set, List.drop, List.take, Int.reduceToNat, hown]
      refine ⟨fun hlt => ?_, fun hge => ⟨h1, ?_⟩⟩
      · have hk : k < n := by clear hf; omega
        have hkl : k < l.length := by clear hf; omega
        refine ⟨⟨by clear hf; omega, hlt, (hrk hk).2⟩, _, ⟨(hrk hk).1, hln hk⟩, hok, FnV_of ((hf k hkl _ mm h1 (exRep_upM h1 (exs_at he hkl))).mono ?_)⟩
        clear hf
        rintro r H' m' hm ⟨hle, rfl, rfl⟩
        simp only [go_sem, ↓imp_tf, ↓imp_ft, ↓reduceIte, Nat.reduceBEq, Nat.reduceAdd, Nat.reduceMul, Nat.reduceSub, Nat.reduceEqDiff, Nat.reduceLT, Nat.reduceLeDiff, Option.map, Option.bind, List.map, List.length, reduceCtorEq, Option.toList, Option.getD, List.set, List.drop, List.take, Int.reduceToNat]
        refine ⟨fun hb => ⟨leM_tr h1 hle, ?_⟩, fun hb => ⟨by unfold I64; simp only [big] at hn; omega, (k + 1, m'), ⟨by simp, .inl rfl⟩, ⟨leM_tr h1 hle, by simp only; omega, ?_⟩, by simp only; omega⟩⟩
        · have : l.any B = true := List.any_eq_true.2 ⟨_, List.getElem_mem hkl, hb⟩
          rw [this]
          simp
        · simp only
          rw [take_any hkl, h3, hb]
          rfl
      · rw [List.take_of_length_le (by clear hf; omega)] at h3
        rw [h3]
        rfl
theorem containsX_spec (f : FuncId) (B : Ex → Bool) (l : List Ex) (a : Option Addr) (n c : Nat) (xs : List Value) (m : Mem) (hl : l.length = n) (hr : Rds m a n 8 xs) (he : exsRep m l xs) (hn : n ≤ big) (hok : fnOk Tryz.prog f = true)
    (hf : ∀ i (hi : i < l.length) cs m', leM m m' → exRep m' l[i] cs → Ans f [.v (.agg ⟨cs⟩)] m' (.bool (B l[i]))) :
    Ans 44 [.v (.slice a n c), .v (.func (.func f) ⟨[]⟩ ⟨[]⟩)] m (.bool (l.any B)) := by
  refine enter cfN puN Tryz.func44 rfl rfl (by kernel_rfl) rfl ?_ ?_
  · simp only [go_sem, ↓imp_tf, ↓imp_ft, ↓reduceIte, Nat.reduceBEq, Nat.reduceAdd, Nat.reduceMul, Nat.reduceSub, Nat.reduceEqDiff, Nat.reduceLT, Nat.reduceLeDiff, Option.map, Option.bind, List.map, List.length, reduceCtorEq, Option.toList, Option.getD, List.set, List.drop, List.take, Int.reduceToNat]
  · simp only [go_sem, ↓imp_tf, ↓imp_ft, ↓reduceIte, Nat.reduceBEq, Nat.reduceAdd, Nat.reduceMul, Nat.reduceSub, Nat.reduceEqDiff, Nat.reduceLT, Nat.reduceLeDiff, Option.map, Option.bind, List.map, List.length, reduceCtorEq, Option.toList, Option.getD, List.set, List.drop, List.take, Int.reduceToNat]
    refine ⟨by kernel_rfl, FnV_of ((indexX_spec f B l a n c xs m hl hr he hn hok hf).mono ?_)⟩
    clear hf
    rintro r H' m' hm ⟨hle, rfl, i, rfl, hi⟩
    simp only [go_sem, ↓imp_tf, ↓imp_ft, ↓reduceIte, Nat.reduceBEq, Nat.reduceAdd, Nat.reduceMul, Nat.reduceSub, Nat.reduceEqDiff, Nat.reduceLT, Nat.reduceLeDiff, Option.map, Option.bind, List.map, List.length, reduceCtorEq, Option.toList, Option.getD, List.set, List.drop, List.take, Int.reduceToNat]
    exact ⟨hle, hi⟩
mutual
/-- Well-formed. -/
def validE : Ex → Bool
  | .mk k n s c ty args => nodeL k n s c ty.dim ty.base ty.name args.length && validEs args
def validEs : List Ex → Bool
  | [] => true
  | e :: r => validE e && validEs r
end
theorem validEs_any : ∀ (l : List Ex), (!l.any fun e => !validE e) = validEs l
  | [] => rfl
  | e :: r => by
    simp only [List.any_cons, validEs, ← validEs_any r]
    cases validE e <;> simp
theorem exC_len {k n : Int} {s c : List UInt8} {ty : Ty} {sl : Value} : (exC k n s c ty sl).length = 8 := rfl
set_option maxHeartbeats 4000000 in
set_option maxRecDepth 20000 in
theorem valid_all : ∀ (h : Nat) (e : Ex) (cs : List Value) (m : Mem), depthE e ≤ h → Glob m → exRep m e cs → Ans 19 [.v (.agg ⟨cs⟩)] m (.bool (validE e))
  | 0, .mk k n s c ty args, cs, m, hd, _, _ => by simp [depthE] at hd
  | h + 1, .mk k n s c ty args, cs, m, hd, hg, he => by
    simp only [exRep] at he
    obtain ⟨a, cp, xs, rfl, hcp, hr, hok, hes⟩ := he
    have hn := hok.2.2.2.2.2
    simp only [depthE] at hd
    have hf : ∀ i (hi : i < args.length) cs m', leM m m' → exRep m' args[i] cs → Ans 45 [.v (.agg ⟨cs⟩)] m' (.bool (!validE args[i])) := fun i hi cs m' hle hrep => by
      have hlen : ∃ c0 c1 c2 c3 c4 c5 c6 c7, cs = [c0, c1, c2, c3, c4, c5, c6, c7] := by
        cases hargs : args[i] with
        | mk k n s c ty args =>
          rw [hargs] at hrep
          simp only [exRep] at hrep
          obtain ⟨a, cp, xs, rfl, _⟩ := hrep
          exact ⟨_, _, _, _, _, _, _, _, rfl⟩
      have ih := valid_all h args[i] cs m' (by have := depth_mem hi; omega) (hg.upM hle) hrep
      obtain ⟨c0, c1, c2, c3, c4, c5, c6, c7, rfl⟩ := hlen
      refine enter cfN puN Tryz.func45 rfl rfl (by kernel_rfl) rfl ?_ ?_
      · simp only [go_sem, ↓imp_tf, ↓imp_ft, ↓reduceIte, Nat.reduceBEq, Nat.reduceAdd, Nat.reduceMul, Nat.reduceSub, Nat.reduceEqDiff, Nat.reduceLT, Nat.reduceLeDiff, Option.map, Option.bind, List.map, List.length, reduceCtorEq, Option.toList, Option.getD, List.set, List.drop, List.take, Int.reduceToNat]
      · simp only [go_sem, ↓imp_tf, ↓imp_ft, ↓reduceIte, Nat.reduceBEq, Nat.reduceAdd, Nat.reduceMul, Nat.reduceSub, Nat.reduceEqDiff, Nat.reduceLT, Nat.reduceLeDiff, Option.map, Option.bind, List.map, List.length, reduceCtorEq, Option.toList, Option.getD, List.set, List.drop, List.take, Int.reduceToNat]
        refine ⟨by kernel_rfl, FnV_of ((FnH_den ih (fun V => rfl)).mono ?_)⟩
        rintro r H' m2 hm2 ⟨hle2, rfl, rfl⟩
        simp only [go_sem, ↓imp_tf, ↓imp_ft, ↓reduceIte, Nat.reduceBEq, Nat.reduceAdd, Nat.reduceMul, Nat.reduceSub, Nat.reduceEqDiff, Nat.reduceLT, Nat.reduceLeDiff, Option.map, Option.bind, List.map, List.length, reduceCtorEq, Option.toList, Option.getD, List.set, List.drop, List.take, Int.reduceToNat]
        exact hle2
    have hv := fun m' (hm : leM m m') => containsX_spec 45 (fun e => !validE e) args a args.length cp xs m' rfl (Rds_upM hm hr) (exsRep_upM hm hes) hn (by kernel_rfl) (fun i hi cs m2 hle => hf i hi cs m2 (leM_tr hm hle))
    have hnode := node_spec k n s c ty.dim ty.base ty.name a args.length cp m hg (Nat.le_trans hok.2.2.1 (by decide)) (Nat.le_trans hok.2.2.2.1 (by decide)) (Nat.le_trans hok.2.2.2.2.1.2.2 (by decide))
    clear hf
    refine enter cfN puN Tryz.func19 rfl rfl (by kernel_rfl) rfl ?_ ?_
    · simp only [go_sem, ↓imp_tf, ↓imp_ft, ↓reduceIte, Nat.reduceBEq, Nat.reduceAdd, Nat.reduceMul, Nat.reduceSub, Nat.reduceEqDiff, Nat.reduceLT, Nat.reduceLeDiff, Option.map, Option.bind, List.map, List.length, reduceCtorEq, Option.toList, Option.getD, List.set, List.drop, List.take, Int.reduceToNat, exC]
    · simp only [go_sem, ↓imp_tf, ↓imp_ft, ↓reduceIte, Nat.reduceBEq, Nat.reduceAdd, Nat.reduceMul, Nat.reduceSub, Nat.reduceEqDiff, Nat.reduceLT, Nat.reduceLeDiff, Option.map, Option.bind, List.map, List.length, reduceCtorEq, Option.toList, Option.getD, List.set, List.drop, List.take, Int.reduceToNat, exC]
      refine ⟨by kernel_rfl, FnV_of ((FnH_den hnode (fun V => rfl)).mono ?_)⟩
      rintro r H' m2 hm2 ⟨hle, rfl, rfl⟩
      simp only [go_sem, ↓imp_tf, ↓imp_ft, ↓reduceIte, Nat.reduceBEq, Nat.reduceAdd, Nat.reduceMul, Nat.reduceSub, Nat.reduceEqDiff, Nat.reduceLT, Nat.reduceLeDiff, Option.map, Option.bind, List.map, List.length, reduceCtorEq, Option.toList, Option.getD, List.set, List.drop, List.take, Int.reduceToNat]
      refine ⟨fun hb => ⟨by kernel_rfl, FnV_of ((hv m2 hle).mono ?_)⟩, fun hb => ⟨hle, ?_⟩⟩
      · clear hv
        rintro r H' m3 hm3 ⟨hle3, rfl, rfl⟩
        simp only [go_sem, ↓imp_tf, ↓imp_ft, ↓reduceIte, Nat.reduceBEq, Nat.reduceAdd, Nat.reduceMul, Nat.reduceSub, Nat.reduceEqDiff, Nat.reduceLT, Nat.reduceLeDiff, Option.map, Option.bind, List.map, List.length, reduceCtorEq, Option.toList, Option.getD, List.set, List.drop, List.take, Int.reduceToNat]
        refine ⟨leM_tr hle hle3, ?_⟩
        rw [validEs_any, validE, hb, Bool.true_and]
      · rw [validE, hb, Bool.false_and]
/-- The cells of an expression. -/
structure Nd where
  k : Int
  n : Int
  s : List UInt8
  c : List UInt8
  ty : Ty
  a : Option Addr
  l : Nat
  cp : Nat
def Nd.cs (x : Nd) : List Value := [.int .i64 x.k, .int .i64 x.n, .string (bs x.s), .string (bs x.c), .int .i64 x.ty.dim, .int .u8 x.ty.base, .string (bs x.ty.name), .slice x.a x.l x.cp]
theorem exRep_nd {m : Mem} {e : Ex} {cs : List Value} (h : exRep m e cs) : ∃ x : Nd, cs = x.cs := by
  cases e with
  | mk k n s c ty args =>
    simp only [exRep] at h
    obtain ⟨a, cp, xs, rfl, _⟩ := h
    exact ⟨⟨k, n, s, c, ty, a, args.length, cp⟩, rfl⟩
set_option maxHeartbeats 4000000 in
set_option maxRecDepth 20000 in
theorem depth_all : ∀ (h : Nat) (e : Ex) (cs : List Value) (m : Mem), depthE e ≤ h → h ≤ big → exRep m e cs → Ans 23 [.v (.agg ⟨cs⟩)] m (.int .i64 (depthE e))
  | 0, .mk k n s c ty args, cs, m, hd, _, _ => by simp [depthE] at hd
  | h + 1, .mk k n s c ty args, cs, m, hd, hb, he => by
    simp only [exRep] at he
    obtain ⟨a, cp, xs, rfl, hcp, hr, hok, hes⟩ := he
    have hn := hok.2.2.2.2.2
    simp only [depthE] at hd
    refine enter cfN puN Tryz.func23 rfl rfl (by kernel_rfl) rfl ?_ ?_
    · simp only [go_sem, ↓imp_tf, ↓imp_ft, ↓reduceIte, Nat.reduceBEq, Nat.reduceAdd, Nat.reduceMul, Nat.reduceSub, Nat.reduceEqDiff, Nat.reduceLT, Nat.reduceLeDiff, Option.map, Option.bind, List.map, List.length, reduceCtorEq, Option.toList, Option.getD, List.set, List.drop, List.take, Int.reduceToNat, exC]
    · simp only [go_sem, ↓imp_tf, ↓imp_ft, ↓reduceIte, Nat.reduceBEq, Nat.reduceAdd, Nat.reduceMul, Nat.reduceSub, Nat.reduceEqDiff, Nat.reduceLT, Nat.reduceLeDiff, Option.map, Option.bind, List.map, List.length, reduceCtorEq, Option.toList, Option.getD, List.set, List.drop, List.take, Int.reduceToNat, exC]
      refine WP_loop puN (fun x : Nat × Mem => ⟨[⟨3, [], .v (.int .i64 (depthL (args.take x.1)))⟩, ⟨7, [], .v (.slice a args.length cp)⟩, ⟨8, [], .v (.int .i64 args.length)⟩, ⟨9, [], .v (.int .i64 x.1)⟩], [], [], [], 1, x.2⟩)
        (fun x => leM m x.2 ∧ x.1 ≤ args.length) (fun x => args.length - x.1) (0, m) (by kernel_rfl) (fun _ _ => Nat.le_refl _) (fun x hx => hx.1) (fun _ => ?_) ?_ ?_ ?_
      · simp only [go_sem, ↓imp_tf, ↓imp_ft, ↓reduceIte, Nat.reduceBEq, Nat.reduceAdd, Nat.reduceMul, Nat.reduceSub, Nat.reduceEqDiff, Nat.reduceLT, Nat.reduceLeDiff, Option.map, Option.bind, List.map, List.length, reduceCtorEq, Option.toList, Option.getD, List.set, List.drop, List.take, Int.reduceToNat]
      · simp only [go_sem, ↓imp_tf, ↓imp_ft, ↓reduceIte, Nat.reduceBEq, Nat.reduceAdd, Nat.reduceMul, Nat.reduceSub, Nat.reduceEqDiff, Nat.reduceLT, Nat.reduceLeDiff, Option.map, Option.bind, List.map, List.length, reduceCtorEq, Option.toList, Option.getD, List.set, List.drop, List.take, Int.reduceToNat]
        exact ⟨rfl, rfl⟩
      · exact ⟨.inl rfl, Nat.zero_le _⟩
      · rintro ⟨i, mm⟩ ⟨h1, h2⟩
        simp only at h1 h2
        have hx : ∀ (hi : i < args.length), ∃ x : Nd, Rd mm (ptrAt a (i * 8)) x.cs ∧ a ≠ none ∧ Ans 23 [.v (.agg ⟨x.cs⟩)] mm (.int .i64 (depthE args[i])) := fun hi => by
          have hrep := exRep_upM h1 (exs_at hes hi)
          obtain ⟨x, hx⟩ := exRep_nd hrep
          have hrd := Rds_cells (Rds_upM h1 hr) hi
          rw [hx] at hrep hrd
          exact ⟨x, hrd.1, hrd.2, depth_all h args[i] x.cs mm (by have := depth_mem hi; omega) (by omega) hrep⟩
        simp only [go_sem, ↓imp_tf, ↓imp_ft, ↓reduceIte, Nat.reduceBEq, Nat.reduceAdd, Nat.reduceMul, Nat.reduceSub, Nat.reduceEqDiff, Nat.reduceLT, Nat.reduceLeDiff, Option.map, Option.bind, List.map, List.length, reduceCtorEq, Option.toList, Option.getD, List.set, List.drop, List.take, Int.reduceToNat]
        refine ⟨fun hlt => ?_, fun hge => ?_⟩
        · refine Exists.elim (hx (by clear hx; omega)) fun x hx' => ⟨⟨by clear hx hx'; omega, hlt, hx'.2.1⟩, x.cs, ⟨hx'.1, rfl⟩, ?_⟩
          clear hx
          have ha := hx'.2.2
          simp only [go_sem, ↓imp_tf, ↓imp_ft, ↓reduceIte, Nat.reduceBEq, Nat.reduceAdd, Nat.reduceMul, Nat.reduceSub, Nat.reduceEqDiff, Nat.reduceLT, Nat.reduceLeDiff, Option.map, Option.bind, List.map, List.length, reduceCtorEq, Option.toList, Option.getD, List.set, List.drop, List.take, Int.reduceToNat, Nd.cs]
          refine ⟨by kernel_rfl, FnV_of ((FnH_den ha (fun V => rfl)).mono ?_)⟩
          clear hx' ha
          rintro r H' m2 hm2 ⟨hle2, rfl, rfl⟩
          simp only [go_sem, ↓imp_tf, ↓imp_ft, ↓reduceIte, Nat.reduceBEq, Nat.reduceAdd, Nat.reduceMul, Nat.reduceSub, Nat.reduceEqDiff, Nat.reduceLT, Nat.reduceLeDiff, Option.map, Option.bind, List.map, List.length, reduceCtorEq, Option.toList, Option.getD, List.set, List.drop, List.take, Int.reduceToNat]
          have hi : i < args.length := by omega
          have hdt := depth_take hi
          refine ⟨by unfold I64; simp only [big] at hn; omega, (i + 1, m2), ⟨⟨?_, by simp⟩, .inl rfl⟩, ⟨leM_tr h1 hle2, by simp only; omega⟩, by simp only; omega⟩
          simp only
          rw [hdt]
          split <;> omega
        · clear hx
          have : args.take i = args := List.take_of_length_le (by omega)
          rw [this]
          simp only [depthE]
          exact ⟨by unfold I64; simp only [big] at hb; omega, h1, by omega⟩
mutual
/-- The number of nodes. -/
def sizeE : Ex → Nat
  | .mk _ _ _ _ _ args => sizeL args + 1
def sizeL : List Ex → Nat
  | [] => 0
  | e :: r => sizeE e + sizeL r
end
theorem size_take : ∀ {l : List Ex} {i : Nat} (hi : i < l.length), sizeL (l.take (i + 1)) = sizeL (l.take i) + sizeE l[i]
  | [], _, hi => absurd hi (Nat.not_lt_zero _)
  | e :: r, 0, _ => by simp [sizeL]
  | e :: r, i + 1, hi => by
    have := size_take (l := r) (i := i) (by simpa using hi)
    simp only [List.take_succ_cons, sizeL, this]
    rw [List.getElem_cons_succ, Nat.add_assoc]
theorem size_take_le : ∀ (l : List Ex) (i : Nat), sizeL (l.take i) ≤ sizeL l
  | [], _ => by simp [sizeL]
  | e :: r, 0 => by simp [sizeL]
  | e :: r, i + 1 => by
    have := size_take_le r i
    simp only [List.take_succ_cons, sizeL]
    omega
set_option maxHeartbeats 4000000 in
set_option maxRecDepth 20000 in
theorem exprs_all : ∀ (h : Nat) (e : Ex) (most : Int) (cs : List Value) (m : Mem), depthE e ≤ h → sizeE e ≤ big → 0 ≤ most → most ≤ 1000000 → exRep m e cs →
    FnH Tryz.prog 15 [.v (.agg ⟨cs⟩), .v (.int .i64 most)] ⟨[], []⟩ m fun r H' m' => leM m m' ∧ H' = ⟨[], []⟩ ∧ ∃ x : Int, r = .v (.int .i64 x) ∧ 1 ≤ x ∧ x ≤ sizeE e
  | 0, .mk k n s c ty args, most, cs, m, hd, _, _, _, _ => by simp [depthE] at hd
  | h + 1, .mk k n s c ty args, most, cs, m, hd, hb, hm0, hm1, he => by
    simp only [exRep] at he
    obtain ⟨a, cp, xs, rfl, hcp, hr, hok, hes⟩ := he
    have hn := hok.2.2.2.2.2
    simp only [depthE] at hd
    simp only [sizeE] at hb
    refine enter cfN puN Tryz.func15 rfl rfl (by kernel_rfl) rfl ?_ ?_
    · simp only [go_sem, ↓imp_tf, ↓imp_ft, ↓reduceIte, Nat.reduceBEq, Nat.reduceAdd, Nat.reduceMul, Nat.reduceSub, Nat.reduceEqDiff, Nat.reduceLT, Nat.reduceLeDiff, Option.map, Option.bind, List.map, List.length, reduceCtorEq, Option.toList, Option.getD, List.set, List.drop, List.take, Int.reduceToNat, exC]
    · simp only [go_sem, ↓imp_tf, ↓imp_ft, ↓reduceIte, Nat.reduceBEq, Nat.reduceAdd, Nat.reduceMul, Nat.reduceSub, Nat.reduceEqDiff, Nat.reduceLT, Nat.reduceLeDiff, Option.map, Option.bind, List.map, List.length, reduceCtorEq, Option.toList, Option.getD, List.set, List.drop, List.take, Int.reduceToNat, exC]
      refine WP_loop puN (fun x : Nat × Int × Mem => ⟨[⟨5, [], .v (.int .i64 x.2.1)⟩, ⟨6, [], .v (.int .i64 x.1)⟩, ⟨1, [], .v (.int .i64 most)⟩, ⟨2, [], .box 0 0⟩], [], [⟨0, 32, (exC k n s c ty (.slice a args.length cp)).map .v⟩], [], 1, x.2.2⟩)
        (fun x => leM m x.2.2 ∧ x.1 ≤ args.length ∧ 1 ≤ x.2.1 ∧ x.2.1 ≤ sizeL (args.take x.1) + 1) (fun x => args.length - x.1) (0, 1, m) (by kernel_rfl) (fun _ _ => Nat.le_refl _) (fun x hx => hx.1) (fun _ => ?_) ?_ ?_ ?_
      · simp only [go_sem, ↓imp_tf, ↓imp_ft, ↓reduceIte, Nat.reduceBEq, Nat.reduceAdd, Nat.reduceMul, Nat.reduceSub, Nat.reduceEqDiff, Nat.reduceLT, Nat.reduceLeDiff, Option.map, Option.bind, List.map, List.length, reduceCtorEq, Option.toList, Option.getD, List.set, List.drop, List.take, Int.reduceToNat, exC]
      · simp only [go_sem, ↓imp_tf, ↓imp_ft, ↓reduceIte, Nat.reduceBEq, Nat.reduceAdd, Nat.reduceMul, Nat.reduceSub, Nat.reduceEqDiff, Nat.reduceLT, Nat.reduceLeDiff, Option.map, Option.bind, List.map, List.length, reduceCtorEq, Option.toList, Option.getD, List.set, List.drop, List.take, Int.reduceToNat, exC]
        rfl
      · exact ⟨.inl rfl, Nat.zero_le _, by simp, by simp only; omega⟩
      · rintro ⟨i, x, mm⟩ ⟨h1, h2, h3, h4⟩
        simp only at h1 h2 h3 h4
        have hx : ∀ (hi : i < args.length) (_ : x ≤ most), Rd mm (ptrAt a (i * 8)) ((xs.drop (i * 8)).take 8) ∧ a ≠ none ∧ ((xs.drop (i * 8)).take 8).length = 8 ∧ _ := fun hi hxm => by
          have hrep := exRep_upM h1 (exs_at hes hi)
          have hrd := Rds_cells (Rds_upM h1 hr) hi
          have h5 := size_take hi
          have h6 := size_take_le args (i + 1)
          have hln : ((xs.drop (i * 8)).take 8).length = 8 := by
            have := hr.1
            have hm : (i + 1) * 8 ≤ args.length * 8 := Nat.mul_le_mul_right _ hi
            rw [List.length_take, List.length_drop]; omega
          exact ⟨hrd.1, hrd.2, hln, exprs_all h args[i] (most - x) ((xs.drop (i * 8)).take 8) mm (by have := depth_mem hi; omega) (by omega) (by omega) (by omega) hrep⟩
        have hst : ∀ (hi : i < args.length), sizeL (args.take (i + 1)) = sizeL (args.take i) + sizeE args[i] := fun hi => size_take hi
        have hsl := size_take_le args i
        have hsl1 := size_take_le args (i + 1)
        simp only [go_sem, ↓imp_tf, ↓imp_ft, ↓reduceIte, Nat.reduceBEq, Nat.reduceAdd, Nat.reduceMul, Nat.reduceSub, Nat.reduceEqDiff, Nat.reduceLT, Nat.reduceLeDiff, Option.map, Option.bind, List.map, List.length, reduceCtorEq, Option.toList, Option.getD, List.set, List.drop, List.take, Int.reduceToNat, exC]
        refine ⟨fun hlt => ?_, fun hge => ⟨h1, h3, by clear hx; simp only [sizeE]; omega⟩⟩
        have hi : i < args.length := by clear hx; omega
        have hx' := hx hi hlt.2
        refine ⟨⟨by clear hx hx'; omega, hlt.1, hx'.2.1⟩, _, ⟨hx'.1, hx'.2.2.1⟩, by clear hx hx'; unfold I64; simp only [big] at hb; omega, by kernel_rfl, FnV_of (hx'.2.2.2.mono ?_)⟩
        clear hx hx'
        rintro r H' m2 hm2 ⟨hle2, rfl, y, rfl, hy1, hy2⟩
        have hs := hst hi
        simp only [go_sem, ↓imp_tf, ↓imp_ft, ↓reduceIte, Nat.reduceBEq, Nat.reduceAdd, Nat.reduceMul, Nat.reduceSub, Nat.reduceEqDiff, Nat.reduceLT, Nat.reduceLeDiff, Option.map, Option.bind, List.map, List.length, reduceCtorEq, Option.toList, Option.getD, List.set, List.drop, List.take, Int.reduceToNat, exC]
        refine ⟨by unfold I64; simp only [big] at hb; omega, by unfold I64; simp only [big] at hn; omega, (i + 1, x + y, m2), ⟨by simp, .inl rfl⟩, ⟨leM_tr h1 hle2, by simp only; omega, by simp only; omega, by simp only; omega⟩, by simp only; omega⟩
end Go.Proofs.YtalalcpefggniaaGreatDoor.E

/- ast, part F: the writer: signs, words, names, types. -/
set_option linter.unusedSimpArgs false
set_option linter.unusedVariables false
namespace Go.Proofs.YtalalcpefggniaaGreatDoor.E
open Go

theorem aggW : aggN Tryz.prog 64 = some (some 1) := by kernel_rfl
theorem szW : szT Tryz.prog 64 = 1 := by kernel_rfl
theorem zeroW : zeroO Tryz.prog 64 = some [.v (.slice none 0 0)] := by kernel_rfl
theorem fldW_0 : fldO Tryz.prog 64 0 = some (0, none, 1) := by kernel_rfl
theorem bldW : bldOk Tryz.prog 64 = true := by kernel_rfl
theorem aggLT : aggN Tryz.prog 44 = some none := by kernel_rfl
theorem szLT : szT Tryz.prog 44 = 1 := by kernel_rfl
attribute [go_sem] aggW szW zeroW fldW_0 bldW aggLT szLT
/-- The writer's methods that are handed own slices only to read (the others own). -/
abbrev cfW : Cfg := mkCf (fun _ => false) []
theorem puW : PureOk cfW Tryz.prog := pure_nil
def sg (s : List UInt8) : Tk := ⟨6, s, 0, 0⟩
def kw (s : List UInt8) : Tk := ⟨2, s, 0, 0⟩
def nm1 (s : List UInt8) : Tk := ⟨1, s, 0, 0⟩
/-- The writer and its tokens. -/
abbrev wH (u : Nat) (acc : List Tk) : Hp := ⟨[⟨0, 64, [.vec 1 u]⟩], [⟨1, u, 79, 4, acc.length, tkCells acc⟩]⟩
def WrT (f : FuncId) (args : List SV) (m : Mem) (u : Nat) (acc new : List Tk) : Prop :=
  FnH Tryz.prog f (.box 0 0 :: args) (wH u acc) m fun r H' m' => leM m m' ∧ r = .tup [] ∧ ∃ u', u ≤ u' ∧ H' = wH u' (acc ++ new)
abbrev room1 (acc new : List Tk) : Prop := acc.length + new.length ≤ 1000000000
theorem tkCells_app (a b : List Tk) : tkCells (a ++ b) = tkCells a ++ tkCells b := by simp [tkCells]
theorem room_ok {acc : List Tk} {k : Nat} (hb : acc.length + k ≤ 1000000000) : room (acc.length + k) 40 := ⟨by omega, by simp only [maxLen]; omega⟩
theorem room_ok2 {acc new : List Tk} {k : Nat} (hb : room1 acc new) (h : k < new.length) : room (acc.length + k + 1) 40 := by
  simp only [room1] at hb
  exact ⟨by omega, by simp only [maxLen]; omega⟩
theorem strs_rd {l : List (List UInt8)} {a : Option Addr} {n : Nat} {m : Mem} (hr : Rds m a n 1 (strs l)) {k : Nat} (hk : k < l.length) : Rd m (ptrAt a k) [.string (bs l[k])] ∧ a ≠ none := by
  have hl : l.length = n := by have := hr.1; simpa [strs] using this
  obtain ⟨hx, h, hne⟩ := Rds_one hr (by omega : k < n)
  have e : (strs l)[k] = .string (bs l[k]) := by simp [strs]
  rw [e] at h
  exact ⟨h, hne⟩
set_option maxHeartbeats 4000000 in
set_option maxRecDepth 20000 in
theorem name_spec (s : List UInt8) (m : Mem) (u : Nat) (acc : List Tk) (hb : room1 acc [nm1 s]) : WrT 85 [.v (.string (bs s))] m u acc [nm1 s] := by
  refine enter cfN puN Tryz.func85 rfl rfl (by kernel_rfl) rfl ?_ ?_
  · simp only [go_sem, ↓imp_tf, ↓imp_ft, ↓reduceIte, Nat.reduceBEq, Nat.reduceAdd, Nat.reduceMul, Nat.reduceSub, Nat.reduceEqDiff, Nat.reduceLT, Nat.reduceLeDiff, Option.map, Option.bind, List.map, List.length, reduceCtorEq, Option.toList, Option.getD, List.set, List.drop, List.take, Int.reduceToNat]
  · simp only [go_sem, ↓imp_tf, ↓imp_ft, ↓reduceIte, Nat.reduceBEq, Nat.reduceAdd, Nat.reduceMul, Nat.reduceSub, Nat.reduceEqDiff, Nat.reduceLT, Nat.reduceLeDiff, Option.map, Option.bind, List.map, List.length, reduceCtorEq, Option.toList, Option.getD, List.set, List.drop, List.take, Int.reduceToNat]
    refine ⟨room_ok hb, u + 1, by omega, ?_⟩
    rw [wH, tkCells_app]
    simp only [List.length_append, List.length_singleton]
    rfl
set_option maxHeartbeats 4000000 in
set_option maxRecDepth 20000 in
theorem signs_spec (l : List (List UInt8)) (a : Option Addr) (n c : Nat) (m : Mem) (u : Nat) (acc : List Tk) (hr : Rds m a n 1 (strs l)) (hb : room1 acc (l.map sg)) : WrT 87 [.v (.slice a n c)] m u acc (l.map sg) := by
  have hl : l.length = n := by have := hr.1; simpa [strs] using this
  refine enter cfN puN Tryz.func87 rfl rfl (by kernel_rfl) rfl ?_ ?_
  · simp only [go_sem, ↓imp_tf, ↓imp_ft, ↓reduceIte, Nat.reduceBEq, Nat.reduceAdd, Nat.reduceMul, Nat.reduceSub, Nat.reduceEqDiff, Nat.reduceLT, Nat.reduceLeDiff, Option.map, Option.bind, List.map, List.length, reduceCtorEq, Option.toList, Option.getD, List.set, List.drop, List.take, Int.reduceToNat]
  · simp only [go_sem, ↓imp_tf, ↓imp_ft, ↓reduceIte, Nat.reduceBEq, Nat.reduceAdd, Nat.reduceMul, Nat.reduceSub, Nat.reduceEqDiff, Nat.reduceLT, Nat.reduceLeDiff, Option.map, Option.bind, List.map, List.length, reduceCtorEq, Option.toList, Option.getD, List.set, List.drop, List.take, Int.reduceToNat]
    refine WP_loop puN (fun x : Nat × Nat => ⟨[⟨0, [], .box 0 0⟩, ⟨6, [], .v (.slice a n c)⟩, ⟨7, [], .v (.int .i64 n)⟩, ⟨8, [], .v (.int .i64 x.1)⟩], [], [⟨0, 64, [.vec 1 (u + x.2)]⟩], [⟨1, u + x.2, 79, 4, acc.length + x.1, tkCells (acc ++ (l.take x.1).map sg)⟩], 2, m⟩)
      (fun x => x.1 ≤ n) (fun x => n - x.1) (0, 0) (by kernel_rfl) (fun _ _ => Nat.le_refl _) (fun _ _ => .inl rfl) (fun _ => ?_) ?_ ?_ ?_
    · simp only [go_sem, ↓imp_tf, ↓imp_ft, ↓reduceIte, Nat.reduceBEq, Nat.reduceAdd, Nat.reduceMul, Nat.reduceSub, Nat.reduceEqDiff, Nat.reduceLT, Nat.reduceLeDiff, Option.map, Option.bind, List.map, List.length, reduceCtorEq, Option.toList, Option.getD, List.set, List.drop, List.take, Int.reduceToNat]
    · simp only [go_sem, ↓imp_tf, ↓imp_ft, ↓reduceIte, Nat.reduceBEq, Nat.reduceAdd, Nat.reduceMul, Nat.reduceSub, Nat.reduceEqDiff, Nat.reduceLT, Nat.reduceLeDiff, Option.map, Option.bind, List.map, List.length, reduceCtorEq, Option.toList, Option.getD, List.set, List.drop, List.take, Int.reduceToNat]
      exact ⟨rfl, rfl, rfl, rfl⟩
    · exact Nat.zero_le _
    · rintro ⟨k, v⟩ h2
      simp only at h2
      have hrd := fun hk : k < l.length => strs_rd hr hk
      simp only [go_sem, ↓imp_tf, ↓imp_ft, ↓reduceIte, Nat.reduceBEq, Nat.reduceAdd, Nat.reduceMul, Nat.reduceSub, Nat.reduceEqDiff, Nat.reduceLT, Nat.reduceLeDiff, Option.map, Option.bind, List.map, List.length, reduceCtorEq, Option.toList, Option.getD, List.set, List.drop, List.take, Int.reduceToNat]
      refine ⟨fun hlt => ?_, fun hge => ⟨u + v, by omega, ?_⟩⟩
      · have hkl : k < l.length := by omega
        refine ⟨⟨by omega, hlt, (hrd hkl).2⟩, .string (bs l[k]), (hrd hkl).1, ?_⟩
        simp only [go_sem, ↓imp_tf, ↓imp_ft, ↓reduceIte, Nat.reduceBEq, Nat.reduceAdd, Nat.reduceMul, Nat.reduceSub, Nat.reduceEqDiff, Nat.reduceLT, Nat.reduceLeDiff, Option.map, Option.bind, List.map, List.length, reduceCtorEq, Option.toList, Option.getD, List.set, List.drop, List.take, Int.reduceToNat]
        refine ⟨room_ok2 hb (by simp only [List.length_map]; omega), by unfold I64; simp only [room1, List.length_map] at hb; omega, (k + 1, v + 1), ⟨by simp, rfl, rfl, by omega, ?_⟩, by simp only; omega, by simp only; omega⟩
        simp only [List.take_succ_eq_append_getElem hkl, List.map_append, tkCells_app, List.append_assoc]
        rfl
      · have e : l.take k = l := List.take_of_length_le (by omega)
        rw [e, wH]
        simp only [List.length_append, List.length_map, show l.length = k by omega]
set_option maxHeartbeats 4000000 in
set_option maxRecDepth 20000 in
theorem words_spec (l : List (List UInt8)) (a : Option Addr) (n c : Nat) (m : Mem) (u : Nat) (acc : List Tk) (hr : Rds m a n 1 (strs l)) (hb : room1 acc (l.map kw)) : WrT 84 [.v (.slice a n c)] m u acc (l.map kw) := by
  have hl : l.length = n := by have := hr.1; simpa [strs] using this
  refine enter cfN puN Tryz.func84 rfl rfl (by kernel_rfl) rfl ?_ ?_
  · simp only [go_sem, ↓imp_tf, ↓imp_ft, ↓reduceIte, Nat.reduceBEq, Nat.reduceAdd, Nat.reduceMul, Nat.reduceSub, Nat.reduceEqDiff, Nat.reduceLT, Nat.reduceLeDiff, Option.map, Option.bind, List.map, List.length, reduceCtorEq, Option.toList, Option.getD, List.set, List.drop, List.take, Int.reduceToNat]
  · simp only [go_sem, ↓imp_tf, ↓imp_ft, ↓reduceIte, Nat.reduceBEq, Nat.reduceAdd, Nat.reduceMul, Nat.reduceSub, Nat.reduceEqDiff, Nat.reduceLT, Nat.reduceLeDiff, Option.map, Option.bind, List.map, List.length, reduceCtorEq, Option.toList, Option.getD, List.set, List.drop, List.take, Int.reduceToNat]
    refine WP_loop puN (fun x : Nat × Nat => ⟨[⟨0, [], .box 0 0⟩, ⟨6, [], .v (.slice a n c)⟩, ⟨7, [], .v (.int .i64 n)⟩, ⟨8, [], .v (.int .i64 x.1)⟩], [], [⟨0, 64, [.vec 1 (u + x.2)]⟩], [⟨1, u + x.2, 79, 4, acc.length + x.1, tkCells (acc ++ (l.take x.1).map kw)⟩], 2, m⟩)
      (fun x => x.1 ≤ n) (fun x => n - x.1) (0, 0) (by kernel_rfl) (fun _ _ => Nat.le_refl _) (fun _ _ => .inl rfl) (fun _ => ?_) ?_ ?_ ?_
    · simp only [go_sem, ↓imp_tf, ↓imp_ft, ↓reduceIte, Nat.reduceBEq, Nat.reduceAdd, Nat.reduceMul, Nat.reduceSub, Nat.reduceEqDiff, Nat.reduceLT, Nat.reduceLeDiff, Option.map, Option.bind, List.map, List.length, reduceCtorEq, Option.toList, Option.getD, List.set, List.drop, List.take, Int.reduceToNat]
    · simp only [go_sem, ↓imp_tf, ↓imp_ft, ↓reduceIte, Nat.reduceBEq, Nat.reduceAdd, Nat.reduceMul, Nat.reduceSub, Nat.reduceEqDiff, Nat.reduceLT, Nat.reduceLeDiff, Option.map, Option.bind, List.map, List.length, reduceCtorEq, Option.toList, Option.getD, List.set, List.drop, List.take, Int.reduceToNat]
      exact ⟨rfl, rfl, rfl, rfl⟩
    · exact Nat.zero_le _
    · rintro ⟨k, v⟩ h2
      simp only at h2
      have hrd := fun hk : k < l.length => strs_rd hr hk
      simp only [go_sem, ↓imp_tf, ↓imp_ft, ↓reduceIte, Nat.reduceBEq, Nat.reduceAdd, Nat.reduceMul, Nat.reduceSub, Nat.reduceEqDiff, Nat.reduceLT, Nat.reduceLeDiff, Option.map, Option.bind, List.map, List.length, reduceCtorEq, Option.toList, Option.getD, List.set, List.drop, List.take, Int.reduceToNat]
      refine ⟨fun hlt => ?_, fun hge => ⟨u + v, by omega, ?_⟩⟩
      · have hkl : k < l.length := by omega
        refine ⟨⟨by omega, hlt, (hrd hkl).2⟩, .string (bs l[k]), (hrd hkl).1, ?_⟩
        simp only [go_sem, ↓imp_tf, ↓imp_ft, ↓reduceIte, Nat.reduceBEq, Nat.reduceAdd, Nat.reduceMul, Nat.reduceSub, Nat.reduceEqDiff, Nat.reduceLT, Nat.reduceLeDiff, Option.map, Option.bind, List.map, List.length, reduceCtorEq, Option.toList, Option.getD, List.set, List.drop, List.take, Int.reduceToNat]
        refine ⟨room_ok2 hb (by simp only [List.length_map]; omega), by unfold I64; simp only [room1, List.length_map] at hb; omega, (k + 1, v + 1), ⟨by simp, rfl, rfl, by omega, ?_⟩, by simp only; omega, by simp only; omega⟩
        simp only [List.take_succ_eq_append_getElem hkl, List.map_append, tkCells_app, List.append_assoc]
        rfl
      · have e : l.take k = l := List.take_of_length_le (by omega)
        rw [e, wH]
        simp only [List.length_append, List.length_map, show l.length = k by omega]

def intS : List UInt8 := [105, 110, 116]
def longS : List UInt8 := [108, 111, 110, 103]
def voidS : List UInt8 := [118, 111, 105, 100]
def baseT (b : Int) (nm : List UInt8) : Tk := if b = 73 then kw intS else if b = 74 then kw longS else if b = 86 then kw voidS else nm1 nm
def dimT (d : Int) : List Tk := (List.replicate d.toNat [sg [91], sg [93]]).flatten
def typT (d b : Int) (nm : List UInt8) : List Tk := baseT b nm :: dimT d
set_option maxHeartbeats 4000000 in
set_option maxRecDepth 20000 in
theorem base_spec (d b : Int) (nm : List UInt8) (m : Mem) (u : Nat) (acc : List Tk) (hb : acc.length + 1 ≤ 1000000000) : WrT 158 [.v (.agg ⟨[.int .i64 d, .int .u8 b, .string (bs nm)]⟩)] m u acc [baseT b nm] := by
  have hw := fun (s : List UInt8) (a : Option Addr) (c : Nat) (m' : Mem) (hr : Rds m' a 1 1 (strs [s])) => words_spec [s] a 1 c m' u acc hr hb
  have hn := fun (m' : Mem) => name_spec nm m' u acc hb
  refine enter cfW puW Tryz.func158 rfl rfl (by kernel_rfl) rfl ?_ ?_
  · simp only [go_sem, ↓imp_tf, ↓imp_ft, ↓reduceIte, Nat.reduceBEq, Nat.reduceAdd, Nat.reduceMul, Nat.reduceSub, Nat.reduceEqDiff, Nat.reduceLT, Nat.reduceLeDiff, Option.map, Option.bind, List.map, List.length, reduceCtorEq, Option.toList, Option.getD, List.set, List.drop, List.take, Int.reduceToNat]
  · simp only [go_sem, ↓imp_tf, ↓imp_ft, ↓reduceIte, Nat.reduceBEq, Nat.reduceAdd, Nat.reduceMul, Nat.reduceSub, Nat.reduceEqDiff, Nat.reduceLT, Nat.reduceLeDiff, Option.map, Option.bind, List.map, List.length, reduceCtorEq, Option.toList, Option.getD, List.set, List.drop, List.take, Int.reduceToNat]
    refine ⟨fun h1 => ⟨by kernel_rfl, fun a c m1 hm1 hc hr => FnV_of ((hw intS a c m1 hr).mono ?_)⟩, fun h1 => ⟨fun h2 => ⟨by kernel_rfl, fun a c m1 hm1 hc hr => FnV_of ((hw longS a c m1 hr).mono ?_)⟩, fun h2 => ⟨fun h3 => ⟨by kernel_rfl, fun a c m1 hm1 hc hr => FnV_of ((hw voidS a c m1 hr).mono ?_)⟩, fun h3 => ⟨by kernel_rfl, FnV_of ((hn m).mono ?_)⟩⟩⟩⟩
    · rintro r H' m' hm ⟨hle, rfl, u', hu, rfl⟩
      simp only [go_sem, ↓imp_tf, ↓imp_ft, ↓reduceIte, Nat.reduceBEq, Nat.reduceAdd, Nat.reduceMul, Nat.reduceSub, Nat.reduceEqDiff, Nat.reduceLT, Nat.reduceLeDiff, Option.map, Option.bind, List.map, List.length, reduceCtorEq, Option.toList, Option.getD, List.set, List.drop, List.take, Int.reduceToNat]
      refine ⟨hu, leM_tr (.inr hm1) hle, u', hu, ?_⟩
      simp only [baseT, if_pos h1]
    · rintro r H' m' hm ⟨hle, rfl, u', hu, rfl⟩
      simp only [go_sem, ↓imp_tf, ↓imp_ft, ↓reduceIte, Nat.reduceBEq, Nat.reduceAdd, Nat.reduceMul, Nat.reduceSub, Nat.reduceEqDiff, Nat.reduceLT, Nat.reduceLeDiff, Option.map, Option.bind, List.map, List.length, reduceCtorEq, Option.toList, Option.getD, List.set, List.drop, List.take, Int.reduceToNat]
      refine ⟨hu, leM_tr (.inr hm1) hle, u', hu, ?_⟩
      simp only [baseT, if_neg h1, if_pos h2]
    · rintro r H' m' hm ⟨hle, rfl, u', hu, rfl⟩
      simp only [go_sem, ↓imp_tf, ↓imp_ft, ↓reduceIte, Nat.reduceBEq, Nat.reduceAdd, Nat.reduceMul, Nat.reduceSub, Nat.reduceEqDiff, Nat.reduceLT, Nat.reduceLeDiff, Option.map, Option.bind, List.map, List.length, reduceCtorEq, Option.toList, Option.getD, List.set, List.drop, List.take, Int.reduceToNat]
      refine ⟨hu, leM_tr (.inr hm1) hle, u', hu, ?_⟩
      simp only [baseT, if_neg h1, if_neg h2, if_pos h3]
    · rintro r H' m' hm ⟨hle, rfl, u', hu, rfl⟩
      simp only [go_sem, ↓imp_tf, ↓imp_ft, ↓reduceIte, Nat.reduceBEq, Nat.reduceAdd, Nat.reduceMul, Nat.reduceSub, Nat.reduceEqDiff, Nat.reduceLT, Nat.reduceLeDiff, Option.map, Option.bind, List.map, List.length, reduceCtorEq, Option.toList, Option.getD, List.set, List.drop, List.take, Int.reduceToNat]
      refine ⟨hu, hle, u', hu, ?_⟩
      simp only [baseT, if_neg h1, if_neg h2, if_neg h3]
theorem dimT_len (d : Int) : (dimT d).length = d.toNat * 2 := by simp [dimT, List.length_flatten, Nat.mul_comm]
set_option maxHeartbeats 4000000 in
set_option maxRecDepth 20000 in
theorem typ_spec (d b : Int) (nm : List UInt8) (m : Mem) (u : Nat) (acc : List Tk) (hd : d ≤ 1000) (hb : acc.length ≤ 900000000) : WrT 88 [.v (.agg ⟨[.int .i64 d, .int .u8 b, .string (bs nm)]⟩)] m u acc (typT d b nm) := by
  have hbase := base_spec d b nm m u acc (by omega)
  have hs := fun (k u : Nat) (hk : k ≤ d) (a : Option Addr) (c : Nat) (m' : Mem) (hr : Rds m' a 2 1 (strs [[91], [93]])) => signs_spec [[91], [93]] a 2 c m' u (acc ++ baseT b nm :: dimT k) hr (by
    simp only [room1, List.length_append, List.length_cons, dimT_len, List.length_map, List.length_nil]; omega)
  refine enter cfW puW Tryz.func88 rfl rfl (by kernel_rfl) rfl ?_ ?_
  · simp only [go_sem, ↓imp_tf, ↓imp_ft, ↓reduceIte, Nat.reduceBEq, Nat.reduceAdd, Nat.reduceMul, Nat.reduceSub, Nat.reduceEqDiff, Nat.reduceLT, Nat.reduceLeDiff, Option.map, Option.bind, List.map, List.length, reduceCtorEq, Option.toList, Option.getD, List.set, List.drop, List.take, Int.reduceToNat]
  · simp only [go_sem, ↓imp_tf, ↓imp_ft, ↓reduceIte, Nat.reduceBEq, Nat.reduceAdd, Nat.reduceMul, Nat.reduceSub, Nat.reduceEqDiff, Nat.reduceLT, Nat.reduceLeDiff, Option.map, Option.bind, List.map, List.length, reduceCtorEq, Option.toList, Option.getD, List.set, List.drop, List.take, Int.reduceToNat]
    refine ⟨by kernel_rfl, FnV_of ((FnH_den hbase (fun V => rfl)).mono ?_)⟩
    rintro r H' m' hm ⟨hle, rfl, u', hu, rfl⟩
    simp only [go_sem, ↓imp_tf, ↓imp_ft, ↓reduceIte, Nat.reduceBEq, Nat.reduceAdd, Nat.reduceMul, Nat.reduceSub, Nat.reduceEqDiff, Nat.reduceLT, Nat.reduceLeDiff, Option.map, Option.bind, List.map, List.length, reduceCtorEq, Option.toList, Option.getD, List.set, List.drop, List.take, Int.reduceToNat]
    refine ⟨hu, ?_⟩
    refine WP_loop puN (fun x : Nat × Nat × Mem => ⟨[⟨0, [], .box 0 0⟩, ⟨8, [], .v (.int .i64 d)⟩, ⟨9, [], .v (.int .i64 x.1)⟩], [], [⟨0, 64, [.vec 1 (u' + x.2.1)]⟩], [⟨1, u' + x.2.1, 79, 4, (acc ++ baseT b nm :: dimT x.1).length, tkCells (acc ++ baseT b nm :: dimT x.1)⟩], 5, x.2.2⟩)
      (fun x => leM m' x.2.2 ∧ (x.1 = 0 ∨ (x.1 : Int) ≤ d)) (fun x => d.toNat - x.1) (0, 0, m') (by kernel_rfl) (fun _ _ => Nat.le_refl _) (fun x hx => hx.1) (fun _ => ?_) ?_ ?_ ?_
    · simp only [go_sem, ↓imp_tf, ↓imp_ft, ↓reduceIte, Nat.reduceBEq, Nat.reduceAdd, Nat.reduceMul, Nat.reduceSub, Nat.reduceEqDiff, Nat.reduceLT, Nat.reduceLeDiff, Option.map, Option.bind, List.map, List.length, reduceCtorEq, Option.toList, Option.getD, List.set, List.drop, List.take, Int.reduceToNat]
    · simp only [go_sem, ↓imp_tf, ↓imp_ft, ↓reduceIte, Nat.reduceBEq, Nat.reduceAdd, Nat.reduceMul, Nat.reduceSub, Nat.reduceEqDiff, Nat.reduceLT, Nat.reduceLeDiff, Option.map, Option.bind, List.map, List.length, reduceCtorEq, Option.toList, Option.getD, List.set, List.drop, List.take, Int.reduceToNat]
      exact ⟨rfl, rfl, rfl, rfl, rfl⟩
    · exact ⟨.inl rfl, .inl rfl⟩
    · rintro ⟨k, v, mm⟩ ⟨h1, h2⟩
      simp only at h1 h2
      simp only [go_sem, ↓imp_tf, ↓imp_ft, ↓reduceIte, Nat.reduceBEq, Nat.reduceAdd, Nat.reduceMul, Nat.reduceSub, Nat.reduceEqDiff, Nat.reduceLT, Nat.reduceLeDiff, Option.map, Option.bind, List.map, List.length, reduceCtorEq, Option.toList, Option.getD, List.set, List.drop, List.take, Int.reduceToNat]
      refine ⟨fun hlt => ⟨by kernel_rfl, fun a c m1 hm1 hc hr => FnV_of ((hs k (u' + v) (by clear hs; omega) a c m1 hr).mono ?_)⟩, fun hge => ⟨leM_tr hle h1, u' + v, by clear hs; omega, ?_⟩⟩
      · rintro r H' m2 hm2 ⟨hle2, rfl, w, hw, rfl⟩
        clear hs
        simp only [go_sem, ↓imp_tf, ↓imp_ft, ↓reduceIte, Nat.reduceBEq, Nat.reduceAdd, Nat.reduceMul, Nat.reduceSub, Nat.reduceEqDiff, Nat.reduceLT, Nat.reduceLeDiff, Option.map, Option.bind, List.map, List.length, reduceCtorEq, Option.toList, Option.getD, List.set, List.drop, List.take, Int.reduceToNat]
        have e : acc ++ baseT b nm :: dimT (k : Int) ++ [sg [91], sg [93]] = acc ++ baseT b nm :: dimT ((k + 1 : Nat) : Int) := by
          simp only [dimT, Int.toNat_natCast, List.replicate_succ', List.flatten_append, List.flatten_cons, List.flatten_nil, List.append_nil, List.append_assoc, List.cons_append]
        refine ⟨hw, by unfold I64; omega, (k + 1, w - u', m2), ⟨by simp, by rw [show u' + (w - u') = w by omega], ⟨by simp only; omega, by rw [← e], by rw [← e]⟩, .inl rfl⟩, ⟨leM_tr h1 (leM_tr (.inr hm1) hle2), .inr (by simp only; omega)⟩, by simp only; omega⟩
      · clear hs
        have e : dimT (k : Int) = dimT d := by
          have : (k : Int).toNat = d.toNat := by omega
          simp only [dimT, this]
        rw [e]
        rfl
end Go.Proofs.YtalalcpefggniaaGreatDoor.E

/- ast, part G: the writer: lists, operands. -/
set_option linter.unusedSimpArgs false
set_option linter.unusedVariables false
namespace Go.Proofs.YtalalcpefggniaaGreatDoor.E
open Go

/-- Texts with commas between them. -/
def commaT : Bool → List (List Tk) → List Tk
  | _, [] => []
  | f, t :: r => (if f = true then t else sg [44] :: t) ++ commaT false r
def listT (l : List (List Tk)) : List Tk := sg [40] :: (commaT true l ++ [sg [41]])
theorem comma_take : ∀ {l : List (List Tk)} {f : Bool} {k : Nat} (h : k < l.length), commaT f (l.take (k + 1)) = commaT f (l.take k) ++ (if 0 < k ∨ f = false then sg [44] :: l[k] else l[k])
  | [], _, _, h => absurd h (Nat.not_lt_zero _)
  | t :: r, f, 0, _ => by cases f <;> simp [commaT]
  | t :: r, f, k + 1, h => by
    have := comma_take (l := r) (f := false) (k := k) (by simpa using h)
    simp only [List.take_succ_cons, commaT, this, List.append_assoc]
    simp
def isOp (k : Int) : Bool := decide (k = 15) || decide (k = 16) || decide (k = 17) || decide (k = 18)
def opdT (b : Bool) (t : List Tk) : List Tk := if b = true then listT [t] else t
def tAt (ts : List (Bool × List Tk)) (i : Nat) : List Tk := (ts.getD i (false, [])).2
def oAt (ts : List (Bool × List Tk)) (i : Nat) : List Tk := opdT (ts.getD i (false, [])).1 (ts.getD i (false, [])).2
def nodeT (k n : Int) (s c : List UInt8) (ty : Ty) (ts : List (Bool × List Tk)) : List Tk :=
  if k = 1 then [⟨3, [], n, 0⟩]
  else if k = 2 then [⟨4, [], n, 0⟩]
  else if k = 3 then [⟨5, s, 0, 0⟩]
  else if k = 4 then [kw [110, 117, 108, 108]]
  else if k = 5 then [kw [116, 104, 105, 115]]
  else if k = 6 then [nm1 s]
  else if k = 7 then oAt ts 0 ++ [sg [46]] ++ [nm1 s]
  else if k = 8 then [nm1 c] ++ [sg [46]] ++ [nm1 s]
  else if k = 9 then oAt ts 0 ++ [sg [91]] ++ tAt ts 1 ++ [sg [93]]
  else if k = 10 then oAt ts 0 ++ [sg [46]] ++ [nm1 s] ++ listT ((ts.drop 1).map (·.2))
  else if k = 11 then [nm1 c] ++ [sg [46]] ++ [nm1 s] ++ listT (ts.map (·.2))
  else if k = 12 then [kw [115, 117, 112, 101, 114]] ++ [sg [46]] ++ [nm1 s] ++ listT (ts.map (·.2))
  else if k = 13 then [kw [110, 101, 119]] ++ [nm1 c] ++ listT (ts.map (·.2))
  else if k = 14 then [kw [110, 101, 119]] ++ typT ty.dim ty.base ty.name ++ [sg [91]] ++ tAt ts 0 ++ [sg [93]]
  else if k = 15 then [sg s] ++ oAt ts 0
  else if k = 16 then oAt ts 0 ++ [sg s] ++ oAt ts 1
  else if k = 17 then oAt ts 0 ++ [kw [97, 115]] ++ typT ty.dim ty.base ty.name
  else if k = 18 then oAt ts 0 ++ [kw [105, 115]] ++ typT ty.dim ty.base ty.name
  else if k = 19 then [kw [108, 101, 110]] ++ listT [tAt ts 0]
  else if k = 20 then [kw intS] ++ listT [tAt ts 0]
  else if k = 21 then [kw longS] ++ listT [tAt ts 0]
  else []
def Ex.k : Ex → Int | .mk k _ _ _ _ _ => k
mutual
/-- The tokens of an expression. -/
def exprT : Ex → List Tk
  | .mk k n s c ty args => nodeT k n s c ty (exprTs args)
def exprTs : List Ex → List (Bool × List Tk)
  | [] => []
  | e :: r => (isOp e.k, exprT e) :: exprTs r
end
theorem exprTs_map : ∀ (l : List Ex), exprTs l = l.map fun e => (isOp e.k, exprT e)
  | [] => rfl
  | e :: r => by simp only [exprTs, exprTs_map r, List.map_cons]
abbrev cap : Nat := 800000000
/-- An expression's text is written. -/
def ExpW (e : Ex) (m : Mem) : Prop := ∀ (cs : List Value) (m' : Mem) (u : Nat) (acc : List Tk), leM m m' → exRep m' e cs → acc.length + (exprT e).length ≤ cap → WrT 41 [.v (.agg ⟨cs⟩)] m' u acc (exprT e)
theorem ExpW.up {e : Ex} {m m' : Mem} (h : ExpW e m) (hm : leM m m') : ExpW e m' := fun cs m2 u acc hle => h cs m2 u acc (leM_tr hm hle)
theorem sign1 (s : List UInt8) (a : Option Addr) (c : Nat) (m : Mem) (u : Nat) (acc : List Tk) (hr : Rds m a 1 1 (strs [s])) (hb : acc.length + 1 ≤ 1000000000) : WrT 87 [.v (.slice a 1 c)] m u acc [sg s] := signs_spec [s] a 1 c m u acc hr hb
theorem word1 (s : List UInt8) (a : Option Addr) (c : Nat) (m : Mem) (u : Nat) (acc : List Tk) (hr : Rds m a 1 1 (strs [s])) (hb : acc.length + 1 ≤ 1000000000) : WrT 84 [.v (.slice a 1 c)] m u acc [kw s] := words_spec [s] a 1 c m u acc hr hb
theorem comma_len : ∀ (l : List (List Tk)) (f : Bool) (k : Nat), (commaT f (l.take k)).length ≤ (commaT f l).length
  | [], _, _ => by simp
  | t :: r, f, 0 => by simp [commaT]
  | t :: r, f, k + 1 => by
    have := comma_len r false k
    simp only [List.take_succ_cons, commaT, List.length_append]
    omega
set_option maxHeartbeats 4000000 in
set_option maxRecDepth 20000 in
theorem list_spec (l : List Ex) (a : Option Addr) (n c : Nat) (xs : List Value) (m : Mem) (u : Nat) (acc : List Tk) (hl : l.length = n) (hn : n ≤ big) (hr : Rds m a n 8 xs) (hes : exsRep m l xs) (hE : ∀ e ∈ l, ExpW e m) (hb : acc.length + (listT (l.map exprT)).length ≤ cap) :
    WrT 104 [.v (.slice a n c)] m u acc (listT (l.map exprT)) := by
  have hb0 : acc.length + (commaT true (l.map exprT)).length + 2 ≤ cap := by
    simp only [listT, List.length_cons, List.length_append, List.length_nil] at hb; omega
  clear hb
  have hs0 := fun (a : Option Addr) (c : Nat) (m' : Mem) (hr : Rds m' a 1 1 (strs [[40]])) => sign1 [40] a c m' u acc hr (by simp only [cap] at hb0; omega)
  refine enter cfW puW Tryz.func104 rfl rfl (by kernel_rfl) rfl ?_ ?_
  · simp only [go_sem, ↓imp_tf, ↓imp_ft, ↓reduceIte, Nat.reduceBEq, Nat.reduceAdd, Nat.reduceMul, Nat.reduceSub, Nat.reduceEqDiff, Nat.reduceLT, Nat.reduceLeDiff, Option.map, Option.bind, List.map, List.length, reduceCtorEq, Option.toList, Option.getD, List.set, List.drop, List.take, Int.reduceToNat]
  · simp only [go_sem, ↓imp_tf, ↓imp_ft, ↓reduceIte, Nat.reduceBEq, Nat.reduceAdd, Nat.reduceMul, Nat.reduceSub, Nat.reduceEqDiff, Nat.reduceLT, Nat.reduceLeDiff, Option.map, Option.bind, List.map, List.length, reduceCtorEq, Option.toList, Option.getD, List.set, List.drop, List.take, Int.reduceToNat]
    refine ⟨by kernel_rfl, fun a0 c0 m1 hm1 hc hr1 => FnV_of ((hs0 a0 c0 m1 hr1).mono ?_)⟩
    clear hs0
    rintro r H' m2 hm2 ⟨hle2, rfl, u', hu, rfl⟩
    simp only [go_sem, ↓imp_tf, ↓imp_ft, ↓reduceIte, Nat.reduceBEq, Nat.reduceAdd, Nat.reduceMul, Nat.reduceSub, Nat.reduceEqDiff, Nat.reduceLT, Nat.reduceLeDiff, Option.map, Option.bind, List.map, List.length, reduceCtorEq, Option.toList, Option.getD, List.set, List.drop, List.take, Int.reduceToNat]
    refine ⟨hu, ?_⟩
    have hle0 : leM m m2 := leM_tr (.inr hm1) hle2
    refine WP_loop puW (fun x : Nat × Nat × List Tk × Mem => ⟨[⟨0, [], .box 0 0⟩, ⟨9, [], .v (.slice a n c)⟩, ⟨10, [], .v (.int .i64 n)⟩, ⟨11, [], .v (.int .i64 x.1)⟩], [], [⟨0, 64, [.vec 1 (u' + x.2.1)]⟩], [⟨1, u' + x.2.1, 79, 4, x.2.2.1.length, tkCells x.2.2.1⟩], 5, x.2.2.2⟩)
      (fun x => leM m2 x.2.2.2 ∧ x.1 ≤ n ∧ x.2.2.1 = acc ++ [sg [40]] ++ commaT true ((l.map exprT).take x.1)) (fun x => n - x.1) (0, 0, acc ++ [sg [40]], m2) (by kernel_rfl) (fun _ _ => Nat.le_refl _) (fun x hx => hx.1) (fun _ => ?_) ?_ ?_ ?_
    · simp only [go_sem, ↓imp_tf, ↓imp_ft, ↓reduceIte, Nat.reduceBEq, Nat.reduceAdd, Nat.reduceMul, Nat.reduceSub, Nat.reduceEqDiff, Nat.reduceLT, Nat.reduceLeDiff, Option.map, Option.bind, List.map, List.length, reduceCtorEq, Option.toList, Option.getD, List.set, List.drop, List.take, Int.reduceToNat]
    · simp only [go_sem, ↓imp_tf, ↓imp_ft, ↓reduceIte, Nat.reduceBEq, Nat.reduceAdd, Nat.reduceMul, Nat.reduceSub, Nat.reduceEqDiff, Nat.reduceLT, Nat.reduceLeDiff, Option.map, Option.bind, List.map, List.length, reduceCtorEq, Option.toList, Option.getD, List.set, List.drop, List.take, Int.reduceToNat]
      exact ⟨rfl, rfl, rfl⟩
    · exact ⟨.inl rfl, Nat.zero_le _, by simp [commaT]⟩
    · rintro ⟨k, v, acc', mm⟩ ⟨h1, h2, h3⟩
      simp only at h1 h2 h3
      have hcl := comma_len (l.map exprT) true k
      have hal : acc'.length = acc.length + 1 + (commaT true ((l.map exprT).take k)).length := by rw [h3]; simp only [List.length_append, List.length_singleton]
      have hs1 := fun (a : Option Addr) (c : Nat) (m' : Mem) (hr : Rds m' a 1 1 (strs [[44]])) => sign1 [44] a c m' (u' + v) acc' hr (by simp only [cap] at hb0; omega)
      have hs2 := fun (hk : n ≤ k) (a : Option Addr) (c : Nat) (m' : Mem) (hr : Rds m' a 1 1 (strs [[41]])) => sign1 [41] a c m' (u' + v) acc' hr (by simp only [cap] at hb0; omega)
      have hx : ∀ (hk : k < l.length), ∃ x : Nd, Rd mm (ptrAt a (k * 8)) x.cs ∧ a ≠ none ∧ ∀ (m' : Mem) (u : Nat) (acc' : List Tk), leM mm m' → acc'.length + (exprT l[k]).length ≤ cap → WrT 41 [.v (.agg ⟨x.cs⟩)] m' u acc' (exprT l[k]) := fun hk => by
        have hrep := exRep_upM (leM_tr hle0 h1) (exs_at hes hk)
        obtain ⟨x, hx⟩ := exRep_nd hrep
        have hrd := Rds_cells (Rds_upM (leM_tr hle0 h1) hr) (by omega : k < n)
        rw [hx] at hrep hrd
        exact ⟨x, hrd.1, hrd.2, fun m' u acc' hm' hb => hE _ (List.getElem_mem hk) x.cs m' u acc' (leM_tr hle0 (leM_tr h1 hm')) (exRep_upM hm' hrep) hb⟩
      have hct : ∀ (hk : k < l.length), acc ++ [sg [40]] ++ commaT true ((l.map exprT).take (k + 1)) = acc' ++ (if 0 < k then [sg [44]] else []) ++ exprT l[k] := fun hk => by
        rw [comma_take (by simpa using hk), h3]
        by_cases h0 : 0 < k <;> simp [h0]
      have hlen : ∀ (hk : k < l.length), (acc' ++ (if 0 < k then [sg [44]] else []) ++ exprT l[k]).length ≤ cap := fun hk => by
        rw [← hct hk]
        have := comma_len (l.map exprT) true (k + 1)
        simp only [List.length_append, List.length_singleton]
        omega
      clear hE
      simp only [go_sem, ↓imp_tf, ↓imp_ft, ↓reduceIte, Nat.reduceBEq, Nat.reduceAdd, Nat.reduceMul, Nat.reduceSub, Nat.reduceEqDiff, Nat.reduceLT, Nat.reduceLeDiff, Option.map, Option.bind, List.map, List.length, reduceCtorEq, Option.toList, Option.getD, List.set, List.drop, List.take, Int.reduceToNat]
      refine ⟨fun hlt => ?_, fun hge => ?_⟩
      · have hk : k < l.length := by clear hx hs1 hs2; omega
        refine Exists.elim (hx hk) fun x hx' => ⟨⟨by clear hx hx' hs1 hs2; omega, hlt, hx'.2.1⟩, x.cs, ⟨hx'.1, rfl⟩, ?_⟩
        clear hx
        have ha := hx'.2.2
        simp only [go_sem, ↓imp_tf, ↓imp_ft, ↓reduceIte, Nat.reduceBEq, Nat.reduceAdd, Nat.reduceMul, Nat.reduceSub, Nat.reduceEqDiff, Nat.reduceLT, Nat.reduceLeDiff, Option.map, Option.bind, List.map, List.length, reduceCtorEq, Option.toList, Option.getD, List.set, List.drop, List.take, Int.reduceToNat, Nd.cs]
        have hct' := hct hk
        have hlen' := hlen hk
        refine ⟨fun h0 => ⟨by kernel_rfl, fun a1 c1 m3 hm3 hc3 hr3 => FnV_of ((hs1 a1 c1 m3 hr3).mono ?_)⟩, fun h0 => ⟨by kernel_rfl, FnV_of ((FnH_den (ha mm (u' + v) acc' (.inl rfl) (by clear hx' ha hs1 hs2; simp only [List.length_append] at hlen'; omega)) (fun V => rfl)).mono ?_)⟩⟩
        · clear hs1 hs2 hx'
          have h0' : 0 < k := by clear ha; omega
          rw [if_pos h0'] at hct' hlen'
          rintro r H' m4 hm4 ⟨hle4, rfl, w, hw, rfl⟩
          have ha2 := ha m4 w (acc' ++ [sg [44]]) (leM_tr (.inr hm3) hle4) (by clear ha; simp only [List.length_append] at hlen' ⊢; omega)
          clear ha
          simp only [go_sem, ↓imp_tf, ↓imp_ft, ↓reduceIte, Nat.reduceBEq, Nat.reduceAdd, Nat.reduceMul, Nat.reduceSub, Nat.reduceEqDiff, Nat.reduceLT, Nat.reduceLeDiff, Option.map, Option.bind, List.map, List.length, reduceCtorEq, Option.toList, Option.getD, List.set, List.drop, List.take, Int.reduceToNat, Nd.cs]
          refine ⟨hw, by kernel_rfl, FnV_of ((FnH_den ha2 (fun V => rfl)).mono ?_)⟩
          clear ha2
          rintro r H' m5 hm5 ⟨hle5, rfl, w2, hw2, rfl⟩
          simp only [go_sem, ↓imp_tf, ↓imp_ft, ↓reduceIte, Nat.reduceBEq, Nat.reduceAdd, Nat.reduceMul, Nat.reduceSub, Nat.reduceEqDiff, Nat.reduceLT, Nat.reduceLeDiff, Option.map, Option.bind, List.map, List.length, reduceCtorEq, Option.toList, Option.getD, List.set, List.drop, List.take, Int.reduceToNat]
          refine ⟨hw2, by unfold I64; simp only [big] at hn; omega, (k + 1, w2 - u', acc' ++ [sg [44]] ++ exprT l[k], m5), ⟨by simp, by rw [show u' + (w2 - u') = w2 by omega], ⟨by simp only; omega, rfl, rfl⟩, .inl rfl⟩, ⟨leM_tr h1 (leM_tr (.inr hm3) (leM_tr hle4 hle5)), by simp only; omega, by simp only; rw [hct']⟩, by simp only; omega⟩
        · clear hs1 hs2 hx' ha
          have h0' : ¬ 0 < k := by omega
          rw [if_neg h0', List.append_nil] at hct' hlen'
          rintro r H' m4 hm4 ⟨hle4, rfl, w, hw, rfl⟩
          simp only [go_sem, ↓imp_tf, ↓imp_ft, ↓reduceIte, Nat.reduceBEq, Nat.reduceAdd, Nat.reduceMul, Nat.reduceSub, Nat.reduceEqDiff, Nat.reduceLT, Nat.reduceLeDiff, Option.map, Option.bind, List.map, List.length, reduceCtorEq, Option.toList, Option.getD, List.set, List.drop, List.take, Int.reduceToNat]
          refine ⟨hw, by unfold I64; simp only [big] at hn; omega, (k + 1, w - u', acc' ++ exprT l[k], m4), ⟨by simp, by rw [show u' + (w - u') = w by omega], ⟨by simp only; omega, rfl, rfl⟩, .inl rfl⟩, ⟨leM_tr h1 hle4, by simp only; omega, by simp only; rw [hct']⟩, by simp only; omega⟩
      · clear hx hs1
        refine ⟨by kernel_rfl, fun a1 c1 m3 hm3 hc3 hr3 => FnV_of ((hs2 (by clear hs2; omega) a1 c1 m3 hr3).mono ?_)⟩
        clear hs2
        rintro r H' m4 hm4 ⟨hle4, rfl, w, hw, rfl⟩
        simp only [go_sem, ↓imp_tf, ↓imp_ft, ↓reduceIte, Nat.reduceBEq, Nat.reduceAdd, Nat.reduceMul, Nat.reduceSub, Nat.reduceEqDiff, Nat.reduceLT, Nat.reduceLeDiff, Option.map, Option.bind, List.map, List.length, reduceCtorEq, Option.toList, Option.getD, List.set, List.drop, List.take, Int.reduceToNat]
        refine ⟨hw, leM_tr hle0 (leM_tr h1 (leM_tr (.inr hm3) hle4)), w, by omega, ?_⟩
        have e : acc' ++ [sg [41]] = acc ++ listT (l.map exprT) := by
          rw [h3, List.take_of_length_le (by simp; omega)]
          simp [listT]
        rw [e]
theorem exs_one {m : Mem} {e : Ex} {cs : List Value} (h : exRep m e cs) (hc : cs.length = 8) : exsRep m [e] cs := by
  simp only [exsRep]
  rw [List.take_of_length_le (by omega)]
  exact ⟨h, trivial⟩
set_option maxHeartbeats 4000000 in
set_option maxRecDepth 20000 in
theorem round_spec (e : Ex) (cs : List Value) (m : Mem) (u : Nat) (acc : List Tk) (hrep : exRep m e cs) (hE : ExpW e m) (hb : acc.length + (listT [exprT e]).length ≤ cap) :
    WrT 168 [.v (.agg ⟨cs⟩)] m u acc (listT [exprT e]) := by
  obtain ⟨x, rfl⟩ := exRep_nd hrep
  have hl := fun (a : Option Addr) (c : Nat) (m' : Mem) (hm : m.le m') (hr : Rds m' a 1 8 x.cs) => list_spec [e] a 1 c x.cs m' u acc rfl (by decide) hr (exs_one (exRep_upM (.inr hm) hrep) rfl) (fun y hy => by rw [List.mem_singleton.1 hy]; exact hE.up (.inr hm)) hb
  clear hE
  refine enter cfW puW Tryz.func168 rfl rfl (by kernel_rfl) rfl ?_ ?_
  · simp only [go_sem, ↓imp_tf, ↓imp_ft, ↓reduceIte, Nat.reduceBEq, Nat.reduceAdd, Nat.reduceMul, Nat.reduceSub, Nat.reduceEqDiff, Nat.reduceLT, Nat.reduceLeDiff, Option.map, Option.bind, List.map, List.length, reduceCtorEq, Option.toList, Option.getD, List.set, List.drop, List.take, Int.reduceToNat, Nd.cs]
  · simp only [go_sem, ↓imp_tf, ↓imp_ft, ↓reduceIte, Nat.reduceBEq, Nat.reduceAdd, Nat.reduceMul, Nat.reduceSub, Nat.reduceEqDiff, Nat.reduceLT, Nat.reduceLeDiff, Option.map, Option.bind, List.map, List.length, reduceCtorEq, Option.toList, Option.getD, List.set, List.drop, List.take, Int.reduceToNat, Nd.cs]
    refine ⟨by kernel_rfl, fun a1 c1 m3 hm3 hc3 hr3 => FnV_of ((hl a1 c1 m3 hm3 hr3).mono ?_)⟩
    clear hl
    rintro r H' m4 hm4 ⟨hle4, rfl, w, hw, rfl⟩
    simp only [go_sem, ↓imp_tf, ↓imp_ft, ↓reduceIte, Nat.reduceBEq, Nat.reduceAdd, Nat.reduceMul, Nat.reduceSub, Nat.reduceEqDiff, Nat.reduceLT, Nat.reduceLeDiff, Option.map, Option.bind, List.map, List.length, reduceCtorEq, Option.toList, Option.getD, List.set, List.drop, List.take, Int.reduceToNat]
    exact ⟨hw, leM_tr (.inr hm3) hle4, w, hw, rfl⟩
set_option maxHeartbeats 4000000 in
set_option maxRecDepth 20000 in
theorem operand_spec (e : Ex) (cs : List Value) (m : Mem) (u : Nat) (acc : List Tk) (hrep : exRep m e cs) (hE : ExpW e m) (hb : acc.length + (opdT (isOp e.k) (exprT e)).length ≤ cap) :
    WrT 103 [.v (.agg ⟨cs⟩)] m u acc (opdT (isOp e.k) (exprT e)) := by
  have hk : ∃ x : Nd, cs = x.cs ∧ x.k = e.k := by
    cases e with
    | mk k n s c ty args =>
      simp only [exRep] at hrep
      obtain ⟨a, cp, xs, rfl, _⟩ := hrep
      exact ⟨⟨k, n, s, c, ty, a, args.length, cp⟩, rfl, rfl⟩
  obtain ⟨x, rfl, hxk⟩ := hk
  have h1 := fun (hop : isOp e.k = true) => round_spec e x.cs m u acc hrep hE (by rw [opdT, if_pos hop] at hb; exact hb)
  have h2 := fun (hop : isOp e.k = false) => hE x.cs m u acc (.inl rfl) hrep (by rw [opdT, if_neg (by rw [hop]; decide)] at hb; exact hb)
  clear hE
  refine enter cfW puW Tryz.func103 rfl rfl (by kernel_rfl) rfl ?_ ?_
  · simp only [go_sem, ↓imp_tf, ↓imp_ft, ↓reduceIte, Nat.reduceBEq, Nat.reduceAdd, Nat.reduceMul, Nat.reduceSub, Nat.reduceEqDiff, Nat.reduceLT, Nat.reduceLeDiff, Option.map, Option.bind, List.map, List.length, reduceCtorEq, Option.toList, Option.getD, List.set, List.drop, List.take, Int.reduceToNat, Nd.cs]
  · simp only [go_sem, ↓imp_tf, ↓imp_ft, ↓reduceIte, Nat.reduceBEq, Nat.reduceAdd, Nat.reduceMul, Nat.reduceSub, Nat.reduceEqDiff, Nat.reduceLT, Nat.reduceLeDiff, Option.map, Option.bind, List.map, List.length, reduceCtorEq, Option.toList, Option.getD, List.set, List.drop, List.take, Int.reduceToNat, Nd.cs]
    have op := fun (h : x.k = 15 ∨ x.k = 16 ∨ x.k = 17 ∨ x.k = 18) => show isOp e.k = true by
      clear h1 h2
      rw [← hxk]
      rcases h with h | h | h | h <;> rw [h] <;> rfl
    refine ⟨fun e1 => ⟨fun _ => ⟨by kernel_rfl, FnV_of ((FnH_den (h1 (op (.inl e1))) (fun V => rfl)).mono ?_)⟩, fun n => absurd e1 n⟩, fun n1 => ⟨fun e2 => ⟨fun _ => ⟨by kernel_rfl, FnV_of ((FnH_den (h1 (op (.inr (.inl e2)))) (fun V => rfl)).mono ?_)⟩, fun n => absurd e2 n⟩, fun n2 => ⟨fun e3 => ⟨fun _ => ⟨by kernel_rfl, FnV_of ((FnH_den (h1 (op (.inr (.inr (.inl e3))))) (fun V => rfl)).mono ?_)⟩, fun n => absurd e3 n⟩, fun n3 => ⟨fun e4 => ⟨by kernel_rfl, FnV_of ((FnH_den (h1 (op (.inr (.inr (.inr e4))))) (fun V => rfl)).mono ?_)⟩, fun n4 => ⟨by kernel_rfl, FnV_of ((FnH_den (h2 ?_) (fun V => rfl)).mono ?_)⟩⟩⟩⟩⟩
    · clear h1 h2
      rintro r H' m4 hm4 ⟨hle4, rfl, w, hw, rfl⟩
      simp only [go_sem, ↓imp_tf, ↓imp_ft, ↓reduceIte, Nat.reduceBEq, Nat.reduceAdd, Nat.reduceMul, Nat.reduceSub, Nat.reduceEqDiff, Nat.reduceLT, Nat.reduceLeDiff, Option.map, Option.bind, List.map, List.length, reduceCtorEq, Option.toList, Option.getD, List.set, List.drop, List.take, Int.reduceToNat]
      refine ⟨hw, hle4, w, hw, ?_⟩
      rw [opdT, if_pos (op (.inl e1))]
    · clear h1 h2
      rintro r H' m4 hm4 ⟨hle4, rfl, w, hw, rfl⟩
      simp only [go_sem, ↓imp_tf, ↓imp_ft, ↓reduceIte, Nat.reduceBEq, Nat.reduceAdd, Nat.reduceMul, Nat.reduceSub, Nat.reduceEqDiff, Nat.reduceLT, Nat.reduceLeDiff, Option.map, Option.bind, List.map, List.length, reduceCtorEq, Option.toList, Option.getD, List.set, List.drop, List.take, Int.reduceToNat]
      refine ⟨hw, hle4, w, hw, ?_⟩
      rw [opdT, if_pos (op (.inr (.inl e2)))]
    · clear h1 h2
      rintro r H' m4 hm4 ⟨hle4, rfl, w, hw, rfl⟩
      simp only [go_sem, ↓imp_tf, ↓imp_ft, ↓reduceIte, Nat.reduceBEq, Nat.reduceAdd, Nat.reduceMul, Nat.reduceSub, Nat.reduceEqDiff, Nat.reduceLT, Nat.reduceLeDiff, Option.map, Option.bind, List.map, List.length, reduceCtorEq, Option.toList, Option.getD, List.set, List.drop, List.take, Int.reduceToNat]
      refine ⟨hw, hle4, w, hw, ?_⟩
      rw [opdT, if_pos (op (.inr (.inr (.inl e3))))]
    · clear h1 h2
      rintro r H' m4 hm4 ⟨hle4, rfl, w, hw, rfl⟩
      simp only [go_sem, ↓imp_tf, ↓imp_ft, ↓reduceIte, Nat.reduceBEq, Nat.reduceAdd, Nat.reduceMul, Nat.reduceSub, Nat.reduceEqDiff, Nat.reduceLT, Nat.reduceLeDiff, Option.map, Option.bind, List.map, List.length, reduceCtorEq, Option.toList, Option.getD, List.set, List.drop, List.take, Int.reduceToNat]
      refine ⟨hw, hle4, w, hw, ?_⟩
      rw [opdT, if_pos (op (.inr (.inr (.inr e4))))]
    · clear h1 h2
      rw [← hxk]
      simp only [isOp, decide_eq_false n1, decide_eq_false n2, decide_eq_false n3, decide_eq_false n4]
      rfl
    · clear h1 h2
      rintro r H' m4 hm4 ⟨hle4, rfl, w, hw, rfl⟩
      simp only [go_sem, ↓imp_tf, ↓imp_ft, ↓reduceIte, Nat.reduceBEq, Nat.reduceAdd, Nat.reduceMul, Nat.reduceSub, Nat.reduceEqDiff, Nat.reduceLT, Nat.reduceLeDiff, Option.map, Option.bind, List.map, List.length, reduceCtorEq, Option.toList, Option.getD, List.set, List.drop, List.take, Int.reduceToNat]
      refine ⟨hw, hle4, w, hw, ?_⟩
      have : isOp e.k = false := by
        rw [← hxk]
        simp only [isOp, decide_eq_false n1, decide_eq_false n2, decide_eq_false n3, decide_eq_false n4]
        rfl
      rw [opdT, if_neg (by rw [this]; decide)]
end Go.Proofs.YtalalcpefggniaaGreatDoor.E

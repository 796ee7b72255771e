/- lex, part V: equal tokens. -/
import Derived.Test.YtmkifodpkcmgoaaDoorLexU
import Derived.Laws.StructEq
namespace Go.Proofs.YtmkifodpkcmgoaaDoor.E
open Go

theorem fit_int {k : IntKind} {n : Int} {x : Value} (h : fitC (.v (.int k n)) (.v x) = true) : ∃ a, x = .int k a := by
  cases x <;> simp only [fitC] at h
  case int k' a => exact ⟨a, by have := of_decide_eq_true h; subst this; rfl⟩
  all_goals cases h
theorem fit_str {s : ByteArray} {x : Value} (h : fitC (.v (.string s)) (.v x) = true) : ∃ a, x = .string a := by
  cases x <;> simp only [fitC] at h
  case string a => exact ⟨a, rfl⟩
  all_goals cases h
theorem eq_int {k : IntKind} {a : Int} {y : Value} {e : Bool} (h : cellEq (.v (.int k a)) (.v y) = some e) : ∃ b, y = .int k b ∧ e = decide (a = b) := by
  cases y <;> simp only [cellEq] at h
  case int k' b =>
    split at h
    · rename_i hk; subst hk; exact ⟨b, rfl, (Option.some.inj h).symm⟩
    · cases h
  all_goals cases h
theorem eq_str {a : ByteArray} {y : Value} {e : Bool} (h : cellEq (.v (.string a)) (.v y) = some e) : ∃ b, y = .string b ∧ e = decide (tl a = tl b) := by
  cases y <;> simp only [cellEq] at h
  case string b => exact ⟨b, rfl, (Option.some.inj h).symm⟩
  all_goals cases h
theorem fitL_cons {z : SV} {zs : List SV} {xs : List Value} (h : fitL (z :: zs) (xs.map .v) = true) : ∃ x r, xs = x :: r ∧ fitC z (.v x) = true ∧ fitL zs (r.map .v) = true := by
  cases xs with
  | nil => simp [fitL] at h
  | cons x r => simp only [List.map_cons, fitL, Bool.and_eq_true] at h; exact ⟨x, r, rfl, h.1, h.2⟩
theorem fitL_nil {xs : List Value} (h : fitL [] (xs.map .v) = true) : xs = [] := by
  cases xs with
  | nil => rfl
  | cons x r => simp [fitL] at h
theorem cells_cons {x : Value} {xs ys : List Value} {b : Bool} (h : cellsEq ((x :: xs).map .v) (ys.map .v) = some b) : ∃ y r e e', ys = y :: r ∧ cellEq (.v x) (.v y) = some e ∧ cellsEq (xs.map .v) (r.map .v) = some e' ∧ b = (e && e') := by
  cases ys with
  | nil => simp [cellsEq] at h
  | cons y r =>
    simp only [List.map_cons, cellsEq, Option.bind_eq_some_iff, Option.map_eq_some_iff] at h
    obtain ⟨e, he, e', he', rfl⟩ := h
    exact ⟨y, r, e, e', rfl, he, he', rfl⟩
theorem cells_nil {ys : List Value} {b : Bool} (h : cellsEq [] (ys.map .v) = some b) : ys = [] ∧ b = true := by
  cases ys with
  | nil => simp only [List.map_nil, cellsEq, Option.some.injEq] at h; exact ⟨rfl, h.symm⟩
  | cons y r => simp [cellsEq] at h
/-- The fields are plain cells, one behind the other. -/
def kindOk (P : Program) (t : TypeId) : SV → Bool
  | .v (.int _ _) => match P.underlying t with | some (.int _) => true | _ => false
  | .v (.string _) => match P.underlying t with | some .string => true | _ => false
  | .v (.bool _) => match P.underlying t with | some .bool => true | _ => false
  | _ => false
def eqFs (P : Program) : Nat → List SV → List Field → Bool
  | _, [], [] => true
  | off, z :: zs, f :: fs => f.name != "_" && decide (f.offset = off) && decide (aggN P f.type = some none) && kindOk P f.type z && eqFs P (off + 1) zs fs
  | _, _, _ => false
theorem run_eqCell {P : Program} {t : TypeId} {z : SV} {x y : Value} {e : Bool} {w : World} (d : Nat) (hk : kindOk P t z = true) (hf : fitC z (.v x) = true) (he : cellEq (.v x) (.v y) = some e) :
    (Op.equalIn (d + 1) t x y).run P w = .ok e w := by
  cases z with
  | v z =>
    cases z with
    | int k n =>
      obtain ⟨a, rfl⟩ := fit_int hf
      obtain ⟨b, rfl, rfl⟩ := eq_int he
      simp only [kindOk] at hk
      split at hk
      · rename_i k' hu
        rw [run_equalIn_int w d t k k' a b hu, Bool.beq_eq_decide_eq]
      · cases hk
    | string n =>
      obtain ⟨a, rfl⟩ := fit_str hf
      obtain ⟨b, rfl, rfl⟩ := eq_str he
      simp only [kindOk] at hk
      split at hk
      · rename_i hu
        rw [run_equalIn_string w d t a b hu, toList_tl, toList_tl, Bool.beq_eq_decide_eq]
      · cases hk
    | bool n =>
      cases x <;> simp only [fitC] at hf
      case bool a =>
        cases y <;> simp only [cellEq] at he
        case bool b =>
          cases he
          simp only [kindOk] at hk
          split at hk
          · rename_i hu
            rw [run_equalIn_bool' w d t a b hu]
          · cases hk
        all_goals cases he
      all_goals cases hf
    | _ => cases hk
  | _ => cases hk
theorem run_eqFs {P : Program} {d : Nat} {w : World} {cs ds : List Value} : ∀ {fs : List Field} {zs : List SV} {off : Nat} {us vs : List Value} {b : Bool},
    eqFs P off zs fs = true → fitL zs (us.map .v) = true → cellsEq (us.map .v) (vs.map .v) = some b → cs.drop off = us → ds.drop off = vs → (Op.eqFields (d + 1) ⟨cs⟩ ⟨ds⟩ fs).run P w = .ok b w
  | [], zs, off, us, vs, b, h, hf, he, hu, hv => by
    cases zs with
    | nil =>
      cases fitL_nil hf
      rw [List.map_nil] at he
      obtain ⟨_, rfl⟩ := cells_nil he
      rfl
    | cons z zs => cases h
  | f :: fs, zs, off, us, vs, b, h, hf, he, hu, hv => by
    cases zs with
    | nil => cases h
    | cons z zs =>
      simp only [eqFs, Bool.and_eq_true, decide_eq_true_eq, bne_iff_ne] at h
      obtain ⟨⟨⟨⟨h1, h2⟩, h3⟩, h4⟩, h5⟩ := h
      obtain ⟨x, us', rfl, g1, g2⟩ := fitL_cons hf
      obtain ⟨y, vs', e, e', rfl, g3, g4, rfl⟩ := cells_cons he
      have hx : cs[off]? = some x := by
        have := congrArg (fun l : List Value => l[0]?) hu
        simpa using this
      have hy : ds[off]? = some y := by
        have := congrArg (fun l : List Value => l[0]?) hv
        simpa using this
      have hu' : cs.drop (off + 1) = us' := by
        have := congrArg (List.drop 1) hu
        rw [List.drop_drop] at this
        simpa [Nat.add_comm] using this
      have hv' : ds.drop (off + 1) = vs' := by
        have := congrArg (List.drop 1) hv
        rw [List.drop_drop] at this
        simpa [Nat.add_comm] using this
      subst h2
      simp only [Op.eqFields, if_pos h1, Sem.run_bind, run_part h3 (show _ from hx), run_part h3 (show _ from hy), Result.andThen_ok, run_eqCell d h4 g1 g3]
      cases e with
      | false => simp
      | true =>
        simp only [Bool.not_true, Bool.false_eq_true, if_false, Bool.true_and]
        exact run_eqFs h5 g2 g4 hu' hv'
theorem eqOk_of {P : Program} {t : TypeId} {zs : List SV} {fs : List Field} (hz : zeroO P t = some zs) (hg : P.eqGuardType P.depth t = false) (hu : P.underlying t = some (.struct (P.fieldsOf t))) (hp : P.stoodInHeld t = false)
    (hfs : (P.fieldsOf t).toList = fs) (h : eqFs P 0 zs fs = true) : EqOk P t := by
  intro xs ys b w o o' op he hf
  rw [hz] at hf
  refine ⟨run_eqGuard_agg w op t o o' _ _ hg, ?_⟩
  show (Op.equalIn (9999 + 1) t _ _).run _ w = _
  rw [run_equalIn_struct w 9999 t _ _ hu hp, hfs]
  exact run_eqFs (d := 9998) h hf he rfl rfl
theorem eqOk27 : EqOk Tryd.prog 27 := eqOk_of zero27 (by kernel_rfl) (by kernel_rfl) (by kernel_rfl) rfl (by kernel_rfl)
end Go.Proofs.YtmkifodpkcmgoaaDoor.E

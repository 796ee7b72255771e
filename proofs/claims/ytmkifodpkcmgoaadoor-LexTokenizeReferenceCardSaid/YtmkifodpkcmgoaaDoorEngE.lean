/- The engine, part E: quiet operations, one by one. -/
import Derived.Test.YtmkifodpkcmgoaaDoorEngD
namespace Go.Proofs.YtmkifodpkcmgoaaDoor.E
open Go

theorem bs_append (x y : ByteArray) : x ++ y = bs (tl x ++ tl y) := by
  obtain ⟨a⟩ := x
  obtain ⟨b⟩ := y
  obtain ⟨a⟩ := a
  obtain ⟨b⟩ := b
  exact ByteArray.mk_append_mk a b
theorem toList_tl (x : ByteArray) : x.toList = tl x := ByteArray.toList_eq x
theorem tl_len (x : ByteArray) : (tl x).length = x.size := by unfold tl ByteArray.size; exact Array.length_toList
theorem beq_dec (x y : List UInt8) : (x == y) = decide (x = y) := by
  rw [Bool.eq_iff_iff]; simp only [beq_iff_eq, decide_eq_true_eq]
theorem withO_some {α : Type} {K : α → Prop} {x : Option α} (h : withO (.mk (k := K) x)) : ∃ s, x = some s ∧ K s := by
  cases x with
  | none => exact h.elim
  | some s => exact ⟨s, rfl, h⟩

section
variable {P : Program} {c : Bool} {w : World}
theorem binS_sound {op : BinOp} {x y : ByteArray} {t : TypeId} {o o' : Operand} {V : Vl} {K : SV → Prop} (h : binS (.mk (k := (op, U c, K)) (tl x, tl y))) :
    ∃ s, K s ∧ Yl c P (do eqGuard op t o o' (.string x) (.string y); binOp op t (.string x) (.string y)) w (den V s) := by
  cases op <;> simp only [binS] at h
  case add =>
    refine ⟨_, h.2, fun hc => ?_⟩
    have hl := h.1 hc
    rw [tl_len, tl_len] at hl
    have : ¬ ((x.size + y.size : Nat) : Int) > IntKind.i64.max := by rw [IntKind.max_i64]; omega
    simp only [go_sem, binOp, Op.stringOp, Sem.run_bind, Sem.run_pure, Result.andThen_ok]
    rw [if_neg this]
    rw [bs_append, den_v]
    rfl
  case eql => exact ⟨_, h, fun _ => by simp [go_sem, den_v, toList_tl, beq_dec]⟩
  case neq => exact ⟨_, h, fun _ => by simp [go_sem, den_v, toList_tl, beq_dec]⟩
  case lss => exact ⟨_, h, fun _ => by simp [go_sem, den_v, toList_tl]⟩
  case geq => exact ⟨_, h, fun _ => by simp [binOp, Op.stringOp, go_sem, den_v, toList_tl]⟩

theorem cellEq_den {V : Vl} {x y : SV} {b : Bool} (h : cellEq x y = some b) : cellEq (.v (denA V x)) (.v (denA V y)) = some b := by
  unfold cellEq at h
  split at h <;> first | exact h | cases h
theorem fitC_den {V : Vl} {z x : SV} (h : fitC z x = true) : fitC z (.v (denA V x)) = true := by
  unfold fitC at h
  split at h <;> first | exact h | cases h
theorem fitL_den {V : Vl} : ∀ {z x : List SV}, fitL z x = true → fitL z ((x.map (denA V)).map .v) = true
  | [], [], h => h
  | z :: zs, x :: xs, h => by
    simp only [fitL, Bool.and_eq_true] at h
    simp only [List.map_cons, fitL, fitC_den h.1, fitL_den h.2, Bool.and_self]
  | [], _ :: _, h => by simp [fitL] at h
  | _ :: _, [], h => by simp [fitL] at h
theorem fitZ_den {V : Vl} {z : Option (List SV)} {x : List SV} (h : fitZ z x = true) : fitZ z ((x.map (denA V)).map .v) = true := by
  cases z with
  | none => cases h
  | some z => exact fitL_den h
theorem cellsEq_den {V : Vl} : ∀ {x y : List SV} {b : Bool}, cellsEq x y = some b → cellsEq ((x.map (denA V)).map .v) ((y.map (denA V)).map .v) = some b
  | [], [], _, h => h
  | x :: xs, y :: ys, b, h => by
    simp only [cellsEq, Option.bind_eq_some_iff, Option.map_eq_some_iff] at h
    obtain ⟨e, he, r, hr, rfl⟩ := h
    simp only [List.map_cons, cellsEq, cellEq_den he, cellsEq_den hr, Option.bind_some, Option.map_some]
  | [], _ :: _, _, h => by simp [cellsEq] at h
  | _ :: _, [], _, h => by simp [cellsEq] at h
theorem cellsEq_len : ∀ {x y : List SV} {b : Bool}, cellsEq x y = some b → x.length = y.length
  | [], [], _, _ => rfl
  | x :: xs, y :: ys, b, h => by
    simp only [cellsEq, Option.bind_eq_some_iff, Option.map_eq_some_iff] at h
    obtain ⟨e, _, r, hr, _⟩ := h
    simp [cellsEq_len hr]
  | [], _ :: _, _, h => by simp [cellsEq] at h
  | _ :: _, [], _, h => by simp [cellsEq] at h

theorem binB_sound {op : BinOp} {b : Bool} {K : SV → Prop} {V : Vl} (h : binB (.mk (k := (op, K)) b)) :
    ∃ s, K s ∧ ((op = .eql ∧ den V s = .bool b) ∨ (op = .neq ∧ den V s = .bool (!b))) := by
  cases op <;> simp only [binB] at h
  case eql => exact ⟨_, h, .inl ⟨rfl, rfl⟩⟩
  case neq => exact ⟨_, h, .inr ⟨rfl, rfl⟩⟩

theorem aggCells_den {V : Vl} {y : SV} {ys : List SV} (h : aggCells y = some ys) : den V y = .agg ⟨ys.map (denA V)⟩ := by
  cases y with
  | agg l => simp only [aggCells, Option.some.injEq] at h; subst h; rfl
  | v x =>
    cases x with
    | agg a => obtain ⟨l⟩ := a; simp only [aggCells, Option.some.injEq] at h; subst h; rw [map_v]; rfl
    | _ => simp [aggCells] at h
  | _ => simp [aggCells] at h
/-- '==' of two structs, one written out cell by cell. -/
theorem eqAgg_sound {op : BinOp} {t : TypeId} {o o' : Operand} {V : Vl} {K : SV → Prop} {xs : List SV} {y : SV} {xv : Value} (hxv : xv = .agg ⟨xs.map (denA V)⟩) 
    (he : EqOk P t) (hl : fitZ (zeroO P t) xs = true) (h : withO (.mk (k := fun b => binB (.mk (k := (op, K)) b)) ((aggCells y).bind fun ys => cellsEq xs ys))) :
    ∃ s, K s ∧ Yl c P (do eqGuard op t o o' xv (den V y); binOp op t xv (den V y)) w (den V s) := by
  obtain ⟨b, hb, hK⟩ := withO_some h
  simp only [Option.bind_eq_some_iff] at hb
  obtain ⟨ys, hys, hb⟩ := hb
  have hyv : den V y = .agg ⟨ys.map (denA V)⟩ := aggCells_den hys
  have hE := fun op => he (xs.map (denA V)) (ys.map (denA V)) b w o o' op (cellsEq_den hb) (fitZ_den hl)
  obtain ⟨s, hs, hh⟩ := binB_sound (V := V) hK
  refine ⟨s, hs, fun hc => ?_⟩
  rw [hxv, hyv]
  rcases hh with ⟨rfl, hr⟩ | ⟨rfl, hr⟩
  · rw [hr]
    simp only [Sem.run_bind, (hE .eql).1, Result.andThen_ok, binOp, (hE .eql).2, Sem.run_pure]
  · rw [hr]
    simp only [Sem.run_bind, (hE .neq).1, Result.andThen_ok, binOp, (hE .neq).2, Sem.run_pure]

theorem run_equal_bool {t : TypeId} (x y : Bool) (h : P.underlying t = some .bool) : (Op.equal t (.bool x) (.bool y)).run P w = .ok (x == y) w := by
  have hd : ∀ d : Nat, (Op.equalIn (d + 1) t (.bool x) (.bool y)).run P w = .ok (x == y) w := fun d => by
    simp only [Op.equalIn, Sem.run_bind, run_underlying h, Result.andThen_ok, Sem.run_pure]
  exact hd 9999

theorem run_equal_nil {t : TypeId} {v : Value} (h : isIfT P t = true) (hv : ifV v) : (Op.equal t v .nilIface).run P w = .ok (isNilV v) w := by
  unfold isIfT at h
  split at h
  · rename_i ms hu
    have hd : ∀ d : Nat, (Op.equalIn (d + 1) t v .nilIface).run P w = .ok (isNilV v) w := fun d => by
      rcases hv with rfl | ⟨ty, x, rfl⟩ <;> simp only [Op.equalIn, Sem.run_bind, run_underlying hu, Result.andThen_ok, Sem.run_pure, isNilV]
    exact hd 9999
  · cases h
theorem qNilI_sound {op : BinOp} {x : SV} {t : TypeId} {o : Operand} {V : Vl} {K : SV → Prop} (h : qNilI (.mk (k := (P, op, t, U c, K)) x)) :
    ∃ s, K s ∧ Yl c P (do eqGuard op t o (.const .nilIface) (den V x) .nilIface; binOp op t (den V x) .nilIface) w (den V s) := by
  unfold qNilI at h
  split at h
  · rename_i v e
    cases e
    obtain ⟨h1, h2, h3⟩ := h
    obtain ⟨s, hs, hh⟩ := binB_sound (V := V) h3
    refine ⟨s, hs, fun hc => ?_⟩
    have hv := h2 hc
    have hg : ∀ op, (eqGuard op t o (.const .nilIface) v .nilIface).run P w = .ok () w := fun op => by
      unfold eqGuard
      rcases hv with rfl | ⟨ty, x, rfl⟩ <;> cases op <;> simp
    have hb1 : binOp .eql t v .nilIface = (do let b ← Op.equal t v .nilIface; pure (.bool b)) := by
      rcases hv with rfl | ⟨ty, x, rfl⟩ <;> rfl
    have hb2 : binOp .neq t v .nilIface = (do let b ← Op.equal t v .nilIface; pure (.bool (!b))) := by
      rcases hv with rfl | ⟨ty, x, rfl⟩ <;> rfl
    rcases hh with ⟨rfl, hr⟩ | ⟨rfl, hr⟩
    · rw [hr]
      simp only [Sem.run_bind, den_v, hg, Result.andThen_ok, hb1, run_equal_nil h1 hv, Sem.run_pure]
    · rw [hr]
      simp only [Sem.run_bind, den_v, hg, Result.andThen_ok, hb2, run_equal_nil h1 hv, Sem.run_pure]
  · cases h
theorem binQ_sound {op : BinOp} {x y : SV} {t : TypeId} {o o' : Operand} {V : Vl} {K : SV → Prop} (h : binQ (.mk (k := (P, op, t, U c, K)) (x, y))) :
    ∃ s, K s ∧ Yl c P (do eqGuard op t o o' (den V x) (den V y); binOp op t (den V x) (den V y)) w (den V s) := by
  unfold binQ at h
  split at h
  · rename_i k a k' b e
    cases e
    exact binI_sound h.1 h.2
  · rename_i a b e
    cases e
    exact binS_sound h
  · rename_i a b e
    cases e
    obtain ⟨s, hs, hh⟩ := binB_sound (V := V) h.2
    refine ⟨s, hs, fun hc => ?_⟩
    rcases hh with ⟨rfl, hr⟩ | ⟨rfl, hr⟩
    · rw [hr]
      simp only [Sem.run_bind, eqGuard_at_bool, den_v, Sem.run_pure, Result.andThen_ok, binOp, run_equal_bool a b h.1]
    · rw [hr]
      simp only [Sem.run_bind, eqGuard_at_bool, den_v, Sem.run_pure, Result.andThen_ok, binOp, run_equal_bool a b h.1]
  · rename_i xs y e
    cases e
    exact eqAgg_sound rfl h.1 h.2.1 h.2.2
  · rename_i xs y e
    cases e
    obtain ⟨l⟩ := xs
    refine eqAgg_sound (xs := l.map .v) (by rw [map_v]; rfl) h.1 h.2.1 h.2.2
  · cases h
end
end Go.Proofs.YtmkifodpkcmgoaaDoor.E

/- The engine, part F: every quiet operation. -/
import Derived.Test.YtmkifodpkcmgoaaDoorEngE
import Derived.Laws.Cells
namespace Go.Proofs.YtmkifodpkcmgoaaDoor.E
open Go

section
variable {P : Program} {w : World}
theorem run_szT {t : TypeId} (h : 0 < szT P t) : (sizeOf t).run P w = .ok (szT P t) w := by
  unfold szT at h ⊢
  cases hi : P.info? t with
  | none => rw [hi] at h; simp at h
  | some i => simp [sizeOf, typeInfo, hi]
theorem run_agg_none {t : TypeId} (h : aggN P t = some none) : (isAgg t).run P w = .ok false w := by
  unfold aggN at h
  split at h
  · simp at h
  · simp at h
  · rename_i d h1 h2 hd
    simp only [isAgg, Sem.run_bind, run_underlying hd, Result.andThen_ok]
    rfl
  · cases h
theorem run_agg_some {t : TypeId} {n : Nat} (h : aggN P t = some (some n)) : (isAgg t).run P w = .ok true w ∧ (sizeOf t).run P w = .ok n w := by
  unfold aggN at h
  split at h
  · rename_i fs hd
    simp only [Option.map_eq_some_iff, Option.some.injEq] at h
    obtain ⟨i, hi, rfl⟩ := h
    exact ⟨by simp [isAgg, run_underlying hd], by simp [sizeOf, typeInfo, hi]⟩
  · rename_i fs k hd
    simp only [Option.map_eq_some_iff, Option.some.injEq] at h
    obtain ⟨i, hi, rfl⟩ := h
    exact ⟨by simp [isAgg, run_underlying hd], by simp [sizeOf, typeInfo, hi]⟩
  · cases h
  · cases h
theorem run_loadVar_ag {t : TypeId} {ad : Addr} {ag : Option Nat} {cs : List Value} {v : Value} (h : aggN P t = some ag) (hc : ∀ j u, cs[j]? = some u → w.cell? (ad.add j) = some u)
    (hv : match ag with | none => cs = [v] | some n => cs.length = n ∧ v = .agg ⟨cs⟩) : (loadVar t ad).run P w = .ok v w := by
  cases ag with
  | none =>
    subst hv
    have h0 := hc 0 v rfl
    rw [Addr.add_zero'] at h0
    simp only [loadVar, Sem.run_bind, run_agg_none h, Result.andThen_ok, Bool.false_eq_true, if_false]
    rw [run_load]
    simp [h0]
  | some n =>
    obtain ⟨hl, rfl⟩ := hv
    simp only [loadVar, Sem.run_bind, (run_agg_some h).1, (run_agg_some h).2, Result.andThen_ok, if_true]
    subst hl
    rw [run_loadCells_list w ad cs hc]
    rfl

theorem keep_cell {D : Nat} {o o' : Option Obj} {c : Array Value} {t : TypeId} {f : Nat × Nat} (h : keepObj D o o') (ho : o = some (.cells c t f)) : ∃ c' t' f', o' = some (.cells c' t' f') ∧ ∀ j, j < D → c'[j]? = c[j]? := by
  subst ho; exact h
theorem cell_of_le {m : Mem} {D : Nat → Nat} (hle : m.le ⟨w, D⟩) {ad : Addr} {v : Value} (hs : ad.spot = none) (hd : ad.off < m.D ad.block) (h : m.w.cell? ad = some v) : w.cell? ad = some v := by
  obtain ⟨_, hk⟩ := hle ad.block
  obtain ⟨_, hk⟩ := hk (by omega)
  unfold World.cell? at h ⊢
  split at h
  · rename_i c t f hc
    obtain ⟨c', t', f', ho, hj⟩ := keep_cell hk hc
    dsimp only at ho
    rw [ho]
    simp only [hs, Option.isSome_none, Bool.false_eq_true, if_false] at h ⊢
    rw [hj _ hd]; exact h
  · cases h
theorem add_parts (ad : Addr) (j : Nat) (h : ad.spot = none) : (ad.add j).block = ad.block ∧ (ad.add j).off = ad.off + j ∧ (ad.add j).spot = none := by
  unfold Addr.add
  split
  · rename_i e; subst e; exact ⟨rfl, rfl, h⟩
  · exact ⟨rfl, rfl, rfl⟩
theorem Rd_at {m : Mem} {D : Nat → Nat} (hle : m.le ⟨w, D⟩) {x : Value} {cs : List Value} (h : Rd m x cs) : ∃ ad, x = .pointer (some ad) ∧ ∀ j u, cs[j]? = some u → w.cell? (ad.add j) = some u := by
  obtain ⟨ad, hx, hs, hc⟩ := h
  refine ⟨ad, hx, fun j u hu => ?_⟩
  have hj : j < cs.length := (List.getElem?_eq_some_iff.1 hu).1
  obtain ⟨h1, h2⟩ := hc j hj
  obtain ⟨e1, e2, e3⟩ := add_parts ad j hs
  exact cell_of_le hle e3 (by rw [e1, e2]; exact h2) (h1.trans hu)
theorem Rds_at {m : Mem} {D : Nat → Nat} (hle : m.le ⟨w, D⟩) {x : Option Addr} {n sz : Nat} {cs : List Value} (h : Rds m x n sz cs) (hn : 0 < n) : ∃ ad, x = some ad ∧ ∀ j u, cs[j]? = some u → w.cell? (ad.add j) = some u := by
  obtain ⟨hl, h⟩ := h
  obtain ⟨ad, hx, hs, hc⟩ := h hn
  refine ⟨ad, hx, fun j u hu => ?_⟩
  have hj : j < cs.length := (List.getElem?_eq_some_iff.1 hu).1
  obtain ⟨h1, h2⟩ := hc j (by omega)
  obtain ⟨e1, e2, e3⟩ := add_parts ad j hs
  exact cell_of_le hle e3 (by rw [e1, e2]; exact h2) (h1.trans hu)
theorem exec_v {x : Sem Value} {v : Value} {w' : World} (h : x.run P w = .ok v w') : (do pure (Next.value (← x)) : Sem Next).run P w = .ok (.value v) w' := by
  simp [h]
theorem takeC_den {V : Vl} {cs : List SV} {off : Nat} {ag : Option Nat} {s : SV} (h : takeC cs off ag = some s) :
    match ag with | none => (cs.map (denA V))[off]? = some (den V s) | some n => den V s = .agg ⟨((cs.map (denA V)).drop off).take n⟩ ∧ off + n ≤ cs.length := by
  cases ag with
  | none =>
    obtain ⟨x, hx, hs⟩ := Option.bind_eq_some_iff.1 h
    dsimp only
    rw [List.getElem?_map, hx]
    cases x <;> simp only [cell1, Option.some.injEq] at hs <;> first | (subst hs; rfl) | cases hs
  | some n =>
    simp only [takeC] at h
    split at h
    · rename_i hl
      simp only [Option.some.injEq] at h
      subst h
      exact ⟨by rw [den_agg, List.map_take, List.map_drop], hl⟩
    · cases h
end
end Go.Proofs.YtmkifodpkcmgoaaDoor.E

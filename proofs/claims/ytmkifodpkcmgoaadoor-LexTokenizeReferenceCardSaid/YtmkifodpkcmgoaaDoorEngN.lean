/- The engine, part N: what goes into a call. -/
import Derived.Test.YtmkifodpkcmgoaaDoorEngM
namespace Go.Proofs.YtmkifodpkcmgoaaDoor.E
open Go

theorem pickBx_eq (L : List Nat) : ∀ bx : List Bx, pickBx L bx = bx.filter fun b => L.contains b.id
  | [] => rfl
  | ⟨k, t, cs⟩ :: r => by
    simp only [pickBx, List.filter_cons, pickBx_eq L r]
theorem pickVc_eq (L : List Nat) : ∀ vc : List Vc, pickVc L vc = vc.filter fun b => L.contains b.id
  | [] => rfl
  | ⟨k, u, e, z, n, xs⟩ :: r => by
    simp only [pickVc, List.filter_cons, pickVc_eq L r]
theorem dropBx_eq (L : List Nat) : ∀ bx : List Bx, dropBx L bx = bx.filter fun b => !L.contains b.id
  | [] => rfl
  | ⟨k, t, cs⟩ :: r => by
    simp only [dropBx, List.filter_cons, dropBx_eq L r]
    cases L.contains k <;> simp
theorem dropVc_eq (L : List Nat) : ∀ vc : List Vc, dropVc L vc = vc.filter fun b => !L.contains b.id
  | [] => rfl
  | ⟨k, u, e, z, n, xs⟩ :: r => by
    simp only [dropVc, List.filter_cons, dropVc_eq L r]
    cases L.contains k <;> simp
theorem filter_perm {α : Type} (p : α → Bool) : ∀ l : List α, (l.filter p ++ l.filter fun x => !p x).Perm l
  | [] => List.Perm.refl _
  | x :: r => by
    simp only [List.filter_cons]
    cases h : p x with
    | true => simpa using (filter_perm p r).cons x
    | false => simpa using List.perm_middle.trans ((filter_perm p r).cons x)
theorem perm4 {α : Type} (a b c d : List α) : ((a ++ b) ++ (c ++ d)).Perm ((a ++ c) ++ (b ++ d)) := by
  simp only [List.append_assoc]
  refine List.Perm.append_left _ ?_
  rw [← List.append_assoc, ← List.append_assoc]
  exact List.Perm.append_right _ List.perm_append_comm

section
variable {V : Vl} {D : Nat → Nat} {w : World}
theorem HSat.permBx {bx bx' : List Bx} {vc : List Vc} (h : HSat V D w ⟨bx, vc⟩) (hp : bx.Perm bx') : HSat V D w ⟨bx', vc⟩ :=
  ⟨fun b hb => h.bx b (hp.mem_iff.2 hb), h.vc, by
    have : (blks V ⟨bx, vc⟩).Perm (blks V ⟨bx', vc⟩) := List.Perm.append_right _ (hp.map _)
    exact (this.nodup_iff).1 h.apart, h.uniq⟩
theorem blks_app (a b : List Bx) (c d : List Vc) : (blks V ⟨a ++ b, c ++ d⟩).Perm (blks V ⟨a, c⟩ ++ blks V ⟨b, d⟩) := by
  unfold blks
  simp only [List.map_append, List.filterMap_append]
  exact perm4 _ _ _ _
theorem HSat.app {a b : List Bx} {c d : List Vc} (h : HSat V D w ⟨a ++ b, c ++ d⟩) : HSat V D w ⟨a, c⟩ ∧ HSat V D w ⟨b, d⟩ ∧ ∀ g, g ∈ blks V ⟨a, c⟩ → g ∉ blks V ⟨b, d⟩ := by
  have hn := ((blks_app a b c d).nodup_iff).1 h.apart
  obtain ⟨h1, h2, h3⟩ := List.nodup_append.1 hn
  have hu := h.uniq
  simp only [List.map_append] at hu
  obtain ⟨u1, u2, _⟩ := List.nodup_append.1 hu
  exact ⟨⟨fun x hx => h.bx x (List.mem_append_left _ hx), fun x hx => h.vc x (List.mem_append_left _ hx), h1, u1⟩,
    ⟨fun x hx => h.bx x (List.mem_append_right _ hx), fun x hx => h.vc x (List.mem_append_right _ hx), h2, u2⟩, fun g hg hg' => h3 g hg g hg' rfl⟩
theorem HSat.join {a b : List Bx} {c d : List Vc} (h : HSat V D w ⟨a, c⟩) (h' : HSat V D w ⟨b, d⟩) (hd : ∀ g, g ∈ blks V ⟨a, c⟩ → g ∉ blks V ⟨b, d⟩) (hu : ∀ x ∈ c, ∀ y ∈ d, x.id ≠ y.id) : HSat V D w ⟨a ++ b, c ++ d⟩ :=
  ⟨fun x hx => (List.mem_append.1 hx).elim (h.bx x) (h'.bx x), fun x hx => (List.mem_append.1 hx).elim (h.vc x) (h'.vc x), ((blks_app a b c d).nodup_iff).2 (List.nodup_append.2 ⟨h.apart, h'.apart, fun g hg g' hg' e => hd g hg (e ▸ hg')⟩), by
    simp only [List.map_append]
    refine List.nodup_append.2 ⟨h.uniq, h'.uniq, fun i hi j hj e => ?_⟩
    obtain ⟨x, hx, rfl⟩ := List.mem_map.1 hi
    obtain ⟨y, hy, rfl⟩ := List.mem_map.1 hj
    exact hu x hx y hy e⟩
theorem split_heap (L : List Nat) {bx : List Bx} {vc : List Vc} (h : HSat V D w ⟨bx, vc⟩) : HSat V D w ⟨pickBx L bx ++ dropBx L bx, pickVc L vc ++ dropVc L vc⟩ := by
  rw [pickBx_eq, dropBx_eq, pickVc_eq, dropVc_eq]
  exact (h.permBx (filter_perm _ bx).symm).permVc (filter_perm _ vc).symm
theorem blks_split (L : List Nat) (bx : List Bx) (vc : List Vc) : (blks V ⟨bx, vc⟩).Perm (blks V ⟨pickBx L bx, pickVc L vc⟩ ++ blks V ⟨dropBx L bx, dropVc L vc⟩) := by
  refine List.Perm.trans ?_ (blks_app _ _ _ _)
  rw [pickBx_eq, dropBx_eq, pickVc_eq, dropVc_eq]
  unfold blks
  exact List.Perm.append ((filter_perm _ bx).symm.map _) ((filter_perm _ vc).symm.filterMap _)

/-! Numbers in a call. -/
theorem idxOf_spec : ∀ {L : List Nat} {i j : Nat}, idxOf L i = some j → L[j]? = some i
  | x :: r, i, j, h => by
    simp only [idxOf] at h
    split at h
    · rename_i e; cases h; simp [e]
    · simp only [Option.map_eq_some_iff] at h
      obtain ⟨j', hj, rfl⟩ := h
      simpa using idxOf_spec hj
theorem idxOf_mem : ∀ {L : List Nat} {i : Nat}, i ∈ L → ∃ j, idxOf L i = some j
  | x :: r, i, h => by
    simp only [idxOf]
    split
    · exact ⟨0, rfl⟩
    · rename_i e
      rcases List.mem_cons.1 h with h | h
      · exact absurd h.symm e
      · obtain ⟨j, hj⟩ := idxOf_mem h; exact ⟨j + 1, by rw [hj]; rfl⟩
theorem ren_get {L : List Nat} {i : Nat} (h : L.contains i = true) : L[ren L 0 i]? = some i ∧ ren L 0 i < L.length := by
  obtain ⟨j, hj⟩ := idxOf_mem (by simpa using h)
  have : ren L 0 i = j := by unfold ren; rw [hj]; rfl
  rw [this]
  have := idxOf_spec hj
  exact ⟨this, (List.getElem?_eq_some_iff.1 this).1⟩
def inV (L : List Nat) (V : Vl) : Vl := ⟨fun j => V.β (L.getD j 0), fun j u => V.γ (L.getD j 0) u⟩
theorem inV_β {L : List Nat} {i : Nat} (h : L.contains i = true) : (inV L V).β (ren L 0 i) = V.β i := by
  show V.β (L.getD (ren L 0 i) 0) = _
  rw [List.getD_eq_getElem?_getD, (ren_get h).1]; rfl
theorem inV_γ {L : List Nat} {i : Nat} (h : L.contains i = true) (u : Nat) : (inV L V).γ (ren L 0 i) u = V.γ i u := by
  show V.γ (L.getD (ren L 0 i) 0) u = _
  rw [List.getD_eq_getElem?_getD, (ren_get h).1]; rfl
theorem denA_ren {L : List Nat} {s : SV} (h : inA L s) : denA (inV L V) (renA (ren L 0) s) = denA V s := by
  cases s with
  | v x => rfl
  | box k o => show Value.pointer _ = Value.pointer _; rw [inV_β h]
  | vec k u => show Hd.val _ = Hd.val _; rw [inV_γ h]
  | vp k u o => show Value.pointer _ = Value.pointer _; rw [inV_γ h]
  | agg cs => rfl
  | tup l => cases h
theorem denL_ren {L : List Nat} : ∀ {l : List SV}, inL L l → (l.map (renA (ren L 0))).map (denA (inV L V)) = l.map (denA V)
  | [], _ => rfl
  | s :: r, h => by simp only [List.map_cons]; rw [denA_ren h.1, denL_ren h.2]
theorem den_ren {L : List Nat} {s : SV} (h : inB L s) : den (inV L V) (renS (ren L 0) s) = den V s := by
  cases s with
  | agg cs => show Value.agg _ = Value.agg _; rw [denL_ren h]
  | v x => rfl
  | box k o => exact denA_ren (s := .box k o) h
  | vec k u => exact denA_ren (s := .vec k u) h
  | vp k u o => exact denA_ren (s := .vp k u o) h
  | tup l => cases h
theorem den_args {L : List Nat} : ∀ {l : List SV}, inBs L l → (l.map (renS (ren L 0))).map (den (inV L V)) = l.map (den V)
  | [], _ => rfl
  | s :: r, h => by simp only [List.map_cons]; rw [den_ren h.1, den_args h.2]
theorem nodup_inv {l : List Nat} {f g : Nat → Nat} (h : ∀ x ∈ l, g (f x) = x) (hl : l.Nodup) : (l.map f).Nodup := by
  have : (l.map f).map g = l := by
    rw [List.map_map]
    exact (List.map_congr_left h).trans (List.map_id' l)
  rw [← this] at hl
  exact List.Pairwise.of_map g (fun a b h e => h (by rw [e])) hl
theorem pick_mem {L : List Nat} {vc : List Vc} {b : Vc} (h : b ∈ pickVc L vc) : b ∈ vc ∧ L.contains b.id = true := by
  rw [pickVc_eq, List.mem_filter] at h; exact h
theorem pickB_mem {L : List Nat} {bx : List Bx} {b : Bx} (h : b ∈ pickBx L bx) : b ∈ bx ∧ L.contains b.id = true := by
  rw [pickBx_eq, List.mem_filter] at h; exact h
theorem dropB_mem {L : List Nat} {bx : List Bx} {b : Bx} (h : b ∈ dropBx L bx) : b ∈ bx ∧ L.contains b.id = false := by
  rw [dropBx_eq, List.mem_filter] at h; simpa using h
theorem drop_mem {L : List Nat} {vc : List Vc} {b : Vc} (h : b ∈ dropVc L vc) : b ∈ vc ∧ L.contains b.id = false := by
  rw [dropVc_eq, List.mem_filter] at h; simpa using h
theorem inBx_mem {L : List Nat} : ∀ {bx : List Bx}, inBx L bx → ∀ b ∈ bx, inL L b.cs
  | ⟨_, _, cs⟩ :: r, h, b, hb => by
    rcases List.mem_cons.1 hb with rfl | hb
    · exact h.1
    · exact inBx_mem h.2 b hb
theorem renBx_id (ρ : Nat → Nat) (b : Bx) : (renBx ρ b).id = ρ b.id ∧ (renBx ρ b).ty = b.ty ∧ (renBx ρ b).cs = b.cs.map (renA ρ) := by cases b; exact ⟨rfl, rfl, rfl⟩
theorem renVc_id (ρ : Nat → Nat) (b : Vc) : (renVc ρ b).id = ρ b.id ∧ (renVc ρ b).ver = b.ver ∧ (renVc ρ b).el = b.el ∧ (renVc ρ b).sz = b.sz ∧ (renVc ρ b).n = b.n ∧ (renVc ρ b).xs = b.xs := by
  cases b; exact ⟨rfl, rfl, rfl, rfl, rfl, rfl⟩
/-- The heap that a call is handed, in its own numbers. -/
theorem blks_in {L : List Nat} {st : LS} : blks (inV L V) (hpIn st L) = blks V ⟨pickBx L st.bx, pickVc L st.vc⟩ := by
  unfold blks hpIn
  congr 1
  · rw [List.map_map]
    refine List.map_congr_left fun b hb => ?_
    show (inV L V).β (renBx _ b).id = _
    rw [(renBx_id _ b).1, inV_β (pickB_mem hb).2]
  · rw [List.filterMap_map]
    refine filterMap_congr' fun b hb => ?_
    show ((inV L V).γ (renVc _ b).id (renVc _ b).ver).blk = _
    rw [(renVc_id _ b).1, (renVc_id _ b).2.1, inV_γ (pick_mem hb).2]
theorem HSat.into {L : List Nat} {st : LS} (h : HSat V D w ⟨pickBx L st.bx, pickVc L st.vc⟩) (hin : inBx L (pickBx L st.bx)) : HSat (inV L V) D w (hpIn st L) := by
  refine ⟨fun b hb => ?_, fun b hb => ?_, by rw [blks_in]; exact h.apart, ?_⟩
  · obtain ⟨x, hx, rfl⟩ := List.mem_map.1 hb
    obtain ⟨h1, h2⟩ := h.bx x hx
    obtain ⟨e1, e2, e3⟩ := renBx_id (ren L 0) x
    unfold HBx
    rw [e1, e2, e3, inV_β (pickB_mem hx).2, denL_ren (inBx_mem hin x hx)]
    exact ⟨h1, h2⟩
  · obtain ⟨x, hx, rfl⟩ := List.mem_map.1 hb
    have h1 := h.vc x hx
    obtain ⟨e1, e2, e3, e4, e5, e6⟩ := renVc_id (ren L 0) x
    unfold HVc
    rw [e1, e2, e3, e4, e5, e6, inV_γ (pick_mem hx).2]
    exact h1
  · show (((pickVc L st.vc).map (renVc (ren L 0))).map (·.id)).Nodup
    rw [List.map_map]
    have : ((pickVc L st.vc).map ((·.id) ∘ renVc (ren L 0))) = ((pickVc L st.vc).map (·.id)).map (ren L 0) := by
      rw [List.map_map]
      exact List.map_congr_left fun b _ => (renVc_id _ b).1
    rw [this]
    refine nodup_inv (g := fun j => L.getD j 0) (fun i hi => ?_) h.uniq
    obtain ⟨b, hb, rfl⟩ := List.mem_map.1 hi
    rw [List.getD_eq_getElem?_getD, (ren_get (pick_mem hb).2).1]; rfl
end
end Go.Proofs.YtmkifodpkcmgoaaDoor.E

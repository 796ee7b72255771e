/- The engine, part J: how the state is kept when the world turns. -/
import Derived.Test.YtmkifodpkcmgoaaDoorEngI
namespace Go.Proofs.YtmkifodpkcmgoaaDoor.E
open Go

theorem keepObj_trans {d d' : Nat} {o o' o'' : Option Obj} (hd : d ≤ d') (h : keepObj d o o') (h' : keepObj d' o' o'') : keepObj d o o'' := by
  unfold keepObj at h
  split at h
  · rename_i c t f
    obtain ⟨c', t', f', rfl, h1⟩ := h
    obtain ⟨c'', t'', f'', rfl, h2⟩ := h'
    exact ⟨c'', t'', f'', rfl, fun j hj => (h2 j (by omega)).trans (h1 j hj)⟩
  · rename_i hne
    subst h
    unfold keepObj at h' ⊢
    split
    · exact absurd rfl (hne _ _ _)
    · split at h'
      · exact absurd rfl (hne _ _ _)
      · exact h'
theorem keepObj_same {d : Nat} {o o' : Option Obj} (h : o' = o) : keepObj d o o' := by
  subst h
  unfold keepObj
  split
  · exact ⟨_, _, _, rfl, fun _ _ => rfl⟩
  · rfl
theorem Mem.le_refl (m : Mem) (h : Wf m.w m.D) : m.le m := fun b => ⟨Nat.le_refl _, fun h0 => ⟨by
  rcases Nat.lt_or_ge b m.w.heap.size with h1 | h1
  · exact h1
  · rw [h b h1] at h0; omega, keepObj_same rfl⟩⟩
theorem Mem.le_trans {m m' m'' : Mem} (h : m.le m') (h' : m'.le m'') : m.le m'' := fun b =>
  ⟨Nat.le_trans (h b).1 (h' b).1, fun h0 => ⟨((h b).2 h0).1, keepObj_trans (h b).1 ((h b).2 h0).2 ((h' b).2 (Nat.lt_of_lt_of_le h0 (h b).1)).2⟩⟩
/-- A world in which the blocks that are read have stayed. -/
theorem Mem.le_same {w w' : World} {D D' : Nat → Nat} (hw : Wf w D) (h : ∀ b, b < w.heap.size → D b ≤ D' b ∧ (0 < D b → w'.heap[b]? = w.heap[b]?)) : Mem.le ⟨w, D⟩ ⟨w', D'⟩ := fun b => by
  rcases Nat.lt_or_ge b w.heap.size with h1 | h1
  · exact ⟨(h b h1).1, fun h0 => ⟨h1, keepObj_same ((h b h1).2 h0)⟩⟩
  · have := hw b h1
    exact ⟨by dsimp only; omega, fun h0 => by dsimp only at h0; omega⟩
theorem Frm.refl (F : Nat → Prop) (w : World) (D : Nat → Nat) : Frm F w D w D := ⟨rfl, rfl, rfl, Nat.le_refl _, fun _ _ _ => ⟨rfl, rfl⟩⟩
/-- Two steps: what the second may touch, the first may too, or it is new. -/
theorem Frm.trans {F S : Nat → Prop} {w w' w'' : World} {D D' D'' : Nat → Nat} (h : Frm F w D w' D') (h' : Frm S w' D' w'' D'') (hs : ∀ b, S b → F b ∨ w.heap.size ≤ b) : Frm F w D w'' D'' :=
  ⟨h'.os.trans h.os, h'.tape.trans h.tape, h'.output.trans h.output, Nat.le_trans h.size h'.size, fun b hb hF => by
    have h1 := h.same b hb hF
    have h2 := h'.same b (Nat.lt_of_lt_of_le hb h.size) (fun hS => (hs b hS).elim hF (fun h3 => by omega))
    exact ⟨h2.1.trans h1.1, h2.2.trans h1.2⟩⟩

/-! Values that name no block that is yet to come. -/
def Agree (nid : Nat) (vc : List Vc) (V V' : Vl) : Prop := ∀ k, k < nid → V'.β k = V.β k ∧ ∀ u, verLe vc k u → V'.γ k u = V.γ k u
/-- From one state to a later one: what was made stays. -/
structure Step (nid : Nat) (vc : List Vc) (nid' : Nat) (vc' : List Vc) (V V' : Vl) : Prop where
  agr : Agree nid vc V V'
  up : nid ≤ nid'
  ver : ∀ k u, k < nid → verLe vc k u → verLe vc' k u
theorem Agree.refl (nid : Nat) (vc : List Vc) (V : Vl) : Agree nid vc V V := fun _ _ => ⟨rfl, fun _ _ => rfl⟩
section
variable {nid : Nat} {vc : List Vc} {V V' : Vl}
theorem denA_agree (h : Agree nid vc V V') {s : SV} (hs : okA nid vc s) : denA V' s = denA V s := by
  cases s with
  | v x => rfl
  | box k o => show Value.pointer _ = _; rw [(h k hs).1]; rfl
  | vec k u => show (V'.γ k u).val = _; rw [(h k hs.1).2 u hs.2]; rfl
  | vp k u o => show Value.pointer ((V'.γ k u).a.map _) = _; rw [(h k hs.1).2 u hs.2]; rfl
  | agg cs => rfl
  | tup l => rfl
theorem denL_agree (h : Agree nid vc V V') : ∀ {l : List SV}, okL nid vc l → l.map (denA V') = l.map (denA V)
  | [], _ => rfl
  | s :: r, hs => by simp only [List.map_cons]; rw [denA_agree h hs.1, denL_agree h hs.2]
theorem denB_agree (h : Agree nid vc V V') {s : SV} (hs : okB nid vc s) : denB V' s = denB V s := by
  cases s with
  | agg cs => simp only [denB]; rw [denL_agree h hs]
  | v x => rfl
  | box k o => exact denA_agree (s := .box k o) h hs
  | vec k u => exact denA_agree (s := .vec k u) h hs
  | vp k u o => exact denA_agree (s := .vp k u o) h hs
  | tup l => rfl
theorem denT_agree (h : Agree nid vc V V') : ∀ {l : List SV}, okT nid vc l → l.map (denB V') = l.map (denB V)
  | [], _ => rfl
  | s :: r, hs => by simp only [List.map_cons]; rw [denB_agree h hs.1, denT_agree h hs.2]
theorem den_agree (h : Agree nid vc V V') {s : SV} (hs : okS nid vc s) : den V' s = den V s := by
  cases s with
  | tup l => simp only [den]; rw [denT_agree h hs]
  | v x => rfl
  | box k o => exact denB_agree (s := .box k o) h hs
  | vec k u => exact denB_agree (s := .vec k u) h hs
  | vp k u o => exact denB_agree (s := .vp k u o) h hs
  | agg cs => exact denB_agree (s := .agg cs) h hs
theorem lkE_mem : ∀ {env : List Ev} {t : Nat} {p : Pth} {s : SV}, lkE env t p = some s → ∃ e ∈ env, e.s = s
  | ⟨t', p', s'⟩ :: r, t, p, s, h => by
    simp only [lkE] at h
    split at h
    · split at h
      · cases h; exact ⟨_, List.mem_cons_self .., rfl⟩
      · cases h
    · obtain ⟨e, he, hs⟩ := lkE_mem h; exact ⟨e, List.mem_cons_of_mem _ he, hs⟩
theorem SatF.agree {n : Nat} {env : List Ev} {rho : List Gd} {a : Act} (hf : SatF n env rho a V) (hids : ∀ e ∈ env, okS nid vc e.s) (h : Agree nid vc V V') : SatF n env rho a V' :=
  ⟨hf.defers, hf.size, hf.pth, fun t p s hp hl hc => by
    obtain ⟨e, he, rfl⟩ := lkE_mem hl
    rw [hf.env t p _ hp hl hc, den_agree h (hids e he)], hf.rho⟩
end

section
variable {V V' : Vl} {D D' : Nat → Nat} {w w' : World} {H : Hp}
theorem own_blk {e : TypeId} {sz m : Nat} {xs : List Value} {h : Hd} (ho : w.ownsRow 0 e sz h.val m xs) {g : Nat} (hg : h.blk = some g) : h.val.ownBlock = some g ∧ g < w.heap.size := by
  have : h.val.ownBlock = some g := by
    unfold Hd.val Value.ownBlock
    unfold Hd.blk at hg
    cases ha : h.a with
    | none => rw [ha] at hg; cases hg
    | some ad => rw [ha] at hg; exact hg
  exact ⟨this, (ho.lt g this).2⟩
theorem blks_lt (h : HSat V D w H) : ∀ b ∈ blks V H, b < w.heap.size := by
  intro b hb
  simp only [blks, List.mem_append, List.mem_map, List.mem_filterMap] at hb
  rcases hb with ⟨x, hx, rfl⟩ | ⟨x, hx, hb⟩
  · exact (Array.getElem?_eq_some_iff.1 (h.bx x hx).1).1
  · exact (own_blk (h.vc x hx).1 hb).2
theorem own_same {e : TypeId} {sz m : Nat} {xs : List Value} {h : Hd} (ho : w.ownsRow 0 e sz h.val m xs) (hw : ∀ g, h.blk = some g → w'.heap[g]? = w.heap[g]?) : w'.ownsRow 0 e sz h.val m xs := by
  refine ⟨ho.1, ?_⟩
  rcases ho.2 with hn | ⟨g, cap, cur, hv, hb, hh, rest⟩
  · exact .inl hn
  · refine .inr ⟨g, cap, cur, hv, hb, ?_, rest⟩
    rw [hw g (by
      simp only [Hd.val, Value.slice.injEq] at hv
      simp [Hd.blk, hv.1])]
    exact hh
theorem filterMap_congr' {α β : Type} {f g : α → Option β} : ∀ {l : List α}, (∀ x ∈ l, f x = g x) → l.filterMap f = l.filterMap g
  | [], _ => rfl
  | x :: r, h => by
    rw [List.filterMap_cons, List.filterMap_cons, h x (List.mem_cons_self ..), filterMap_congr' fun y hy => h y (List.mem_cons_of_mem _ hy)]
theorem blks_eq (hb : ∀ b ∈ H.bx, V'.β b.id = V.β b.id) (hv : ∀ b ∈ H.vc, V'.γ b.id b.ver = V.γ b.id b.ver) : blks V' H = blks V H := by
  unfold blks
  congr 1
  · exact List.map_congr_left hb
  · exact filterMap_congr' fun x hx => by rw [hv x hx]
theorem HSat.frame (h : HSat V D w H) (hb : ∀ b ∈ H.bx, V'.β b.id = V.β b.id ∧ b.cs.map (denA V') = b.cs.map (denA V)) (hv : ∀ b ∈ H.vc, V'.γ b.id b.ver = V.γ b.id b.ver)
    (hw : ∀ g ∈ blks V H, w'.heap[g]? = w.heap[g]? ∧ D' g = D g) : HSat V' D' w' H := by
  refine ⟨fun b hm => ?_, fun b hm => ?_, by rw [blks_eq (fun b hm => (hb b hm).1) hv]; exact h.apart, h.uniq⟩
  · have hin : V.β b.id ∈ blks V H := by
      simp only [blks, List.mem_append, List.mem_map]
      exact .inl ⟨b, hm, rfl⟩
    obtain ⟨h1, h2⟩ := h.bx b hm
    unfold HBx
    rw [(hb b hm).1, (hb b hm).2, (hw _ hin).1, (hw _ hin).2]
    exact ⟨h1, h2⟩
  · have hin : ∀ g, (V.γ b.id b.ver).blk = some g → g ∈ blks V H := fun g hg => by
      simp only [blks, List.mem_append, List.mem_filterMap]
      exact .inr ⟨b, hm, hg⟩
    obtain ⟨h1, h2, h3, h4⟩ := h.vc b hm
    unfold HVc
    rw [hv b hm]
    exact ⟨own_same h1 fun g hg => (hw g (hin g hg)).1, fun g hg => by rw [(hw g (hin g hg)).2]; exact h2 g hg, h3, h4⟩
end
end Go.Proofs.YtmkifodpkcmgoaaDoor.E

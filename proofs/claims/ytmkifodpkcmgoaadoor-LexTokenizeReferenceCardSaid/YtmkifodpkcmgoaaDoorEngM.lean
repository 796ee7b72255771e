/- The engine, part M: a store into a box; an append to an own slice; an own slice shown. -/
import Derived.Test.YtmkifodpkcmgoaaDoorEngL
namespace Go.Proofs.YtmkifodpkcmgoaaDoor.E
open Go

theorem updB_split {k : Nat} {b : Bx} {cs : List SV} : ∀ {bx : List Bx}, lkB bx k = some b → ∃ l1 l2, bx = l1 ++ b :: l2 ∧ updB bx k cs = l1 ++ ⟨b.id, b.ty, cs⟩ :: l2
  | [], h => by cases h
  | ⟨k', t', c'⟩ :: r, h => by
    simp only [lkB] at h
    simp only [updB]
    split at h
    · rename_i e; cases h; rw [if_pos e]; exact ⟨[], r, rfl, rfl⟩
    · rename_i e
      rw [if_neg e]
      obtain ⟨l1, l2, h1, h2⟩ := updB_split (cs := cs) h
      exact ⟨⟨k', t', c'⟩ :: l1, l2, by rw [h1]; rfl, by rw [h2]; rfl⟩
theorem updV_split {k u : Nat} {b x : Vc} : ∀ {vc : List Vc}, lkV vc k u = some b → ∃ l1 l2, vc = l1 ++ b :: l2 ∧ updV vc k x = l1 ++ x :: l2
  | [], h => by cases h
  | ⟨k', u', e', z', n', x'⟩ :: r, h => by
    simp only [lkV] at h
    simp only [updV]
    split at h
    · rename_i e
      split at h
      · cases h; rw [if_pos e]; exact ⟨[], r, rfl, rfl⟩
      · cases h
    · rename_i e
      rw [if_neg e]
      obtain ⟨l1, l2, h1, h2⟩ := updV_split (x := x) h
      exact ⟨⟨k', u', e', z', n', x'⟩ :: l1, l2, by rw [h1]; rfl, by rw [h2]; rfl⟩
theorem verLe_lk {k u v : Nat} {b : Vc} : ∀ {vc : List Vc}, lkV vc k u = some b → verLe vc k v → v ≤ u
  | [], h, _ => by cases h
  | ⟨k', u', e', z', n', x'⟩ :: r, h, hv => by
    simp only [lkV] at h
    simp only [verLe] at hv
    split at h
    · rename_i e
      split at h
      · rename_i e'; rw [if_pos e] at hv; omega
      · cases h
    · rename_i e; rw [if_neg e] at hv; exact verLe_lk h hv

section
variable {V V' : Vl} {D D' : Nat → Nat} {w w' : World} {bx : List Bx} {vc : List Vc} {nid : Nat} {m : Mem} {C : Ctx}
theorem blks_mid {l1 l2 : List Bx} {b : Bx} : (blks V ⟨l1 ++ b :: l2, vc⟩).Perm (V.β b.id :: blks V ⟨l1 ++ l2, vc⟩) := by
  unfold blks
  simp only [List.map_append, List.map_cons, List.append_assoc, List.cons_append]
  exact List.perm_middle
/-- A store into box b. -/
theorem SatW.setBx (h : SatW C bx vc nid m V D w) {k : Nat} {b : Bx} {cs : List SV} (hb : lkB bx k = some b) (hok : okL nid vc cs) :
    SatW C (updB bx k cs) vc nid m V D (w.setRow (V.β k) ⟨cs.map (denA V)⟩) := by
  obtain ⟨rfl, hm⟩ := lkB_mem hb
  obtain ⟨l1, l2, hl, hu⟩ := updB_split (cs := cs) hb
  have hap := h.heap.apart
  rw [hl] at hap
  have hnd := (blks_mid.nodup_iff).1 hap
  obtain ⟨hnot, _⟩ := List.nodup_cons.1 hnd
  have hrow := (h.heap.bx b hm).1
  have hother : ∀ g, g ∈ blks V ⟨l1 ++ l2, vc⟩ → (w.setRow (V.β b.id) ⟨cs.map (denA V)⟩).heap[g]? = w.heap[g]? := fun g hg =>
    setRow_other w _ g _ (fun e => hnot (e ▸ hg))
  have hD : D (V.β b.id) = 0 := (h.heap.bx b hm).2
  have hown := h.own (V.β b.id) (by rw [hl]; exact blks_mid.mem_iff.2 (List.mem_cons_self ..))
  have hfr : Frm (fun x => x = V.β b.id) w D (w.setRow (V.β b.id) ⟨cs.map (denA V)⟩) D :=
    ⟨rfl, rfl, rfl, by rw [size_setRow]; exact Nat.le_refl _, fun x _ hx => ⟨setRow_other w _ x _ hx, rfl⟩⟩
  have hle : Mem.le ⟨w, D⟩ ⟨w.setRow (V.β b.id) ⟨cs.map (denA V)⟩, D⟩ := Mem.le_same h.wf (fun x _ => ⟨Nat.le_refl _, fun h0 => setRow_other w _ x _ (fun e => by subst e; omega)⟩)
  have hbl : blks V ⟨updB bx b.id cs, vc⟩ = blks V ⟨bx, vc⟩ := by
    unfold blks
    rw [hu, hl]
    simp
  rw [hu]
  rw [hu] at hbl
  refine ⟨⟨fun x hx => ?_, fun x hx => ?_, by rw [hbl]; exact h.heap.apart, h.heap.uniq⟩, fun x hx => h.wf x (by rw [size_setRow] at hx; exact hx), h.frm.trans hfr (fun x hx => by subst hx; exact hown), ?_, h.baseB, h.baseV, ⟨fun x hx => ?_, h.ids.2⟩, Mem.le_trans h.le0 hle, h.m0, Mem.le_trans h.mle hle⟩
  · have hx' : x ∈ l1 ++ l2 ∨ x = ⟨b.id, b.ty, cs⟩ := by
      simp only [List.mem_append, List.mem_cons] at hx ⊢
      rcases hx with hx | hx | hx
      · exact .inl (.inl hx)
      · exact .inr hx
      · exact .inl (.inr hx)
    rcases hx' with hx' | rfl
    · have hin : x ∈ bx := by
        rw [hl]; simp only [List.mem_append, List.mem_cons] at hx' ⊢
        rcases hx' with h1 | h1
        · exact .inl h1
        · exact .inr (.inr h1)
      have hg : V.β x.id ∈ blks V ⟨l1 ++ l2, vc⟩ := by
        simp only [blks, List.mem_append, List.mem_map] at hx' ⊢
        exact .inl ⟨x, hx', rfl⟩
      obtain ⟨h1, h2⟩ := h.heap.bx x hin
      exact ⟨by rw [hother _ hg]; exact h1, h2⟩
    · exact ⟨setRow_heap w _ _ _ _ _ hrow, hD⟩
  · obtain ⟨h1, h2, h3, h4⟩ := h.heap.vc x hx
    exact ⟨own_same h1 (fun g hg => hother g (by
      simp only [blks, List.mem_append, List.mem_filterMap]
      exact .inr ⟨x, hx, hg⟩)), h2, h3, h4⟩
  · intro x hx
    rw [hbl] at hx
    exact h.own x hx
  · have hx' : x ∈ bx ∨ x = ⟨b.id, b.ty, cs⟩ := by
      rw [hl]
      simp only [List.mem_append, List.mem_cons] at hx ⊢
      rcases hx with hx | hx | hx
      · exact .inl (.inl hx)
      · exact .inr hx
      · exact .inl (.inr (.inr hx))
    rcases hx' with hx' | rfl
    · exact h.ids.1 x hx'
    · exact ⟨(h.ids.1 b hm).1, hok⟩

theorem HSat.permVc {vc' : List Vc} (h : HSat V D w ⟨bx, vc⟩) (hp : vc.Perm vc') : HSat V D w ⟨bx, vc'⟩ :=
  ⟨h.bx, fun b hb => h.vc b (hp.mem_iff.2 hb), by
    have : (blks V ⟨bx, vc⟩).Perm (blks V ⟨bx, vc'⟩) := List.Perm.append_left _ (hp.filterMap _)
    exact (this.nodup_iff).1 h.apart, ((hp.map _).nodup_iff).1 h.uniq⟩
theorem HSat.tailVc {b : Vc} (h : HSat V D w ⟨bx, b :: vc⟩) : HSat V D w ⟨bx, vc⟩ ∧ b.id ∉ vc.map (·.id) ∧ ∀ g, (V.γ b.id b.ver).blk = some g → g ∉ blks V ⟨bx, vc⟩ := by
  have hnd := (blks_cons.nodup_iff).1 h.apart
  have hu := List.nodup_cons.1 h.uniq
  refine ⟨⟨h.bx, fun x hx => h.vc x (List.mem_cons_of_mem _ hx), (List.nodup_append.1 hnd).2.1, hu.2⟩, hu.1, fun g hg hin => ?_⟩
  rw [hg] at hnd
  exact (List.nodup_cons.1 hnd).1 hin
/-- An own slice in a new state. -/
theorem SatW.updVc (h : SatW C bx vc nid m V D w) {k u n : Nat} {b : Vc} {hd : Hd} {xs : List Value} (hb : lkV vc k u = some b) (hbn : b.n * b.sz ≤ n * b.sz)
    (h1 : w'.os = w.os) (h2 : w'.tape = w.tape) (h3 : w'.output = w.output) (h4 : w.heap.size ≤ w'.heap.size)
    (hw : ∀ g, g < w.heap.size → (V.γ k u).blk ≠ some g → w'.heap[g]? = w.heap[g]?) (hkp : ∀ g, (V.γ k u).blk = some g → keepObj (b.n * b.sz) w.heap[g]? w'.heap[g]?)
    (hown : w'.ownsRow 0 b.el b.sz hd.val n xs) (hblk : ∀ g, hd.blk = some g → (V.γ k u).blk = some g ∨ w.heap.size ≤ g) (hone : ∀ y ∈ xs, y.oneCell' = true) :
    ∃ V', Agree nid vc V V' ∧ V'.γ k (u + 1) = hd ∧ SatW C bx (updV vc k (bumpV b n xs)) nid m V' D w' := by
  obtain ⟨hbi, hbv, hm⟩ := lkV_mem hb
  subst hbi
  subst hbv
  refine ⟨{ V with γ := fun i v => if i = b.id ∧ v = b.ver + 1 then hd else V.γ i v }, ?_, if_pos ⟨rfl, rfl⟩, ?_⟩
  · intro i hi
    refine ⟨rfl, fun v hv => if_neg ?_⟩
    rintro ⟨rfl, rfl⟩
    have := verLe_lk hb hv
    omega
  have ha : Agree nid vc V { V with γ := fun i v => if i = b.id ∧ v = b.ver + 1 then hd else V.γ i v } := by
    intro i hi
    refine ⟨rfl, fun v hv => if_neg ?_⟩
    rintro ⟨rfl, rfl⟩
    have := verLe_lk hb hv
    omega
  obtain ⟨l1, l2, hl, hu⟩ := updV_split (x := bumpV b n xs) hb
  have hp : vc.Perm (b :: (l1 ++ l2)) := by rw [hl]; exact List.perm_middle
  have hp' : (updV vc b.id (bumpV b n xs)).Perm (bumpV b n xs :: (l1 ++ l2)) := by rw [hu]; exact List.perm_middle
  have hmono : ∀ i v, verLe vc i v → verLe (updV vc b.id (bumpV b n xs)) i v := verLe_updV hb (by cases b; rfl) (by cases b; exact Nat.le_succ _)
  obtain ⟨ht, hid, hblkb⟩ := (h.heap.permVc hp).tailVc
  have hbo := h.heap.vc b hm
  have hlt := blks_lt h.heap
  have hltr := blks_lt ht
  have hrest : ∀ g, g ∈ blks V ⟨bx, l1 ++ l2⟩ → w'.heap[g]? = w.heap[g]? := fun g hg => hw g (hltr g hg) (fun e => hblkb g e hg)
  have hmem : ∀ x ∈ l1 ++ l2, x ∈ vc := fun x hx => hp.mem_iff.2 (List.mem_cons_of_mem _ hx)
  have ht' : HSat { V with γ := fun i v => if i = b.id ∧ v = b.ver + 1 then hd else V.γ i v } D w' ⟨bx, l1 ++ l2⟩ :=
    ht.frame (fun x hx => ⟨rfl, denL_agree ha (h.ids.1 x hx).2⟩) (fun x hx => (ha x.id (h.ids.2 x (hmem x hx))).2 x.ver (verLe_self h.heap.uniq (hmem x hx))) (fun g hg => ⟨hrest g hg, rfl⟩)
  have hbl : blks { V with γ := fun i v => if i = b.id ∧ v = b.ver + 1 then hd else V.γ i v } ⟨bx, l1 ++ l2⟩ = blks V ⟨bx, l1 ++ l2⟩ :=
    blks_eq (fun x hx => rfl) (fun x hx => (ha x.id (h.ids.2 x (hmem x hx))).2 x.ver (verLe_self h.heap.uniq (hmem x hx)))
  have hnew : (({ V with γ := fun i v => if i = b.id ∧ v = b.ver + 1 then hd else V.γ i v } : Vl).γ (bumpV b n xs).id (bumpV b n xs).ver) = hd := by
    cases b; exact if_pos ⟨rfl, rfl⟩
  have hD : ∀ g, hd.blk = some g → D g ≤ n * b.sz := fun g hg => by
    rcases hblk g hg with e | e
    · exact Nat.le_trans (hbo.2.1 g e) hbn
    · rw [h.wf g e]; exact Nat.zero_le _
  have hownblk : ∀ g, (V.γ b.id b.ver).blk = some g → C.F g ∨ C.w0.heap.size ≤ g := fun g hg => h.own g (by
    simp only [blks, List.mem_append, List.mem_filterMap]
    exact .inr ⟨b, hm, hg⟩)
  have hfr : Frm (fun x => (V.γ b.id b.ver).blk = some x) w D w' D := ⟨h1, h2, h3, h4, fun x hx hn => ⟨hw x hx hn, rfl⟩⟩
  have hle : Mem.le ⟨w, D⟩ ⟨w', D⟩ := fun x => ⟨Nat.le_refl _, fun h0 => by
    have hxl : x < w.heap.size := by
      rcases Nat.lt_or_ge x w.heap.size with h5 | h5
      · exact h5
      · have := h.wf x h5; dsimp only at h0; omega
    refine ⟨hxl, ?_⟩
    by_cases hx : (V.γ b.id b.ver).blk = some x
    · exact keepObj_trans (hbo.2.1 x hx) (keepObj_same (d := D x) rfl) (hkp x hx)
    · exact keepObj_same (hw x hxl hx)⟩
  have hcons : HSat { V with γ := fun i v => if i = b.id ∧ v = b.ver + 1 then hd else V.γ i v } D w' ⟨bx, bumpV b n xs :: (l1 ++ l2)⟩ := by
    refine ht'.consVc ?_ (by cases b; exact hid) ?_
    · unfold HVc
      rw [hnew]
      cases b
      exact ⟨hown, hD, hbo.2.2.1, hone⟩
    · rw [hnew]
      intro g hg hin
      rw [hbl] at hin
      rcases hblk g hg with e | e
      · exact hblkb g e hin
      · have := hltr g hin; omega
  refine ⟨hcons.permVc hp'.symm, fun x hx => h.wf x (Nat.le_trans h4 hx), h.frm.trans hfr hownblk, fun x hx => ?_, fun x hx => h.baseB x hx, fun x hx => ?_, ⟨fun x hx => ⟨(h.ids.1 x hx).1, okL_mono (Nat.le_refl _) (fun i v _ => hmono i v) (h.ids.1 x hx).2⟩, fun x hx => ?_⟩, Mem.le_trans h.le0 hle, h.m0, Mem.le_trans h.mle hle⟩
  · have hx' : x ∈ blks { V with γ := fun i v => if i = b.id ∧ v = b.ver + 1 then hd else V.γ i v } ⟨bx, bumpV b n xs :: (l1 ++ l2)⟩ := by
      have : (blks { V with γ := fun i v => if i = b.id ∧ v = b.ver + 1 then hd else V.γ i v } ⟨bx, updV vc b.id (bumpV b n xs)⟩).Perm _ := List.Perm.append_left _ (hp'.filterMap _)
      exact this.mem_iff.1 hx
    rcases mem_blks_cons.1 hx' with e | e
    · rw [hnew] at e
      rcases hblk x e with e' | e'
      · exact hownblk x e'
      · exact .inr (Nat.le_trans h.frm.size e')
    · rw [hbl] at e
      refine h.own x ?_
      have : (blks V ⟨bx, vc⟩).Perm _ := List.Perm.append_left _ (hp.filterMap _)
      exact this.mem_iff.2 (mem_blks_cons.2 (.inr e))
  · obtain ⟨e1, e2, e3⟩ := h.baseV x hx
    exact ⟨fun v hv => ((ha x.id e2).2 v (verLe_le e3 hv)).trans (e1 v hv), e2, hmono _ _ e3⟩
  · have := hp'.mem_iff.1 hx
    rcases List.mem_cons.1 this with rfl | hx
    · have := h.ids.2 b hm; cases b; exact this
    · exact h.ids.2 x (hmem x hx)
end
end Go.Proofs.YtmkifodpkcmgoaaDoor.E

/- The engine, part O: what comes back from a call. -/
import Derived.Test.YtmkifodpkcmgoaaDoorEngN
namespace Go.Proofs.YtmkifodpkcmgoaaDoor.E
open Go

theorem lkVi_self {vc : List Vc} : ∀ {b : Vc}, (vc.map (·.id)).Nodup → b ∈ vc → lkVi vc b.id = some b := by
  induction vc with
  | nil => intro b _ h; cases h
  | cons y r ih =>
    intro b hu h
    obtain ⟨i', v', e', z', n', x'⟩ := y
    simp only [List.map_cons, List.nodup_cons] at hu
    simp only [lkVi]
    rcases List.mem_cons.1 h with rfl | h
    · rw [if_pos rfl]
    · have : ¬ i' = b.id := fun e => hu.1 (by rw [e]; exact List.mem_map.2 ⟨b, h, rfl⟩)
      rw [if_neg this]
      exact ih hu.2 h
theorem verLe_lkVi {vc : List Vc} {k u : Nat} {b : Vc} (h : lkVi vc k = some b) (hv : verLe vc k u) : u ≤ b.ver := by
  induction vc with
  | nil => cases h
  | cons y r ih =>
    obtain ⟨i', v', e', z', n', x'⟩ := y
    simp only [lkVi] at h
    simp only [verLe] at hv
    split at h
    · rename_i e; cases h; rw [if_pos e] at hv; exact hv
    · rename_i e; rw [if_neg e] at hv; exact ih h hv
theorem ndL_nodup : ∀ {L : List Nat}, ndL L → L.Nodup
  | [], _ => List.nodup_nil
  | k :: r, h => List.nodup_cons.2 ⟨by have := h.1; simpa using this, ndL_nodup h.2⟩
theorem ltL_mem {n : Nat} : ∀ {L : List Nat}, ltL n L → ∀ k ∈ L, k < n
  | _ :: _, h, k, hk => (List.mem_cons.1 hk).elim (fun e => e ▸ h.1) (ltL_mem h.2 k)
theorem idxOf_get : ∀ {L : List Nat} {i j : Nat}, L.Nodup → L[j]? = some i → idxOf L i = some j
  | x :: r, i, 0, _, h => by simp at h; subst h; simp [idxOf]
  | x :: r, i, j + 1, hn, h => by
    simp only [List.getElem?_cons_succ] at h
    obtain ⟨h1, h2⟩ := List.nodup_cons.1 hn
    simp only [idxOf]
    rw [if_neg (fun e => h1 (by rw [e]; exact List.mem_of_getElem? h)), idxOf_get h2 h]
    rfl
theorem idsBx_mem : ∀ {bx : List Bx} {j : Nat}, (idsBx bx).contains j = true → ∃ b ∈ bx, b.id = j
  | ⟨k, t, cs⟩ :: r, j, h => by
    simp only [idsBx, List.contains_cons, Bool.or_eq_true, beq_iff_eq] at h
    rcases h with h | h
    · exact ⟨_, List.mem_cons_self .., h.symm⟩
    · obtain ⟨b, hb, e⟩ := idsBx_mem h; exact ⟨b, List.mem_cons_of_mem _ hb, e⟩
theorem idsVc_mem : ∀ {vc : List Vc} {j : Nat}, (idsVc vc).contains j = true → ∃ b ∈ vc, b.id = j
  | ⟨k, u, e, z, n, xs⟩ :: r, j, h => by
    simp only [idsVc, List.contains_cons, Bool.or_eq_true, beq_iff_eq] at h
    rcases h with h | h
    · exact ⟨_, List.mem_cons_self .., h.symm⟩
    · obtain ⟨b, hb, e⟩ := idsVc_mem h; exact ⟨b, List.mem_cons_of_mem _ hb, e⟩
theorem bkBx_mem {nB nV : List Nat} {len : Nat} : ∀ {bx : List Bx}, bkBx nB nV len bx → ∀ b ∈ bx, (b.id < len → nB.contains b.id = true) ∧ bkL nB nV len b.cs
  | ⟨k, t, cs⟩ :: r, h, b, hb => by
    rcases List.mem_cons.1 hb with rfl | hb
    · exact ⟨fun hl => by have := h.1; dsimp only at hl this; rwa [if_pos hl] at this, h.2.1⟩
    · exact bkBx_mem h.2.2 b hb
theorem bkVc_mem {nV : List Nat} {len : Nat} : ∀ {vc : List Vc}, bkVc nV len vc → ∀ b ∈ vc, b.id < len → nV.contains b.id = true
  | ⟨k, u, e, z, n, xs⟩ :: r, h, b, hb => by
    rcases List.mem_cons.1 hb with rfl | hb
    · exact fun hl => by have := h.1; dsimp only at hl this; rwa [if_pos hl] at this
    · exact bkVc_mem h.2 b hb
theorem okBxs_mem {nid : Nat} {vc : List Vc} : ∀ {bx : List Bx}, okBxs nid vc bx → ∀ b ∈ bx, okL nid vc b.cs
  | ⟨_, _, cs⟩ :: r, h, b, hb => by
    rcases List.mem_cons.1 hb with rfl | hb
    · exact h.1
    · exact okBxs_mem h.2 b hb
theorem verBk_mem {L : List Nat} {vc' : List Vc} : ∀ {vc : List Vc}, verBk L vc' vc → ∀ b ∈ vc, L.contains b.id = true → verLe vc' b.id b.ver
  | ⟨k, u, e, z, n, xs⟩ :: r, h, b, hb => by
    rcases List.mem_cons.1 hb with rfl | hb
    · exact fun hl => by have := h.1; dsimp only at hl; rwa [if_pos hl] at this
    · exact verBk_mem h.2 b hb
theorem topB_mem : ∀ {bx : List Bx} {b : Bx}, b ∈ bx → b.id < topB bx
  | ⟨k, t, cs⟩ :: r, b, hb => by
    simp only [topB]
    rcases List.mem_cons.1 hb with rfl | hb
    · dsimp only; omega
    · have := topB_mem hb; omega
theorem topV_mem : ∀ {vc : List Vc} {b : Vc}, b ∈ vc → b.id < topV vc
  | ⟨k, u, e, z, n, xs⟩ :: r, b, hb => by
    simp only [topV]
    rcases List.mem_cons.1 hb with rfl | hb
    · dsimp only; omega
    · have := topV_mem hb; omega
theorem verLe_app {a b : List Vc} {k u : Nat} (ha : verLe a k u) (hb : verLe b k u) : verLe (a ++ b) k u := by
  induction a with
  | nil => exact hb
  | cons y r ih =>
    obtain ⟨i', v', e', z', n', x'⟩ := y
    simp only [List.cons_append, verLe] at ha ⊢
    split
    · rename_i e; rw [if_pos e] at ha; exact ha
    · rename_i e; rw [if_neg e] at ha; exact ih ha
theorem verLe_none {a : List Vc} {k u : Nat} (h : ∀ b ∈ a, b.id ≠ k) : verLe a k u := by
  induction a with
  | nil => trivial
  | cons y r ih =>
    obtain ⟨i', v', e', z', n', x'⟩ := y
    simp only [verLe]
    rw [if_neg (h _ (List.mem_cons_self ..))]
    exact ih fun b hb => h b (List.mem_cons_of_mem _ hb)
theorem verLe_filter {p : Vc → Bool} {a : List Vc} {k u : Nat} (hu : (a.map (·.id)).Nodup) (h : verLe a k u) : verLe (a.filter p) k u := by
  induction a with
  | nil => trivial
  | cons y r ih =>
    simp only [List.map_cons, List.nodup_cons] at hu
    obtain ⟨i', v', e', z', n', x'⟩ := y
    simp only [verLe] at h
    simp only [List.filter_cons]
    split
    · simp only [verLe]
      split
      · rename_i e; rw [if_pos e] at h; exact h
      · rename_i e; rw [if_neg e] at h; exact ih hu.2 h
    · by_cases e : i' = k
      · refine verLe_none fun b hb => ?_
        rw [← e]
        exact fun e' => hu.1 (by dsimp only; rw [← e']; exact List.mem_map.2 ⟨b, (List.mem_filter.1 hb).1, rfl⟩)
      · rw [if_neg e] at h; exact ih hu.2 h

section
variable {C : Ctx} {st : LS} {V V2 : Vl} {D D2 : Nat → Nat} {w w2 : World} {L : List Nat} {r : SV} {H' : Hp} {m' : Mem}
def outV (st : LS) (L : List Nat) (V V2 : Vl) : Vl :=
  ⟨fun k => if k < st.nid then V.β k else V2.β (k - st.nid),
   fun k u => if k < st.nid then (match lkVi st.vc k with | some b => if L.contains k = true ∧ b.ver < u then V2.γ (ren L 0 k) u else V.γ k u | none => V.γ k u) else V2.γ (k - st.nid) u⟩
theorem outV_agree : Agree st.nid st.vc V (outV st L V V2) := by
  intro k hk
  refine ⟨if_pos hk, fun u hu => ?_⟩
  show (if k < st.nid then _ else _) = _
  rw [if_pos hk]
  split
  · rename_i b hb
    rw [if_neg (fun h => by have := verLe_lkVi hb hu; omega)]
  · rfl
theorem back_lt {j : Nat} (hj : j < L.length) : ∃ k, L[j]? = some k ∧ k ∈ L ∧ unren L st.nid j = k := by
  refine ⟨L[j], List.getElem?_eq_getElem hj, List.getElem_mem hj, ?_⟩
  unfold unren; rw [List.getElem?_eq_getElem hj]; rfl
theorem back_ge {j : Nat} (hj : ¬ j < L.length) : unren L st.nid j = st.nid + j := by
  unfold unren; rw [List.getElem?_eq_none (by omega)]; rfl
theorem out_β (hnd : L.Nodup) (hlt : ltL st.nid L) (hβ : ∀ b ∈ (hpIn st L).bx, V2.β b.id = (inV L V).β b.id) {j : Nat} (hj : j < L.length → (idsBx (hpIn st L).bx).contains j = true) :
    (outV st L V V2).β (unren L st.nid j) = V2.β j := by
  by_cases h : j < L.length
  · obtain ⟨k, hk, hm, he⟩ := back_lt (st := st) h
    rw [he]
    obtain ⟨b, hb, hbj⟩ := idsBx_mem (hj h)
    have hβb := hβ b hb
    obtain ⟨x, hx, rfl⟩ := List.mem_map.1 hb
    rw [(renBx_id _ x).1] at hbj hβb
    have hc := (pickB_mem hx).2
    have hxk : x.id = k := by
      have := (ren_get hc).1
      rw [hbj, hk] at this
      exact (Option.some.inj this).symm
    show (if k < st.nid then _ else _) = _
    rw [if_pos (ltL_mem hlt k hm), ← hxk, ← inV_β (V := V) hc, ← hβb, hbj]
  · rw [back_ge h]
    show (if st.nid + j < st.nid then _ else _) = _
    rw [if_neg (by omega), Nat.add_sub_cancel_left]
theorem out_γ (hnd : L.Nodup) (hlt : ltL st.nid L) (huq : (st.vc.map (·.id)).Nodup) (hγ : ∀ b ∈ (hpIn st L).vc, ∀ u, u ≤ b.ver → V2.γ b.id u = (inV L V).γ b.id u) {j : Nat} (hj : j < L.length → (idsVc (hpIn st L).vc).contains j = true) (u : Nat) :
    (outV st L V V2).γ (unren L st.nid j) u = V2.γ j u := by
  by_cases h : j < L.length
  · obtain ⟨k, hk, hm, he⟩ := back_lt (st := st) h
    rw [he]
    obtain ⟨b, hb, hbj⟩ := idsVc_mem (hj h)
    have hγb := hγ b hb
    obtain ⟨x, hx, rfl⟩ := List.mem_map.1 hb
    rw [(renVc_id _ x).1] at hbj hγb
    rw [(renVc_id _ x).2.1] at hγb
    obtain ⟨hxm, hc⟩ := pick_mem hx
    have hxk : x.id = k := by
      have := (ren_get hc).1
      rw [hbj, hk] at this
      exact (Option.some.inj this).symm
    show (if k < st.nid then _ else _) = _
    rw [if_pos (ltL_mem hlt k hm), ← hxk, lkVi_self huq hxm]
    dsimp only
    by_cases hu : x.ver < u
    · rw [if_pos ⟨hc, hu⟩, hbj]
    · rw [if_neg (fun h => hu h.2), ← inV_γ (V := V) hc, ← hγb u (by omega), hbj]
  · rw [back_ge h]
    show (if st.nid + j < st.nid then _ else _) = _
    rw [if_neg (by omega), Nat.add_sub_cancel_left]

structure Bk (st : LS) (L : List Nat) (V V2 : Vl) : Prop where
  β : ∀ j, (j < L.length → (idsBx (hpIn st L).bx).contains j = true) → (outV st L V V2).β (unren L st.nid j) = V2.β j
  γ : ∀ j u, (j < L.length → (idsVc (hpIn st L).vc).contains j = true) → (outV st L V V2).γ (unren L st.nid j) u = V2.γ j u
theorem ifc {p : Prop} [Decidable p] {q : Prop} (h : if p then q else True) : p → q := fun hp => by rwa [if_pos hp] at h
theorem bk_A (hb : Bk st L V V2) {s : SV} (h : bkA (idsBx (hpIn st L).bx) (idsVc (hpIn st L).vc) L.length s) : denA (outV st L V V2) (renA (unren L st.nid) s) = denA V2 s := by
  cases s with
  | v x => rfl
  | box k o => show Value.pointer _ = Value.pointer _; rw [hb.β k (ifc h)]
  | vec k u => show Hd.val _ = Hd.val _; rw [hb.γ k u (ifc h)]
  | vp k u o => show Value.pointer _ = Value.pointer _; rw [hb.γ k u (ifc h)]
  | agg cs => rfl
  | tup l => rfl
theorem bk_L (hb : Bk st L V V2) : ∀ {l : List SV}, bkL (idsBx (hpIn st L).bx) (idsVc (hpIn st L).vc) L.length l → (l.map (renA (unren L st.nid))).map (denA (outV st L V V2)) = l.map (denA V2)
  | [], _ => rfl
  | s :: r, h => by simp only [List.map_cons]; rw [bk_A hb h.1, bk_L hb h.2]
theorem bk_B (hb : Bk st L V V2) {s : SV} (h : bkB (idsBx (hpIn st L).bx) (idsVc (hpIn st L).vc) L.length s) : denB (outV st L V V2) (renB (unren L st.nid) s) = denB V2 s := by
  cases s with
  | agg cs => show Value.agg _ = Value.agg _; rw [bk_L hb h]
  | v x => rfl
  | box k o => exact bk_A (s := .box k o) hb h
  | vec k u => exact bk_A (s := .vec k u) hb h
  | vp k u o => exact bk_A (s := .vp k u o) hb h
  | tup l => rfl
theorem bk_T (hb : Bk st L V V2) : ∀ {l : List SV}, bkT (idsBx (hpIn st L).bx) (idsVc (hpIn st L).vc) L.length l → (l.map (renB (unren L st.nid))).map (denB (outV st L V V2)) = l.map (denB V2)
  | [], _ => rfl
  | s :: r, h => by simp only [List.map_cons]; rw [bk_B hb h.1, bk_T hb h.2]
theorem bk_S (hb : Bk st L V V2) {s : SV} (h : bkS (idsBx (hpIn st L).bx) (idsVc (hpIn st L).vc) L.length s) : den (outV st L V V2) (renS (unren L st.nid) s) = den V2 s := by
  cases s with
  | tup l => show Value.tuple _ = Value.tuple _; rw [bk_T hb h]
  | v x => rfl
  | box k o => exact bk_B (s := .box k o) hb h
  | vec k u => exact bk_B (s := .vec k u) hb h
  | vp k u o => exact bk_B (s := .vp k u o) hb h
  | agg cs => exact bk_B (s := .agg cs) hb h
theorem back_inj (hnd : L.Nodup) (hlt : ltL st.nid L) (j : Nat) : (fun k => if k < st.nid then ren L 0 k else k - st.nid) (unren L st.nid j) = j := by
  by_cases h : j < L.length
  · obtain ⟨k, hk, hm, he⟩ := back_lt (st := st) h
    dsimp only
    rw [he, if_pos (ltL_mem hlt k hm)]
    unfold ren
    rw [idxOf_get hnd hk]
    rfl
  · dsimp only
    rw [back_ge h, if_neg (by omega), Nat.add_sub_cancel_left]
theorem HSat.back (hb : Bk st L V V2) (hnd : L.Nodup) (hlt : ltL st.nid L) (h : HSat V2 D2 w2 H') (hbx : bkBx (idsBx (hpIn st L).bx) (idsVc (hpIn st L).vc) L.length H'.bx) (hvc : bkVc (idsVc (hpIn st L).vc) L.length H'.vc) :
    HSat (outV st L V V2) D2 w2 ⟨H'.bx.map (renBx (unren L st.nid)), H'.vc.map (renVc (unren L st.nid))⟩ ∧
      blks (outV st L V V2) ⟨H'.bx.map (renBx (unren L st.nid)), H'.vc.map (renVc (unren L st.nid))⟩ = blks V2 H' := by
  have hbl : blks (outV st L V V2) ⟨H'.bx.map (renBx (unren L st.nid)), H'.vc.map (renVc (unren L st.nid))⟩ = blks V2 H' := by
    unfold blks
    congr 1
    · rw [List.map_map]
      refine List.map_congr_left fun b hm => ?_
      show (outV st L V V2).β (renBx _ b).id = _
      rw [(renBx_id _ b).1, hb.β _ (bkBx_mem hbx b hm).1]
    · rw [List.filterMap_map]
      refine filterMap_congr' fun b hm => ?_
      show ((outV st L V V2).γ (renVc _ b).id (renVc _ b).ver).blk = _
      rw [(renVc_id _ b).1, (renVc_id _ b).2.1, hb.γ _ _ (bkVc_mem hvc b hm)]
  refine ⟨⟨fun b hm => ?_, fun b hm => ?_, by rw [hbl]; exact h.apart, ?_⟩, hbl⟩
  · obtain ⟨x, hx, rfl⟩ := List.mem_map.1 hm
    obtain ⟨e1, e2, e3⟩ := renBx_id (unren L st.nid) x
    obtain ⟨h1, h2⟩ := h.bx x hx
    unfold HBx
    rw [e1, e2, e3, hb.β _ (bkBx_mem hbx x hx).1, bk_L hb (bkBx_mem hbx x hx).2]
    exact ⟨h1, h2⟩
  · obtain ⟨x, hx, rfl⟩ := List.mem_map.1 hm
    obtain ⟨e1, e2, e3, e4, e5, e6⟩ := renVc_id (unren L st.nid) x
    have h1 := h.vc x hx
    unfold HVc
    rw [e1, e2, e3, e4, e5, e6, hb.γ _ _ (bkVc_mem hvc x hx)]
    exact h1
  · dsimp only
    rw [List.map_map]
    have : (H'.vc.map ((·.id) ∘ renVc (unren L st.nid))) = (H'.vc.map (·.id)).map (unren L st.nid) := by
      rw [List.map_map]
      exact List.map_congr_left fun b _ => (renVc_id _ b).1
    rw [this]
    exact nodup_inv (g := fun k => if k < st.nid then ren L 0 k else k - st.nid) (fun j _ => back_inj hnd hlt j) h.uniq

/-- BEHIND A CALL. -/
theorem SatW.call (h : SatW C st.bx st.vc st.nid st.m V D w) (hin : okIn st L []) (hbk : okBack st L r H' m')
    (wf2 : Wf w2 D2) (hs2 : HSat V2 D2 w2 H') (hβ : ∀ b ∈ (hpIn st L).bx, V2.β b.id = (inV L V).β b.id) (hγ : ∀ b ∈ (hpIn st L).vc, ∀ u, u ≤ b.ver → V2.γ b.id u = (inV L V).γ b.id u)
    (hfr : Frm (· ∈ blks (inV L V) (hpIn st L)) w D w2 D2) (hnew : ∀ b ∈ blks V2 H', b ∈ blks (inV L V) (hpIn st L) ∨ w.heap.size ≤ b) (hle : Mem.le ⟨w, D⟩ ⟨w2, D2⟩) (hm1 : st.m.le m') (hm2 : m'.le ⟨w2, D2⟩) :
    ∃ V3, Agree st.nid st.vc V V3 ∧ den V3 (renS (unren L st.nid) r) = den V2 r ∧ SatW C (backSt st L H' m').bx (backSt st L H' m').vc (backSt st L H' m').nid m' V3 D2 w2 ∧
      ∀ k u, k < st.nid → verLe st.vc k u → verLe (backSt st L H' m').vc k u := by
  obtain ⟨hnd, hlt, _, _⟩ := hin
  have hnd := ndL_nodup hnd
  obtain ⟨c1, c2, c3, c4, c5, c6⟩ := hbk
  have huq := h.heap.uniq
  have hb : Bk st L V V2 := ⟨fun j hj => out_β hnd hlt hβ hj, fun j u hj => out_γ hnd hlt huq hγ hj u⟩
  obtain ⟨hsn, hbl⟩ := hs2.back hb hnd hlt c2 c3
  have hsp := split_heap L h.heap
  obtain ⟨hp, hd, hdis⟩ := hsp.app
  have hag : Agree st.nid st.vc V (outV st L V V2) := outV_agree
  have hin' : blks (inV L V) (hpIn st L) = blks V ⟨pickBx L st.bx, pickVc L st.vc⟩ := blks_in
  have hbd : ∀ b ∈ dropBx L st.bx, b ∈ st.bx := fun b hb => (dropB_mem hb).1
  have hvd : ∀ b ∈ dropVc L st.vc, b ∈ st.vc := fun b hb => (drop_mem hb).1
  have hbld : blks (outV st L V V2) ⟨dropBx L st.bx, dropVc L st.vc⟩ = blks V ⟨dropBx L st.bx, dropVc L st.vc⟩ :=
    blks_eq (fun b hm => (hag b.id (h.ids.1 b (hbd b hm)).1).1) (fun b hm => (hag b.id (h.ids.2 b (hvd b hm))).2 b.ver (verLe_self huq (hvd b hm)))
  have hld := blks_lt hd
  have hd' : HSat (outV st L V V2) D2 w2 ⟨dropBx L st.bx, dropVc L st.vc⟩ :=
    hd.frame (fun b hm => ⟨(hag b.id (h.ids.1 b (hbd b hm)).1).1, denL_agree hag (h.ids.1 b (hbd b hm)).2⟩) (fun b hm => (hag b.id (h.ids.2 b (hvd b hm))).2 b.ver (verLe_self huq (hvd b hm)))
      (fun g hg => hfr.same g (hld g hg) (fun hx => hdis g (hin' ▸ hx) hg))
  have hall : HSat (outV st L V V2) D2 w2 ⟨H'.bx.map (renBx (unren L st.nid)) ++ dropBx L st.bx, H'.vc.map (renVc (unren L st.nid)) ++ dropVc L st.vc⟩ := by
    refine hsn.join hd' (fun g hg hg' => ?_) (fun x hx y hy => ?_)
    · rw [hbl] at hg
      rw [hbld] at hg'
      rcases hnew g hg with e | e
      · exact hdis g (hin' ▸ e) hg'
      · have := hld g hg'; omega
    · obtain ⟨z, hz, rfl⟩ := List.mem_map.1 hx
      rw [(renVc_id _ z).1]
      obtain ⟨hy1, hy2⟩ := drop_mem hy
      by_cases hl : z.id < L.length
      · obtain ⟨k, _, hkm, he⟩ := back_lt (st := st) hl
        rw [he]
        rintro rfl
        have : L.contains y.id = true := by simpa using hkm
        rw [this] at hy2; cases hy2
      · rw [back_ge hl]
        have := h.ids.2 y hy1
        omega
  have hmono : ∀ k u, k < st.nid → verLe st.vc k u → verLe (backSt st L H' m').vc k u := by
    intro k u hk hv
    show verLe (H'.vc.map (renVc (unren L st.nid)) ++ dropVc L st.vc) k u
    refine verLe_app ?_ (by rw [dropVc_eq]; exact verLe_filter huq hv)
    by_cases hkL : L.contains k = true
    · cases hlk : lkVi st.vc k with
      | none =>
        refine verLe_none fun b hbm e => ?_
        obtain ⟨z, hz, rfl⟩ := List.mem_map.1 hbm
        rw [(renVc_id _ z).1] at e
        by_cases hl : z.id < L.length
        · obtain ⟨k', hk', _, he⟩ := back_lt (st := st) hl
          rw [he] at e
          subst e
          obtain ⟨y, hy, hyz⟩ := idsVc_mem (bkVc_mem c3 z hz hl)
          obtain ⟨x, hx, rfl⟩ := List.mem_map.1 hy
          rw [(renVc_id _ x).1] at hyz
          obtain ⟨hxm, hc⟩ := pick_mem hx
          have := (ren_get hc).1
          rw [hyz, hk'] at this
          have hxk : x.id = k' := (Option.some.inj this).symm
          have := lkVi_self huq hxm
          rw [hxk, hlk] at this
          cases this
        · rw [back_ge hl] at e; omega
      | some b =>
        have hbm : b ∈ st.vc ∧ b.id = k := by
          clear hv
          revert hlk
          generalize st.vc = l
          intro hlk
          induction l with
          | nil => cases hlk
          | cons y r ih =>
            obtain ⟨i', v', e', z', n', x'⟩ := y
            simp only [lkVi] at hlk
            split at hlk
            · rename_i e; cases hlk; exact ⟨List.mem_cons_self .., e⟩
            · exact ⟨List.mem_cons_of_mem _ (ih hlk).1, (ih hlk).2⟩
        have h6 := verBk_mem c6 b hbm.1 (by rw [hbm.2]; exact hkL)
        rw [hbm.2] at h6
        exact verLe_le h6 (verLe_lkVi hlk hv)
    · refine verLe_none fun b hbm e => ?_
      obtain ⟨z, hz, rfl⟩ := List.mem_map.1 hbm
      rw [(renVc_id _ z).1] at e
      by_cases hl : z.id < L.length
      · obtain ⟨k', _, hm, he⟩ := back_lt (st := st) hl
        rw [he] at e
        subst e
        exact hkL (by simpa using hm)
      · rw [back_ge hl] at e; omega
  have hidb : ∀ j, j < max (topB H'.bx) (topV H'.vc) → unren L st.nid j < st.nid + max (topB H'.bx) (topV H'.vc) := by
    intro j hj
    by_cases hl : j < L.length
    · obtain ⟨k, _, hm, he⟩ := back_lt (st := st) hl
      rw [he]
      have := ltL_mem hlt k hm
      omega
    · rw [back_ge hl]; omega
  refine ⟨outV st L V V2, hag, bk_S hb c1, ⟨hall, wf2, h.frm.trans hfr (fun x hx => h.own x ((blks_split L st.bx st.vc).mem_iff.2 (List.mem_append_left _ (hin' ▸ hx)))), fun x hx => ?_, fun b hbm => ?_, fun b hbm => ?_, ⟨fun b hbm => ?_, fun b hbm => ?_⟩, Mem.le_trans h.le0 hle, Mem.le_trans h.m0 hm1, hm2⟩, hmono⟩
  · have hx' := (blks_app _ _ _ _).mem_iff.1 hx
    rcases List.mem_append.1 hx' with hx' | hx'
    · rw [hbl] at hx'
      rcases hnew x hx' with e | e
      · exact h.own x ((blks_split L st.bx st.vc).mem_iff.2 (List.mem_append_left _ (hin' ▸ e)))
      · exact .inr (Nat.le_trans h.frm.size e)
    · rw [hbld] at hx'
      exact h.own x ((blks_split L st.bx st.vc).mem_iff.2 (List.mem_append_right _ hx'))
  · obtain ⟨e1, e2⟩ := h.baseB b hbm
    exact ⟨((hag b.id e2).1).trans e1, Nat.lt_of_lt_of_le e2 (Nat.le_add_right _ _)⟩
  · obtain ⟨e1, e2, e3⟩ := h.baseV b hbm
    exact ⟨fun u hu => ((hag b.id e2).2 u (verLe_le e3 hu)).trans (e1 u hu), Nat.lt_of_lt_of_le e2 (Nat.le_add_right _ _), hmono _ _ e2 e3⟩
  · rcases List.mem_append.1 hbm with hbm | hbm
    · refine ⟨?_, okBxs_mem c5 b hbm⟩
      obtain ⟨x, hx, rfl⟩ := List.mem_map.1 hbm
      rw [(renBx_id _ x).1]
      exact hidb _ (Nat.lt_of_lt_of_le (topB_mem hx) (Nat.le_max_left _ _))
    · exact ⟨Nat.lt_of_lt_of_le (h.ids.1 b (hbd b hbm)).1 (Nat.le_add_right _ _), okL_mono (Nat.le_add_right _ _) hmono (h.ids.1 b (hbd b hbm)).2⟩
  · rcases List.mem_append.1 hbm with hbm | hbm
    · obtain ⟨x, hx, rfl⟩ := List.mem_map.1 hbm
      rw [(renVc_id _ x).1]
      exact hidb _ (Nat.lt_of_lt_of_le (topV_mem hx) (Nat.le_max_right _ _))
    · exact Nat.lt_of_lt_of_le (h.ids.2 b (hvd b hbm)) (Nat.le_add_right _ _)
end
end Go.Proofs.YtmkifodpkcmgoaaDoor.E

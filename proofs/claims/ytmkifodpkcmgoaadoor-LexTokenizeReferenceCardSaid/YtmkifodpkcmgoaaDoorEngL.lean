/- The engine, part L: a new box, a new slice, a store, an append: the state behind them. -/
import Derived.Test.YtmkifodpkcmgoaaDoorEngK
namespace Go.Proofs.YtmkifodpkcmgoaaDoor.E
open Go

section
variable {V V' : Vl} {D D' : Nat → Nat} {w w' : World} {bx : List Bx} {vc : List Vc} {nid : Nat}
theorem HSat.consBx {b : Bx} (h : HSat V D w ⟨bx, vc⟩) (hb : HBx V D w b) (hn : V.β b.id ∉ blks V ⟨bx, vc⟩) : HSat V D w ⟨b :: bx, vc⟩ :=
  ⟨fun x hx => (List.mem_cons.1 hx).elim (fun e => e ▸ hb) (h.bx x), h.vc, List.nodup_cons.2 ⟨hn, h.apart⟩, h.uniq⟩
theorem blks_cons {b : Vc} : (blks V ⟨bx, b :: vc⟩).Perm ((V.γ b.id b.ver).blk.toList ++ blks V ⟨bx, vc⟩) := by
  unfold blks
  simp only [List.filterMap_cons]
  cases (V.γ b.id b.ver).blk with
  | none => exact List.Perm.refl _
  | some g => exact List.perm_middle
theorem HSat.consVc {b : Vc} (h : HSat V D w ⟨bx, vc⟩) (hb : HVc V D w b) (hu : b.id ∉ vc.map (·.id)) (hn : ∀ g, (V.γ b.id b.ver).blk = some g → g ∉ blks V ⟨bx, vc⟩) : HSat V D w ⟨bx, b :: vc⟩ :=
  ⟨h.bx, fun x hx => (List.mem_cons.1 hx).elim (fun e => e ▸ hb) (h.vc x), by
    rw [blks_cons.nodup_iff]
    cases hg : (V.γ b.id b.ver).blk with
    | none => exact h.apart
    | some g => exact List.nodup_cons.2 ⟨hn g hg, h.apart⟩, List.nodup_cons.2 ⟨hu, h.uniq⟩⟩
theorem mem_blks_cons {b : Vc} {x : Nat} : x ∈ blks V ⟨bx, b :: vc⟩ ↔ (V.γ b.id b.ver).blk = some x ∨ x ∈ blks V ⟨bx, vc⟩ := by
  rw [blks_cons.mem_iff, List.mem_append]
  cases (V.γ b.id b.ver).blk <;> simp [eq_comm]

/-! What was all right stays all right. -/
theorem okA_mono {nid' : Nat} {vc' : List Vc} (hn : nid ≤ nid') (hv : ∀ k u, k < nid → verLe vc k u → verLe vc' k u) {s : SV} (h : okA nid vc s) : okA nid' vc' s := by
  cases s with
  | v x => trivial
  | box k o => exact Nat.lt_of_lt_of_le h hn
  | vec k u => exact ⟨Nat.lt_of_lt_of_le h.1 hn, hv k u h.1 h.2⟩
  | vp k u o => exact ⟨Nat.lt_of_lt_of_le h.1 hn, hv k u h.1 h.2⟩
  | agg cs => trivial
  | tup l => trivial
theorem okL_mono {nid' : Nat} {vc' : List Vc} (hn : nid ≤ nid') (hv : ∀ k u, k < nid → verLe vc k u → verLe vc' k u) : ∀ {l : List SV}, okL nid vc l → okL nid' vc' l
  | [], _ => trivial
  | _ :: _, h => ⟨okA_mono hn hv h.1, okL_mono hn hv h.2⟩
theorem okB_mono {nid' : Nat} {vc' : List Vc} (hn : nid ≤ nid') (hv : ∀ k u, k < nid → verLe vc k u → verLe vc' k u) {s : SV} (h : okB nid vc s) : okB nid' vc' s := by
  cases s with
  | agg cs => exact okL_mono hn hv h
  | v x => trivial
  | box k o => exact okA_mono (s := .box k o) hn hv h
  | vec k u => exact okA_mono (s := .vec k u) hn hv h
  | vp k u o => exact okA_mono (s := .vp k u o) hn hv h
  | tup l => trivial
theorem okT_mono {nid' : Nat} {vc' : List Vc} (hn : nid ≤ nid') (hv : ∀ k u, k < nid → verLe vc k u → verLe vc' k u) : ∀ {l : List SV}, okT nid vc l → okT nid' vc' l
  | [], _ => trivial
  | _ :: _, h => ⟨okB_mono hn hv h.1, okT_mono hn hv h.2⟩
theorem okS_mono {nid' : Nat} {vc' : List Vc} (hn : nid ≤ nid') (hv : ∀ k u, k < nid → verLe vc k u → verLe vc' k u) {s : SV} (h : okS nid vc s) : okS nid' vc' s := by
  cases s with
  | tup l => exact okT_mono hn hv h
  | v x => trivial
  | box k o => exact okB_mono (s := .box k o) hn hv h
  | vec k u => exact okB_mono (s := .vec k u) hn hv h
  | vp k u o => exact okB_mono (s := .vp k u o) hn hv h
  | agg cs => exact okB_mono (s := .agg cs) hn hv h
theorem verLe_cons {b : Vc} (hb : b.id = nid) : ∀ k u, k < nid → verLe vc k u → verLe (b :: vc) k u := by
  intro k u hk h
  obtain ⟨k', u', e', z', n', x'⟩ := b
  dsimp only at hb
  subst hb
  simp only [verLe]
  rw [if_neg (by omega)]
  exact h
theorem verLe_updV {k u : Nat} {b x : Vc} (hb : lkV vc k u = some b) (hx : x.id = k) (hu : u ≤ x.ver) : ∀ k' u', verLe vc k' u' → verLe (updV vc k x) k' u' := by
  intro k' u' h
  induction vc with
  | nil => cases hb
  | cons y r ih =>
    obtain ⟨i', v', e', z', n', x'⟩ := y
    obtain ⟨kx, ux, ex, zx, nx, xx⟩ := x
    dsimp only at hx hu
    subst hx
    simp only [lkV] at hb
    simp only [updV]
    simp only [verLe] at h
    by_cases he : i' = kx
    · rw [if_pos he] at hb ⊢
      split at hb
      · rename_i hv
        subst he
        simp only [verLe]
        split
        · rename_i e; rw [if_pos e] at h; omega
        · rename_i e; rw [if_neg e] at h; exact h
      · cases hb
    · rw [if_neg he] at hb ⊢
      simp only [verLe]
      split
      · rename_i e; rw [if_pos e] at h; exact h
      · rename_i e; rw [if_neg e] at h; exact ih hb h
theorem verLe_self {vc : List Vc} : ∀ {b : Vc}, (vc.map (·.id)).Nodup → b ∈ vc → verLe vc b.id b.ver := by
  induction vc with
  | nil => intro b _ h; cases h
  | cons y r ih =>
    intro b hu h
    obtain ⟨i', v', e', z', n', x'⟩ := y
    simp only [List.map_cons, List.nodup_cons] at hu
    simp only [verLe]
    rcases List.mem_cons.1 h with rfl | h
    · rw [if_pos rfl]; exact Nat.le_refl _
    · have : ¬ i' = b.id := fun e => hu.1 (by rw [e]; exact List.mem_map.2 ⟨b, h, rfl⟩)
      rw [if_neg this]
      exact ih hu.2 h
theorem verLe_le {vc : List Vc} {k v u : Nat} (h : verLe vc k v) (hu : u ≤ v) : verLe vc k u := by
  induction vc with
  | nil => trivial
  | cons y r ih =>
    obtain ⟨i', v', e', z', n', x'⟩ := y
    simp only [verLe] at h ⊢
    split
    · rename_i e; rw [if_pos e] at h; omega
    · rename_i e; rw [if_neg e] at h; exact ih h
theorem setB_agree (V : Vl) (g : Nat) : Agree nid vc V { V with β := fun k => if k = nid then g else V.β k } := fun k hk => ⟨if_neg (by omega), fun _ _ => rfl⟩
theorem setG_agree (V : Vl) (h : Hd) : Agree nid vc V { V with γ := fun k u => if k = nid then h else V.γ k u } := fun k hk => ⟨rfl, fun _ _ => if_neg (by omega)⟩
end

section
variable {C : Ctx} {bx : List Bx} {vc : List Vc} {nid : Nat} {m : Mem} {V : Vl} {D : Nat → Nat} {w : World}
theorem heap_alloc_lt (w : World) (o : Obj) (k : Nat) (h : k < w.heap.size) : (w.alloc o).heap[k]? = w.heap[k]? := Go.RowKit.Below.heap_alloc w o k h
/-- A step that leaves all that is there alone. -/
theorem SatW.keepH (h : SatW C bx vc nid m V D w) {V' : Vl} {w' : World} (ha : Agree nid vc V V') (hw : ∀ b, b < w.heap.size → w'.heap[b]? = w.heap[b]?) : HSat V' D w' ⟨bx, vc⟩ :=
  h.heap.frame (fun b hb => ⟨(ha b.id (h.ids.1 b hb).1).1, denL_agree ha (h.ids.1 b hb).2⟩)
    (fun b hb => (ha b.id (h.ids.2 b hb)).2 b.ver (verLe_self h.heap.uniq hb))
    fun g hg => ⟨hw g (blks_lt h.heap g hg), rfl⟩
theorem Frm.quiet {w' : World} {D' : Nat → Nat} (h1 : w'.os = w.os) (h2 : w'.tape = w.tape) (h3 : w'.output = w.output) (h4 : w.heap.size ≤ w'.heap.size) (hw : ∀ b, b < w.heap.size → w'.heap[b]? = w.heap[b]? ∧ D' b = D b) (F : Nat → Prop) : Frm F w D w' D' :=
  ⟨h1, h2, h3, h4, fun b hb _ => hw b hb⟩
/-- A new box. -/
theorem SatW.addBx (h : SatW C bx vc nid m V D w) {t : TypeId} {cs : List SV} (hok : okL nid vc cs) :
    ∃ V', Agree nid vc V V' ∧ V'.β nid = w.heap.size ∧ SatW C (⟨nid, t, cs⟩ :: bx) vc (nid + 1) m V' D (w.alloc (.cells ⟨cs.map (denA V)⟩ t)) := by
  refine ⟨{ V with β := fun k => if k = nid then w.heap.size else V.β k }, setB_agree V _, if_pos rfl, ?_⟩
  have ha := setB_agree (nid := nid) (vc := vc) V w.heap.size
  have hw : ∀ b, b < w.heap.size → (w.alloc (.cells ⟨cs.map (denA V)⟩ t)).heap[b]? = w.heap[b]? := fun b hb => heap_alloc_lt w _ b hb
  have hold := h.keepH ha hw
  have hlt := blks_lt hold
  have hbl : blks { V with β := fun k => if k = nid then w.heap.size else V.β k } ⟨bx, vc⟩ = blks V ⟨bx, vc⟩ :=
    blks_eq (fun b hb => (ha b.id (h.ids.1 b hb).1).1) (fun b hb => (ha b.id (h.ids.2 b hb)).2 b.ver (verLe_self h.heap.uniq hb))
  have hlt' := blks_lt h.heap
  have hD : D w.heap.size = 0 := h.wf _ (Nat.le_refl _)
  have hfr : Frm (fun _ => False) w D (w.alloc (.cells ⟨cs.map (denA V)⟩ t)) D := Frm.quiet (w := w) (w' := w.alloc (.cells ⟨cs.map (denA V)⟩ t)) rfl rfl rfl (by simp) (fun b hb => ⟨hw b hb, rfl⟩) _
  have hle : Mem.le ⟨w, D⟩ ⟨w.alloc (.cells ⟨cs.map (denA V)⟩ t), D⟩ := Mem.le_same h.wf (fun b hb => ⟨Nat.le_refl _, fun _ => hw b hb⟩)
  refine ⟨hold.consBx ⟨?_, ?_⟩ ?_, fun b hb => h.wf b (by simp at hb; omega), h.frm.trans hfr (fun _ h => h.elim), ?_, fun b hb => ?_, fun b hb => ?_, ⟨fun b hb => ?_, fun b hb => Nat.lt_succ_of_lt (h.ids.2 b hb)⟩, Mem.le_trans h.le0 hle, h.m0, Mem.le_trans h.mle hle⟩
  · show (w.alloc _).heap[(if nid = nid then w.heap.size else V.β nid)]? = _
    rw [if_pos rfl, denL_agree ha hok]
    exact heap_alloc_new w _
  · show D (if nid = nid then w.heap.size else V.β nid) = 0
    rw [if_pos rfl]; exact hD
  · show (if nid = nid then w.heap.size else V.β nid) ∉ _
    rw [if_pos rfl, hbl]
    exact fun hin => Nat.lt_irrefl _ (hlt' _ hin)
  · intro b hb
    rcases List.mem_cons.1 hb with rfl | hb
    · show C.F (if nid = nid then w.heap.size else V.β nid) ∨ C.w0.heap.size ≤ (if nid = nid then w.heap.size else V.β nid)
      rw [if_pos rfl]
      exact .inr h.frm.size
    · refine h.own b ?_
      rw [← hbl]; exact hb
  · obtain ⟨h1, h2⟩ := h.baseB b hb
    exact ⟨((ha b.id h2).1).trans h1, Nat.lt_succ_of_lt h2⟩
  · obtain ⟨h1, h2, h3⟩ := h.baseV b hb
    exact ⟨fun u hu => h1 u hu, Nat.lt_succ_of_lt h2, h3⟩
  · rcases List.mem_cons.1 hb with rfl | hb
    · exact ⟨Nat.lt_succ_self _, okL_mono (Nat.le_succ _) (fun _ _ _ h => h) hok⟩
    · exact ⟨Nat.lt_succ_of_lt (h.ids.1 b hb).1, okL_mono (Nat.le_succ _) (fun _ _ _ h => h) (h.ids.1 b hb).2⟩
/-- A new own slice, in a block that was not there. -/
theorem SatW.addVc (h : SatW C bx vc nid m V D w) {w' : World} {hd : Hd} {e : TypeId} {sz n : Nat} {xs : List Value}
    (h1 : w'.os = w.os) (h2 : w'.tape = w.tape) (h3 : w'.output = w.output) (h4 : w.heap.size ≤ w'.heap.size) (hw : ∀ b, b < w.heap.size → w'.heap[b]? = w.heap[b]?)
    (hown : w'.ownsRow 0 e sz hd.val n xs) (hnew : ∀ g, hd.blk = some g → w.heap.size ≤ g) (hsz : 0 < sz) (hone : ∀ u ∈ xs, u.oneCell' = true) :
    ∃ V', Agree nid vc V V' ∧ V'.γ nid 0 = hd ∧ SatW C bx (⟨nid, 0, e, sz, n, xs⟩ :: vc) (nid + 1) m V' D w' := by
  refine ⟨{ V with γ := fun k u => if k = nid then hd else V.γ k u }, setG_agree V _, if_pos rfl, ?_⟩
  have ha := setG_agree (nid := nid) (vc := vc) V hd
  have hold := h.keepH (w' := w') ha hw
  have hbl : blks { V with γ := fun k u => if k = nid then hd else V.γ k u } ⟨bx, vc⟩ = blks V ⟨bx, vc⟩ :=
    blks_eq (fun b hb => (ha b.id (h.ids.1 b hb).1).1) (fun b hb => (ha b.id (h.ids.2 b hb)).2 b.ver (verLe_self h.heap.uniq hb))
  have hlt := blks_lt h.heap
  have hfr : Frm (fun _ => False) w D w' D := Frm.quiet h1 h2 h3 h4 (fun b hb => ⟨hw b hb, rfl⟩) _
  have hle : Mem.le ⟨w, D⟩ ⟨w', D⟩ := Mem.le_same h.wf (fun b hb => ⟨Nat.le_refl _, fun _ => hw b hb⟩)
  have hmono : ∀ k u, k < nid → verLe vc k u → verLe (⟨nid, 0, e, sz, n, xs⟩ :: vc) k u := verLe_cons rfl
  refine ⟨hold.consVc ⟨?_, ?_, hsz, hone⟩ ?_ ?_, fun b hb => h.wf b (Nat.le_trans h4 hb), h.frm.trans hfr (fun _ h => h.elim), ?_, fun b hb => ?_, fun b hb => ?_, ⟨fun b hb => ?_, fun b hb => ?_⟩, Mem.le_trans h.le0 hle, h.m0, Mem.le_trans h.mle hle⟩
  · show w'.ownsRow 0 e sz (if nid = nid then hd else V.γ nid 0).val n xs
    rw [if_pos rfl]; exact hown
  · intro g hg
    have hg' : hd.blk = some g := by
      have : (if nid = nid then hd else V.γ nid 0).blk = some g := hg
      rwa [if_pos rfl] at this
    rw [h.wf g (hnew g hg')]
    exact Nat.zero_le _
  · intro hin
    obtain ⟨b, hb, hbi⟩ := List.mem_map.1 hin
    have := h.ids.2 b hb
    dsimp only at hbi
    omega
  · intro g hg hin
    have hg' : hd.blk = some g := by
      have : (if nid = nid then hd else V.γ nid 0).blk = some g := hg
      rwa [if_pos rfl] at this
    rw [hbl] at hin
    have := hlt g hin
    have := hnew g hg'
    omega
  · intro b hb
    rcases mem_blks_cons.1 hb with hb | hb
    · have hb' : hd.blk = some b := by
        have : (if nid = nid then hd else V.γ nid 0).blk = some b := hb
        rwa [if_pos rfl] at this
      exact .inr (Nat.le_trans h.frm.size (hnew b hb'))
    · rw [hbl] at hb
      exact h.own b hb
  · exact ⟨(h.baseB b hb).1, Nat.lt_succ_of_lt (h.baseB b hb).2⟩
  · obtain ⟨e1, e2, e3⟩ := h.baseV b hb
    exact ⟨fun u hu => ((ha b.id e2).2 u (verLe_le e3 hu)).trans (e1 u hu), Nat.lt_succ_of_lt e2, hmono _ _ e2 e3⟩
  · exact ⟨Nat.lt_succ_of_lt (h.ids.1 b hb).1, okL_mono (Nat.le_succ _) hmono (h.ids.1 b hb).2⟩
  · rcases List.mem_cons.1 hb with rfl | hb
    · exact Nat.lt_succ_self _
    · exact Nat.lt_succ_of_lt (h.ids.2 b hb)
end
end Go.Proofs.YtmkifodpkcmgoaaDoor.E

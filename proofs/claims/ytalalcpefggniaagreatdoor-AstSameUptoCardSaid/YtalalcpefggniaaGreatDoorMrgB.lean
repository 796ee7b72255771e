/- Several texts in one: EngJ, EngK, EngL, EngM, EngN, EngO, EngP, EngQ, EngR. -/
import Derived.Test.YtalalcpefggniaaGreatDoorMrgA
import Derived.Deep.AppendSrc
import Derived.Laws.MakeOwn
/- The engine, part J: how the state is kept when the world turns. -/
set_option linter.unusedSimpArgs false
set_option linter.unusedVariables false
namespace Go.Proofs.YtalalcpefggniaaGreatDoor.E
open Go

theorem keepObj_trans {d d' : Nat} {o o' o'' : Option Obj} (hd : d ≤ d') (h : keepObj d o o') (h' : keepObj d' o' o'') : keepObj d o o'' := by
  unfold keepObj at h
  split at h
  · rename_i c t f
    obtain ⟨c', t', f', rfl, h1⟩ := h
    obtain ⟨c'', t'', f'', rfl, h2⟩ := h'
    exact ⟨c'', t'', f'', rfl, fun j hj => (h2 j (by omega)).trans (h1 j hj)⟩
  · rename_i hne
    subst h
    unfold keepObj at h' ⊢
    split
    · exact absurd rfl (hne _ _ _)
    · split at h'
      · exact absurd rfl (hne _ _ _)
      · exact h'
theorem keepObj_same {d : Nat} {o o' : Option Obj} (h : o' = o) : keepObj d o o' := by
  subst h
  unfold keepObj
  split
  · exact ⟨_, _, _, rfl, fun _ _ => rfl⟩
  · rfl
theorem Mem.le_refl (m : Mem) (h : Wf m.w m.D) : m.le m := fun b => ⟨Nat.le_refl _, fun h0 => ⟨by
  rcases Nat.lt_or_ge b m.w.heap.size with h1 | h1
  · exact h1
  · rw [h b h1] at h0; omega, keepObj_same rfl⟩⟩
theorem Mem.le_trans {m m' m'' : Mem} (h : m.le m') (h' : m'.le m'') : m.le m'' := fun b =>
  ⟨Nat.le_trans (h b).1 (h' b).1, fun h0 => ⟨((h b).2 h0).1, keepObj_trans (h b).1 ((h b).2 h0).2 ((h' b).2 (Nat.lt_of_lt_of_le h0 (h b).1)).2⟩⟩
/-- A world in which the blocks that are read have stayed. -/
theorem Mem.le_same {w w' : World} {D D' : Nat → Nat} (hw : Wf w D) (h : ∀ b, b < w.heap.size → D b ≤ D' b ∧ (0 < D b → w'.heap[b]? = w.heap[b]?)) : Mem.le ⟨w, D⟩ ⟨w', D'⟩ := fun b => by
  rcases Nat.lt_or_ge b w.heap.size with h1 | h1
  · exact ⟨(h b h1).1, fun h0 => ⟨h1, keepObj_same ((h b h1).2 h0)⟩⟩
  · have := hw b h1
    exact ⟨by dsimp only; omega, fun h0 => by dsimp only at h0; omega⟩
theorem Frm.refl (F : Nat → Prop) (w : World) (D : Nat → Nat) : Frm F w D w D := ⟨rfl, rfl, rfl, Nat.le_refl _, fun _ _ _ => ⟨rfl, rfl⟩⟩
/-- Two steps: what the second may touch, the first may too, or it is new. -/
theorem Frm.trans {F S : Nat → Prop} {w w' w'' : World} {D D' D'' : Nat → Nat} (h : Frm F w D w' D') (h' : Frm S w' D' w'' D'') (hs : ∀ b, S b → F b ∨ w.heap.size ≤ b) : Frm F w D w'' D'' :=
  ⟨h'.os.trans h.os, h'.tape.trans h.tape, h'.output.trans h.output, Nat.le_trans h.size h'.size, fun b hb hF => by
    have h1 := h.same b hb hF
    have h2 := h'.same b (Nat.lt_of_lt_of_le hb h.size) (fun hS => (hs b hS).elim hF (fun h3 => by omega))
    exact ⟨h2.1.trans h1.1, h2.2.trans h1.2⟩⟩

/-! Values that name no block that is yet to come. -/
def Agree (nid : Nat) (vc : List Vc) (V V' : Vl) : Prop := ∀ k, k < nid → V'.β k = V.β k ∧ ∀ u, verLe vc k u → V'.γ k u = V.γ k u
/-- From one state to a later one: what was made stays. -/
structure Step (nid : Nat) (vc : List Vc) (nid' : Nat) (vc' : List Vc) (V V' : Vl) : Prop where
  agr : Agree nid vc V V'
  up : nid ≤ nid'
  ver : ∀ k u, k < nid → verLe vc k u → verLe vc' k u
theorem Agree.refl (nid : Nat) (vc : List Vc) (V : Vl) : Agree nid vc V V := fun _ _ => ⟨rfl, fun _ _ => rfl⟩
section
variable {nid : Nat} {vc : List Vc} {V V' : Vl}
theorem denA_agree (h : Agree nid vc V V') {s : SV} (hs : okA nid vc s) : denA V' s = denA V s := by
  cases s with
  | v x => rfl
  | box k o => show Value.pointer _ = _; rw [(h k hs).1]; rfl
  | vec k u => show (V'.γ k u).val = _; rw [(h k hs.1).2 u hs.2]; rfl
  | vp k u o => show Value.pointer ((V'.γ k u).a.map _) = _; rw [(h k hs.1).2 u hs.2]; rfl
  | mp k => show Value.map _ = _; rw [(h k hs).1]; rfl
  | agg cs => rfl
  | tup l => rfl
theorem denL_agree (h : Agree nid vc V V') : ∀ {l : List SV}, okL nid vc l → l.map (denA V') = l.map (denA V)
  | [], _ => rfl
  | s :: r, hs => by simp only [List.map_cons]; rw [denA_agree h hs.1, denL_agree h hs.2]
theorem denB_agree (h : Agree nid vc V V') {s : SV} (hs : okB nid vc s) : denB V' s = denB V s := by
  cases s with
  | agg cs => simp only [denB]; rw [denL_agree h hs]
  | v x => rfl
  | box k o => exact denA_agree (s := .box k o) h hs
  | vec k u => exact denA_agree (s := .vec k u) h hs
  | vp k u o => exact denA_agree (s := .vp k u o) h hs
  | mp k => exact denA_agree (s := .mp k) h hs
  | tup l => rfl
theorem denT_agree (h : Agree nid vc V V') : ∀ {l : List SV}, okT nid vc l → l.map (denB V') = l.map (denB V)
  | [], _ => rfl
  | s :: r, hs => by simp only [List.map_cons]; rw [denB_agree h hs.1, denT_agree h hs.2]
theorem den_agree (h : Agree nid vc V V') {s : SV} (hs : okS nid vc s) : den V' s = den V s := by
  cases s with
  | tup l => simp only [den]; rw [denT_agree h hs]
  | v x => rfl
  | box k o => exact denB_agree (s := .box k o) h hs
  | vec k u => exact denB_agree (s := .vec k u) h hs
  | vp k u o => exact denB_agree (s := .vp k u o) h hs
  | mp k => exact denB_agree (s := .mp k) h hs
  | agg cs => exact denB_agree (s := .agg cs) h hs
theorem lkE_mem : ∀ {env : List Ev} {t : Nat} {p : Pth} {s : SV}, lkE env t p = some s → ∃ e ∈ env, e.s = s
  | ⟨t', p', s'⟩ :: r, t, p, s, h => by
    simp only [lkE] at h
    split at h
    · split at h
      · cases h; exact ⟨_, List.mem_cons_self .., rfl⟩
      · cases h
    · obtain ⟨e, he, hs⟩ := lkE_mem h; exact ⟨e, List.mem_cons_of_mem _ he, hs⟩
theorem SatF.agree {n : Nat} {env : List Ev} {rho : List Gd} {a : Act} (hf : SatF n env rho a V) (hids : ∀ e ∈ env, okS nid vc e.s) (h : Agree nid vc V V') : SatF n env rho a V' :=
  ⟨hf.defers, hf.size, hf.pth, fun t p s hp hl hc => by
    obtain ⟨e, he, rfl⟩ := lkE_mem hl
    rw [hf.env t p _ hp hl hc, den_agree h (hids e he)], hf.rho⟩
end

section
variable {V V' : Vl} {D D' : Nat → Nat} {w w' : World} {H : Hp}
theorem own_blk {e : TypeId} {sz m : Nat} {xs : List Value} {h : Hd} (ho : w.ownsRow 0 e sz h.val m xs) {g : Nat} (hg : h.blk = some g) : h.val.ownBlock = some g ∧ g < w.heap.size := by
  have : h.val.ownBlock = some g := by
    unfold Hd.val Value.ownBlock
    unfold Hd.blk at hg
    cases ha : h.a with
    | none => rw [ha] at hg; cases hg
    | some ad => rw [ha] at hg; exact hg
  exact ⟨this, (ho.lt g this).2⟩
theorem blks_lt (h : HSat V D w H) : ∀ b ∈ blks V H, b < w.heap.size := by
  intro b hb
  simp only [blks, List.mem_append, List.mem_map, List.mem_filterMap] at hb
  rcases hb with ⟨x, hx, rfl⟩ | ⟨x, hx, hb⟩
  · obtain ⟨o, ho, _⟩ := (h.bx x hx).1
    exact (Array.getElem?_eq_some_iff.1 ho).1
  · exact (own_blk (h.vc x hx).1 hb).2
theorem own_same {e : TypeId} {sz m : Nat} {xs : List Value} {h : Hd} (ho : w.ownsRow 0 e sz h.val m xs) (hw : ∀ g, h.blk = some g → w'.heap[g]? = w.heap[g]?) : w'.ownsRow 0 e sz h.val m xs := by
  refine ⟨ho.1, ?_⟩
  rcases ho.2 with hn | ⟨g, cap, cur, hv, hb, hh, rest⟩
  · exact .inl hn
  · refine .inr ⟨g, cap, cur, hv, hb, ?_, rest⟩
    rw [hw g (by
      simp only [Hd.val, Value.slice.injEq] at hv
      simp [Hd.blk, hv.1])]
    exact hh
theorem filterMap_congr' {α β : Type} {f g : α → Option β} : ∀ {l : List α}, (∀ x ∈ l, f x = g x) → l.filterMap f = l.filterMap g
  | [], _ => rfl
  | x :: r, h => by
    rw [List.filterMap_cons, List.filterMap_cons, h x (List.mem_cons_self ..), filterMap_congr' fun y hy => h y (List.mem_cons_of_mem _ hy)]
theorem blks_eq (hb : ∀ b ∈ H.bx, V'.β b.id = V.β b.id) (hv : ∀ b ∈ H.vc, V'.γ b.id b.ver = V.γ b.id b.ver) : blks V' H = blks V H := by
  unfold blks
  congr 1
  · exact List.map_congr_left hb
  · exact filterMap_congr' fun x hx => by rw [hv x hx]
theorem HSat.frame (h : HSat V D w H) (hb : ∀ b ∈ H.bx, V'.β b.id = V.β b.id ∧ b.cs.map (denA V') = b.cs.map (denA V)) (hv : ∀ b ∈ H.vc, V'.γ b.id b.ver = V.γ b.id b.ver)
    (hw : ∀ g ∈ blks V H, w'.heap[g]? = w.heap[g]? ∧ D' g = D g) : HSat V' D' w' H := by
  refine ⟨fun b hm => ?_, fun b hm => ?_, by rw [blks_eq (fun b hm => (hb b hm).1) hv]; exact h.apart, h.uniq⟩
  · have hin : V.β b.id ∈ blks V H := by
      simp only [blks, List.mem_append, List.mem_map]
      exact .inl ⟨b, hm, rfl⟩
    obtain ⟨h1, h2⟩ := h.bx b hm
    unfold HBx
    rw [(hb b hm).1, (hb b hm).2, (hw _ hin).1, (hw _ hin).2]
    exact ⟨h1, h2⟩
  · have hin : ∀ g, (V.γ b.id b.ver).blk = some g → g ∈ blks V H := fun g hg => by
      simp only [blks, List.mem_append, List.mem_filterMap]
      exact .inr ⟨b, hm, hg⟩
    obtain ⟨h1, h2, h3, h4⟩ := h.vc b hm
    unfold HVc
    rw [hv b hm]
    exact ⟨own_same h1 fun g hg => (hw g (hin g hg)).1, fun g hg => by rw [(hw g (hin g hg)).2]; exact h2 g hg, h3, h4⟩
end
end Go.Proofs.YtalalcpefggniaaGreatDoor.E

/- The engine, part K: append. -/
set_option linter.unusedSimpArgs false
set_option linter.unusedVariables false
namespace Go.Proofs.YtalalcpefggniaaGreatDoor.E
open Go

theorem info_of {P : Program} {t : TypeId} (h : 0 < szT P t) : ∃ i, P.info? t = some i ∧ i.size = szT P t ∧ i.bytes = byT P t := by
  unfold szT at h ⊢
  unfold byT
  cases hi : P.info? t with
  | none => rw [hi] at h; simp at h
  | some i => exact ⟨i, rfl, rfl, rfl⟩
theorem zero_of {P : Program} {t : TypeId} {z : List SV} {i : TypeInfo} (hi : P.info? t = some i) (h : zeroO P t = some z) : ∃ zv, i.zero = some zv ∧ zv.cells.size = z.length := by
  unfold zeroO at h
  simp only [Option.map_eq_some_iff, Option.bind_eq_some_iff] at h
  obtain ⟨zv, ⟨i', hi', hz⟩, rfl⟩ := h
  rw [hi] at hi'
  cases hi'
  exact ⟨zv, hz, by simp⟩

section
variable {P : Program} {w : World}
theorem run_append_room_row (t tx ty e : TypeId) (i : TypeInfo) (ht : P.underlying t = some (.slice e)) (hi : P.info? e = some i) (g sLen sCap : Nat) (cur : Array Value) (hg : w.heap[g]? = some (.cells cur e (0, 0)))
    (x : Value) (m : Nat) (news : List Value) (hs : Src P i.size tx x m news w) (hroom : sLen + m ≤ sCap) (hfit : sLen * i.size + news.length ≤ cur.size) :
    (Builtin.append_ #[t, tx] ty #[.slice (some ⟨g, 0, none⟩) sLen sCap, x]).run P w =
      .ok (.slice (some ⟨g, 0, none⟩) (sLen + m) sCap) (w.setRow g (cur.toList.take (sLen * i.size) ++ news ++ cur.toList.drop (sLen * i.size + news.length)).toArray) := by
  have hst := run_storeCells_at P g (sLen * i.size) e news 0 cur w hg (by simpa using hfit) hs.one
  simp only [Nat.add_zero] at hst
  rcases hs.kind with ⟨e', hk⟩ | hk <;> simp [Builtin.append_, run_underlying ht, run_underlying hk, sizeOf, typeInfo, hi, hs.len, hroom, hs.cells, Addr.add_lit, hst]

theorem growcap_fits {need old by_ : Nat} (h : old < need) (hb : need * by_ ≤ 140737488355328) : Builtin.nextslicecap need old * by_ ≤ 281474976710656 := by
  have h1 := nextslicecap_le h
  have h2 : Builtin.nextslicecap need old * by_ ≤ 2 * need * by_ := Nat.mul_le_mul_right _ h1
  have h3 : 2 * need * by_ = 2 * (need * by_) := Nat.mul_assoc ..
  omega

/-- append onto an own slice: in place, or into a new block; the old block's first cells stay. -/
theorem run_append {t tx ty e : TypeId} {i : TypeInfo} {zv : Value} {h : Hd} {n m : Nat} {xs news : List Value} {x : Value}
    (ht : P.underlying t = some (.slice e)) (hi : P.info? e = some i) (hz : i.zero = some zv) (hzs : zv.cells.size = i.size)
    (hown : w.ownsRow 0 e i.size h.val n xs) (hs : Src P i.size tx x m news w) (hr : room (n + m) i.bytes) :
    ∃ (h' : Hd) (w' : World), (Builtin.append_ #[t, tx] ty #[h.val, x]).run P w = .ok h'.val w' ∧ w'.ownsRow 0 e i.size h'.val (n + m) (xs ++ news) ∧
      (w' = w ∧ h' = h ∨ (∃ g cur cur', h'.blk = some g ∧ h.blk = some g ∧ w.heap[g]? = some (.cells cur e (0, 0)) ∧ w' = w.setRow g cur' ∧ (∀ j, j < n * i.size → cur'[j]? = cur[j]?)) ∨
        (∃ c, h'.blk = some w.heap.size ∧ w' = w.drew.alloc (.cells c e))) := by
  obtain ⟨hb, h63⟩ := hr
  have hlen : (xs ++ news).length = (n + m) * i.size := by rw [List.length_append, hown.1, hs.newsLen, Nat.add_mul]
  have hsm : ((n + m : Nat) : Int) ≤ 9223372036854775807 := by simp only [maxLen] at h63; omega
  have grow : ∀ (old : Nat), old < n + m → (w.drew.alloc (.cells ((xs ++ news).toArray ++ Builtin.zeroCells zv.cells (grownCap w (n + m) old e - (n + m))) e)).ownsRow 0 e i.size
        (Hd.val ⟨some ⟨w.heap.size, 0, none⟩, n + m, grownCap w (n + m) old e⟩) (n + m) (xs ++ news) := by
    intro old ho
    have hge := grownCap_ge w (n + m) old e
    have hcm : grownCap w (n + m) old e ≤ maxLen := grownCap_le_maxLen w (n + m) old e h63
    refine ⟨hlen, .inr ⟨w.heap.size, _, _, rfl, Nat.zero_le _, heap_alloc_new w.drew _, hge, hcm, ?_, ?_⟩⟩
    · simp only [Array.size_append, List.size_toArray, size_zeroCells, hzs, hlen, ← Nat.add_mul]
      congr 1
      omega
    · simp only [Array.toList_append]
      rw [← hlen]
      exact List.take_left
  obtain ⟨ha, hn, hc⟩ : ∃ (a : Option Addr) (n' c : Nat), h = ⟨a, n', c⟩ := ⟨h.a, h.n, h.c, rfl⟩
  obtain ⟨c, rfl⟩ := hc
  rcases hown.2 with ⟨hv, hn0⟩ | ⟨g, cap, cur, hv, _, hg, hnc, hcm, hcs, htake⟩
  · simp only [Hd.val, Value.slice.injEq] at hv
    obtain ⟨rfl, rfl, rfl⟩ := hv
    subst hn0
    have hx : xs = [] := List.eq_nil_of_length_eq_zero (by simpa using hown.1)
    subst hx
    by_cases hm : m = 0
    · subst hm
      have hn : news = [] := List.eq_nil_of_length_eq_zero (by simpa using hs.newsLen)
      subst hn
      refine ⟨⟨none, 0, 0⟩, w, ?_, by simpa using hown, .inl ⟨rfl, rfl⟩⟩
      rcases hs.kind with ⟨e', hk⟩ | hk <;> simp [Hd.val, Builtin.append_, run_underlying ht, run_underlying hk, sizeOf, typeInfo, hi, hs.len, hs.cells]
    · have hr := run_append_grow_src w t tx ty e i zv ht hi hz none 0 0 [] (by simp [Builtin.firstCells]) x m news hs (by omega) hsm (growcap_fits (by omega) hb)
      exact ⟨⟨some ⟨w.heap.size, 0, none⟩, 0 + m, grownCap w (0 + m) 0 e⟩, _, hr, by have := grow 0 (by omega); simpa using this, .inr (.inr ⟨_, rfl, rfl⟩)⟩
  · simp only [Hd.val, Value.slice.injEq] at hv
    obtain ⟨rfl, rfl, rfl⟩ := hv
    by_cases hroom : hn + m ≤ c
    · have hfit : hn * i.size + news.length ≤ cur.size := by rw [hs.newsLen, hcs, ← Nat.add_mul]; exact Nat.mul_le_mul_right _ hroom
      have hr := run_append_room_row t tx ty e i ht hi g hn c cur hg x m news hs hroom hfit
      refine ⟨⟨some ⟨g, 0, none⟩, hn + m, c⟩, _, hr, ⟨hlen, .inr ⟨g, c, _, rfl, Nat.zero_le _, setRow_heap w g cur _ e _ hg, hroom, hcm, ?_, ?_⟩⟩, .inr (.inl ⟨g, cur, _, rfl, rfl, hg, rfl, fun j hj => ?_⟩)⟩
      · simp only [List.size_toArray, List.length_append, List.length_take, List.length_drop, Array.length_toList]
        omega
      · rw [htake, ← hlen]
        exact List.take_left
      · have hxl := hown.1
        simp only [List.getElem?_toArray]
        rw [List.append_assoc, List.getElem?_append_left (by rw [htake]; omega), List.getElem?_take, if_pos hj, Array.getElem?_toList]
    · have holds : ∀ j u, xs[j]? = some u → w.cell? ((⟨g, 0, none⟩ : Addr).add j) = some u := hown.cells (g := g) rfl
      have hf : (Builtin.firstCells i.size hn (.slice (some ⟨g, 0, none⟩) hn c)).run P w.drew = .ok xs.toArray w.drew := run_firstCells_some w.drew i.size hn ⟨g, 0, none⟩ hn c xs hown.1 (by simpa using holds)
      have hr := run_append_grow_src w t tx ty e i zv ht hi hz (some ⟨g, 0, none⟩) hn c xs hf x m news hs (by omega) hsm (growcap_fits (by omega) hb)
      exact ⟨⟨some ⟨w.heap.size, 0, none⟩, hn + m, grownCap w (hn + m) c e⟩, _, hr, grow c (by omega), .inr (.inr ⟨_, rfl, rfl⟩)⟩
end
end Go.Proofs.YtalalcpefggniaaGreatDoor.E

/- The engine, part L: a new box, a new slice, a store, an append: the state behind them. -/
set_option linter.unusedSimpArgs false
set_option linter.unusedVariables false
namespace Go.Proofs.YtalalcpefggniaaGreatDoor.E
open Go

section
variable {V V' : Vl} {D D' : Nat → Nat} {w w' : World} {bx : List Bx} {vc : List Vc} {nid : Nat}
theorem HSat.consBx {b : Bx} (h : HSat V D w ⟨bx, vc⟩) (hb : HBx V D w b) (hn : V.β b.id ∉ blks V ⟨bx, vc⟩) : HSat V D w ⟨b :: bx, vc⟩ :=
  ⟨fun x hx => (List.mem_cons.1 hx).elim (fun e => e ▸ hb) (h.bx x), h.vc, List.nodup_cons.2 ⟨hn, h.apart⟩, h.uniq⟩
theorem blks_cons {b : Vc} : (blks V ⟨bx, b :: vc⟩).Perm ((V.γ b.id b.ver).blk.toList ++ blks V ⟨bx, vc⟩) := by
  unfold blks
  simp only [List.filterMap_cons]
  cases (V.γ b.id b.ver).blk with
  | none => exact List.Perm.refl _
  | some g => exact List.perm_middle
theorem HSat.consVc {b : Vc} (h : HSat V D w ⟨bx, vc⟩) (hb : HVc V D w b) (hu : b.id ∉ vc.map (·.id)) (hn : ∀ g, (V.γ b.id b.ver).blk = some g → g ∉ blks V ⟨bx, vc⟩) : HSat V D w ⟨bx, b :: vc⟩ :=
  ⟨h.bx, fun x hx => (List.mem_cons.1 hx).elim (fun e => e ▸ hb) (h.vc x), by
    rw [blks_cons.nodup_iff]
    cases hg : (V.γ b.id b.ver).blk with
    | none => exact h.apart
    | some g => exact List.nodup_cons.2 ⟨hn g hg, h.apart⟩, List.nodup_cons.2 ⟨hu, h.uniq⟩⟩
theorem mem_blks_cons {b : Vc} {x : Nat} : x ∈ blks V ⟨bx, b :: vc⟩ ↔ (V.γ b.id b.ver).blk = some x ∨ x ∈ blks V ⟨bx, vc⟩ := by
  rw [blks_cons.mem_iff, List.mem_append]
  cases (V.γ b.id b.ver).blk <;> simp [eq_comm]

/-! What was all right stays all right. -/
theorem okA_mono {nid' : Nat} {vc' : List Vc} (hn : nid ≤ nid') (hv : ∀ k u, k < nid → verLe vc k u → verLe vc' k u) {s : SV} (h : okA nid vc s) : okA nid' vc' s := by
  cases s with
  | v x => trivial
  | box k o => exact Nat.lt_of_lt_of_le h hn
  | vec k u => exact ⟨Nat.lt_of_lt_of_le h.1 hn, hv k u h.1 h.2⟩
  | vp k u o => exact ⟨Nat.lt_of_lt_of_le h.1 hn, hv k u h.1 h.2⟩
  | mp k => exact Nat.lt_of_lt_of_le h hn
  | agg cs => trivial
  | tup l => trivial
theorem okL_mono {nid' : Nat} {vc' : List Vc} (hn : nid ≤ nid') (hv : ∀ k u, k < nid → verLe vc k u → verLe vc' k u) : ∀ {l : List SV}, okL nid vc l → okL nid' vc' l
  | [], _ => trivial
  | _ :: _, h => ⟨okA_mono hn hv h.1, okL_mono hn hv h.2⟩
theorem okB_mono {nid' : Nat} {vc' : List Vc} (hn : nid ≤ nid') (hv : ∀ k u, k < nid → verLe vc k u → verLe vc' k u) {s : SV} (h : okB nid vc s) : okB nid' vc' s := by
  cases s with
  | agg cs => exact okL_mono hn hv h
  | v x => trivial
  | box k o => exact okA_mono (s := .box k o) hn hv h
  | vec k u => exact okA_mono (s := .vec k u) hn hv h
  | vp k u o => exact okA_mono (s := .vp k u o) hn hv h
  | mp k => exact okA_mono (s := .mp k) hn hv h
  | tup l => trivial
theorem okT_mono {nid' : Nat} {vc' : List Vc} (hn : nid ≤ nid') (hv : ∀ k u, k < nid → verLe vc k u → verLe vc' k u) : ∀ {l : List SV}, okT nid vc l → okT nid' vc' l
  | [], _ => trivial
  | _ :: _, h => ⟨okB_mono hn hv h.1, okT_mono hn hv h.2⟩
theorem okS_mono {nid' : Nat} {vc' : List Vc} (hn : nid ≤ nid') (hv : ∀ k u, k < nid → verLe vc k u → verLe vc' k u) {s : SV} (h : okS nid vc s) : okS nid' vc' s := by
  cases s with
  | tup l => exact okT_mono hn hv h
  | v x => trivial
  | box k o => exact okB_mono (s := .box k o) hn hv h
  | vec k u => exact okB_mono (s := .vec k u) hn hv h
  | vp k u o => exact okB_mono (s := .vp k u o) hn hv h
  | mp k => exact okB_mono (s := .mp k) hn hv h
  | agg cs => exact okB_mono (s := .agg cs) hn hv h
theorem verLe_cons {b : Vc} (hb : b.id = nid) : ∀ k u, k < nid → verLe vc k u → verLe (b :: vc) k u := by
  intro k u hk h
  obtain ⟨k', u', e', z', n', x'⟩ := b
  dsimp only at hb
  subst hb
  simp only [verLe]
  rw [if_neg (by omega)]
  exact h
theorem verLe_updV {k u : Nat} {b x : Vc} (hb : lkV vc k u = some b) (hx : x.id = k) (hu : u ≤ x.ver) : ∀ k' u', verLe vc k' u' → verLe (updV vc k x) k' u' := by
  intro k' u' h
  induction vc with
  | nil => cases hb
  | cons y r ih =>
    obtain ⟨i', v', e', z', n', x'⟩ := y
    obtain ⟨kx, ux, ex, zx, nx, xx⟩ := x
    dsimp only at hx hu
    subst hx
    simp only [lkV] at hb
    simp only [updV]
    simp only [verLe] at h
    by_cases he : i' = kx
    · rw [if_pos he] at hb ⊢
      split at hb
      · rename_i hv
        subst he
        simp only [verLe]
        split
        · rename_i e; rw [if_pos e] at h; omega
        · rename_i e; rw [if_neg e] at h; exact h
      · cases hb
    · rw [if_neg he] at hb ⊢
      simp only [verLe]
      split
      · rename_i e; rw [if_pos e] at h; exact h
      · rename_i e; rw [if_neg e] at h; exact ih hb h
theorem verLe_self {vc : List Vc} : ∀ {b : Vc}, (vc.map (·.id)).Nodup → b ∈ vc → verLe vc b.id b.ver := by
  induction vc with
  | nil => intro b _ h; cases h
  | cons y r ih =>
    intro b hu h
    obtain ⟨i', v', e', z', n', x'⟩ := y
    simp only [List.map_cons, List.nodup_cons] at hu
    simp only [verLe]
    rcases List.mem_cons.1 h with rfl | h
    · rw [if_pos rfl]; exact Nat.le_refl _
    · have : ¬ i' = b.id := fun e => hu.1 (by rw [e]; exact List.mem_map.2 ⟨b, h, rfl⟩)
      rw [if_neg this]
      exact ih hu.2 h
theorem verLe_le {vc : List Vc} {k v u : Nat} (h : verLe vc k v) (hu : u ≤ v) : verLe vc k u := by
  induction vc with
  | nil => trivial
  | cons y r ih =>
    obtain ⟨i', v', e', z', n', x'⟩ := y
    simp only [verLe] at h ⊢
    split
    · rename_i e; rw [if_pos e] at h; omega
    · rename_i e; rw [if_neg e] at h; exact ih h
theorem setB_agree (V : Vl) (g : Nat) : Agree nid vc V { V with β := fun k => if k = nid then g else V.β k } := fun k hk => ⟨if_neg (by omega), fun _ _ => rfl⟩
theorem setG_agree (V : Vl) (h : Hd) : Agree nid vc V { V with γ := fun k u => if k = nid then h else V.γ k u } := fun k hk => ⟨rfl, fun _ _ => if_neg (by omega)⟩
end

section
variable {C : Ctx} {bx : List Bx} {vc : List Vc} {nid : Nat} {m : Mem} {V : Vl} {D : Nat → Nat} {w : World}
theorem heap_alloc_lt (w : World) (o : Obj) (k : Nat) (h : k < w.heap.size) : (w.alloc o).heap[k]? = w.heap[k]? := Go.RowKit.Below.heap_alloc w o k h
/-- A step that leaves all that is there alone. -/
theorem SatW.keepH (h : SatW C bx vc nid m V D w) {V' : Vl} {w' : World} (ha : Agree nid vc V V') (hw : ∀ b, b < w.heap.size → w'.heap[b]? = w.heap[b]?) : HSat V' D w' ⟨bx, vc⟩ :=
  h.heap.frame (fun b hb => ⟨(ha b.id (h.ids.1 b hb).1).1, denL_agree ha (h.ids.1 b hb).2⟩)
    (fun b hb => (ha b.id (h.ids.2 b hb)).2 b.ver (verLe_self h.heap.uniq hb))
    fun g hg => ⟨hw g (blks_lt h.heap g hg), rfl⟩
theorem Frm.quiet {w' : World} {D' : Nat → Nat} (h1 : w'.os = w.os) (h2 : w'.tape = w.tape) (h3 : w'.output = w.output) (h4 : w.heap.size ≤ w'.heap.size) (hw : ∀ b, b < w.heap.size → w'.heap[b]? = w.heap[b]? ∧ D' b = D b) (F : Nat → Prop) : Frm F w D w' D' :=
  ⟨h1, h2, h3, h4, fun b hb _ => hw b hb⟩
/-- A new box. -/
theorem bxObj_cells {t : TypeId} {vs : List Value} (h : (t == mapTy) = false) : bxObj t vs (.cells ⟨vs⟩ t (0, 0)) := by
  unfold bxObj
  rw [if_neg (by simpa using h)]
theorem bxObj_is {t : TypeId} {vs : List Value} {o : Obj} (h : (t == mapTy) = false) (ho : bxObj t vs o) : o = .cells ⟨vs⟩ t (0, 0) := by
  unfold bxObj at ho
  rwa [if_neg (by simpa using h)] at ho
theorem SatW.addBx (h : SatW C bx vc nid m V D w) {t : TypeId} {cs : List SV} {o : Obj} (ho : bxObj t (cs.map (denA V)) o) (hok : okL nid vc cs) :
    ∃ V', Agree nid vc V V' ∧ V'.β nid = w.heap.size ∧ SatW C (⟨nid, t, cs⟩ :: bx) vc (nid + 1) m V' D (w.alloc o) := by
  refine ⟨{ V with β := fun k => if k = nid then w.heap.size else V.β k }, setB_agree V _, if_pos rfl, ?_⟩
  have ha := setB_agree (nid := nid) (vc := vc) V w.heap.size
  have hw : ∀ b, b < w.heap.size → (w.alloc o).heap[b]? = w.heap[b]? := fun b hb => heap_alloc_lt w _ b hb
  have hold := h.keepH ha hw
  have hlt := blks_lt hold
  have hbl : blks { V with β := fun k => if k = nid then w.heap.size else V.β k } ⟨bx, vc⟩ = blks V ⟨bx, vc⟩ :=
    blks_eq (fun b hb => (ha b.id (h.ids.1 b hb).1).1) (fun b hb => (ha b.id (h.ids.2 b hb)).2 b.ver (verLe_self h.heap.uniq hb))
  have hlt' := blks_lt h.heap
  have hD : D w.heap.size = 0 := h.wf _ (Nat.le_refl _)
  have hfr : Frm (fun _ => False) w D (w.alloc o) D := Frm.quiet (w := w) (w' := w.alloc o) rfl rfl rfl (by simp) (fun b hb => ⟨hw b hb, rfl⟩) _
  have hle : Mem.le ⟨w, D⟩ ⟨w.alloc o, D⟩ := Mem.le_same h.wf (fun b hb => ⟨Nat.le_refl _, fun _ => hw b hb⟩)
  refine ⟨hold.consBx ⟨?_, ?_⟩ ?_, fun b hb => h.wf b (by simp at hb; omega), h.frm.trans hfr (fun _ h => h.elim), ?_, fun b hb => ?_, fun b hb => ?_, ⟨fun b hb => ?_, fun b hb => Nat.lt_succ_of_lt (h.ids.2 b hb)⟩, Mem.le_trans h.le0 hle, h.m0, Mem.le_trans h.mle hle⟩
  · refine ⟨o, ?_, ?_⟩
    · show (w.alloc _).heap[(if nid = nid then w.heap.size else V.β nid)]? = _
      rw [if_pos rfl]
      exact heap_alloc_new w _
    · show bxObj t (cs.map (denA _)) o
      rw [denL_agree ha hok]; exact ho
  · show D (if nid = nid then w.heap.size else V.β nid) = 0
    rw [if_pos rfl]; exact hD
  · show (if nid = nid then w.heap.size else V.β nid) ∉ _
    rw [if_pos rfl, hbl]
    exact fun hin => Nat.lt_irrefl _ (hlt' _ hin)
  · intro b hb
    rcases List.mem_cons.1 hb with rfl | hb
    · show C.F (if nid = nid then w.heap.size else V.β nid) ∨ C.w0.heap.size ≤ (if nid = nid then w.heap.size else V.β nid)
      rw [if_pos rfl]
      exact .inr h.frm.size
    · refine h.own b ?_
      rw [← hbl]; exact hb
  · obtain ⟨h1, h2⟩ := h.baseB b hb
    exact ⟨((ha b.id h2).1).trans h1, Nat.lt_succ_of_lt h2⟩
  · obtain ⟨h1, h2, h3⟩ := h.baseV b hb
    exact ⟨fun u hu => h1 u hu, Nat.lt_succ_of_lt h2, h3⟩
  · rcases List.mem_cons.1 hb with rfl | hb
    · exact ⟨Nat.lt_succ_self _, okL_mono (Nat.le_succ _) (fun _ _ _ h => h) hok⟩
    · exact ⟨Nat.lt_succ_of_lt (h.ids.1 b hb).1, okL_mono (Nat.le_succ _) (fun _ _ _ h => h) (h.ids.1 b hb).2⟩
/-- A new own slice, in a block that was not there. -/
theorem SatW.addVc (h : SatW C bx vc nid m V D w) {w' : World} {hd : Hd} {e : TypeId} {sz n : Nat} {xs : List Value}
    (h1 : w'.os = w.os) (h2 : w'.tape = w.tape) (h3 : w'.output = w.output) (h4 : w.heap.size ≤ w'.heap.size) (hw : ∀ b, b < w.heap.size → w'.heap[b]? = w.heap[b]?)
    (hown : w'.ownsRow 0 e sz hd.val n xs) (hnew : ∀ g, hd.blk = some g → w.heap.size ≤ g) (hsz : 0 < sz) (hone : ∀ u ∈ xs, u.oneCell' = true) :
    ∃ V', Agree nid vc V V' ∧ V'.γ nid 0 = hd ∧ SatW C bx (⟨nid, 0, e, sz, n, xs⟩ :: vc) (nid + 1) m V' D w' := by
  refine ⟨{ V with γ := fun k u => if k = nid then hd else V.γ k u }, setG_agree V _, if_pos rfl, ?_⟩
  have ha := setG_agree (nid := nid) (vc := vc) V hd
  have hold := h.keepH (w' := w') ha hw
  have hbl : blks { V with γ := fun k u => if k = nid then hd else V.γ k u } ⟨bx, vc⟩ = blks V ⟨bx, vc⟩ :=
    blks_eq (fun b hb => (ha b.id (h.ids.1 b hb).1).1) (fun b hb => (ha b.id (h.ids.2 b hb)).2 b.ver (verLe_self h.heap.uniq hb))
  have hlt := blks_lt h.heap
  have hfr : Frm (fun _ => False) w D w' D := Frm.quiet h1 h2 h3 h4 (fun b hb => ⟨hw b hb, rfl⟩) _
  have hle : Mem.le ⟨w, D⟩ ⟨w', D⟩ := Mem.le_same h.wf (fun b hb => ⟨Nat.le_refl _, fun _ => hw b hb⟩)
  have hmono : ∀ k u, k < nid → verLe vc k u → verLe (⟨nid, 0, e, sz, n, xs⟩ :: vc) k u := verLe_cons rfl
  refine ⟨hold.consVc ⟨?_, ?_, hsz, hone⟩ ?_ ?_, fun b hb => h.wf b (Nat.le_trans h4 hb), h.frm.trans hfr (fun _ h => h.elim), ?_, fun b hb => ?_, fun b hb => ?_, ⟨fun b hb => ?_, fun b hb => ?_⟩, Mem.le_trans h.le0 hle, h.m0, Mem.le_trans h.mle hle⟩
  · show w'.ownsRow 0 e sz (if nid = nid then hd else V.γ nid 0).val n xs
    rw [if_pos rfl]; exact hown
  · intro g hg
    have hg' : hd.blk = some g := by
      have : (if nid = nid then hd else V.γ nid 0).blk = some g := hg
      rwa [if_pos rfl] at this
    rw [h.wf g (hnew g hg')]
    exact Nat.zero_le _
  · intro hin
    obtain ⟨b, hb, hbi⟩ := List.mem_map.1 hin
    have := h.ids.2 b hb
    dsimp only at hbi
    omega
  · intro g hg hin
    have hg' : hd.blk = some g := by
      have : (if nid = nid then hd else V.γ nid 0).blk = some g := hg
      rwa [if_pos rfl] at this
    rw [hbl] at hin
    have := hlt g hin
    have := hnew g hg'
    omega
  · intro b hb
    rcases mem_blks_cons.1 hb with hb | hb
    · have hb' : hd.blk = some b := by
        have : (if nid = nid then hd else V.γ nid 0).blk = some b := hb
        rwa [if_pos rfl] at this
      exact .inr (Nat.le_trans h.frm.size (hnew b hb'))
    · rw [hbl] at hb
      exact h.own b hb
  · exact ⟨(h.baseB b hb).1, Nat.lt_succ_of_lt (h.baseB b hb).2⟩
  · obtain ⟨e1, e2, e3⟩ := h.baseV b hb
    exact ⟨fun u hu => ((ha b.id e2).2 u (verLe_le e3 hu)).trans (e1 u hu), Nat.lt_succ_of_lt e2, hmono _ _ e2 e3⟩
  · exact ⟨Nat.lt_succ_of_lt (h.ids.1 b hb).1, okL_mono (Nat.le_succ _) hmono (h.ids.1 b hb).2⟩
  · rcases List.mem_cons.1 hb with rfl | hb
    · exact Nat.lt_succ_self _
    · exact Nat.lt_succ_of_lt (h.ids.2 b hb)
end
end Go.Proofs.YtalalcpefggniaaGreatDoor.E

/- The engine, part M: a store into a box; an append to an own slice; an own slice shown. -/
set_option linter.unusedSimpArgs false
set_option linter.unusedVariables false
namespace Go.Proofs.YtalalcpefggniaaGreatDoor.E
open Go

theorem updB_split {k : Nat} {b : Bx} {cs : List SV} : ∀ {bx : List Bx}, lkB bx k = some b → ∃ l1 l2, bx = l1 ++ b :: l2 ∧ updB bx k cs = l1 ++ ⟨b.id, b.ty, cs⟩ :: l2
  | [], h => by cases h
  | ⟨k', t', c'⟩ :: r, h => by
    simp only [lkB] at h
    simp only [updB]
    split at h
    · rename_i e; cases h; rw [if_pos e]; exact ⟨[], r, rfl, rfl⟩
    · rename_i e
      rw [if_neg e]
      obtain ⟨l1, l2, h1, h2⟩ := updB_split (cs := cs) h
      exact ⟨⟨k', t', c'⟩ :: l1, l2, by rw [h1]; rfl, by rw [h2]; rfl⟩
theorem updV_split {k u : Nat} {b x : Vc} : ∀ {vc : List Vc}, lkV vc k u = some b → ∃ l1 l2, vc = l1 ++ b :: l2 ∧ updV vc k x = l1 ++ x :: l2
  | [], h => by cases h
  | ⟨k', u', e', z', n', x'⟩ :: r, h => by
    simp only [lkV] at h
    simp only [updV]
    split at h
    · rename_i e
      split at h
      · cases h; rw [if_pos e]; exact ⟨[], r, rfl, rfl⟩
      · cases h
    · rename_i e
      rw [if_neg e]
      obtain ⟨l1, l2, h1, h2⟩ := updV_split (x := x) h
      exact ⟨⟨k', u', e', z', n', x'⟩ :: l1, l2, by rw [h1]; rfl, by rw [h2]; rfl⟩
theorem verLe_lk {k u v : Nat} {b : Vc} : ∀ {vc : List Vc}, lkV vc k u = some b → verLe vc k v → v ≤ u
  | [], h, _ => by cases h
  | ⟨k', u', e', z', n', x'⟩ :: r, h, hv => by
    simp only [lkV] at h
    simp only [verLe] at hv
    split at h
    · rename_i e
      split at h
      · rename_i e'; rw [if_pos e] at hv; omega
      · cases h
    · rename_i e; rw [if_neg e] at hv; exact verLe_lk h hv

section
variable {V V' : Vl} {D D' : Nat → Nat} {w w' : World} {bx : List Bx} {vc : List Vc} {nid : Nat} {m : Mem} {C : Ctx}
theorem blks_mid {l1 l2 : List Bx} {b : Bx} : (blks V ⟨l1 ++ b :: l2, vc⟩).Perm (V.β b.id :: blks V ⟨l1 ++ l2, vc⟩) := by
  unfold blks
  simp only [List.map_append, List.map_cons, List.append_assoc, List.cons_append]
  exact List.perm_middle
/-- A store into box b. -/
theorem SatW.setOb (h : SatW C bx vc nid m V D w) {k : Nat} {b : Bx} {cs : List SV} (hb : lkB bx k = some b) (hok : okL nid vc cs) {w' : World} {o : Obj} (ho : bxObj b.ty (cs.map (denA V)) o)
    (e1 : w'.os = w.os) (e2 : w'.tape = w.tape) (e3 : w'.output = w.output) (e4 : w'.heap.size = w.heap.size) (e5 : w'.heap[V.β k]? = some o) (e6 : ∀ g, g ≠ V.β k → w'.heap[g]? = w.heap[g]?) :
    SatW C (updB bx k cs) vc nid m V D w' := by
  obtain ⟨rfl, hm⟩ := lkB_mem hb
  obtain ⟨l1, l2, hl, hu⟩ := updB_split (cs := cs) hb
  have hap := h.heap.apart
  rw [hl] at hap
  have hnd := (blks_mid.nodup_iff).1 hap
  obtain ⟨hnot, _⟩ := List.nodup_cons.1 hnd
  have hother : ∀ g, g ∈ blks V ⟨l1 ++ l2, vc⟩ → w'.heap[g]? = w.heap[g]? := fun g hg =>
    e6 g (fun e => hnot (e ▸ hg))
  have hD : D (V.β b.id) = 0 := (h.heap.bx b hm).2
  have hown := h.own (V.β b.id) (by rw [hl]; exact blks_mid.mem_iff.2 (List.mem_cons_self ..))
  have hfr : Frm (fun x => x = V.β b.id) w D w' D :=
    ⟨e1, e2, e3, by rw [e4]; exact Nat.le_refl _, fun x _ hx => ⟨e6 x hx, rfl⟩⟩
  have hle : Mem.le ⟨w, D⟩ ⟨w', D⟩ := Mem.le_same h.wf (fun x _ => ⟨Nat.le_refl _, fun h0 => e6 x (fun e => by subst e; omega)⟩)
  have hbl : blks V ⟨updB bx b.id cs, vc⟩ = blks V ⟨bx, vc⟩ := by
    unfold blks
    rw [hu, hl]
    simp
  rw [hu]
  rw [hu] at hbl
  refine ⟨⟨fun x hx => ?_, fun x hx => ?_, by rw [hbl]; exact h.heap.apart, h.heap.uniq⟩, fun x hx => h.wf x (by rw [e4] at hx; exact hx), h.frm.trans hfr (fun x hx => by subst hx; exact hown), ?_, h.baseB, h.baseV, ⟨fun x hx => ?_, h.ids.2⟩, Mem.le_trans h.le0 hle, h.m0, Mem.le_trans h.mle hle⟩
  · have hx' : x ∈ l1 ++ l2 ∨ x = ⟨b.id, b.ty, cs⟩ := by
      simp only [List.mem_append, List.mem_cons] at hx ⊢
      rcases hx with hx | hx | hx
      · exact .inl (.inl hx)
      · exact .inr hx
      · exact .inl (.inr hx)
    rcases hx' with hx' | rfl
    · have hin : x ∈ bx := by
        rw [hl]; simp only [List.mem_append, List.mem_cons] at hx' ⊢
        rcases hx' with h1 | h1
        · exact .inl h1
        · exact .inr (.inr h1)
      have hg : V.β x.id ∈ blks V ⟨l1 ++ l2, vc⟩ := by
        simp only [blks, List.mem_append, List.mem_map] at hx' ⊢
        exact .inl ⟨x, hx', rfl⟩
      obtain ⟨h1, h2⟩ := h.heap.bx x hin
      exact ⟨by rw [hother _ hg]; exact h1, h2⟩
    · exact ⟨⟨o, e5, ho⟩, hD⟩
  · obtain ⟨h1, h2, h3, h4⟩ := h.heap.vc x hx
    exact ⟨own_same h1 (fun g hg => hother g (by
      simp only [blks, List.mem_append, List.mem_filterMap]
      exact .inr ⟨x, hx, hg⟩)), h2, h3, h4⟩
  · intro x hx
    rw [hbl] at hx
    exact h.own x hx
  · have hx' : x ∈ bx ∨ x = ⟨b.id, b.ty, cs⟩ := by
      rw [hl]
      simp only [List.mem_append, List.mem_cons] at hx ⊢
      rcases hx with hx | hx | hx
      · exact .inl (.inl hx)
      · exact .inr hx
      · exact .inl (.inr (.inr hx))
    rcases hx' with hx' | rfl
    · exact h.ids.1 x hx'
    · exact ⟨(h.ids.1 b hm).1, hok⟩

theorem SatW.setBx (h : SatW C bx vc nid m V D w) {k : Nat} {b : Bx} {cs : List SV} (hb : lkB bx k = some b) (hty : (b.ty == mapTy) = false) (hok : okL nid vc cs) :
    SatW C (updB bx k cs) vc nid m V D (w.setRow (V.β k) ⟨cs.map (denA V)⟩) := by
  obtain ⟨hk, hm⟩ := lkB_mem hb
  obtain ⟨o, hrow, ho⟩ := (h.heap.bx b hm).1
  have ho' := bxObj_is hty ho
  subst ho'
  rw [hk] at hrow
  exact h.setOb hb hok (bxObj_cells hty) rfl rfl rfl (size_setRow _ _ _) (setRow_heap w _ _ _ _ _ hrow) (fun g hg => setRow_other w _ g _ hg)

theorem HSat.permVc {vc' : List Vc} (h : HSat V D w ⟨bx, vc⟩) (hp : vc.Perm vc') : HSat V D w ⟨bx, vc'⟩ :=
  ⟨h.bx, fun b hb => h.vc b (hp.mem_iff.2 hb), by
    have : (blks V ⟨bx, vc⟩).Perm (blks V ⟨bx, vc'⟩) := List.Perm.append_left _ (hp.filterMap _)
    exact (this.nodup_iff).1 h.apart, ((hp.map _).nodup_iff).1 h.uniq⟩
theorem HSat.tailVc {b : Vc} (h : HSat V D w ⟨bx, b :: vc⟩) : HSat V D w ⟨bx, vc⟩ ∧ b.id ∉ vc.map (·.id) ∧ ∀ g, (V.γ b.id b.ver).blk = some g → g ∉ blks V ⟨bx, vc⟩ := by
  have hnd := (blks_cons.nodup_iff).1 h.apart
  have hu := List.nodup_cons.1 h.uniq
  refine ⟨⟨h.bx, fun x hx => h.vc x (List.mem_cons_of_mem _ hx), (List.nodup_append.1 hnd).2.1, hu.2⟩, hu.1, fun g hg hin => ?_⟩
  rw [hg] at hnd
  exact (List.nodup_cons.1 hnd).1 hin
/-- An own slice in a new state. -/
theorem SatW.updVc (h : SatW C bx vc nid m V D w) {k u n : Nat} {b : Vc} {hd : Hd} {xs : List Value} (hb : lkV vc k u = some b) (hbn : b.n * b.sz ≤ n * b.sz)
    (h1 : w'.os = w.os) (h2 : w'.tape = w.tape) (h3 : w'.output = w.output) (h4 : w.heap.size ≤ w'.heap.size)
    (hw : ∀ g, g < w.heap.size → (V.γ k u).blk ≠ some g → w'.heap[g]? = w.heap[g]?) (hkp : ∀ g, (V.γ k u).blk = some g → keepObj (b.n * b.sz) w.heap[g]? w'.heap[g]?)
    (hown : w'.ownsRow 0 b.el b.sz hd.val n xs) (hblk : ∀ g, hd.blk = some g → (V.γ k u).blk = some g ∨ w.heap.size ≤ g) (hone : ∀ y ∈ xs, y.oneCell' = true) :
    ∃ V', Agree nid vc V V' ∧ V'.γ k (u + 1) = hd ∧ SatW C bx (updV vc k (bumpV b n xs)) nid m V' D w' := by
  obtain ⟨hbi, hbv, hm⟩ := lkV_mem hb
  subst hbi
  subst hbv
  refine ⟨{ V with γ := fun i v => if i = b.id ∧ v = b.ver + 1 then hd else V.γ i v }, ?_, if_pos ⟨rfl, rfl⟩, ?_⟩
  · intro i hi
    refine ⟨rfl, fun v hv => if_neg ?_⟩
    rintro ⟨rfl, rfl⟩
    have := verLe_lk hb hv
    omega
  have ha : Agree nid vc V { V with γ := fun i v => if i = b.id ∧ v = b.ver + 1 then hd else V.γ i v } := by
    intro i hi
    refine ⟨rfl, fun v hv => if_neg ?_⟩
    rintro ⟨rfl, rfl⟩
    have := verLe_lk hb hv
    omega
  obtain ⟨l1, l2, hl, hu⟩ := updV_split (x := bumpV b n xs) hb
  have hp : vc.Perm (b :: (l1 ++ l2)) := by rw [hl]; exact List.perm_middle
  have hp' : (updV vc b.id (bumpV b n xs)).Perm (bumpV b n xs :: (l1 ++ l2)) := by rw [hu]; exact List.perm_middle
  have hmono : ∀ i v, verLe vc i v → verLe (updV vc b.id (bumpV b n xs)) i v := verLe_updV hb (by cases b; rfl) (by cases b; exact Nat.le_succ _)
  obtain ⟨ht, hid, hblkb⟩ := (h.heap.permVc hp).tailVc
  have hbo := h.heap.vc b hm
  have hlt := blks_lt h.heap
  have hltr := blks_lt ht
  have hrest : ∀ g, g ∈ blks V ⟨bx, l1 ++ l2⟩ → w'.heap[g]? = w.heap[g]? := fun g hg => hw g (hltr g hg) (fun e => hblkb g e hg)
  have hmem : ∀ x ∈ l1 ++ l2, x ∈ vc := fun x hx => hp.mem_iff.2 (List.mem_cons_of_mem _ hx)
  have ht' : HSat { V with γ := fun i v => if i = b.id ∧ v = b.ver + 1 then hd else V.γ i v } D w' ⟨bx, l1 ++ l2⟩ :=
    ht.frame (fun x hx => ⟨rfl, denL_agree ha (h.ids.1 x hx).2⟩) (fun x hx => (ha x.id (h.ids.2 x (hmem x hx))).2 x.ver (verLe_self h.heap.uniq (hmem x hx))) (fun g hg => ⟨hrest g hg, rfl⟩)
  have hbl : blks { V with γ := fun i v => if i = b.id ∧ v = b.ver + 1 then hd else V.γ i v } ⟨bx, l1 ++ l2⟩ = blks V ⟨bx, l1 ++ l2⟩ :=
    blks_eq (fun x hx => rfl) (fun x hx => (ha x.id (h.ids.2 x (hmem x hx))).2 x.ver (verLe_self h.heap.uniq (hmem x hx)))
  have hnew : (({ V with γ := fun i v => if i = b.id ∧ v = b.ver + 1 then hd else V.γ i v } : Vl).γ (bumpV b n xs).id (bumpV b n xs).ver) = hd := by
    cases b; exact if_pos ⟨rfl, rfl⟩
  have hD : ∀ g, hd.blk = some g → D g ≤ n * b.sz := fun g hg => by
    rcases hblk g hg with e | e
    · exact Nat.le_trans (hbo.2.1 g e) hbn
    · rw [h.wf g e]; exact Nat.zero_le _
  have hownblk : ∀ g, (V.γ b.id b.ver).blk = some g → C.F g ∨ C.w0.heap.size ≤ g := fun g hg => h.own g (by
    simp only [blks, List.mem_append, List.mem_filterMap]
    exact .inr ⟨b, hm, hg⟩)
  have hfr : Frm (fun x => (V.γ b.id b.ver).blk = some x) w D w' D := ⟨h1, h2, h3, h4, fun x hx hn => ⟨hw x hx hn, rfl⟩⟩
  have hle : Mem.le ⟨w, D⟩ ⟨w', D⟩ := fun x => ⟨Nat.le_refl _, fun h0 => by
    have hxl : x < w.heap.size := by
      rcases Nat.lt_or_ge x w.heap.size with h5 | h5
      · exact h5
      · have := h.wf x h5; dsimp only at h0; omega
    refine ⟨hxl, ?_⟩
    by_cases hx : (V.γ b.id b.ver).blk = some x
    · exact keepObj_trans (hbo.2.1 x hx) (keepObj_same (d := D x) rfl) (hkp x hx)
    · exact keepObj_same (hw x hxl hx)⟩
  have hcons : HSat { V with γ := fun i v => if i = b.id ∧ v = b.ver + 1 then hd else V.γ i v } D w' ⟨bx, bumpV b n xs :: (l1 ++ l2)⟩ := by
    refine ht'.consVc ?_ (by cases b; exact hid) ?_
    · unfold HVc
      rw [hnew]
      cases b
      exact ⟨hown, hD, hbo.2.2.1, hone⟩
    · rw [hnew]
      intro g hg hin
      rw [hbl] at hin
      rcases hblk g hg with e | e
      · exact hblkb g e hin
      · have := hltr g hin; omega
  refine ⟨hcons.permVc hp'.symm, fun x hx => h.wf x (Nat.le_trans h4 hx), h.frm.trans hfr hownblk, fun x hx => ?_, fun x hx => h.baseB x hx, fun x hx => ?_, ⟨fun x hx => ⟨(h.ids.1 x hx).1, okL_mono (Nat.le_refl _) (fun i v _ => hmono i v) (h.ids.1 x hx).2⟩, fun x hx => ?_⟩, Mem.le_trans h.le0 hle, h.m0, Mem.le_trans h.mle hle⟩
  · have hx' : x ∈ blks { V with γ := fun i v => if i = b.id ∧ v = b.ver + 1 then hd else V.γ i v } ⟨bx, bumpV b n xs :: (l1 ++ l2)⟩ := by
      have : (blks { V with γ := fun i v => if i = b.id ∧ v = b.ver + 1 then hd else V.γ i v } ⟨bx, updV vc b.id (bumpV b n xs)⟩).Perm _ := List.Perm.append_left _ (hp'.filterMap _)
      exact this.mem_iff.1 hx
    rcases mem_blks_cons.1 hx' with e | e
    · rw [hnew] at e
      rcases hblk x e with e' | e'
      · exact hownblk x e'
      · exact .inr (Nat.le_trans h.frm.size e')
    · rw [hbl] at e
      refine h.own x ?_
      have : (blks V ⟨bx, vc⟩).Perm _ := List.Perm.append_left _ (hp.filterMap _)
      exact this.mem_iff.2 (mem_blks_cons.2 (.inr e))
  · obtain ⟨e1, e2, e3⟩ := h.baseV x hx
    exact ⟨fun v hv => ((ha x.id e2).2 v (verLe_le e3 hv)).trans (e1 v hv), e2, hmono _ _ e3⟩
  · have := hp'.mem_iff.1 hx
    rcases List.mem_cons.1 this with rfl | hx
    · have := h.ids.2 b hm; cases b; exact this
    · exact h.ids.2 x (hmem x hx)
end
end Go.Proofs.YtalalcpefggniaaGreatDoor.E

/- The engine, part N: what goes into a call. -/
set_option linter.unusedSimpArgs false
set_option linter.unusedVariables false
namespace Go.Proofs.YtalalcpefggniaaGreatDoor.E
open Go

theorem pickBx_eq (L : List Nat) : ∀ bx : List Bx, pickBx L bx = bx.filter fun b => L.contains b.id
  | [] => rfl
  | ⟨k, t, cs⟩ :: r => by
    simp only [pickBx, List.filter_cons, pickBx_eq L r]
theorem pickVc_eq (L : List Nat) : ∀ vc : List Vc, pickVc L vc = vc.filter fun b => L.contains b.id
  | [] => rfl
  | ⟨k, u, e, z, n, xs⟩ :: r => by
    simp only [pickVc, List.filter_cons, pickVc_eq L r]
theorem dropBx_eq (L : List Nat) : ∀ bx : List Bx, dropBx L bx = bx.filter fun b => !L.contains b.id
  | [] => rfl
  | ⟨k, t, cs⟩ :: r => by
    simp only [dropBx, List.filter_cons, dropBx_eq L r]
    cases L.contains k <;> simp
theorem dropVc_eq (L : List Nat) : ∀ vc : List Vc, dropVc L vc = vc.filter fun b => !L.contains b.id
  | [] => rfl
  | ⟨k, u, e, z, n, xs⟩ :: r => by
    simp only [dropVc, List.filter_cons, dropVc_eq L r]
    cases L.contains k <;> simp
theorem filter_perm {α : Type} (p : α → Bool) : ∀ l : List α, (l.filter p ++ l.filter fun x => !p x).Perm l
  | [] => List.Perm.refl _
  | x :: r => by
    simp only [List.filter_cons]
    cases h : p x with
    | true => simpa using (filter_perm p r).cons x
    | false => simpa using List.perm_middle.trans ((filter_perm p r).cons x)
theorem perm4 {α : Type} (a b c d : List α) : ((a ++ b) ++ (c ++ d)).Perm ((a ++ c) ++ (b ++ d)) := by
  simp only [List.append_assoc]
  refine List.Perm.append_left _ ?_
  rw [← List.append_assoc, ← List.append_assoc]
  exact List.Perm.append_right _ List.perm_append_comm

section
variable {V : Vl} {D : Nat → Nat} {w : World}
theorem HSat.permBx {bx bx' : List Bx} {vc : List Vc} (h : HSat V D w ⟨bx, vc⟩) (hp : bx.Perm bx') : HSat V D w ⟨bx', vc⟩ :=
  ⟨fun b hb => h.bx b (hp.mem_iff.2 hb), h.vc, by
    have : (blks V ⟨bx, vc⟩).Perm (blks V ⟨bx', vc⟩) := List.Perm.append_right _ (hp.map _)
    exact (this.nodup_iff).1 h.apart, h.uniq⟩
theorem blks_app (a b : List Bx) (c d : List Vc) : (blks V ⟨a ++ b, c ++ d⟩).Perm (blks V ⟨a, c⟩ ++ blks V ⟨b, d⟩) := by
  unfold blks
  simp only [List.map_append, List.filterMap_append]
  exact perm4 _ _ _ _
theorem HSat.app {a b : List Bx} {c d : List Vc} (h : HSat V D w ⟨a ++ b, c ++ d⟩) : HSat V D w ⟨a, c⟩ ∧ HSat V D w ⟨b, d⟩ ∧ ∀ g, g ∈ blks V ⟨a, c⟩ → g ∉ blks V ⟨b, d⟩ := by
  have hn := ((blks_app a b c d).nodup_iff).1 h.apart
  obtain ⟨h1, h2, h3⟩ := List.nodup_append.1 hn
  have hu := h.uniq
  simp only [List.map_append] at hu
  obtain ⟨u1, u2, _⟩ := List.nodup_append.1 hu
  exact ⟨⟨fun x hx => h.bx x (List.mem_append_left _ hx), fun x hx => h.vc x (List.mem_append_left _ hx), h1, u1⟩,
    ⟨fun x hx => h.bx x (List.mem_append_right _ hx), fun x hx => h.vc x (List.mem_append_right _ hx), h2, u2⟩, fun g hg hg' => h3 g hg g hg' rfl⟩
theorem HSat.join {a b : List Bx} {c d : List Vc} (h : HSat V D w ⟨a, c⟩) (h' : HSat V D w ⟨b, d⟩) (hd : ∀ g, g ∈ blks V ⟨a, c⟩ → g ∉ blks V ⟨b, d⟩) (hu : ∀ x ∈ c, ∀ y ∈ d, x.id ≠ y.id) : HSat V D w ⟨a ++ b, c ++ d⟩ :=
  ⟨fun x hx => (List.mem_append.1 hx).elim (h.bx x) (h'.bx x), fun x hx => (List.mem_append.1 hx).elim (h.vc x) (h'.vc x), ((blks_app a b c d).nodup_iff).2 (List.nodup_append.2 ⟨h.apart, h'.apart, fun g hg g' hg' e => hd g hg (e ▸ hg')⟩), by
    simp only [List.map_append]
    refine List.nodup_append.2 ⟨h.uniq, h'.uniq, fun i hi j hj e => ?_⟩
    obtain ⟨x, hx, rfl⟩ := List.mem_map.1 hi
    obtain ⟨y, hy, rfl⟩ := List.mem_map.1 hj
    exact hu x hx y hy e⟩
theorem split_heap (L : List Nat) {bx : List Bx} {vc : List Vc} (h : HSat V D w ⟨bx, vc⟩) : HSat V D w ⟨pickBx L bx ++ dropBx L bx, pickVc L vc ++ dropVc L vc⟩ := by
  rw [pickBx_eq, dropBx_eq, pickVc_eq, dropVc_eq]
  exact (h.permBx (filter_perm _ bx).symm).permVc (filter_perm _ vc).symm
theorem blks_split (L : List Nat) (bx : List Bx) (vc : List Vc) : (blks V ⟨bx, vc⟩).Perm (blks V ⟨pickBx L bx, pickVc L vc⟩ ++ blks V ⟨dropBx L bx, dropVc L vc⟩) := by
  refine List.Perm.trans ?_ (blks_app _ _ _ _)
  rw [pickBx_eq, dropBx_eq, pickVc_eq, dropVc_eq]
  unfold blks
  exact List.Perm.append ((filter_perm _ bx).symm.map _) ((filter_perm _ vc).symm.filterMap _)

/-! Numbers in a call. -/
theorem idxOf_spec : ∀ {L : List Nat} {i j : Nat}, idxOf L i = some j → L[j]? = some i
  | x :: r, i, j, h => by
    simp only [idxOf] at h
    split at h
    · rename_i e; cases h; simp [e]
    · simp only [Option.map_eq_some_iff] at h
      obtain ⟨j', hj, rfl⟩ := h
      simpa using idxOf_spec hj
theorem idxOf_mem : ∀ {L : List Nat} {i : Nat}, i ∈ L → ∃ j, idxOf L i = some j
  | x :: r, i, h => by
    simp only [idxOf]
    split
    · exact ⟨0, rfl⟩
    · rename_i e
      rcases List.mem_cons.1 h with h | h
      · exact absurd h.symm e
      · obtain ⟨j, hj⟩ := idxOf_mem h; exact ⟨j + 1, by rw [hj]; rfl⟩
theorem ren_get {L : List Nat} {i : Nat} (h : L.contains i = true) : L[ren L 0 i]? = some i ∧ ren L 0 i < L.length := by
  obtain ⟨j, hj⟩ := idxOf_mem (by simpa using h)
  have : ren L 0 i = j := by unfold ren; rw [hj]; rfl
  rw [this]
  have := idxOf_spec hj
  exact ⟨this, (List.getElem?_eq_some_iff.1 this).1⟩
def inV (L : List Nat) (V : Vl) : Vl := ⟨fun j => V.β (L.getD j 0), fun j u => V.γ (L.getD j 0) u⟩
theorem inV_β {L : List Nat} {i : Nat} (h : L.contains i = true) : (inV L V).β (ren L 0 i) = V.β i := by
  show V.β (L.getD (ren L 0 i) 0) = _
  rw [List.getD_eq_getElem?_getD, (ren_get h).1]; rfl
theorem inV_γ {L : List Nat} {i : Nat} (h : L.contains i = true) (u : Nat) : (inV L V).γ (ren L 0 i) u = V.γ i u := by
  show V.γ (L.getD (ren L 0 i) 0) u = _
  rw [List.getD_eq_getElem?_getD, (ren_get h).1]; rfl
theorem denA_ren {L : List Nat} {s : SV} (h : inA L s) : denA (inV L V) (renA (ren L 0) s) = denA V s := by
  cases s with
  | v x => rfl
  | box k o => show Value.pointer _ = Value.pointer _; rw [inV_β h]
  | vec k u => show Hd.val _ = Hd.val _; rw [inV_γ h]
  | vp k u o => show Value.pointer _ = Value.pointer _; rw [inV_γ h]
  | mp k => show Value.map _ = Value.map _; rw [inV_β h]
  | agg cs => rfl
  | tup l => cases h
theorem denL_ren {L : List Nat} : ∀ {l : List SV}, inL L l → (l.map (renA (ren L 0))).map (denA (inV L V)) = l.map (denA V)
  | [], _ => rfl
  | s :: r, h => by simp only [List.map_cons]; rw [denA_ren h.1, denL_ren h.2]
theorem den_ren {L : List Nat} {s : SV} (h : inB L s) : den (inV L V) (renS (ren L 0) s) = den V s := by
  cases s with
  | agg cs => show Value.agg _ = Value.agg _; rw [denL_ren h]
  | v x => rfl
  | box k o => exact denA_ren (s := .box k o) h
  | vec k u => exact denA_ren (s := .vec k u) h
  | vp k u o => exact denA_ren (s := .vp k u o) h
  | mp k => exact denA_ren (s := .mp k) h
  | tup l => cases h
theorem den_args {L : List Nat} : ∀ {l : List SV}, inBs L l → (l.map (renS (ren L 0))).map (den (inV L V)) = l.map (den V)
  | [], _ => rfl
  | s :: r, h => by simp only [List.map_cons]; rw [den_ren h.1, den_args h.2]
theorem nodup_inv {l : List Nat} {f g : Nat → Nat} (h : ∀ x ∈ l, g (f x) = x) (hl : l.Nodup) : (l.map f).Nodup := by
  have : (l.map f).map g = l := by
    rw [List.map_map]
    exact (List.map_congr_left h).trans (List.map_id' l)
  rw [← this] at hl
  exact List.Pairwise.of_map g (fun a b h e => h (by rw [e])) hl
theorem pick_mem {L : List Nat} {vc : List Vc} {b : Vc} (h : b ∈ pickVc L vc) : b ∈ vc ∧ L.contains b.id = true := by
  rw [pickVc_eq, List.mem_filter] at h; exact h
theorem pickB_mem {L : List Nat} {bx : List Bx} {b : Bx} (h : b ∈ pickBx L bx) : b ∈ bx ∧ L.contains b.id = true := by
  rw [pickBx_eq, List.mem_filter] at h; exact h
theorem dropB_mem {L : List Nat} {bx : List Bx} {b : Bx} (h : b ∈ dropBx L bx) : b ∈ bx ∧ L.contains b.id = false := by
  rw [dropBx_eq, List.mem_filter] at h; simpa using h
theorem drop_mem {L : List Nat} {vc : List Vc} {b : Vc} (h : b ∈ dropVc L vc) : b ∈ vc ∧ L.contains b.id = false := by
  rw [dropVc_eq, List.mem_filter] at h; simpa using h
theorem inBx_mem {L : List Nat} : ∀ {bx : List Bx}, inBx L bx → ∀ b ∈ bx, inL L b.cs
  | ⟨_, _, cs⟩ :: r, h, b, hb => by
    rcases List.mem_cons.1 hb with rfl | hb
    · exact h.1
    · exact inBx_mem h.2 b hb
theorem renBx_id (ρ : Nat → Nat) (b : Bx) : (renBx ρ b).id = ρ b.id ∧ (renBx ρ b).ty = b.ty ∧ (renBx ρ b).cs = b.cs.map (renA ρ) := by cases b; exact ⟨rfl, rfl, rfl⟩
theorem renVc_id (ρ : Nat → Nat) (b : Vc) : (renVc ρ b).id = ρ b.id ∧ (renVc ρ b).ver = b.ver ∧ (renVc ρ b).el = b.el ∧ (renVc ρ b).sz = b.sz ∧ (renVc ρ b).n = b.n ∧ (renVc ρ b).xs = b.xs := by
  cases b; exact ⟨rfl, rfl, rfl, rfl, rfl, rfl⟩
/-- The heap that a call is handed, in its own numbers. -/
theorem blks_in {L : List Nat} {st : LS} : blks (inV L V) (hpIn st L) = blks V ⟨pickBx L st.bx, pickVc L st.vc⟩ := by
  unfold blks hpIn
  congr 1
  · rw [List.map_map]
    refine List.map_congr_left fun b hb => ?_
    show (inV L V).β (renBx _ b).id = _
    rw [(renBx_id _ b).1, inV_β (pickB_mem hb).2]
  · rw [List.filterMap_map]
    refine filterMap_congr' fun b hb => ?_
    show ((inV L V).γ (renVc _ b).id (renVc _ b).ver).blk = _
    rw [(renVc_id _ b).1, (renVc_id _ b).2.1, inV_γ (pick_mem hb).2]
theorem HSat.into {L : List Nat} {st : LS} (h : HSat V D w ⟨pickBx L st.bx, pickVc L st.vc⟩) (hin : inBx L (pickBx L st.bx)) : HSat (inV L V) D w (hpIn st L) := by
  refine ⟨fun b hb => ?_, fun b hb => ?_, by rw [blks_in]; exact h.apart, ?_⟩
  · obtain ⟨x, hx, rfl⟩ := List.mem_map.1 hb
    obtain ⟨h1, h2⟩ := h.bx x hx
    obtain ⟨e1, e2, e3⟩ := renBx_id (ren L 0) x
    unfold HBx
    rw [e1, e2, e3, inV_β (pickB_mem hx).2, denL_ren (inBx_mem hin x hx)]
    exact ⟨h1, h2⟩
  · obtain ⟨x, hx, rfl⟩ := List.mem_map.1 hb
    have h1 := h.vc x hx
    obtain ⟨e1, e2, e3, e4, e5, e6⟩ := renVc_id (ren L 0) x
    unfold HVc
    rw [e1, e2, e3, e4, e5, e6, inV_γ (pick_mem hx).2]
    exact h1
  · show (((pickVc L st.vc).map (renVc (ren L 0))).map (·.id)).Nodup
    rw [List.map_map]
    have : ((pickVc L st.vc).map ((·.id) ∘ renVc (ren L 0))) = ((pickVc L st.vc).map (·.id)).map (ren L 0) := by
      rw [List.map_map]
      exact List.map_congr_left fun b _ => (renVc_id _ b).1
    rw [this]
    refine nodup_inv (g := fun j => L.getD j 0) (fun i hi => ?_) h.uniq
    obtain ⟨b, hb, rfl⟩ := List.mem_map.1 hi
    rw [List.getD_eq_getElem?_getD, (ren_get (pick_mem hb).2).1]; rfl
end
end Go.Proofs.YtalalcpefggniaaGreatDoor.E

/- The engine, part O: what comes back from a call. -/
set_option linter.unusedSimpArgs false
set_option linter.unusedVariables false
namespace Go.Proofs.YtalalcpefggniaaGreatDoor.E
open Go

theorem lkVi_self {vc : List Vc} : ∀ {b : Vc}, (vc.map (·.id)).Nodup → b ∈ vc → lkVi vc b.id = some b := by
  induction vc with
  | nil => intro b _ h; cases h
  | cons y r ih =>
    intro b hu h
    obtain ⟨i', v', e', z', n', x'⟩ := y
    simp only [List.map_cons, List.nodup_cons] at hu
    simp only [lkVi]
    rcases List.mem_cons.1 h with rfl | h
    · rw [if_pos rfl]
    · have : ¬ i' = b.id := fun e => hu.1 (by rw [e]; exact List.mem_map.2 ⟨b, h, rfl⟩)
      rw [if_neg this]
      exact ih hu.2 h
theorem verLe_lkVi {vc : List Vc} {k u : Nat} {b : Vc} (h : lkVi vc k = some b) (hv : verLe vc k u) : u ≤ b.ver := by
  induction vc with
  | nil => cases h
  | cons y r ih =>
    obtain ⟨i', v', e', z', n', x'⟩ := y
    simp only [lkVi] at h
    simp only [verLe] at hv
    split at h
    · rename_i e; cases h; rw [if_pos e] at hv; exact hv
    · rename_i e; rw [if_neg e] at hv; exact ih h hv
theorem ndL_nodup : ∀ {L : List Nat}, ndL L → L.Nodup
  | [], _ => List.nodup_nil
  | k :: r, h => List.nodup_cons.2 ⟨by have := h.1; simpa using this, ndL_nodup h.2⟩
theorem ltL_mem {n : Nat} : ∀ {L : List Nat}, ltL n L → ∀ k ∈ L, k < n
  | _ :: _, h, k, hk => (List.mem_cons.1 hk).elim (fun e => e ▸ h.1) (ltL_mem h.2 k)
theorem idxOf_get : ∀ {L : List Nat} {i j : Nat}, L.Nodup → L[j]? = some i → idxOf L i = some j
  | x :: r, i, 0, _, h => by simp at h; subst h; simp [idxOf]
  | x :: r, i, j + 1, hn, h => by
    simp only [List.getElem?_cons_succ] at h
    obtain ⟨h1, h2⟩ := List.nodup_cons.1 hn
    simp only [idxOf]
    rw [if_neg (fun e => h1 (by rw [e]; exact List.mem_of_getElem? h)), idxOf_get h2 h]
    rfl
theorem idsBx_mem : ∀ {bx : List Bx} {j : Nat}, (idsBx bx).contains j = true → ∃ b ∈ bx, b.id = j
  | ⟨k, t, cs⟩ :: r, j, h => by
    simp only [idsBx, List.contains_cons, Bool.or_eq_true, beq_iff_eq] at h
    rcases h with h | h
    · exact ⟨_, List.mem_cons_self .., h.symm⟩
    · obtain ⟨b, hb, e⟩ := idsBx_mem h; exact ⟨b, List.mem_cons_of_mem _ hb, e⟩
theorem idsVc_mem : ∀ {vc : List Vc} {j : Nat}, (idsVc vc).contains j = true → ∃ b ∈ vc, b.id = j
  | ⟨k, u, e, z, n, xs⟩ :: r, j, h => by
    simp only [idsVc, List.contains_cons, Bool.or_eq_true, beq_iff_eq] at h
    rcases h with h | h
    · exact ⟨_, List.mem_cons_self .., h.symm⟩
    · obtain ⟨b, hb, e⟩ := idsVc_mem h; exact ⟨b, List.mem_cons_of_mem _ hb, e⟩
theorem bkBx_mem {nB nV : List Nat} {len : Nat} : ∀ {bx : List Bx}, bkBx nB nV len bx → ∀ b ∈ bx, (b.id < len → nB.contains b.id = true) ∧ bkL nB nV len b.cs
  | ⟨k, t, cs⟩ :: r, h, b, hb => by
    rcases List.mem_cons.1 hb with rfl | hb
    · exact ⟨fun hl => by have := h.1; dsimp only at hl this; rwa [if_pos hl] at this, h.2.1⟩
    · exact bkBx_mem h.2.2 b hb
theorem bkVc_mem {nV : List Nat} {len : Nat} : ∀ {vc : List Vc}, bkVc nV len vc → ∀ b ∈ vc, b.id < len → nV.contains b.id = true
  | ⟨k, u, e, z, n, xs⟩ :: r, h, b, hb => by
    rcases List.mem_cons.1 hb with rfl | hb
    · exact fun hl => by have := h.1; dsimp only at hl this; rwa [if_pos hl] at this
    · exact bkVc_mem h.2 b hb
theorem okBxs_mem {nid : Nat} {vc : List Vc} : ∀ {bx : List Bx}, okBxs nid vc bx → ∀ b ∈ bx, okL nid vc b.cs
  | ⟨_, _, cs⟩ :: r, h, b, hb => by
    rcases List.mem_cons.1 hb with rfl | hb
    · exact h.1
    · exact okBxs_mem h.2 b hb
theorem verBk_mem {L : List Nat} {vc' : List Vc} : ∀ {vc : List Vc}, verBk L vc' vc → ∀ b ∈ vc, L.contains b.id = true → verLe vc' b.id b.ver
  | ⟨k, u, e, z, n, xs⟩ :: r, h, b, hb => by
    rcases List.mem_cons.1 hb with rfl | hb
    · exact fun hl => by have := h.1; dsimp only at hl; rwa [if_pos hl] at this
    · exact verBk_mem h.2 b hb
theorem topB_mem : ∀ {bx : List Bx} {b : Bx}, b ∈ bx → b.id < topB bx
  | ⟨k, t, cs⟩ :: r, b, hb => by
    simp only [topB]
    rcases List.mem_cons.1 hb with rfl | hb
    · dsimp only; omega
    · have := topB_mem hb; omega
theorem topV_mem : ∀ {vc : List Vc} {b : Vc}, b ∈ vc → b.id < topV vc
  | ⟨k, u, e, z, n, xs⟩ :: r, b, hb => by
    simp only [topV]
    rcases List.mem_cons.1 hb with rfl | hb
    · dsimp only; omega
    · have := topV_mem hb; omega
theorem verLe_app {a b : List Vc} {k u : Nat} (ha : verLe a k u) (hb : verLe b k u) : verLe (a ++ b) k u := by
  induction a with
  | nil => exact hb
  | cons y r ih =>
    obtain ⟨i', v', e', z', n', x'⟩ := y
    simp only [List.cons_append, verLe] at ha ⊢
    split
    · rename_i e; rw [if_pos e] at ha; exact ha
    · rename_i e; rw [if_neg e] at ha; exact ih ha
theorem verLe_none {a : List Vc} {k u : Nat} (h : ∀ b ∈ a, b.id ≠ k) : verLe a k u := by
  induction a with
  | nil => trivial
  | cons y r ih =>
    obtain ⟨i', v', e', z', n', x'⟩ := y
    simp only [verLe]
    rw [if_neg (h _ (List.mem_cons_self ..))]
    exact ih fun b hb => h b (List.mem_cons_of_mem _ hb)
theorem verLe_filter {p : Vc → Bool} {a : List Vc} {k u : Nat} (hu : (a.map (·.id)).Nodup) (h : verLe a k u) : verLe (a.filter p) k u := by
  induction a with
  | nil => trivial
  | cons y r ih =>
    simp only [List.map_cons, List.nodup_cons] at hu
    obtain ⟨i', v', e', z', n', x'⟩ := y
    simp only [verLe] at h
    simp only [List.filter_cons]
    split
    · simp only [verLe]
      split
      · rename_i e; rw [if_pos e] at h; exact h
      · rename_i e; rw [if_neg e] at h; exact ih hu.2 h
    · by_cases e : i' = k
      · refine verLe_none fun b hb => ?_
        rw [← e]
        exact fun e' => hu.1 (by dsimp only; rw [← e']; exact List.mem_map.2 ⟨b, (List.mem_filter.1 hb).1, rfl⟩)
      · rw [if_neg e] at h; exact ih hu.2 h

section
variable {C : Ctx} {st : LS} {V V2 : Vl} {D D2 : Nat → Nat} {w w2 : World} {L : List Nat} {r : SV} {H' : Hp} {m' : Mem}
def outV (st : LS) (L : List Nat) (V V2 : Vl) : Vl :=
  ⟨fun k => if k < st.nid then V.β k else V2.β (k - st.nid),
   fun k u => if k < st.nid then (match lkVi st.vc k with | some b => if L.contains k = true ∧ b.ver < u then V2.γ (ren L 0 k) u else V.γ k u | none => V.γ k u) else V2.γ (k - st.nid) u⟩
theorem outV_agree : Agree st.nid st.vc V (outV st L V V2) := by
  intro k hk
  refine ⟨if_pos hk, fun u hu => ?_⟩
  show (if k < st.nid then _ else _) = _
  rw [if_pos hk]
  split
  · rename_i b hb
    rw [if_neg (fun h => by have := verLe_lkVi hb hu; omega)]
  · rfl
theorem back_lt {j : Nat} (hj : j < L.length) : ∃ k, L[j]? = some k ∧ k ∈ L ∧ unren L st.nid j = k := by
  refine ⟨L[j], List.getElem?_eq_getElem hj, List.getElem_mem hj, ?_⟩
  unfold unren; rw [List.getElem?_eq_getElem hj]; rfl
theorem back_ge {j : Nat} (hj : ¬ j < L.length) : unren L st.nid j = st.nid + j := by
  unfold unren; rw [List.getElem?_eq_none (by omega)]; rfl
theorem out_β (hnd : L.Nodup) (hlt : ltL st.nid L) (hβ : ∀ b ∈ (hpIn st L).bx, V2.β b.id = (inV L V).β b.id) {j : Nat} (hj : j < L.length → (idsBx (hpIn st L).bx).contains j = true) :
    (outV st L V V2).β (unren L st.nid j) = V2.β j := by
  by_cases h : j < L.length
  · obtain ⟨k, hk, hm, he⟩ := back_lt (st := st) h
    rw [he]
    obtain ⟨b, hb, hbj⟩ := idsBx_mem (hj h)
    have hβb := hβ b hb
    obtain ⟨x, hx, rfl⟩ := List.mem_map.1 hb
    rw [(renBx_id _ x).1] at hbj hβb
    have hc := (pickB_mem hx).2
    have hxk : x.id = k := by
      have := (ren_get hc).1
      rw [hbj, hk] at this
      exact (Option.some.inj this).symm
    show (if k < st.nid then _ else _) = _
    rw [if_pos (ltL_mem hlt k hm), ← hxk, ← inV_β (V := V) hc, ← hβb, hbj]
  · rw [back_ge h]
    show (if st.nid + j < st.nid then _ else _) = _
    rw [if_neg (by omega), Nat.add_sub_cancel_left]
theorem out_γ (hnd : L.Nodup) (hlt : ltL st.nid L) (huq : (st.vc.map (·.id)).Nodup) (hγ : ∀ b ∈ (hpIn st L).vc, ∀ u, u ≤ b.ver → V2.γ b.id u = (inV L V).γ b.id u) {j : Nat} (hj : j < L.length → (idsVc (hpIn st L).vc).contains j = true) (u : Nat) :
    (outV st L V V2).γ (unren L st.nid j) u = V2.γ j u := by
  by_cases h : j < L.length
  · obtain ⟨k, hk, hm, he⟩ := back_lt (st := st) h
    rw [he]
    obtain ⟨b, hb, hbj⟩ := idsVc_mem (hj h)
    have hγb := hγ b hb
    obtain ⟨x, hx, rfl⟩ := List.mem_map.1 hb
    rw [(renVc_id _ x).1] at hbj hγb
    rw [(renVc_id _ x).2.1] at hγb
    obtain ⟨hxm, hc⟩ := pick_mem hx
    have hxk : x.id = k := by
      have := (ren_get hc).1
      rw [hbj, hk] at this
      exact (Option.some.inj this).symm
    show (if k < st.nid then _ else _) = _
    rw [if_pos (ltL_mem hlt k hm), ← hxk, lkVi_self huq hxm]
    dsimp only
    by_cases hu : x.ver < u
    · rw [if_pos ⟨hc, hu⟩, hbj]
    · rw [if_neg (fun h => hu h.2), ← inV_γ (V := V) hc, ← hγb u (by omega), hbj]
  · rw [back_ge h]
    show (if st.nid + j < st.nid then _ else _) = _
    rw [if_neg (by omega), Nat.add_sub_cancel_left]

structure Bk (st : LS) (L : List Nat) (V V2 : Vl) : Prop where
  β : ∀ j, (j < L.length → (idsBx (hpIn st L).bx).contains j = true) → (outV st L V V2).β (unren L st.nid j) = V2.β j
  γ : ∀ j u, (j < L.length → (idsVc (hpIn st L).vc).contains j = true) → (outV st L V V2).γ (unren L st.nid j) u = V2.γ j u
theorem ifc {p : Prop} [Decidable p] {q : Prop} (h : if p then q else True) : p → q := fun hp => by rwa [if_pos hp] at h
theorem bk_A (hb : Bk st L V V2) {s : SV} (h : bkA (idsBx (hpIn st L).bx) (idsVc (hpIn st L).vc) L.length s) : denA (outV st L V V2) (renA (unren L st.nid) s) = denA V2 s := by
  cases s with
  | v x => rfl
  | box k o => show Value.pointer _ = Value.pointer _; rw [hb.β k (ifc h)]
  | vec k u => show Hd.val _ = Hd.val _; rw [hb.γ k u (ifc h)]
  | vp k u o => show Value.pointer _ = Value.pointer _; rw [hb.γ k u (ifc h)]
  | mp k => show Value.map _ = Value.map _; rw [hb.β k (ifc h)]
  | agg cs => rfl
  | tup l => rfl
theorem bk_L (hb : Bk st L V V2) : ∀ {l : List SV}, bkL (idsBx (hpIn st L).bx) (idsVc (hpIn st L).vc) L.length l → (l.map (renA (unren L st.nid))).map (denA (outV st L V V2)) = l.map (denA V2)
  | [], _ => rfl
  | s :: r, h => by simp only [List.map_cons]; rw [bk_A hb h.1, bk_L hb h.2]
theorem bk_B (hb : Bk st L V V2) {s : SV} (h : bkB (idsBx (hpIn st L).bx) (idsVc (hpIn st L).vc) L.length s) : denB (outV st L V V2) (renB (unren L st.nid) s) = denB V2 s := by
  cases s with
  | agg cs => show Value.agg _ = Value.agg _; rw [bk_L hb h]
  | v x => rfl
  | box k o => exact bk_A (s := .box k o) hb h
  | vec k u => exact bk_A (s := .vec k u) hb h
  | vp k u o => exact bk_A (s := .vp k u o) hb h
  | mp k => exact bk_A (s := .mp k) hb h
  | tup l => rfl
theorem bk_T (hb : Bk st L V V2) : ∀ {l : List SV}, bkT (idsBx (hpIn st L).bx) (idsVc (hpIn st L).vc) L.length l → (l.map (renB (unren L st.nid))).map (denB (outV st L V V2)) = l.map (denB V2)
  | [], _ => rfl
  | s :: r, h => by simp only [List.map_cons]; rw [bk_B hb h.1, bk_T hb h.2]
theorem bk_S (hb : Bk st L V V2) {s : SV} (h : bkS (idsBx (hpIn st L).bx) (idsVc (hpIn st L).vc) L.length s) : den (outV st L V V2) (renS (unren L st.nid) s) = den V2 s := by
  cases s with
  | tup l => show Value.tuple _ = Value.tuple _; rw [bk_T hb h]
  | v x => rfl
  | box k o => exact bk_B (s := .box k o) hb h
  | vec k u => exact bk_B (s := .vec k u) hb h
  | vp k u o => exact bk_B (s := .vp k u o) hb h
  | mp k => exact bk_B (s := .mp k) hb h
  | agg cs => exact bk_B (s := .agg cs) hb h
theorem back_inj (hnd : L.Nodup) (hlt : ltL st.nid L) (j : Nat) : (fun k => if k < st.nid then ren L 0 k else k - st.nid) (unren L st.nid j) = j := by
  by_cases h : j < L.length
  · obtain ⟨k, hk, hm, he⟩ := back_lt (st := st) h
    dsimp only
    rw [he, if_pos (ltL_mem hlt k hm)]
    unfold ren
    rw [idxOf_get hnd hk]
    rfl
  · dsimp only
    rw [back_ge h, if_neg (by omega), Nat.add_sub_cancel_left]
theorem HSat.back (hb : Bk st L V V2) (hnd : L.Nodup) (hlt : ltL st.nid L) (h : HSat V2 D2 w2 H') (hbx : bkBx (idsBx (hpIn st L).bx) (idsVc (hpIn st L).vc) L.length H'.bx) (hvc : bkVc (idsVc (hpIn st L).vc) L.length H'.vc) :
    HSat (outV st L V V2) D2 w2 ⟨H'.bx.map (renBx (unren L st.nid)), H'.vc.map (renVc (unren L st.nid))⟩ ∧
      blks (outV st L V V2) ⟨H'.bx.map (renBx (unren L st.nid)), H'.vc.map (renVc (unren L st.nid))⟩ = blks V2 H' := by
  have hbl : blks (outV st L V V2) ⟨H'.bx.map (renBx (unren L st.nid)), H'.vc.map (renVc (unren L st.nid))⟩ = blks V2 H' := by
    unfold blks
    congr 1
    · rw [List.map_map]
      refine List.map_congr_left fun b hm => ?_
      show (outV st L V V2).β (renBx _ b).id = _
      rw [(renBx_id _ b).1, hb.β _ (bkBx_mem hbx b hm).1]
    · rw [List.filterMap_map]
      refine filterMap_congr' fun b hm => ?_
      show ((outV st L V V2).γ (renVc _ b).id (renVc _ b).ver).blk = _
      rw [(renVc_id _ b).1, (renVc_id _ b).2.1, hb.γ _ _ (bkVc_mem hvc b hm)]
  refine ⟨⟨fun b hm => ?_, fun b hm => ?_, by rw [hbl]; exact h.apart, ?_⟩, hbl⟩
  · obtain ⟨x, hx, rfl⟩ := List.mem_map.1 hm
    obtain ⟨e1, e2, e3⟩ := renBx_id (unren L st.nid) x
    obtain ⟨h1, h2⟩ := h.bx x hx
    unfold HBx
    rw [e1, e2, e3, hb.β _ (bkBx_mem hbx x hx).1, bk_L hb (bkBx_mem hbx x hx).2]
    exact ⟨h1, h2⟩
  · obtain ⟨x, hx, rfl⟩ := List.mem_map.1 hm
    obtain ⟨e1, e2, e3, e4, e5, e6⟩ := renVc_id (unren L st.nid) x
    have h1 := h.vc x hx
    unfold HVc
    rw [e1, e2, e3, e4, e5, e6, hb.γ _ _ (bkVc_mem hvc x hx)]
    exact h1
  · dsimp only
    rw [List.map_map]
    have : (H'.vc.map ((·.id) ∘ renVc (unren L st.nid))) = (H'.vc.map (·.id)).map (unren L st.nid) := by
      rw [List.map_map]
      exact List.map_congr_left fun b _ => (renVc_id _ b).1
    rw [this]
    exact nodup_inv (g := fun k => if k < st.nid then ren L 0 k else k - st.nid) (fun j _ => back_inj hnd hlt j) h.uniq

/-- BEHIND A CALL. -/
theorem SatW.call (h : SatW C st.bx st.vc st.nid st.m V D w) (hin : okIn st L []) (hbk : okBack st L r H' m')
    (wf2 : Wf w2 D2) (hs2 : HSat V2 D2 w2 H') (hβ : ∀ b ∈ (hpIn st L).bx, V2.β b.id = (inV L V).β b.id) (hγ : ∀ b ∈ (hpIn st L).vc, ∀ u, u ≤ b.ver → V2.γ b.id u = (inV L V).γ b.id u)
    (hfr : Frm (· ∈ blks (inV L V) (hpIn st L)) w D w2 D2) (hnew : ∀ b ∈ blks V2 H', b ∈ blks (inV L V) (hpIn st L) ∨ w.heap.size ≤ b) (hle : Mem.le ⟨w, D⟩ ⟨w2, D2⟩) (hm1 : st.m.le m') (hm2 : m'.le ⟨w2, D2⟩) :
    ∃ V3, Agree st.nid st.vc V V3 ∧ den V3 (renS (unren L st.nid) r) = den V2 r ∧ SatW C (backSt st L H' m').bx (backSt st L H' m').vc (backSt st L H' m').nid m' V3 D2 w2 ∧
      ∀ k u, k < st.nid → verLe st.vc k u → verLe (backSt st L H' m').vc k u := by
  obtain ⟨hnd, hlt, _, _⟩ := hin
  have hnd := ndL_nodup hnd
  obtain ⟨c1, c2, c3, c4, c5, c6⟩ := hbk
  have huq := h.heap.uniq
  have hb : Bk st L V V2 := ⟨fun j hj => out_β hnd hlt hβ hj, fun j u hj => out_γ hnd hlt huq hγ hj u⟩
  obtain ⟨hsn, hbl⟩ := hs2.back hb hnd hlt c2 c3
  have hsp := split_heap L h.heap
  obtain ⟨hp, hd, hdis⟩ := hsp.app
  have hag : Agree st.nid st.vc V (outV st L V V2) := outV_agree
  have hin' : blks (inV L V) (hpIn st L) = blks V ⟨pickBx L st.bx, pickVc L st.vc⟩ := blks_in
  have hbd : ∀ b ∈ dropBx L st.bx, b ∈ st.bx := fun b hb => (dropB_mem hb).1
  have hvd : ∀ b ∈ dropVc L st.vc, b ∈ st.vc := fun b hb => (drop_mem hb).1
  have hbld : blks (outV st L V V2) ⟨dropBx L st.bx, dropVc L st.vc⟩ = blks V ⟨dropBx L st.bx, dropVc L st.vc⟩ :=
    blks_eq (fun b hm => (hag b.id (h.ids.1 b (hbd b hm)).1).1) (fun b hm => (hag b.id (h.ids.2 b (hvd b hm))).2 b.ver (verLe_self huq (hvd b hm)))
  have hld := blks_lt hd
  have hd' : HSat (outV st L V V2) D2 w2 ⟨dropBx L st.bx, dropVc L st.vc⟩ :=
    hd.frame (fun b hm => ⟨(hag b.id (h.ids.1 b (hbd b hm)).1).1, denL_agree hag (h.ids.1 b (hbd b hm)).2⟩) (fun b hm => (hag b.id (h.ids.2 b (hvd b hm))).2 b.ver (verLe_self huq (hvd b hm)))
      (fun g hg => hfr.same g (hld g hg) (fun hx => hdis g (hin' ▸ hx) hg))
  have hall : HSat (outV st L V V2) D2 w2 ⟨H'.bx.map (renBx (unren L st.nid)) ++ dropBx L st.bx, H'.vc.map (renVc (unren L st.nid)) ++ dropVc L st.vc⟩ := by
    refine hsn.join hd' (fun g hg hg' => ?_) (fun x hx y hy => ?_)
    · rw [hbl] at hg
      rw [hbld] at hg'
      rcases hnew g hg with e | e
      · exact hdis g (hin' ▸ e) hg'
      · have := hld g hg'; omega
    · obtain ⟨z, hz, rfl⟩ := List.mem_map.1 hx
      rw [(renVc_id _ z).1]
      obtain ⟨hy1, hy2⟩ := drop_mem hy
      by_cases hl : z.id < L.length
      · obtain ⟨k, _, hkm, he⟩ := back_lt (st := st) hl
        rw [he]
        rintro rfl
        have : L.contains y.id = true := by simpa using hkm
        rw [this] at hy2; cases hy2
      · rw [back_ge hl]
        have := h.ids.2 y hy1
        omega
  have hmono : ∀ k u, k < st.nid → verLe st.vc k u → verLe (backSt st L H' m').vc k u := by
    intro k u hk hv
    show verLe (H'.vc.map (renVc (unren L st.nid)) ++ dropVc L st.vc) k u
    refine verLe_app ?_ (by rw [dropVc_eq]; exact verLe_filter huq hv)
    by_cases hkL : L.contains k = true
    · cases hlk : lkVi st.vc k with
      | none =>
        refine verLe_none fun b hbm e => ?_
        obtain ⟨z, hz, rfl⟩ := List.mem_map.1 hbm
        rw [(renVc_id _ z).1] at e
        by_cases hl : z.id < L.length
        · obtain ⟨k', hk', _, he⟩ := back_lt (st := st) hl
          rw [he] at e
          subst e
          obtain ⟨y, hy, hyz⟩ := idsVc_mem (bkVc_mem c3 z hz hl)
          obtain ⟨x, hx, rfl⟩ := List.mem_map.1 hy
          rw [(renVc_id _ x).1] at hyz
          obtain ⟨hxm, hc⟩ := pick_mem hx
          have := (ren_get hc).1
          rw [hyz, hk'] at this
          have hxk : x.id = k' := (Option.some.inj this).symm
          have := lkVi_self huq hxm
          rw [hxk, hlk] at this
          cases this
        · rw [back_ge hl] at e; omega
      | some b =>
        have hbm : b ∈ st.vc ∧ b.id = k := by
          clear hv
          revert hlk
          generalize st.vc = l
          intro hlk
          induction l with
          | nil => cases hlk
          | cons y r ih =>
            obtain ⟨i', v', e', z', n', x'⟩ := y
            simp only [lkVi] at hlk
            split at hlk
            · rename_i e; cases hlk; exact ⟨List.mem_cons_self .., e⟩
            · exact ⟨List.mem_cons_of_mem _ (ih hlk).1, (ih hlk).2⟩
        have h6 := verBk_mem c6 b hbm.1 (by rw [hbm.2]; exact hkL)
        rw [hbm.2] at h6
        exact verLe_le h6 (verLe_lkVi hlk hv)
    · refine verLe_none fun b hbm e => ?_
      obtain ⟨z, hz, rfl⟩ := List.mem_map.1 hbm
      rw [(renVc_id _ z).1] at e
      by_cases hl : z.id < L.length
      · obtain ⟨k', _, hm, he⟩ := back_lt (st := st) hl
        rw [he] at e
        subst e
        exact hkL (by simpa using hm)
      · rw [back_ge hl] at e; omega
  have hidb : ∀ j, j < max (topB H'.bx) (topV H'.vc) → unren L st.nid j < st.nid + max (topB H'.bx) (topV H'.vc) := by
    intro j hj
    by_cases hl : j < L.length
    · obtain ⟨k, _, hm, he⟩ := back_lt (st := st) hl
      rw [he]
      have := ltL_mem hlt k hm
      omega
    · rw [back_ge hl]; omega
  refine ⟨outV st L V V2, hag, bk_S hb c1, ⟨hall, wf2, h.frm.trans hfr (fun x hx => h.own x ((blks_split L st.bx st.vc).mem_iff.2 (List.mem_append_left _ (hin' ▸ hx)))), fun x hx => ?_, fun b hbm => ?_, fun b hbm => ?_, ⟨fun b hbm => ?_, fun b hbm => ?_⟩, Mem.le_trans h.le0 hle, Mem.le_trans h.m0 hm1, hm2⟩, hmono⟩
  · have hx' := (blks_app _ _ _ _).mem_iff.1 hx
    rcases List.mem_append.1 hx' with hx' | hx'
    · rw [hbl] at hx'
      rcases hnew x hx' with e | e
      · exact h.own x ((blks_split L st.bx st.vc).mem_iff.2 (List.mem_append_left _ (hin' ▸ e)))
      · exact .inr (Nat.le_trans h.frm.size e)
    · rw [hbld] at hx'
      exact h.own x ((blks_split L st.bx st.vc).mem_iff.2 (List.mem_append_right _ hx'))
  · obtain ⟨e1, e2⟩ := h.baseB b hbm
    exact ⟨((hag b.id e2).1).trans e1, Nat.lt_of_lt_of_le e2 (Nat.le_add_right _ _)⟩
  · obtain ⟨e1, e2, e3⟩ := h.baseV b hbm
    exact ⟨fun u hu => ((hag b.id e2).2 u (verLe_le e3 hu)).trans (e1 u hu), Nat.lt_of_lt_of_le e2 (Nat.le_add_right _ _), hmono _ _ e2 e3⟩
  · rcases List.mem_append.1 hbm with hbm | hbm
    · refine ⟨?_, okBxs_mem c5 b hbm⟩
      obtain ⟨x, hx, rfl⟩ := List.mem_map.1 hbm
      rw [(renBx_id _ x).1]
      exact hidb _ (Nat.lt_of_lt_of_le (topB_mem hx) (Nat.le_max_left _ _))
    · exact ⟨Nat.lt_of_lt_of_le (h.ids.1 b (hbd b hbm)).1 (Nat.le_add_right _ _), okL_mono (Nat.le_add_right _ _) hmono (h.ids.1 b (hbd b hbm)).2⟩
  · rcases List.mem_append.1 hbm with hbm | hbm
    · obtain ⟨x, hx, rfl⟩ := List.mem_map.1 hbm
      rw [(renVc_id _ x).1]
      exact hidb _ (Nat.lt_of_lt_of_le (topV_mem hx) (Nat.le_max_right _ _))
    · exact Nat.lt_of_lt_of_le (h.ids.2 b (hvd b hbm)) (Nat.le_add_right _ _)
end
end Go.Proofs.YtalalcpefggniaaGreatDoor.E

/- The engine, part P: the operations that act. -/
set_option linter.unusedSimpArgs false
set_option linter.unusedVariables false
namespace Go.Proofs.YtalalcpefggniaaGreatDoor.E
open Go

theorem okC_one {V : Vl} : ∀ {cs : List SV}, okC cs = true → ∀ v ∈ cs.map (denA V), v.oneCell' = true
  | .v x :: r, h, v, hv => by
    simp only [okC, Bool.and_eq_true] at h
    simp only [List.map_cons] at hv
    rcases List.mem_cons.1 hv with rfl | hv
    · exact h.1
    · exact okC_one h.2 v hv
  | .box k o :: r, h, v, hv => by
    simp only [List.map_cons] at hv
    rcases List.mem_cons.1 hv with rfl | hv
    · rfl
    · exact okC_one (cs := r) h v hv
  | .vec k o :: r, h, v, hv => by
    simp only [List.map_cons] at hv
    rcases List.mem_cons.1 hv with rfl | hv
    · rfl
    · exact okC_one (cs := r) h v hv
  | .vp k u o :: r, h, v, hv => by
    simp only [List.map_cons] at hv
    rcases List.mem_cons.1 hv with rfl | hv
    · rfl
    · exact okC_one (cs := r) h v hv
  | .mp k :: r, h, v, hv => by
    simp only [List.map_cons] at hv
    rcases List.mem_cons.1 hv with rfl | hv
    · rfl
    · exact okC_one (cs := r) h v hv
  | .agg cs :: r, h, v, hv => by simp [okC] at h
  | .tup cs :: r, h, v, hv => by simp [okC] at h
theorem plain_den {V : Vl} {s : SV} {x : Value} (h : plain s = some x) : denA V s = x := by
  cases s <;> simp only [plain, Option.some.injEq] at h <;> first | exact h | cases h
theorem plains_den {V : Vl} : ∀ {cs : List SV} {l : List Value}, plains cs = some l → cs.map (denA V) = l
  | [], l, h => by simp only [plains, Option.some.injEq] at h; subst h; rfl
  | s :: r, l, h => by
    simp only [plains, Option.bind_eq_some_iff, Option.map_eq_some_iff] at h
    obtain ⟨x, hx, l', hl, rfl⟩ := h
    simp only [List.map_cons]
    rw [plain_den hx, plains_den hl]
theorem setC_eq : ∀ (l cs : List SV) (off : Nat), off + l.length ≤ cs.length → setC cs off l = cs.take off ++ l ++ cs.drop (off + l.length)
  | [], cs, off, _ => by simp [setC]
  | c :: r, cs, off, h => by
    simp only [List.length_cons] at h
    simp only [setC]
    rw [setC_eq r (cs.set off c) (off + 1) (by simp; omega)]
    have h1 : (cs.set off c).take (off + 1) = cs.take off ++ [c] := by
      rw [List.take_set, List.take_succ_eq_append_getElem (by omega)]
      rw [List.set_append_right _ _ (by simp [Nat.min_le_left])]
      simp [List.length_take, Nat.min_eq_left (by omega : off ≤ cs.length)]
    have h2 : (cs.set off c).drop (off + 1 + r.length) = cs.drop (off + 1 + r.length) := List.drop_set_of_lt (by omega)
    rw [h1, h2]
    simp [Nat.add_assoc, Nat.add_comm 1]

theorem blk_uniq {V : Vl} {g : Nat} : ∀ {l : List Vc} {x b : Vc}, x ∈ l → b ∈ l → (V.γ x.id x.ver).blk = some g → (V.γ b.id b.ver).blk = some g → (l.filterMap fun b => (V.γ b.id b.ver).blk).Nodup → x = b
  | y :: r, x, b, hx, hb, hxg, hbg, hf => by
    simp only [List.filterMap_cons] at hf
    rcases List.mem_cons.1 hx with e1 | hx' <;> rcases List.mem_cons.1 hb with e2 | hb'
    · exact e1.trans e2.symm
    · subst e1
      rw [hxg] at hf
      exact absurd (List.mem_filterMap.2 ⟨b, hb', hbg⟩) (List.nodup_cons.1 hf).1
    · subst e2
      rw [hbg] at hf
      exact absurd (List.mem_filterMap.2 ⟨x, hx', hxg⟩) (List.nodup_cons.1 hf).1
    · refine blk_uniq hx' hb' hxg hbg ?_
      split at hf
      · exact hf
      · exact (List.nodup_cons.1 hf).2
section
variable {C : Ctx} {n : Nat} {st : LS} {a : Act} {V : Vl} {D : Nat → Nat} {w : World} {P : Program} {p : Pth}
theorem Sat.to (hS : Sat C n st a V D w) {bx' : List Bx} {vc' : List Vc} {nid' : Nat} {m' : Mem} {V' : Vl} {D' : Nat → Nat} {w' : World} (ha : Agree st.nid st.vc V V') (hn : st.nid ≤ nid')
    (hv : ∀ k u, k < st.nid → verLe st.vc k u → verLe vc' k u) (hW : SatW C bx' vc' nid' m' V' D' w') : Sat C n ⟨st.env, st.rho, bx', vc', nid', m'⟩ a V' D' w' :=
  ⟨hS.f.agree hS.ids ha, fun e he => okS_mono hn hv (hS.ids e he), hW⟩
theorem SatW.pub (h : SatW C st.bx st.vc st.nid st.m V D w) {k u : Nat} {b : Vc} (hb : lkV st.vc k u = some b) :
    ∃ (a : Option Addr) (c : Nat) (m1 : Mem) (D' : Nat → Nat), st.m.le m1 ∧ b.n ≤ c ∧ Rds m1 a b.n b.sz b.xs ∧ (V.γ k u).val = .slice a b.n c ∧ SatW C st.bx st.vc st.nid m1 V D' w := by
  obtain ⟨rfl, rfl, hm⟩ := lkV_mem hb
  obtain ⟨hown, hD, hsz, hone⟩ := h.heap.vc b hm
  obtain ⟨hn, hl, _⟩ := own_at hown
  let D' : Nat → Nat := fun x => if (V.γ b.id b.ver).blk = some x then b.n * b.sz else D x
  have hDD : ∀ x, D x ≤ D' x := fun x => by
    show D x ≤ if _ then _ else _
    split
    · rename_i e; exact hD x e
    · exact Nat.le_refl _
  have hwf : Wf w D' := fun x hx => by
    show (if _ then _ else _) = 0
    split
    · rename_i e; have := (own_blk hown e).2; omega
    · exact h.wf x hx
  have hle : Mem.le ⟨w, D⟩ ⟨w, D'⟩ := Mem.le_same h.wf (fun x _ => ⟨hDD x, fun _ => rfl⟩)
  have hself : Mem.le ⟨w, D'⟩ ⟨w, D'⟩ := Mem.le_refl ⟨w, D'⟩ hwf
  have hoth : ∀ g, g ∈ blks V ⟨st.bx, st.vc⟩ → (V.γ b.id b.ver).blk ≠ some g → D' g = D g := fun g _ hne => if_neg hne
  refine ⟨(V.γ b.id b.ver).a, (V.γ b.id b.ver).c, ⟨w, D'⟩, D', Mem.le_trans h.mle hle, ?_, ⟨hl, fun h0 => ?_⟩, by unfold Hd.val; rw [hn], ?_⟩
  · rcases hown.2 with ⟨_, hz⟩ | ⟨g, cap, cur, hv, _, _, hc, _⟩
    · omega
    · simp only [Hd.val, Value.slice.injEq] at hv; omega
  · rcases hown.2 with ⟨_, hz⟩ | ⟨g, cap, cur, hv, _, hh, hc, _, hcs, htk⟩
    · omega
    · simp only [Hd.val, Value.slice.injEq] at hv
      refine ⟨⟨g, 0, none⟩, hv.1, rfl, fun j hj => ?_⟩
      have hbk : (V.γ b.id b.ver).blk = some g := by unfold Hd.blk; rw [hv.1]; rfl
      refine ⟨?_, ?_⟩
      · rw [add_zero_off]
        simp only [World.cell?, hh, Option.isSome_none, Bool.false_eq_true, if_false]
        rw [← htk, List.getElem?_take, if_pos hj, Array.getElem?_toList]
      · show 0 + j < D' g
        have : D' g = b.n * b.sz := if_pos hbk
        omega
  · refine ⟨⟨fun x hx => ?_, fun x hx => ?_, h.heap.apart, h.heap.uniq⟩, hwf, h.frm.trans (S := fun x => (V.γ b.id b.ver).blk = some x) ⟨rfl, rfl, rfl, Nat.le_refl _, fun x _ hx => ⟨rfl, if_neg hx⟩⟩ (fun x hx => h.own x (by
      simp only [blks, List.mem_append, List.mem_filterMap]
      exact .inr ⟨b, hm, hx⟩)), h.own, h.baseB, h.baseV, h.ids, Mem.le_trans h.le0 hle, Mem.le_trans h.m0 (Mem.le_trans h.mle hle), hself⟩
    · obtain ⟨h1, h2⟩ := h.heap.bx x hx
      refine ⟨h1, ?_⟩
      rw [hoth _ (by simp only [blks, List.mem_append, List.mem_map]; exact .inl ⟨x, hx, rfl⟩)]
      · exact h2
      · intro e
        have hap := h.heap.apart
        unfold blks at hap
        exact (List.nodup_append.1 hap).2.2 _ (List.mem_map.2 ⟨x, hx, rfl⟩) _ (List.mem_filterMap.2 ⟨b, hm, e⟩) rfl
    · obtain ⟨h1, h2, h3, h4⟩ := h.heap.vc x hx
      refine ⟨h1, fun g hg => ?_, h3, h4⟩
      show (if _ then _ else _) ≤ _
      split
      · rename_i e
        have hxb : x = b := by
          have hap := h.heap.apart
          unfold blks at hap
          have hf := (List.nodup_append.1 hap).2.1
          exact blk_uniq hx hm hg e hf
        rw [hxb]
        exact Nat.le_refl _
      · exact h2 g hg
theorem pubA_sound : ∀ (l : List SV) (K : List SV → LS → Prop) (m : Mem) (D : Nat → Nat), pubAx l K ⟨st.env, st.rho, st.bx, st.vc, st.nid, m⟩ → SatW C st.bx st.vc st.nid m V D w →
    ∃ l' m1 D1, K l' ⟨st.env, st.rho, st.bx, st.vc, st.nid, m1⟩ ∧ SatW C st.bx st.vc st.nid m1 V D1 w ∧ l'.map (denA V) = l.map (denA V) ∧ (∀ x ∈ l', ∀ cs, x = .agg cs → .agg cs ∈ l)
  | [], K, m, D, h, hW => ⟨[], m, D, h, hW, rfl, fun _ h => by cases h⟩
  | s :: r, K, m, D, h, hW => by
    cases s with
    | vec k u =>
      simp only [pubAx] at h
      obtain ⟨b, hb, h⟩ := withO_some h
      obtain ⟨ad, c, m1, D', h1, h2, h3, h4, h5⟩ := SatW.pub (st := ⟨st.env, st.rho, st.bx, st.vc, st.nid, m⟩) hW hb
      obtain ⟨l', m2, D2, e1, e2, e3, e4⟩ := pubA_sound r _ m1 D' (h ad c m1 h1 h2 h3) h5
      refine ⟨_, m2, D2, e1, e2, ?_, fun x hx cs e => ?_⟩
      · simp only [List.map_cons]
        rw [e3]
        congr 1
        exact h4.symm
      · rcases List.mem_cons.1 hx with rfl | hx
        · cases e
        · exact List.mem_cons_of_mem _ (e4 x hx cs e)
    | v x =>
      obtain ⟨l', m2, D2, e1, e2, e3, e4⟩ := pubA_sound r _ m D h hW
      exact ⟨_, m2, D2, e1, e2, by simp only [List.map_cons, e3], fun y hy cs e => by
        rcases List.mem_cons.1 hy with rfl | hy
        · cases e
        · exact List.mem_cons_of_mem _ (e4 y hy cs e)⟩
    | box k o =>
      obtain ⟨l', m2, D2, e1, e2, e3, e4⟩ := pubA_sound r _ m D h hW
      exact ⟨_, m2, D2, e1, e2, by simp only [List.map_cons, e3], fun y hy cs e => by
        rcases List.mem_cons.1 hy with rfl | hy
        · cases e
        · exact List.mem_cons_of_mem _ (e4 y hy cs e)⟩
    | vp k u o =>
      obtain ⟨l', m2, D2, e1, e2, e3, e4⟩ := pubA_sound r _ m D h hW
      exact ⟨_, m2, D2, e1, e2, by simp only [List.map_cons, e3], fun y hy cs e => by
        rcases List.mem_cons.1 hy with rfl | hy
        · cases e
        · exact List.mem_cons_of_mem _ (e4 y hy cs e)⟩
    | mp k =>
      obtain ⟨l', m2, D2, e1, e2, e3, e4⟩ := pubA_sound r _ m D h hW
      exact ⟨_, m2, D2, e1, e2, by simp only [List.map_cons, e3], fun y hy cs e => by
        rcases List.mem_cons.1 hy with rfl | hy
        · cases e
        · exact List.mem_cons_of_mem _ (e4 y hy cs e)⟩
    | agg cs =>
      obtain ⟨l', m2, D2, e1, e2, e3, e4⟩ := pubA_sound r _ m D h hW
      exact ⟨_, m2, D2, e1, e2, by simp only [List.map_cons, e3], fun y hy cs' e => by
        rcases List.mem_cons.1 hy with rfl | hy
        · rw [e]; exact List.mem_cons_self ..
        · exact List.mem_cons_of_mem _ (e4 y hy cs' e)⟩
    | tup l0 =>
      obtain ⟨l', m2, D2, e1, e2, e3, e4⟩ := pubA_sound r _ m D h hW
      exact ⟨_, m2, D2, e1, e2, by simp only [List.map_cons, e3], fun y hy cs e => by
        rcases List.mem_cons.1 hy with rfl | hy
        · cases e
        · exact List.mem_cons_of_mem _ (e4 y hy cs e)⟩
theorem den_A {s : SV} (h1 : ∀ cs, s ≠ .agg cs) (h2 : ∀ l, s ≠ .tup l) : den V s = denA V s := by
  cases s with
  | agg cs => exact absurd rfl (h1 cs)
  | tup l => exact absurd rfl (h2 l)
  | _ => rfl
end
end Go.Proofs.YtalalcpefggniaaGreatDoor.E

/- The engine, part Q: every operation that acts. -/
set_option linter.unusedSimpArgs false
set_option linter.unusedVariables false
namespace Go.Proofs.YtalalcpefggniaaGreatDoor.E
open Go

section
variable {C : Ctx} {n : Nat} {st : LS} {a : Act} {V : Vl} {D : Nat → Nat} {w : World} {P : Program} {p : Pth} {c : Cfg}
theorem pubS_sound : ∀ (l : List SV) (K : List SV → LS → Prop) (m : Mem) (D : Nat → Nat), pubSx l K ⟨st.env, st.rho, st.bx, st.vc, st.nid, m⟩ → SatW C st.bx st.vc st.nid m V D w →
    ∃ l' m1 D1, K l' ⟨st.env, st.rho, st.bx, st.vc, st.nid, m1⟩ ∧ SatW C st.bx st.vc st.nid m1 V D1 w ∧ l'.map (den V) = l.map (den V)
  | [], K, m, D, h, hW => ⟨[], m, D, h, hW, rfl⟩
  | s :: r, K, m, D, h, hW => by
    cases s with
    | agg cs =>
      obtain ⟨cs', m1, D1, e1, e2, e3, _⟩ := pubA_sound (st := st) cs _ m D h hW
      obtain ⟨l', m2, D2, f1, f2, f3⟩ := pubS_sound r _ m1 D1 e1 e2
      exact ⟨_, m2, D2, f1, f2, by simp only [List.map_cons, f3, den_agg, e3]⟩
    | vec k u =>
      simp only [pubSx, pubAx] at h
      obtain ⟨b, hb, h⟩ := withO_some h
      obtain ⟨ad, cp, m1, D', h1, h2, h3, h4, h5⟩ := SatW.pub (st := ⟨st.env, st.rho, st.bx, st.vc, st.nid, m⟩) hW hb
      obtain ⟨l', m2, D2, f1, f2, f3⟩ := pubS_sound r _ m1 D' (h ad cp m1 h1 h2 h3) h5
      refine ⟨_, m2, D2, f1, f2, ?_⟩
      simp only [List.map_cons, List.cons_append, List.nil_append, f3]
      congr 1
      exact h4.symm
    | v x =>
      obtain ⟨l', m2, D2, f1, f2, f3⟩ := pubS_sound r _ m D h hW
      exact ⟨_, m2, D2, f1, f2, by simp only [List.map_cons, List.cons_append, List.nil_append, f3]⟩
    | box k o =>
      obtain ⟨l', m2, D2, f1, f2, f3⟩ := pubS_sound r _ m D h hW
      exact ⟨_, m2, D2, f1, f2, by simp only [List.map_cons, List.cons_append, List.nil_append, f3]⟩
    | vp k u o =>
      obtain ⟨l', m2, D2, f1, f2, f3⟩ := pubS_sound r _ m D h hW
      exact ⟨_, m2, D2, f1, f2, by simp only [List.map_cons, List.cons_append, List.nil_append, f3]⟩
    | mp k =>
      obtain ⟨l', m2, D2, f1, f2, f3⟩ := pubS_sound r _ m D h hW
      exact ⟨_, m2, D2, f1, f2, by simp only [List.map_cons, List.cons_append, List.nil_append, f3]⟩
    | tup l0 =>
      obtain ⟨l', m2, D2, f1, f2, f3⟩ := pubS_sound r _ m D h hW
      exact ⟨_, m2, D2, f1, f2, by simp only [List.map_cons, List.cons_append, List.nil_append, f3]⟩

theorem rdOs_sound (hS : Sat C n st a V D w) (hp : wfP st.rho p) (hc : condP st.rho p = true) : ∀ {l : List Operand} {ss : List SV}, rdOs st p l = some ss → l.map a.eval = ss.map (den V)
  | [], ss, h => by simp only [rdOs, Option.some.injEq] at h; subst h; rfl
  | x :: r, ss, h => by
    simp only [rdOs, Option.bind_eq_some_iff, Option.map_eq_some_iff] at h
    obtain ⟨s, hs, ss', hr, rfl⟩ := h
    simp only [List.map_cons, rdO_sound hS hp hc hs, rdOs_sound hS hp hc hr]
theorem run_call {o : Oper} {fo : Operand} {args : Array Operand} {ts : Array TypeId} {f : FuncId} (ho : o.op = .call { callee := .value fo, args, argTypes := ts }) (hf : a.eval fo = .func (.func f) #[] #[]) (hok : fnOk P f = true) :
    (execOp a.eval o).run P w = .ok (.enter f (args.map a.eval)) w := by
  unfold fnOk at hok
  split at hok
  · rename_i fn hfn
    simp only [Bool.and_eq_true, Bool.not_eq_true'] at hok
    have hb : fn.body.isNone = false := by cases h : fn.body <;> simp_all
    simp only [execOp, ho, resolve, hf, Deferred.ofValue, Sem.run_bind, Sem.run_pure, Result.andThen_ok, invoke, callFunc, run_program, hfn, hok.1, hb, Bool.false_eq_true, if_false]
    simp
  · cases hok
/-- A call, its arguments already shown. -/
theorem callH_sound (hS : Sat C n st a V D w) {f : FuncId} {ss : List SV} {K : SV → LS → Prop} {R : Ending → World → Prop} (h : callH (.mk (k := (P, f, K)) (st, ss)))
    (hn : ∀ s st' V' D' w', K s st' → st'.rho = st.rho → Sat C n st' a V' D' w' → Step st.nid st.vc st'.nid st'.vc V V' → R (.returned (den V' s)) w') : Calls P f ⟨ss.map (den V)⟩ w R := by
  simp only [callH, callL] at h
  obtain ⟨hin, h⟩ := h
  simp only [FnV, FnH] at h
  have hW := hS.w
  have hHin : HSat (inV (closeIds st.bx (idsS [] ss)) V) D w (hpIn st (closeIds st.bx (idsS [] ss))) := (split_heap _ hW.heap).app.1.into hin.2.2.2
  have := h (inV (closeIds st.bx (idsS [] ss)) V) w D hW.wf hW.mle hHin
  rw [den_args hin.2.2.1] at this
  refine this.mono fun e w2 ⟨r, V2, D2, H', m', he, h1, h2, h3, h4, h5, h6, h7, h8, h9, hback, hK⟩ => ?_
  obtain ⟨V3, a1, a2, a3, a4⟩ := hW.call (r := r) ⟨hin.1, hin.2.1, trivial, hin.2.2.2⟩ hback h1 h2 h3 h4 h5 h6 h7 h8 h9
  subst he
  rw [← a2]
  exact hn _ _ V3 D2 w2 hK rfl (hS.to a1 (Nat.le_add_right _ _) a4 a3) ⟨a1, Nat.le_add_right _ _, a4⟩
theorem callO_sound (hS : Sat C n st a V D w) {f : FuncId} {ss : List SV} {b : Bool} {K : SV → LS → Prop} {R : Ending → World → Prop} (h : callO (.mk (k := (P, f, st, ss, K)) b))
    (hn : ∀ s st' V' D' w', K s st' → st'.rho = st.rho → Sat C n st' a V' D' w' → Step st.nid st.vc st'.nid st'.vc V V' → R (.returned (den V' s)) w') : Calls P f ⟨ss.map (den V)⟩ w R := by
  cases b with
  | true => exact callH_sound hS h hn
  | false =>
    obtain ⟨l', m1, D1, e1, e2, e3⟩ := pubS_sound (st := st) ss _ st.m D h hS.w
    rw [← e3]
    exact callH_sound (st := ⟨st.env, st.rho, st.bx, st.vc, st.nid, m1⟩) ⟨hS.f, hS.ids, e2⟩ e1 hn

theorem appSrc_sound (hS : Sat C n st a V D w) {tx : TypeId} {sz : Nat} {y : SV} {K : Nat → List Value → Prop} (hsz : 0 < sz) (h : appSrc (.mk (k := (P, tx, sz, K)) (st, y))) : ∃ m news, K m news ∧ Src P sz tx (den V y) m news w := by
  unfold appSrc at h
  split at h
  · rename_i st' k u q
    simp only [A.mk.injEq, Prod.mk.injEq] at q
    obtain ⟨rfl, rfl⟩ := q
    obtain ⟨e, he, h⟩ := withO_some h
    obtain ⟨b, hb, rfl, hK⟩ := withO_some h
    refine ⟨_, _, hK, ?_⟩
    obtain ⟨hv, rfl, rfl⟩ := vc_of hS hb
    obtain ⟨hn, hl, hx⟩ := own_at hv.1
    show Src P b.sz tx (Hd.val _) b.n b.xs w
    rcases Nat.eq_zero_or_pos b.n with h0 | h0
    · have hnil : b.xs = [] := List.eq_nil_of_length_eq_zero (by rw [hl, h0, Nat.zero_mul])
      unfold Hd.val
      rw [hn, h0, hnil]
      cases ha : (V.γ b.id b.ver).a with
      | none => exact Src.ofNil w (elT_spec he) _
      | some ad => exact Src.ofSlice w (elT_spec he) ad 0 _ [] (by simp) (fun j u hu => by simp at hu) (fun u hu => by cases hu)
    · obtain ⟨g, hg, hc⟩ := hx h0
      unfold Hd.val
      rw [hn, hg]
      exact Src.ofSlice w (elT_spec he) ⟨g, 0, none⟩ b.n _ b.xs hl (fun j u hu => by rw [add_zero_off]; exact hc j u hu) hv.2.2.2
  · rename_i st' x m cp q
    simp only [A.mk.injEq, Prod.mk.injEq] at q
    obtain ⟨rfl, rfl⟩ := q
    obtain ⟨e, he, xs, h1, h2, hK⟩ := withO_some h
    refine ⟨_, _, hK, ?_⟩
    show Src P sz tx (.slice x m cp) m xs w
    rcases Nat.eq_zero_or_pos m with h0 | h0
    · subst h0
      have hnil : xs = [] := List.eq_nil_of_length_eq_zero (by rw [h1.1, Nat.zero_mul])
      subst hnil
      cases x with
      | none => exact Src.ofNil w (elT_spec he) _
      | some ad => exact Src.ofSlice w (elT_spec he) ad 0 _ [] (by simp) (fun j u hu => by simp at hu) (fun u hu => by cases hu)
    · obtain ⟨ad, rfl, hc⟩ := Rds_at hS.mle h1 h0
      exact Src.ofSlice w (elT_spec he) ad m _ xs h1.1 hc h2
  · rename_i st' s q
    simp only [A.mk.injEq, Prod.mk.injEq] at q
    obtain ⟨rfl, rfl⟩ := q
    obtain ⟨h1, rfl, hK⟩ := h
    refine ⟨_, _, hK, ?_⟩
    rw [tl_len]
    exact Src.ofString w h1 s
  · cases h
theorem upd_id {b : Vc} {n : Nat} {xs : List Value} : (bumpV b n xs).id = b.id ∧ (bumpV b n xs).ver = b.ver + 1 := by cases b; exact ⟨rfl, rfl⟩
theorem lApp_sound (hS : Sat C n st a V D w) {t tx e ty : TypeId} {s y : SV} {K : SV → LS → Prop} (he : elT P t = some e) (h : lApp (.mk (k := (P, e, tx, y, K)) (st, s))) :
    ∃ r st' V' D' w', (Builtin.append_ #[t, tx] ty #[den V s, den V y]).run P w = .ok (den V' r) w' ∧ K r st' ∧ st'.rho = st.rho ∧ Sat C n st' a V' D' w' ∧ Step st.nid st.vc st'.nid st'.vc V V' := by
  unfold lApp at h
  split at h
  · rename_i st' k u q
    simp only [A.mk.injEq, Prod.mk.injEq] at q
    obtain ⟨rfl, rfl⟩ := q
    obtain ⟨b, hb, h1, h2, h3, h⟩ := withO_some h
    obtain ⟨z, hz, h4, h⟩ := withO_some h
    obtain ⟨m, news, ⟨hroom, hK⟩, hsrc⟩ := appSrc_sound hS h3 h
    obtain ⟨i, hi, hisz, hiby⟩ := info_of h3
    obtain ⟨zv, hzv, hzs⟩ := zero_of hi hz
    obtain ⟨hv, hbi, hbv⟩ := vc_of hS hb
    have hown := hv.1
    rw [hbi, hbv, h1, h2, ← hisz] at hown
    rw [← hisz] at hsrc
    obtain ⟨h', w', hrun, hown', hcase⟩ := run_append (ty := ty) (elT_spec he) hi hzv (by rw [hzs, h4, hisz]) hown hsrc (by rw [hiby]; exact hroom)
    have hbo := hv.2.2
    have hone : ∀ y' ∈ b.xs ++ news, y'.oneCell' = true := fun y' hy => (List.mem_append.1 hy).elim (hbo.2 y') (hsrc.one y')
    have hU := hS.w.updVc (w' := w') (n := b.n + m) (hd := h') (xs := b.xs ++ news) hb (Nat.mul_le_mul_right _ (Nat.le_add_right _ _))
      (by rcases hcase with ⟨rfl, _⟩ | ⟨g, cur, cur', _, _, _, rfl, _⟩ | ⟨cc, _, rfl⟩ <;> rfl)
      (by rcases hcase with ⟨rfl, _⟩ | ⟨g, cur, cur', _, _, _, rfl, _⟩ | ⟨cc, _, rfl⟩ <;> rfl)
      (by rcases hcase with ⟨rfl, _⟩ | ⟨g, cur, cur', _, _, _, rfl, _⟩ | ⟨cc, _, rfl⟩ <;> rfl)
      (by rcases hcase with ⟨rfl, _⟩ | ⟨g, cur, cur', _, _, _, rfl, _⟩ | ⟨cc, _, rfl⟩ <;> simp)
      (fun x hx hne => by
        rcases hcase with ⟨rfl, _⟩ | ⟨g, cur, cur', _, hg, _, rfl, _⟩ | ⟨cc, _, rfl⟩
        · rfl
        · exact setRow_other w g x _ (fun e => hne (e ▸ hg))
        · exact heap_alloc_lt w.drew _ x hx)
      (fun x hx => by
        rcases hcase with ⟨rfl, _⟩ | ⟨g, cur, cur', _, hg, hcur, rfl, hsame⟩ | ⟨cc, _, rfl⟩
        · exact keepObj_same rfl
        · rw [hg] at hx
          obtain rfl : g = x := Option.some.inj hx
          rw [hcur, setRow_heap w g cur _ e _ hcur]
          exact ⟨_, _, _, rfl, fun j hj => hsame j (by rw [hisz, ← h1]; exact hj)⟩
        · exact keepObj_same (heap_alloc_lt w.drew _ x (own_blk hown hx).2))
      (by rw [h1, h2, ← hisz]; exact hown')
      (fun x hx => by
        rcases hcase with ⟨rfl, rfl⟩ | ⟨g, cur, cur', hg', hg, _, rfl, _⟩ | ⟨cc, hg', rfl⟩
        · exact .inl hx
        · rw [hg'] at hx; cases hx; exact .inl hg
        · rw [hg'] at hx; cases hx; exact .inr (Nat.le_refl _))
      hone
    obtain ⟨V', ha, hγ, hW⟩ := hU
    have hvm : ∀ k' u', k' < st.nid → verLe st.vc k' u' → verLe (updV st.vc k (bumpV b (b.n + m) (b.xs ++ news))) k' u' := fun k' u' _ => verLe_updV hb (by rw [upd_id.1]; exact hbi) (by rw [upd_id.2, hbv]; exact Nat.le_succ _) k' u'
    refine ⟨_, _, V', D, w', ?_, hK, rfl, hS.to ha (Nat.le_refl _) hvm hW, ⟨ha, Nat.le_refl _, hvm⟩⟩
    rw [show den V' (.vec k (u + 1)) = h'.val from by show Hd.val _ = _; rw [hγ]]
    exact hrun
  · rename_i st' q
    simp only [A.mk.injEq, Prod.mk.injEq] at q
    obtain ⟨rfl, rfl⟩ := q
    obtain ⟨h3, h⟩ := h
    obtain ⟨z, hz, h4, h⟩ := withO_some h
    obtain ⟨m, news, ⟨hroom, hK⟩, hsrc⟩ := appSrc_sound hS h3 h
    obtain ⟨i, hi, hisz, hiby⟩ := info_of h3
    obtain ⟨zv, hzv, hzs⟩ := zero_of hi hz
    rw [← hisz] at hsrc
    have hown : w.ownsRow 0 e i.size (Hd.val ⟨none, 0, 0⟩) 0 [] := World.ownsRow_nil w 0 e i.size
    obtain ⟨h', w', hrun, hown', hcase⟩ := run_append (ty := ty) (elT_spec he) hi hzv (by rw [hzs, h4, hisz]) hown hsrc (by rw [hiby, Nat.zero_add]; exact hroom)
    rw [Nat.zero_add, List.nil_append, hisz] at hown'
    obtain ⟨V', ha, hγ, hW⟩ := hS.w.addVc (w' := w') (hd := h')
      (by rcases hcase with ⟨rfl, _⟩ | ⟨g, cur, cur', _, _, _, rfl, _⟩ | ⟨cc, _, rfl⟩ <;> rfl)
      (by rcases hcase with ⟨rfl, _⟩ | ⟨g, cur, cur', _, _, _, rfl, _⟩ | ⟨cc, _, rfl⟩ <;> rfl)
      (by rcases hcase with ⟨rfl, _⟩ | ⟨g, cur, cur', _, _, _, rfl, _⟩ | ⟨cc, _, rfl⟩ <;> rfl)
      (by rcases hcase with ⟨rfl, _⟩ | ⟨g, cur, cur', _, _, _, rfl, _⟩ | ⟨cc, _, rfl⟩ <;> simp)
      (fun x hx => by
        rcases hcase with ⟨rfl, _⟩ | ⟨g, cur, cur', _, hg, _, rfl, _⟩ | ⟨cc, _, rfl⟩
        · rfl
        · cases hg
        · exact heap_alloc_lt w.drew _ x hx)
      hown'
      (fun x hx => by
        rcases hcase with ⟨rfl, rfl⟩ | ⟨g, cur, cur', hg', hg, _, rfl, _⟩ | ⟨cc, hg', rfl⟩
        · cases hx
        · cases hg
        · rw [hg'] at hx; cases hx; exact Nat.le_refl _)
      h3 hsrc.one
    refine ⟨_, _, V', D, w', ?_, hK, rfl, hS.to ha (Nat.le_succ _) (fun k u hk hv => verLe_cons rfl k u hk hv) hW, ⟨ha, Nat.le_succ _, fun k u hk hv => verLe_cons rfl k u hk hv⟩⟩
    rw [show den V' (.vec st.nid 0) = h'.val from by show Hd.val _ = _; rw [hγ]]
    exact hrun
  · cases h
end
end Go.Proofs.YtalalcpefggniaaGreatDoor.E

/- The engine, part R: every operation that acts, together. -/
set_option linter.unusedSimpArgs false
set_option linter.unusedVariables false
namespace Go.Proofs.YtalalcpefggniaaGreatDoor.E
open Go

theorem range_flat (z : List Value) (h : 0 < z.length) : ∀ len : Nat, (List.range (len * z.length)).map (fun i => z[i % z.length]!) = (List.replicate len z).flatten
  | 0 => by simp
  | len + 1 => by
    rw [Nat.succ_mul, List.range_add, List.map_append, range_flat z h len, List.replicate_succ', List.flatten_append]
    congr 1
    simp only [List.map_map, List.flatten_cons, List.flatten_nil, List.append_nil]
    apply List.ext_getElem?
    intro j
    simp only [List.getElem?_map, Function.comp]
    rcases Nat.lt_or_ge j z.length with hj | hj
    · rw [List.getElem?_range hj, List.getElem?_eq_getElem hj]
      simp only [Option.map_some, Option.some.injEq, Function.comp]
      rw [Nat.add_comm, Nat.add_mul_mod_self_right, Nat.mod_eq_of_lt hj]
      simp [List.getElem!_eq_getElem?_getD, List.getElem?_eq_getElem hj]
    · rw [List.getElem?_eq_none (by simpa using hj), List.getElem?_eq_none hj]
      rfl
theorem made_flat (z : List Value) (len : Nat) (h : 0 < z.length) : (Array.range (len * z.length)).map (fun i => (⟨z⟩ : Array Value)[i % (⟨z⟩ : Array Value).size]!) = ⟨(List.replicate len z).flatten⟩ := by
  apply Array.ext'
  rw [← range_flat z h len]
  simp
theorem flat_map {α β : Type} (f : α → β) (z : List α) (len : Nat) : ((List.replicate len z).flatten).map f = (List.replicate len (z.map f)).flatten := by
  induction len with
  | zero => rfl
  | succ k ih => simp only [List.replicate_succ, List.flatten_cons, List.map_append, ih]
theorem flat_len (z : List Value) (len : Nat) : ((List.replicate len z).flatten).length = len * z.length := by
  induction len with
  | zero => simp
  | succ k ih => simp only [List.replicate_succ, List.flatten_cons, List.length_append, ih, Nat.succ_mul]; omega
theorem flat_take (z : List Value) {l c : Nat} (h : l ≤ c) : ((List.replicate c z).flatten).take (l * z.length) = (List.replicate l z).flatten := by
  obtain ⟨d, rfl⟩ := Nat.exists_eq_add_of_le h
  rw [← List.replicate_append_replicate, List.flatten_append, ← flat_len z l]
  exact List.take_left
theorem flat_mem {z : List Value} {len : Nat} {u : Value} (h : u ∈ (List.replicate len z).flatten) : u ∈ z := by
  obtain ⟨l, hl, hu⟩ := List.mem_flatten.1 h
  rw [List.mem_replicate] at hl
  exact hl.2 ▸ hu

theorem okL_set1 {nid : Nat} {vc : List Vc} {c : SV} (hc : okA nid vc c) : ∀ (cs : List SV) (off : Nat), okL nid vc cs → okL nid vc (cs.set off c)
  | [], _, h => h
  | _ :: _, 0, h => ⟨hc, h.2⟩
  | _ :: cs, off + 1, h => ⟨h.1, okL_set1 hc cs off h.2⟩
theorem okL_setC {nid : Nat} {vc : List Vc} : ∀ (l cs : List SV) (off : Nat), okL nid vc l → okL nid vc cs → okL nid vc (setC cs off l)
  | [], _, _, _, h => h
  | _ :: r, _, _, hl, h => okL_setC r _ _ hl.2 (okL_set1 hl.1 _ _ h)

section
variable {C : Ctx} {n : Nat} {st : LS} {a : Act} {V : Vl} {D : Nat → Nat} {w : World} {P : Program} {p : Pth} {c : Cfg}
theorem partsS_C {sz : Nat} {st : LS} {p : Pth} {z : List SV} (hz : z.length = sz) : ∀ (l : List (Nat × Operand)) (i k : Nat) (pre cs : List SV), partsS sz st p i l = some cs → pre.length = i * sz → cs.length = k * sz → 0 < sz →
    partsC sz st p l (pre ++ (List.replicate k z).flatten) = some (pre ++ cs)
  | [], i, k, pre, cs, h, hp, hk, h0 => by
    simp only [partsS, Option.some.injEq] at h
    subst h
    have : k = 0 := by
      rcases Nat.eq_zero_or_pos k with h | h
      · exact h
      · have := Nat.mul_pos h h0
        simp only [List.length_nil] at hk
        omega
    subst this
    simp [partsC]
  | (j, x) :: r, i, k, pre, cs, h, hp, hk, h0 => by
    simp only [partsS] at h
    split at h
    · rename_i e
      subst e
      simp only [Option.bind_eq_some_iff] at h
      obtain ⟨l, hl, h⟩ := h
      split at h
      · rename_i hls
        obtain ⟨cs', hcs, rfl⟩ := Option.map_eq_some_iff.1 h
        have hk1 : 0 < k := by
          rcases Nat.eq_zero_or_pos k with h | h
          · subst h; simp only [List.length_append, Nat.zero_mul] at hk; omega
          · exact h
        obtain ⟨k', rfl⟩ : ∃ k', k = k' + 1 := ⟨k - 1, by omega⟩
        have hfl : (List.replicate (k' + 1) z).flatten = z ++ (List.replicate k' z).flatten := by rw [List.replicate_succ, List.flatten_cons]
        have hk' : cs'.length = k' * sz := by
          rw [Nat.add_mul] at hk
          simp only [List.length_append, hls] at hk
          omega
        simp only [partsC]
        have hb : ((rdO st p x).bind svCells) = some l := by simpa [Option.bind_eq_some_iff] using hl
        rw [hb]
        simp only [Option.bind_some]
        rw [if_pos hls, if_pos (by rw [List.length_append, hp, hfl, List.length_append, hz]; omega)]
        rw [hfl, setC_eq _ _ _ (by rw [List.length_append, hp, List.length_append, hz, hls]; omega)]
        have e1 : (pre ++ (z ++ (List.replicate k' z).flatten)).take (j * sz) = pre := by rw [← hp]; exact List.take_left' rfl
        have e2 : (pre ++ (z ++ (List.replicate k' z).flatten)).drop (j * sz + l.length) = (List.replicate k' z).flatten := by
          rw [← List.append_assoc]
          exact List.drop_left' (by rw [List.length_append, hp, hz, hls])
        rw [e1, e2, partsS_C hz r (j + 1) k' (pre ++ l) cs' hcs (by rw [List.length_append, hp, hls, Nat.add_mul]; omega) hk' h0, List.append_assoc]
      · cases h
    · cases h
theorem partsG_C {sz len : Nat} {st : LS} {p : Pth} {z : List SV} {parts : List (Nat × Operand)} {cs : List SV} (hz : z.length = sz) (h0 : 0 < sz) (h : partsG sz st p parts len z (partsS sz st p 0 parts) = some cs) : partsC sz st p parts (List.replicate len z).flatten = some cs := by
  cases hs : partsS sz st p 0 parts with
  | none => rw [hs] at h; exact h
  | some cs' =>
    rw [hs] at h
    simp only [partsG] at h
    split at h
    · rename_i hl
      cases h
      have := partsS_C hz parts 0 len [] _ hs (by simp) hl h0
      simpa using this
    · exact h
theorem partsC_sound (hS : Sat C n st a V D w) (hp : wfP st.rho p) (hc : condP st.rho p = true) {sz : Nat} :
    ∀ (parts : List (Nat × Operand)) (cs cs' : List SV), partsC sz st p parts cs = some cs' →
      Instr.fill (fun i => some (i * sz, sz)) ⟨cs.map (denA V)⟩ (parts.map fun x => (x.1, a.eval x.2)) = some ⟨cs'.map (denA V)⟩ ∧ cs'.length = cs.length
  | [], cs, cs', h => by simp only [partsC, Option.some.injEq] at h; subst h; exact ⟨rfl, rfl⟩
  | (i, x) :: r, cs, cs', h => by
    simp only [partsC] at h
    obtain ⟨l, hl, h⟩ := bnd h
    obtain ⟨s, hs, hl⟩ := bnd hl
    split at h
    · rename_i hsz
      split at h
      · rename_i hfit
        have hev := rdO_sound hS hp hc hs
        have hcl := svCells_den (V := V) hl
        have hsize : (a.eval x).cells.size = l.length := by rw [hev, hcl]; simp
        obtain ⟨ih, ihl⟩ := partsC_sound hS hp hc r _ cs' h
        refine ⟨?_, by rw [ihl, setC_len]⟩
        simp only [List.map_cons, Instr.fill]
        rw [if_neg (by
          simp only [hsize, List.size_toArray, List.length_map, Bool.or_eq_true, decide_eq_true_eq, not_or, Decidable.not_not]
          exact ⟨by simpa using hsz, by omega⟩)]
        have hfold : ((a.eval x).cells.zipIdx.foldl (fun (cs : Array Value) (y : Value × Nat) => cs.setIfInBounds (i * sz + y.2) y.1) ⟨cs.map (denA V)⟩) = ⟨(setC cs (i * sz) l).map (denA V)⟩ := by
          rw [hev, hcl, ← Array.foldl_toList]
          have := fold_set (V := V) l cs (i * sz) 0
          simp only [Nat.add_zero] at this
          rw [← this]
          simp [Array.toList_zipIdx]
        rw [← ih, ← hfold]
      · cases h
    · cases h
theorem buildSlice_run (hS : Sat C n st a V D w) (hp : wfP st.rho p) (hc : condP st.rho p = true) {t e : TypeId} {len : Nat} {parts : Array (Nat × Operand)} {z cs : List SV}
    (he : elT P t = some e) (hz : zeroO P e = some z) (hzl : z.length = szT P e) (h0 : 0 < szT P e) (hbig : len * szT P e ≤ 16777216) (h : partsC (szT P e) st p parts.toList (List.replicate len z).flatten = some cs) :
    (Instr.buildSlice t len (parts.map fun x => (x.1, a.eval x.2))).run P w = .ok (.slice (some ⟨w.heap.size, 0, none⟩) len len) (w.alloc (.cells ⟨cs.map (denA V)⟩ e)) ∧ cs.length = len * szT P e := by
  obtain ⟨hfill, hlen⟩ := partsC_sound hS hp hc _ _ _ h
  have hlen' : cs.length = len * szT P e := by
    rw [hlen]
    have : ((List.replicate len z).flatten).length = len * z.length := by
      induction len with
      | zero => simp
      | succ k _ => simp
    rw [this, hzl]
  refine ⟨?_, hlen'⟩
  obtain ⟨zv, hzv, hzc⟩ := zeroO_spec (V := V) (w := w) hz
  have hparts : (parts.map fun x => (x.1, a.eval x.2)).toList = parts.toList.map fun x => (x.1, a.eval x.2) := by simp
  simp only [Instr.buildSlice, Sem.run_bind, run_underlying (elT_spec he), Result.andThen_ok, run_szT h0]
  rw [if_neg (by have : (2 : Nat) ^ 24 = 16777216 := by decide
                 omega)]
  rcases Nat.eq_zero_or_pos len with hl | hl
  · subst hl
    simp only [Nat.zero_mul, Array.range_zero', List.replicate_zero, List.flatten_nil] at h hfill ⊢
    have hcs : cs = [] := List.eq_nil_of_length_eq_zero (by simpa using hlen')
    subst hcs
    simp only [if_true, Sem.run_pure, Result.andThen_ok, hparts, Sem.run_bind]
    simp only [List.map_nil] at hfill
    have : (#[] : Array Nat).map (fun i => (#[] : Array Value)[i % (#[] : Array Value).size]!) = #[] := by simp
    rw [this]
    rw [hfill]
    simp [newRow]
  · have hne : ¬ len * szT P e = 0 := by have := Nat.mul_pos hl h0; omega
    rw [if_neg hne]
    simp only [Sem.run_bind, Sem.run_pure, Result.andThen_ok, hzv, hzc, hparts]
    have hmade : (Array.range (len * szT P e)).map (fun i => (⟨z.map (denA V)⟩ : Array Value)[i % (⟨z.map (denA V)⟩ : Array Value).size]!) = ⟨((List.replicate len z).flatten).map (denA V)⟩ := by
      have := made_flat (z.map (denA V)) len (by simp; omega)
      simp only [List.length_map, hzl] at this
      rw [this, flat_map]
    rw [hmade, hfill]
    simp [newRow]

theorem wp_ok {o : Oper} {v : Value} {w' : World} {next : Act → World → Prop} {Q : Exit → Act → World → Prop} (h : (execOp a.eval o).run P w = .ok (.value v) w') (hn : next (a.put o.dst v) w') : o.wp P a w next Q := by
  unfold Oper.wp; rw [h]; exact hn
theorem wp_skip' {o : Oper} {w' : World} {next : Act → World → Prop} {Q : Exit → Act → World → Prop} (h : (execOp a.eval o).run P w = .ok .skip w') (hn : next (a.put o.dst undef) w') : o.wp P a w next Q := by
  unfold Oper.wp; rw [h]; exact hn

/-- EVERY OPERATION THAT ACTS. -/
theorem lOp_sound (hS : Sat C n st a V D w) (hp : wfP st.rho p) (hc : condP st.rho p = true) {o : Oper} {op : Op} (ho : o.op = op) {K : SV → LS → Prop} (h : lOp (.mk (k := (c, P, op, K)) (st, p)))
    {next : Act → World → Prop} {Q : Exit → Act → World → Prop} (hn : ∀ s st' V' D' w', K s st' → st'.rho = st.rho → Sat C n st' a V' D' w' → Step st.nid st.vc st'.nid st'.vc V V' → next (a.put o.dst (den V' s)) w') : o.wp P a w next Q := by
  unfold lOp at h
  split at h
  · rename_i t st' p' q
    cases q
    obtain ⟨cs, hz, hty, hok, hK⟩ := withO_some h
    obtain ⟨zv, hzv, hzc⟩ := zeroO_spec (V := V) (w := w) hz
    obtain ⟨V', ha, hβ, hW⟩ := hS.w.addBx (t := t) (bxObj_cells hty) hok
    have hrun : (Instr.alloc t true (.tuple #[])).run P w = .ok (.pointer (some ⟨w.heap.size, 0, none⟩)) (w.alloc (.cells ⟨cs.map (denA V)⟩ t)) := by
      simp [Instr.alloc, hzv, newVar, newRow, hzc]
    refine wp_ok (v := .pointer (some ⟨w.heap.size, 0, none⟩)) (by simp only [execOp, ho]; exact exec_v hrun) ?_
    have := hn _ _ V' D _ hK rfl (hS.to ha (Nat.le_succ _) (fun _ _ _ h => h) hW) ⟨ha, Nat.le_succ _, fun _ _ _ h => h⟩
    rwa [den_box, hβ] at this
  · rename_i t x st' p' q
    cases q
    obtain ⟨cs, hcs, hty, hok, hK⟩ := withO_some h
    obtain ⟨s, hs, hcs⟩ := bnd hcs
    obtain ⟨V', ha, hβ, hW⟩ := hS.w.addBx (t := t) (bxObj_cells hty) hok
    have hcl := svCells_den (V := V) hcs
    have hrun : (Instr.box t (den V s)).run P w = .ok (.pointer (some ⟨w.heap.size, 0, none⟩)) (w.alloc (.cells ⟨cs.map (denA V)⟩ t)) := by
      simp [Instr.box, newVar, newRow, hcl]
    refine wp_ok (v := .pointer (some ⟨w.heap.size, 0, none⟩)) (by simp only [execOp, ho, rdO_sound hS hp hc hs]; exact exec_v hrun) ?_
    have := hn _ _ V' D _ hK rfl (hS.to ha (Nat.le_succ _) (fun _ _ _ h => h) hW) ⟨ha, Nat.le_succ _, fun _ _ _ h => h⟩
    rwa [den_box, hβ] at this
  · rename_i t x y st' p' q
    cases q
    obtain ⟨sx, hx, h1⟩ := withO_some h
    obtain ⟨cs, hcs, h2⟩ := withO_some h1
    obtain ⟨sy, hy, hcs⟩ := bnd hcs
    clear h h1
    unfold lSto at h2
    split at h2
    · rename_i st' k off q
      simp only [A.mk.injEq, Prod.mk.injEq] at q
      obtain ⟨rfl, rfl⟩ := q
      obtain ⟨b, hb, hty, h0, hsz, hone, hok, hfit, hK⟩ := withO_some h2
      obtain ⟨hbi, hbm⟩ := lkB_mem hb
      obtain ⟨ob, hrow, hob⟩ := (hS.heap.bx b hbm).1
      have hob' := bxObj_is hty hob
      subst hob'
      rw [hbi] at hrow
      have hset : (cs.map (denA V)) = cs.map (denA V) := rfl
      have hW := hS.w.setBx (cs := setC b.cs off cs) hb hty (by
        have hbo := (hS.w.ids.1 b hbm).2
        exact okL_setC cs b.cs off hok hbo)
      have hcl := svCells_den (V := V) hcs
      have hst := run_storeCells_at P (V.β k) off b.ty (cs.map (denA V)) 0 ⟨b.cs.map (denA V)⟩ w hrow (by simp; exact hfit) (okC_one hone)
      have hrun : (Instr.storeAt t (.pointer (some ⟨V.β k, off, none⟩)) (den V sy)).run P w = .ok () (w.setRow (V.β k) ⟨(setC b.cs off cs).map (denA V)⟩) := by
        have hsize : (den V sy).cells.size = szT P t := by rw [hcl]; simpa using hsz
        simp only [Instr.storeAt, Instr.sureAddr, Sem.run_bind, Sem.run_pure, Result.andThen_ok, storeVar, run_szT h0]
        rw [if_neg (by rw [hsize]; simp)]
        rw [hcl]
        rw [setC_eq _ _ _ hfit]
        simp only [Nat.add_zero] at hst
        simp only [List.map_append, List.map_take, List.map_drop]
        rw [← List.length_map (f := denA V)]
        exact hst
      refine wp_skip' (w' := w.setRow (V.β k) ⟨(setC b.cs off cs).map (denA V)⟩) (by
        simp only [execOp, ho, rdO_sound hS hp hc hx, rdO_sound hS hp hc hy, den_box, Sem.run_bind, hrun, Result.andThen_ok, Sem.run_pure]) ?_
      exact hn _ _ V D _ hK rfl (hS.to (Agree.refl _ _ _) (Nat.le_refl _) (fun _ _ _ h => h) hW) ⟨Agree.refl _ _ _, Nat.le_refl _, fun _ _ _ h => h⟩
    · cases h2
  · rename_i t len parts st' p' q
    cases q
    obtain ⟨e, he, h⟩ := withO_some h
    obtain ⟨z, hz, hzl, h0, hbig, h⟩ := withO_some h
    obtain ⟨cs, hcs, h⟩ := withO_some h
    have hcs := partsG_C hzl h0 hcs
    obtain ⟨l', m1, D1, e1, e2, e3, _⟩ := pubA_sound (st := st) cs _ st.m D h hS.w
    obtain ⟨l, hl, hone, hK⟩ := withO_some e1
    have hpl := plains_den (V := V) hl
    obtain ⟨hrun, hclen⟩ := buildSlice_run hS hp hc he hz hzl h0 hbig hcs
    rw [← e3, hpl] at hrun
    have hll : l.length = len * szT P e := by
      rw [← hpl, e3, List.length_map, hclen]
    obtain ⟨V', ha, hγ, hW⟩ := SatW.addVc (w' := w.alloc (.cells ⟨l⟩ e)) (hd := ⟨some ⟨w.heap.size, 0, none⟩, len, len⟩) (e := e) (sz := szT P e) (n := len) (xs := l) e2 rfl rfl rfl (by simp) (fun b hb => heap_alloc_lt w _ b hb)
      ⟨hll, .inr ⟨w.heap.size, len, ⟨l⟩, rfl, Nat.zero_le _, heap_alloc_new w _, Nat.le_refl _, by
        have : len ≤ len * szT P e := Nat.le_mul_of_pos_right _ h0
        simp only [maxLen]; omega, by simpa using hll, by rw [← hll]; simp⟩⟩
      (fun g hg => by simp only [Hd.blk, Option.map_some, Option.some.injEq] at hg; omega) h0
      (fun u hu => by rw [← hpl] at hu; exact okC_one hone u hu)
    refine wp_ok (v := .slice (some ⟨w.heap.size, 0, none⟩) len len) (by simp only [execOp, ho]; exact exec_v hrun) ?_
    have := hn _ _ V' D1 _ hK rfl (Sat.to (st := ⟨st.env, st.rho, st.bx, st.vc, st.nid, m1⟩) ⟨hS.f, hS.ids, e2⟩ ha (Nat.le_succ _) (fun k u hk hv => verLe_cons rfl k u hk hv) hW) ⟨ha, Nat.le_succ _, fun k u hk hv => verLe_cons rfl k u hk hv⟩
    rwa [show den V' (.vec st.nid 0) = .slice (some ⟨w.heap.size, 0, none⟩) len len from by show Hd.val _ = _; rw [hγ]; rfl] at this
  · rename_i x y t tx st' p' q
    cases q
    obtain ⟨sx, hx, h⟩ := withO_some h
    obtain ⟨sy, hy, h⟩ := withO_some h
    obtain ⟨e, he, h⟩ := withO_some h
    obtain ⟨r, st', V', D', w', hrun, hK, hrho, hS', ha⟩ := lApp_sound (ty := o.type) hS he h
    rw [← rdO_sound hS hp hc hx, ← rdO_sound hS hp hc hy] at hrun
    refine wp_ok (v := den V' r) (by
      simp only [execOp, ho, resolve, Sem.run_bind, Sem.run_pure, Result.andThen_ok, invoke, builtin]
      simp only [List.map_toArray, List.map_cons, List.map_nil, hrun, Result.andThen_ok]) (hn _ _ V' D' w' hK hrho hS' ha)
  · rename_i t l cp st' p' q
    cases q
    obtain ⟨sl, hl, h1⟩ := withO_some h
    obtain ⟨sc, hcp, h2⟩ := withO_some h1
    obtain ⟨e, he, h3⟩ := withO_some h2
    obtain ⟨z, hz, h4⟩ := withO_some h3
    clear h h1 h2 h3
    obtain ⟨zs, hzs, hz⟩ := bnd hz
    unfold lMk at h4
    split at h4
    · rename_i st' kl l' kc c' q
      simp only [A.mk.injEq, Prod.mk.injEq] at q
      obtain ⟨rfl, rfl, rfl⟩ := q
      obtain ⟨hl0, hlc, hroom, hzl, h0, hone, hK⟩ := h4
      obtain ⟨i, hi, hisz, hiby⟩ := info_of h0
      have hzs' := hzs
      unfold zeroO at hzs'
      simp only [Option.map_eq_some_iff, Option.bind_eq_some_iff] at hzs'
      obtain ⟨zv, ⟨i', hi', hzv⟩, hzz⟩ := hzs'
      rw [hi] at hi'
      cases hi'
      have hzvc : zv.cells = ⟨z⟩ := by
        have := plains_den (V := V) hz
        rw [← hzz, map_v] at this
        rw [← this]
      have hcpos : 0 ≤ c' := by omega
      have hrun := run_make (P := P) w t e i zv (elT_spec he) hi hzv kl kc l' c' hl0 hlc (by
        have := hroom.1
        rw [← hiby] at this
        have hh : ((i.bytes * c'.toNat : Nat) : Int) ≤ 281474976710656 := by rw [Nat.mul_comm]; omega
        rw [Int.natCast_mul, Int.toNat_of_nonneg hcpos] at hh
        exact hh) (by have := hroom.2; simp only [maxLen] at this; omega)
      have hcells : madeCells zv.cells (c'.toNat * i.size) = ⟨(List.replicate c'.toNat z).flatten⟩ := by
        unfold madeCells
        rw [hzvc, hisz, ← hzl]
        exact made_flat z _ (by omega)
      rw [hcells] at hrun
      have hlen : ((List.replicate l'.toNat z).flatten).length = l'.toNat * szT P e := by rw [flat_len, hzl]
      obtain ⟨V', ha, hγ, hW⟩ := SatW.addVc (w' := w.alloc (.cells ⟨(List.replicate c'.toNat z).flatten⟩ e)) (hd := ⟨some ⟨w.heap.size, 0, none⟩, l'.toNat, c'.toNat⟩) (e := e) (sz := szT P e) (n := l'.toNat) (xs := (List.replicate l'.toNat z).flatten)
        hS.w rfl rfl rfl (by simp) (fun b hb => heap_alloc_lt w _ b hb)
        ⟨hlen, .inr ⟨w.heap.size, c'.toNat, ⟨(List.replicate c'.toNat z).flatten⟩, rfl, Nat.zero_le _, heap_alloc_new w _, by omega, hroom.2, by simp only [List.size_toArray, flat_len, hzl], by
          show ((List.replicate c'.toNat z).flatten).take (l'.toNat * szT P e) = _
          rw [← hzl]; exact flat_take z (by omega)⟩⟩
        (fun g hg => by simp only [Hd.blk, Option.map_some, Option.some.injEq] at hg; omega) h0
        (fun u hu => by
          have := okC_one (V := V) hone u
          rw [map_v] at this
          exact this (flat_mem hu))
      refine wp_ok (v := .slice (some ⟨w.heap.size, 0, none⟩) l'.toNat c'.toNat) (by
        simp only [execOp, ho, rdO_sound hS hp hc hl, rdO_sound hS hp hc hcp, den_v]
        exact exec_v hrun) ?_
      have := hn _ _ V' D _ hK rfl (hS.to ha (Nat.le_succ _) (fun k u hk hv => verLe_cons rfl k u hk hv) hW) ⟨ha, Nat.le_succ _, fun k u hk hv => verLe_cons rfl k u hk hv⟩
      rwa [show den V' (.vec st.nid 0) = .slice (some ⟨w.heap.size, 0, none⟩) l'.toNat c'.toNat from by show Hd.val _ = _; rw [hγ]; rfl] at this
    · cases h4
  · rename_i t st' p' q
    cases q
    obtain ⟨V', ha, hβ, hW⟩ := hS.w.addBx (t := mapTy) (cs := []) (o := .map #[] 0) (by unfold bxObj; rw [if_pos rfl]; exact ⟨#[], 0, [], rfl, rfl, rfl⟩) trivial
    have hrun : (Instr.makeMap t (Option.map a.eval none)).run P w = .ok (.map (some w.heap.size)) (w.alloc (.map #[] 0)) := by
      simp [Instr.makeMap]
    refine wp_ok (v := .map (some w.heap.size)) (by simp only [execOp, ho]; exact exec_v hrun) ?_
    have := hn _ _ V' D _ h rfl (hS.to ha (Nat.le_succ _) (fun _ _ _ h => h) hW) ⟨ha, Nat.le_succ _, fun _ _ _ h => h⟩
    rwa [show den V' (.mp st.nid) = .map (some w.heap.size) from by show Value.map _ = _; rw [hβ]] at this
  · rename_i t m k x st' p' q
    cases q
    obtain ⟨sm, hm, h1⟩ := withO_some h
    obtain ⟨sk, hk, h2⟩ := withO_some h1
    obtain ⟨sx, hx, h3⟩ := withO_some h2
    clear h h1 h2
    unfold lMpu at h3
    split at h3
    · rename_i st' j s v q
      simp only [A.mk.injEq, Prod.mk.injEq] at q
      obtain ⟨rfl, rfl, rfl, rfl⟩ := q
      obtain ⟨b, hb, hty, ht, h4⟩ := withO_some h3
      obtain ⟨l, hl, hK⟩ := withO_some h4
      obtain ⟨es, clk, l', e1, e2, e3⟩ := mp_obj hS hb hty
      rw [plains_sv hl] at e2
      subst e2
      obtain ⟨es', clk', hrun, hes'⟩ := update_run ht e1 e3 s v
      rw [putV_ent] at hK
      have hlt : V.β j < w.heap.size := (Array.getElem?_eq_some_iff.1 e1).1
      have hbty : b.ty = mapTy := beq_iff_eq.1 hty
      have hden : ((entC (putS l' s v)).map SV.v).map (denA V) = entC (putS l' s v) := by rw [List.map_map]; exact List.map_id'' (fun _ => rfl) _
      have hokl : okL st.nid st.vc ((entC (putS l' s v)).map SV.v) := by
        generalize entC (putS l' s v) = z
        induction z with
        | nil => trivial
        | cons y z ih => exact ⟨trivial, ih⟩
      have hW := hS.w.setOb (w' := { w with heap := w.heap.setIfInBounds (V.β j) (.map es' clk') }) (o := .map es' clk') (cs := (entC (putS l' s v)).map SV.v) hb hokl
        (by unfold bxObj; rw [if_pos hbty, hden]; exact ⟨es', clk', _, rfl, rfl, hes'⟩) rfl rfl rfl (by simp) (MapKept.heap_set e1).1 (fun g hg => (MapKept.heap_set e1).2 g hg)
      refine wp_skip' (w' := { w with heap := w.heap.setIfInBounds (V.β j) (.map es' clk') }) (by
        simp only [execOp, ho, rdO_sound hS hp hc hm, rdO_sound hS hp hc hk, rdO_sound hS hp hc hx, Sem.run_bind]
        rw [show den V (.mp j) = .map (some (V.β j)) from rfl, den_v, den_v, hrun]
        rfl) ?_
      exact hn _ _ V D _ hK rfl (hS.to (Agree.refl _ _ _) (Nat.le_refl _) (fun _ _ _ h => h) hW) ⟨Agree.refl _ _ _, Nat.le_refl _, fun _ _ _ h => h⟩
    · cases h3
  · rename_i fo args _ st' p' q
    cases q
    obtain ⟨l, hl, h1⟩ := withO_some h
    obtain ⟨sf, hf, h2⟩ := withO_some h1
    clear h h1
    unfold lCall at h2
    split at h2
    · rename_i st' f q
      simp only [A.mk.injEq, Prod.mk.injEq] at q
      obtain ⟨rfl, rfl⟩ := q
      obtain ⟨hok, h3⟩ := h2
      have hrun := run_call (w := w) ho (rdO_sound hS hp hc hf) hok
      unfold Oper.wp
      rw [hrun]
      have hargs : args.map a.eval = ⟨l.map (den V)⟩ := by
        apply Array.ext'
        rw [Array.toList_map, rdOs_sound hS hp hc hl]
      rw [hargs]
      refine callO_sound (R := fun | .returned v, w'' => next (a.put o.dst v) w'' | .panicked chain, w'' => Q (.panic chain) a w'' | .outgrown, _ => LetsOut Q) hS h3 ?_
      intro s st' V' D' w' hK hrho hS' ha
      exact hn s st' V' D' w' hK hrho hS' ha
    · cases h2
  · cases h
end
end Go.Proofs.YtalalcpefggniaaGreatDoor.E

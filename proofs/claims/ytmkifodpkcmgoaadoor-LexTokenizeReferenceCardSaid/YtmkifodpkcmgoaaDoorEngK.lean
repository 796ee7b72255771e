/- The engine, part K: append. -/
import Derived.Test.YtmkifodpkcmgoaaDoorEngJ
import Derived.Deep.AppendSrc
namespace Go.Proofs.YtmkifodpkcmgoaaDoor.E
open Go

theorem info_of {P : Program} {t : TypeId} (h : 0 < szT P t) : ∃ i, P.info? t = some i ∧ i.size = szT P t ∧ i.bytes = byT P t := by
  unfold szT at h ⊢
  unfold byT
  cases hi : P.info? t with
  | none => rw [hi] at h; simp at h
  | some i => exact ⟨i, rfl, rfl, rfl⟩
theorem zero_of {P : Program} {t : TypeId} {z : List SV} {i : TypeInfo} (hi : P.info? t = some i) (h : zeroO P t = some z) : ∃ zv, i.zero = some zv ∧ zv.cells.size = z.length := by
  unfold zeroO at h
  simp only [Option.map_eq_some_iff, Option.bind_eq_some_iff] at h
  obtain ⟨zv, ⟨i', hi', hz⟩, rfl⟩ := h
  rw [hi] at hi'
  cases hi'
  exact ⟨zv, hz, by simp⟩

section
variable {P : Program} {w : World}
theorem run_append_room_row (t tx ty e : TypeId) (i : TypeInfo) (ht : P.underlying t = some (.slice e)) (hi : P.info? e = some i) (g sLen sCap : Nat) (cur : Array Value) (hg : w.heap[g]? = some (.cells cur e (0, 0)))
    (x : Value) (m : Nat) (news : List Value) (hs : Src P i.size tx x m news w) (hroom : sLen + m ≤ sCap) (hfit : sLen * i.size + news.length ≤ cur.size) :
    (Builtin.append_ #[t, tx] ty #[.slice (some ⟨g, 0, none⟩) sLen sCap, x]).run P w =
      .ok (.slice (some ⟨g, 0, none⟩) (sLen + m) sCap) (w.setRow g (cur.toList.take (sLen * i.size) ++ news ++ cur.toList.drop (sLen * i.size + news.length)).toArray) := by
  have hst := run_storeCells_at P g (sLen * i.size) e news 0 cur w hg (by simpa using hfit) hs.one
  simp only [Nat.add_zero] at hst
  rcases hs.kind with ⟨e', hk⟩ | hk <;> simp [Builtin.append_, run_underlying ht, run_underlying hk, sizeOf, typeInfo, hi, hs.len, hroom, hs.cells, Addr.add_lit, hst]

theorem growcap_fits {need old by_ : Nat} (h : old < need) (hb : need * by_ ≤ 140737488355328) : Builtin.nextslicecap need old * by_ ≤ 281474976710656 := by
  have h1 := nextslicecap_le h
  have h2 : Builtin.nextslicecap need old * by_ ≤ 2 * need * by_ := Nat.mul_le_mul_right _ h1
  have h3 : 2 * need * by_ = 2 * (need * by_) := Nat.mul_assoc ..
  omega

/-- append onto an own slice: in place, or into a new block; the old block's first cells stay. -/
theorem run_append {t tx ty e : TypeId} {i : TypeInfo} {zv : Value} {h : Hd} {n m : Nat} {xs news : List Value} {x : Value}
    (ht : P.underlying t = some (.slice e)) (hi : P.info? e = some i) (hz : i.zero = some zv) (hzs : zv.cells.size = i.size)
    (hown : w.ownsRow 0 e i.size h.val n xs) (hs : Src P i.size tx x m news w) (hr : room (n + m) i.bytes) :
    ∃ (h' : Hd) (w' : World), (Builtin.append_ #[t, tx] ty #[h.val, x]).run P w = .ok h'.val w' ∧ w'.ownsRow 0 e i.size h'.val (n + m) (xs ++ news) ∧
      (w' = w ∧ h' = h ∨ (∃ g cur cur', h'.blk = some g ∧ h.blk = some g ∧ w.heap[g]? = some (.cells cur e (0, 0)) ∧ w' = w.setRow g cur' ∧ (∀ j, j < n * i.size → cur'[j]? = cur[j]?)) ∨
        (∃ c, h'.blk = some w.heap.size ∧ w' = w.drew.alloc (.cells c e))) := by
  obtain ⟨hb, h63⟩ := hr
  have hlen : (xs ++ news).length = (n + m) * i.size := by rw [List.length_append, hown.1, hs.newsLen, Nat.add_mul]
  have hsm : ((n + m : Nat) : Int) ≤ 9223372036854775807 := by simp only [maxLen] at h63; omega
  have grow : ∀ (old : Nat), old < n + m → (w.drew.alloc (.cells ((xs ++ news).toArray ++ Builtin.zeroCells zv.cells (grownCap w (n + m) old e - (n + m))) e)).ownsRow 0 e i.size
        (Hd.val ⟨some ⟨w.heap.size, 0, none⟩, n + m, grownCap w (n + m) old e⟩) (n + m) (xs ++ news) := by
    intro old ho
    have hge := grownCap_ge w (n + m) old e
    have hcm : grownCap w (n + m) old e ≤ maxLen := grownCap_le_maxLen w (n + m) old e h63
    refine ⟨hlen, .inr ⟨w.heap.size, _, _, rfl, Nat.zero_le _, heap_alloc_new w.drew _, hge, hcm, ?_, ?_⟩⟩
    · simp only [Array.size_append, List.size_toArray, size_zeroCells, hzs, hlen, ← Nat.add_mul]
      congr 1
      omega
    · simp only [Array.toList_append]
      rw [← hlen]
      exact List.take_left
  obtain ⟨ha, hn, hc⟩ : ∃ (a : Option Addr) (n' c : Nat), h = ⟨a, n', c⟩ := ⟨h.a, h.n, h.c, rfl⟩
  obtain ⟨c, rfl⟩ := hc
  rcases hown.2 with ⟨hv, hn0⟩ | ⟨g, cap, cur, hv, _, hg, hnc, hcm, hcs, htake⟩
  · simp only [Hd.val, Value.slice.injEq] at hv
    obtain ⟨rfl, rfl, rfl⟩ := hv
    subst hn0
    have hx : xs = [] := List.eq_nil_of_length_eq_zero (by simpa using hown.1)
    subst hx
    by_cases hm : m = 0
    · subst hm
      have hn : news = [] := List.eq_nil_of_length_eq_zero (by simpa using hs.newsLen)
      subst hn
      refine ⟨⟨none, 0, 0⟩, w, ?_, by simpa using hown, .inl ⟨rfl, rfl⟩⟩
      rcases hs.kind with ⟨e', hk⟩ | hk <;> simp [Hd.val, Builtin.append_, run_underlying ht, run_underlying hk, sizeOf, typeInfo, hi, hs.len, hs.cells]
    · have hr := run_append_grow_src w t tx ty e i zv ht hi hz none 0 0 [] (by simp [Builtin.firstCells]) x m news hs (by omega) hsm (growcap_fits (by omega) hb)
      exact ⟨⟨some ⟨w.heap.size, 0, none⟩, 0 + m, grownCap w (0 + m) 0 e⟩, _, hr, by have := grow 0 (by omega); simpa using this, .inr (.inr ⟨_, rfl, rfl⟩)⟩
  · simp only [Hd.val, Value.slice.injEq] at hv
    obtain ⟨rfl, rfl, rfl⟩ := hv
    by_cases hroom : hn + m ≤ c
    · have hfit : hn * i.size + news.length ≤ cur.size := by rw [hs.newsLen, hcs, ← Nat.add_mul]; exact Nat.mul_le_mul_right _ hroom
      have hr := run_append_room_row t tx ty e i ht hi g hn c cur hg x m news hs hroom hfit
      refine ⟨⟨some ⟨g, 0, none⟩, hn + m, c⟩, _, hr, ⟨hlen, .inr ⟨g, c, _, rfl, Nat.zero_le _, setRow_heap w g cur _ e _ hg, hroom, hcm, ?_, ?_⟩⟩, .inr (.inl ⟨g, cur, _, rfl, rfl, hg, rfl, fun j hj => ?_⟩)⟩
      · simp only [List.size_toArray, List.length_append, List.length_take, List.length_drop, Array.length_toList]
        omega
      · rw [htake, ← hlen]
        exact List.take_left
      · have hxl := hown.1
        simp only [List.getElem?_toArray]
        rw [List.append_assoc, List.getElem?_append_left (by rw [htake]; omega), List.getElem?_take, if_pos hj, Array.getElem?_toList]
    · have holds : ∀ j u, xs[j]? = some u → w.cell? ((⟨g, 0, none⟩ : Addr).add j) = some u := hown.cells (g := g) rfl
      have hf : (Builtin.firstCells i.size hn (.slice (some ⟨g, 0, none⟩) hn c)).run P w.drew = .ok xs.toArray w.drew := run_firstCells_some w.drew i.size hn ⟨g, 0, none⟩ hn c xs hown.1 (by simpa using holds)
      have hr := run_append_grow_src w t tx ty e i zv ht hi hz (some ⟨g, 0, none⟩) hn c xs hf x m news hs (by omega) hsm (growcap_fits (by omega) hb)
      exact ⟨⟨some ⟨w.heap.size, 0, none⟩, hn + m, grownCap w (hn + m) c e⟩, _, hr, grow c (by omega), .inr (.inr ⟨_, rfl, rfl⟩)⟩
end
end Go.Proofs.YtmkifodpkcmgoaaDoor.E

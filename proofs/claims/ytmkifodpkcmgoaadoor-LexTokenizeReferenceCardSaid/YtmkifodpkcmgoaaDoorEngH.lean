/- The engine, part H: indexes, cuts, loads; and every quiet operation, together. -/
import Derived.Test.YtmkifodpkcmgoaaDoorEngG
import Derived.Lib.Strings
namespace Go.Proofs.YtmkifodpkcmgoaaDoor.E
open Go

section
variable {C : Ctx} {n : Nat} {st : LS} {a : Act} {V : Vl} {D : Nat → Nat} {w : World} {P : Program} {p : Pth} {K : SV → Prop} {c : Bool}

theorem elT_spec {t e : TypeId} (h : elT P t = some e) : P.underlying t = some (.slice e) := by
  unfold elT at h
  split at h
  · rename_i e' h'; cases h; exact h'
  · cases h
theorem run_indexAt {t e : TypeId} {ad : Addr} {len cp : Nat} {k : IntKind} {i : Int} (h : elT P t = some e) (h0 : 0 < szT P e) (hi : 0 ≤ i) (hl : i < len) :
    (Instr.indexAt t (.slice (some ad) len cp) (.int k i)).run P w = .ok (.pointer (some (ad.add (i.toNat * szT P e)))) w := by
  simp [Instr.indexAt, asIntOf, run_underlying (elT_spec h), hi, hl, run_szT h0]
theorem qIxA_sound (hS : Sat C n st a V D w) {t e : TypeId} {x i : SV} (he : elT P t = some e) (h : qIxA (.mk (k := (P, U c, K)) (st, e, x, i))) :
    ∃ r, K r ∧ Yl c P (Instr.indexAt t (den V x) (den V i)) w (den V r) := by
  unfold qIxA at h
  split at h
  · rename_i st' e' x m cp k j q
    simp only [A.mk.injEq, Prod.mk.injEq] at q
    obtain ⟨rfl, rfl, rfl, rfl⟩ := q
    refine ⟨_, h.2.2, fun hc => ?_⟩
    obtain ⟨h1, h2, h3⟩ := h.2.1 hc
    cases x with
    | none => exact absurd rfl h3
    | some ad => exact run_indexAt he h.1 h1 h2
  · rename_i st' e' k v kk j q
    simp only [A.mk.injEq, Prod.mk.injEq] at q
    obtain ⟨rfl, rfl, rfl, rfl⟩ := q
    obtain ⟨b, hb, h0, h1, h2⟩ := withO_some h
    refine ⟨_, h2, fun hc => ?_⟩
    obtain ⟨hv, rfl, rfl⟩ := vc_of hS hb
    obtain ⟨i0, i1, _⟩ := h1 hc
    obtain ⟨hn, hl, hx⟩ := own_at hv.1
    obtain ⟨g, hg, _⟩ := hx (by omega)
    show (Instr.indexAt t (V.γ b.id b.ver).val (.int kk j)).run P w = .ok (.pointer ((V.γ b.id b.ver).a.map (·.add (j.toNat * szT P e)))) w
    unfold Hd.val
    rw [hg, hn]
    exact run_indexAt he h0 i0 i1
  · cases h
theorem byte_at (s : ByteArray) (i : Nat) (h : i < (tl s).length) : s[i]? = some ((tl s).getD i 0) := by
  have hs : i < s.size := by rw [← tl_len]; exact h
  have e1 : s[i]? = some s[i] := getElem?_pos s i hs
  rw [e1]
  rw [List.getD_eq_getElem?_getD, List.getElem?_eq_getElem h]
  rfl
theorem qIx_sound {t : TypeId} {x i : SV} (h : qIx (.mk (k := (P, t, U c, K)) (x, i))) : ∃ r, K r ∧ Yl c P (Instr.index t (den V x) (den V i)) w (den V r) := by
  unfold qIx at h
  split at h
  · rename_i s k j q
    simp only [A.mk.injEq, Prod.mk.injEq] at q
    obtain ⟨rfl, rfl⟩ := q
    refine ⟨_, h.2.2, fun hc => ?_⟩
    obtain ⟨h1, h2⟩ := h.2.1 hc
    have hb := byte_at s j.toNat (by omega)
    simp only [den_v, Instr.index, asIntOf, Sem.run_bind, Sem.run_pure, Result.andThen_ok, run_underlying h.1, if_pos h1, hb]
  · cases h
theorem sliceBd_spec {o : Option SV} {d l : Int} (h : sliceBd o d = some l) : (o = none ∧ l = d) ∨ ∃ k, o = some (.v (.int k l)) := by
  unfold sliceBd at h
  split at h
  · cases h; exact .inl ⟨rfl, rfl⟩
  · cases h; exact .inr ⟨_, rfl⟩
  · cases h
theorem run_bd {k : IntKind} {i : Int} {y : Nat} {code : BoundsCode} (h0 : 0 ≤ i) (h1 : i ≤ y) : (Instr.sliceBound (.int k i) y code).run P w = .ok i.toNat w := by
  simp [Instr.sliceBound, asIntOf, h0, h1]
theorem run_bds {isS : Bool} {len cp : Nat} {lo hi : Option SV} {l h : Int} (hl : sliceBd lo 0 = some l) (hh : sliceBd hi len = some h) (h0 : 0 ≤ l) (h1 : l ≤ h) (h2 : h ≤ cp) :
    (Instr.sliceBounds isS len cp (lo.map (den V)) (hi.map (den V)) none).run P w = .ok (l.toNat, h.toNat, cp) w := by
  have eh : (h.toNat : Int) = h := Int.toNat_of_nonneg (by omega)
  rcases sliceBd_spec hl with ⟨rfl, rfl⟩ | ⟨k, rfl⟩ <;> rcases sliceBd_spec hh with ⟨rfl, rfl⟩ | ⟨k', rfl⟩
  · simp [Instr.sliceBounds]
  · simp only [Instr.sliceBounds, Option.map_none, Option.map_some, Sem.run_bind, Sem.run_pure, Result.andThen_ok, den_v]
    rw [run_bd (by omega) h2]
    rfl
  · simp only [Instr.sliceBounds, Option.map_none, Option.map_some, Sem.run_bind, Sem.run_pure, Result.andThen_ok, den_v]
    rw [run_bd h0 h1]
    simp
  · simp only [Instr.sliceBounds, Option.map_none, Option.map_some, Sem.run_bind, Sem.run_pure, Result.andThen_ok, den_v]
    rw [run_bd (by omega) h2]
    simp only [Result.andThen_ok]
    rw [run_bd h0 (by omega)]
    rfl
theorem extract_bs (s : ByteArray) (l h : Nat) : s.extract l h = bs (((tl s).take h).drop l) := by
  rw [← bs_tl (s.extract l h)]
  congr 1
  show (s.extract l h).data.toList = _
  rw [Lib.extract_data, List.drop_take]
  rfl
theorem qSl_sound {t : TypeId} {x : SV} {lo hi : Option SV} (h : qSl (.mk (k := (P, t, U c, K)) (x, lo, hi))) :
    ∃ r, K r ∧ Yl c P (Instr.sliceAt t (den V x) (lo.map (den V)) (hi.map (den V)) none) w (den V r) := by
  unfold qSl at h
  split at h
  · rename_i s lo hi q
    simp only [A.mk.injEq, Prod.mk.injEq] at q
    obtain ⟨rfl, rfl, rfl⟩ := q
    obtain ⟨ht, h⟩ := h
    obtain ⟨l, hl, h⟩ := withO_some h
    obtain ⟨r, hr, h⟩ := withO_some h
    simp only [qSlS] at h
    refine ⟨_, h.2, fun hc => ?_⟩
    obtain ⟨h0, h1, h2⟩ := h.1 hc
    rw [tl_len] at hr h2
    rw [den_v, run_sliceAt_string (h := ht)]
    simp only [Instr.slice, Sem.run_bind, run_underlying ht, Result.andThen_ok, Option.isSome_none, Bool.false_eq_true, if_false, Sem.run_pure]
    rw [run_bds hl hr h0 h1 h2]
    simp only [Result.andThen_ok, extract_bs]
    rfl
  · rename_i x m cp lo hi q
    simp only [A.mk.injEq, Prod.mk.injEq] at q
    obtain ⟨rfl, rfl, rfl⟩ := q
    obtain ⟨l, hl, h⟩ := withO_some h
    obtain ⟨r, hr, h⟩ := withO_some h
    obtain ⟨e, he, hz, h⟩ := withO_some h
    refine ⟨_, h.2, fun hc => ?_⟩
    obtain ⟨h0, h1, h2⟩ := h.1 hc
    have hu := elT_spec he
    have hu' : P.underlying t = some (.slice (P.elem t)) := by
      rw [hu]; unfold Program.elem; rw [hu]
    rw [den_v, run_sliceAt_slice (h := hu')]
    simp only [Instr.slice, Sem.run_bind, run_underlying hu, Result.andThen_ok]
    rw [run_bds hl hr h0 h1 h2]
    simp only [Result.andThen_ok, run_szT hz, Sem.run_pure]
    rfl
  · cases h
theorem loadAt_of {t : TypeId} {ad : Addr} {v : Value} (h : (loadVar t ad).run P w = .ok v w) : (Instr.loadAt t (.pointer (some ad))).run P w = .ok v w := by
  simp [Instr.loadAt, Instr.sureAddr, h]
theorem bx_cell (hS : Sat C n st a V D w) {k : Nat} {b : Bx} (h : lkB st.bx k = some b) (j : Nat) : w.cell? ⟨V.β k, j, none⟩ = (b.cs.map (denA V))[j]? := by
  obtain ⟨rfl, hm⟩ := lkB_mem h
  have := (hS.heap.bx b hm).1
  simp only [World.cell?, this, Option.isSome_none, Bool.false_eq_true, if_false]
  rw [← Array.getElem?_toList]
theorem qLoad_sound (hS : Sat C n st a V D w) {t : TypeId} {x : SV} (h : qLoad (.mk (k := (P, t, U c, K)) (st, x))) : ∃ r, K r ∧ Yl c P (Instr.loadAt t (den V x)) w (den V r) := by
  unfold qLoad at h
  split at h
  · rename_i st' k o q
    simp only [A.mk.injEq, Prod.mk.injEq] at q
    obtain ⟨rfl, rfl⟩ := q
    obtain ⟨b, hb, h⟩ := withO_some h
    obtain ⟨ag, hag, h⟩ := withO_some h
    obtain ⟨r, hr, h⟩ := withO_some h
    refine ⟨r, h, fun _ => loadAt_of ?_⟩
    have ht := takeC_den (V := V) hr
    cases ag with
    | none =>
      refine run_loadVar_ag (cs := [den V r]) hag (fun j u hu => ?_) rfl
      cases j with
      | zero => rw [add_off, bx_cell hS hb]; simp only [List.getElem?_cons_zero] at hu; rw [← hu]; exact ht
      | succ j => simp at hu
    | some k' =>
      refine run_loadVar_ag (cs := ((b.cs.map (denA V)).drop o).take k') hag (fun j u hu => ?_) ⟨?_, ht.1⟩
      · rw [add_off, bx_cell hS hb]
        rw [List.getElem?_take] at hu
        split at hu
        · rw [List.getElem?_drop] at hu; exact hu
        · cases hu
      · have := ht.2
        simp only [List.length_take, List.length_drop, List.length_map]
        omega
  · rename_i st' k v o q
    simp only [A.mk.injEq, Prod.mk.injEq] at q
    obtain ⟨rfl, rfl⟩ := q
    obtain ⟨b, hb, h⟩ := withO_some h
    obtain ⟨ag, hag, h⟩ := withO_some h
    obtain ⟨hv, rfl, rfl⟩ := vc_of hS hb
    obtain ⟨_, hl, hx⟩ := own_at hv.1
    have key : o < b.xs.length → ∃ g, den V (.vp b.id b.ver o) = .pointer (some ⟨g, o, none⟩) ∧ ∀ j u, b.xs[j]? = some u → w.cell? ⟨g, j, none⟩ = some u := by
      intro ho
      have hn : 0 < b.n := by
        rcases Nat.eq_zero_or_pos b.n with h0 | h0
        · rw [h0, Nat.zero_mul] at hl; omega
        · exact h0
      obtain ⟨g, hg, hc⟩ := hx hn
      refine ⟨g, ?_, hc⟩
      show Value.pointer ((V.γ b.id b.ver).a.map (·.add o)) = _
      rw [hg]
      simp only [Option.map_some, add_zero_off]
    cases ag with
    | none =>
      simp only [qRdV] at h
      refine ⟨_, h.2, fun hc => ?_⟩
      have ho := h.1 hc
      obtain ⟨g, hg, hcell⟩ := key ho
      rw [hg, den_v]
      refine loadAt_of (run_loadVar_ag (cs := [b.xs.getD o undef]) hag (fun j u hu => ?_) rfl)
      cases j with
      | zero =>
        simp only [List.getElem?_cons_zero, Option.some.injEq] at hu
        rw [add_off]
        refine hcell _ _ ?_
        rw [← hu, Nat.add_zero, List.getD_eq_getElem?_getD, List.getElem?_eq_getElem ho]
        rfl
      | succ j => simp at hu
    | some k' =>
      simp only [qRdV] at h
      obtain ⟨hk, h⟩ := h
      refine ⟨_, h.2, fun hc => ?_⟩
      have ho := h.1 hc
      obtain ⟨g, hg, hcell⟩ := key (by omega)
      rw [hg, den_v]
      refine loadAt_of (run_loadVar_ag (cs := (b.xs.drop o).take k') hag (fun j u hu => ?_) ⟨by simp only [List.length_take, List.length_drop]; omega, rfl⟩)
      rw [add_off]
      refine hcell _ _ ?_
      rw [List.getElem?_take] at hu
      split at hu
      · rw [List.getElem?_drop] at hu; exact hu
      · cases hu
  · rename_i st' x q
    simp only [A.mk.injEq, Prod.mk.injEq] at q
    obtain ⟨rfl, rfl⟩ := q
    obtain ⟨ag, hag, h⟩ := withO_some h
    cases ag with
    | none =>
      simp only [qRd] at h
      obtain ⟨v, h1, h2⟩ := h
      refine ⟨_, h2, fun hc => ?_⟩
      obtain ⟨ad, rfl, hcell⟩ := Rd_at hS.mle (h1 hc)
      exact loadAt_of (run_loadVar_ag hag hcell rfl)
    | some k' =>
      simp only [qRd] at h
      obtain ⟨cs, h1, h2⟩ := h
      refine ⟨_, h2, fun hc => ?_⟩
      obtain ⟨hr, hlen⟩ := h1 hc
      obtain ⟨ad, rfl, hcell⟩ := Rd_at hS.mle hr
      exact loadAt_of (run_loadVar_ag hag hcell ⟨hlen, rfl⟩)
  · cases h
end
end Go.Proofs.YtmkifodpkcmgoaaDoor.E

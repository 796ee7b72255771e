/- The engine, part P: the operations that act. -/
import Derived.Test.YtmkifodpkcmgoaaDoorEngO
namespace Go.Proofs.YtmkifodpkcmgoaaDoor.E
open Go

theorem okC_one {V : Vl} : ∀ {cs : List SV}, okC cs = true → ∀ v ∈ cs.map (denA V), v.oneCell' = true
  | .v x :: r, h, v, hv => by
    simp only [okC, Bool.and_eq_true] at h
    simp only [List.map_cons] at hv
    rcases List.mem_cons.1 hv with rfl | hv
    · exact h.1
    · exact okC_one h.2 v hv
  | .box k o :: r, h, v, hv => by
    simp only [List.map_cons] at hv
    rcases List.mem_cons.1 hv with rfl | hv
    · rfl
    · exact okC_one (cs := r) h v hv
  | .vec k o :: r, h, v, hv => by
    simp only [List.map_cons] at hv
    rcases List.mem_cons.1 hv with rfl | hv
    · rfl
    · exact okC_one (cs := r) h v hv
  | .vp k u o :: r, h, v, hv => by
    simp only [List.map_cons] at hv
    rcases List.mem_cons.1 hv with rfl | hv
    · rfl
    · exact okC_one (cs := r) h v hv
  | .agg cs :: r, h, v, hv => by simp [okC] at h
  | .tup cs :: r, h, v, hv => by simp [okC] at h
theorem plain_den {V : Vl} {s : SV} {x : Value} (h : plain s = some x) : denA V s = x := by
  cases s <;> simp only [plain, Option.some.injEq] at h <;> first | exact h | cases h
theorem plains_den {V : Vl} : ∀ {cs : List SV} {l : List Value}, plains cs = some l → cs.map (denA V) = l
  | [], l, h => by simp only [plains, Option.some.injEq] at h; subst h; rfl
  | s :: r, l, h => by
    simp only [plains, Option.bind_eq_some_iff, Option.map_eq_some_iff] at h
    obtain ⟨x, hx, l', hl, rfl⟩ := h
    simp only [List.map_cons]
    rw [plain_den hx, plains_den hl]
theorem setC_eq : ∀ (l cs : List SV) (off : Nat), off + l.length ≤ cs.length → setC cs off l = cs.take off ++ l ++ cs.drop (off + l.length)
  | [], cs, off, _ => by simp [setC]
  | c :: r, cs, off, h => by
    simp only [List.length_cons] at h
    simp only [setC]
    rw [setC_eq r (cs.set off c) (off + 1) (by simp; omega)]
    have h1 : (cs.set off c).take (off + 1) = cs.take off ++ [c] := by
      rw [List.take_set, List.take_succ_eq_append_getElem (by omega)]
      rw [List.set_append_right _ _ (by simp [Nat.min_le_left])]
      simp [List.length_take, Nat.min_eq_left (by omega : off ≤ cs.length)]
    have h2 : (cs.set off c).drop (off + 1 + r.length) = cs.drop (off + 1 + r.length) := List.drop_set_of_lt (by omega)
    rw [h1, h2]
    simp [Nat.add_assoc, Nat.add_comm 1]

theorem blk_uniq {V : Vl} {g : Nat} : ∀ {l : List Vc} {x b : Vc}, x ∈ l → b ∈ l → (V.γ x.id x.ver).blk = some g → (V.γ b.id b.ver).blk = some g → (l.filterMap fun b => (V.γ b.id b.ver).blk).Nodup → x = b
  | y :: r, x, b, hx, hb, hxg, hbg, hf => by
    simp only [List.filterMap_cons] at hf
    rcases List.mem_cons.1 hx with e1 | hx' <;> rcases List.mem_cons.1 hb with e2 | hb'
    · exact e1.trans e2.symm
    · subst e1
      rw [hxg] at hf
      exact absurd (List.mem_filterMap.2 ⟨b, hb', hbg⟩) (List.nodup_cons.1 hf).1
    · subst e2
      rw [hbg] at hf
      exact absurd (List.mem_filterMap.2 ⟨x, hx', hxg⟩) (List.nodup_cons.1 hf).1
    · refine blk_uniq hx' hb' hxg hbg ?_
      split at hf
      · exact hf
      · exact (List.nodup_cons.1 hf).2
section
variable {C : Ctx} {n : Nat} {st : LS} {a : Act} {V : Vl} {D : Nat → Nat} {w : World} {P : Program} {p : Pth}
theorem Sat.to (hS : Sat C n st a V D w) {bx' : List Bx} {vc' : List Vc} {nid' : Nat} {m' : Mem} {V' : Vl} {D' : Nat → Nat} {w' : World} (ha : Agree st.nid st.vc V V') (hn : st.nid ≤ nid')
    (hv : ∀ k u, k < st.nid → verLe st.vc k u → verLe vc' k u) (hW : SatW C bx' vc' nid' m' V' D' w') : Sat C n ⟨st.env, st.rho, bx', vc', nid', m'⟩ a V' D' w' :=
  ⟨hS.f.agree hS.ids ha, fun e he => okS_mono hn hv (hS.ids e he), hW⟩
theorem SatW.pub (h : SatW C st.bx st.vc st.nid st.m V D w) {k u : Nat} {b : Vc} (hb : lkV st.vc k u = some b) :
    ∃ (a : Option Addr) (c : Nat) (m1 : Mem) (D' : Nat → Nat), st.m.le m1 ∧ b.n ≤ c ∧ Rds m1 a b.n b.sz b.xs ∧ (V.γ k u).val = .slice a b.n c ∧ SatW C st.bx st.vc st.nid m1 V D' w := by
  obtain ⟨rfl, rfl, hm⟩ := lkV_mem hb
  obtain ⟨hown, hD, hsz, hone⟩ := h.heap.vc b hm
  obtain ⟨hn, hl, _⟩ := own_at hown
  let D' : Nat → Nat := fun x => if (V.γ b.id b.ver).blk = some x then b.n * b.sz else D x
  have hDD : ∀ x, D x ≤ D' x := fun x => by
    show D x ≤ if _ then _ else _
    split
    · rename_i e; exact hD x e
    · exact Nat.le_refl _
  have hwf : Wf w D' := fun x hx => by
    show (if _ then _ else _) = 0
    split
    · rename_i e; have := (own_blk hown e).2; omega
    · exact h.wf x hx
  have hle : Mem.le ⟨w, D⟩ ⟨w, D'⟩ := Mem.le_same h.wf (fun x _ => ⟨hDD x, fun _ => rfl⟩)
  have hself : Mem.le ⟨w, D'⟩ ⟨w, D'⟩ := Mem.le_refl ⟨w, D'⟩ hwf
  have hoth : ∀ g, g ∈ blks V ⟨st.bx, st.vc⟩ → (V.γ b.id b.ver).blk ≠ some g → D' g = D g := fun g _ hne => if_neg hne
  refine ⟨(V.γ b.id b.ver).a, (V.γ b.id b.ver).c, ⟨w, D'⟩, D', Mem.le_trans h.mle hle, ?_, ⟨hl, fun h0 => ?_⟩, by unfold Hd.val; rw [hn], ?_⟩
  · rcases hown.2 with ⟨_, hz⟩ | ⟨g, cap, cur, hv, _, _, hc, _⟩
    · omega
    · simp only [Hd.val, Value.slice.injEq] at hv; omega
  · rcases hown.2 with ⟨_, hz⟩ | ⟨g, cap, cur, hv, _, hh, hc, _, hcs, htk⟩
    · omega
    · simp only [Hd.val, Value.slice.injEq] at hv
      refine ⟨⟨g, 0, none⟩, hv.1, rfl, fun j hj => ?_⟩
      have hbk : (V.γ b.id b.ver).blk = some g := by unfold Hd.blk; rw [hv.1]; rfl
      refine ⟨?_, ?_⟩
      · rw [add_zero_off]
        simp only [World.cell?, hh, Option.isSome_none, Bool.false_eq_true, if_false]
        rw [← htk, List.getElem?_take, if_pos hj, Array.getElem?_toList]
      · show 0 + j < D' g
        have : D' g = b.n * b.sz := if_pos hbk
        omega
  · refine ⟨⟨fun x hx => ?_, fun x hx => ?_, h.heap.apart, h.heap.uniq⟩, hwf, h.frm.trans (S := fun x => (V.γ b.id b.ver).blk = some x) ⟨rfl, rfl, rfl, Nat.le_refl _, fun x _ hx => ⟨rfl, if_neg hx⟩⟩ (fun x hx => h.own x (by
      simp only [blks, List.mem_append, List.mem_filterMap]
      exact .inr ⟨b, hm, hx⟩)), h.own, h.baseB, h.baseV, h.ids, Mem.le_trans h.le0 hle, Mem.le_trans h.m0 (Mem.le_trans h.mle hle), hself⟩
    · obtain ⟨h1, h2⟩ := h.heap.bx x hx
      refine ⟨h1, ?_⟩
      rw [hoth _ (by simp only [blks, List.mem_append, List.mem_map]; exact .inl ⟨x, hx, rfl⟩)]
      · exact h2
      · intro e
        have hap := h.heap.apart
        unfold blks at hap
        exact (List.nodup_append.1 hap).2.2 _ (List.mem_map.2 ⟨x, hx, rfl⟩) _ (List.mem_filterMap.2 ⟨b, hm, e⟩) rfl
    · obtain ⟨h1, h2, h3, h4⟩ := h.heap.vc x hx
      refine ⟨h1, fun g hg => ?_, h3, h4⟩
      show (if _ then _ else _) ≤ _
      split
      · rename_i e
        have hxb : x = b := by
          have hap := h.heap.apart
          unfold blks at hap
          have hf := (List.nodup_append.1 hap).2.1
          exact blk_uniq hx hm hg e hf
        rw [hxb]
        exact Nat.le_refl _
      · exact h2 g hg
theorem pubA_sound : ∀ (l : List SV) (K : List SV → LS → Prop) (m : Mem) (D : Nat → Nat), pubAx l K ⟨st.env, st.rho, st.bx, st.vc, st.nid, m⟩ → SatW C st.bx st.vc st.nid m V D w →
    ∃ l' m1 D1, K l' ⟨st.env, st.rho, st.bx, st.vc, st.nid, m1⟩ ∧ SatW C st.bx st.vc st.nid m1 V D1 w ∧ l'.map (denA V) = l.map (denA V) ∧ (∀ x ∈ l', ∀ cs, x = .agg cs → .agg cs ∈ l)
  | [], K, m, D, h, hW => ⟨[], m, D, h, hW, rfl, fun _ h => by cases h⟩
  | s :: r, K, m, D, h, hW => by
    cases s with
    | vec k u =>
      simp only [pubAx] at h
      obtain ⟨b, hb, h⟩ := withO_some h
      obtain ⟨ad, c, m1, D', h1, h2, h3, h4, h5⟩ := SatW.pub (st := ⟨st.env, st.rho, st.bx, st.vc, st.nid, m⟩) hW hb
      obtain ⟨l', m2, D2, e1, e2, e3, e4⟩ := pubA_sound r _ m1 D' (h ad c m1 h1 h2 h3) h5
      refine ⟨_, m2, D2, e1, e2, ?_, fun x hx cs e => ?_⟩
      · simp only [List.map_cons]
        rw [e3]
        congr 1
        exact h4.symm
      · rcases List.mem_cons.1 hx with rfl | hx
        · cases e
        · exact List.mem_cons_of_mem _ (e4 x hx cs e)
    | v x =>
      obtain ⟨l', m2, D2, e1, e2, e3, e4⟩ := pubA_sound r _ m D h hW
      exact ⟨_, m2, D2, e1, e2, by simp only [List.map_cons, e3], fun y hy cs e => by
        rcases List.mem_cons.1 hy with rfl | hy
        · cases e
        · exact List.mem_cons_of_mem _ (e4 y hy cs e)⟩
    | box k o =>
      obtain ⟨l', m2, D2, e1, e2, e3, e4⟩ := pubA_sound r _ m D h hW
      exact ⟨_, m2, D2, e1, e2, by simp only [List.map_cons, e3], fun y hy cs e => by
        rcases List.mem_cons.1 hy with rfl | hy
        · cases e
        · exact List.mem_cons_of_mem _ (e4 y hy cs e)⟩
    | vp k u o =>
      obtain ⟨l', m2, D2, e1, e2, e3, e4⟩ := pubA_sound r _ m D h hW
      exact ⟨_, m2, D2, e1, e2, by simp only [List.map_cons, e3], fun y hy cs e => by
        rcases List.mem_cons.1 hy with rfl | hy
        · cases e
        · exact List.mem_cons_of_mem _ (e4 y hy cs e)⟩
    | agg cs =>
      obtain ⟨l', m2, D2, e1, e2, e3, e4⟩ := pubA_sound r _ m D h hW
      exact ⟨_, m2, D2, e1, e2, by simp only [List.map_cons, e3], fun y hy cs' e => by
        rcases List.mem_cons.1 hy with rfl | hy
        · rw [e]; exact List.mem_cons_self ..
        · exact List.mem_cons_of_mem _ (e4 y hy cs' e)⟩
    | tup l0 =>
      obtain ⟨l', m2, D2, e1, e2, e3, e4⟩ := pubA_sound r _ m D h hW
      exact ⟨_, m2, D2, e1, e2, by simp only [List.map_cons, e3], fun y hy cs e => by
        rcases List.mem_cons.1 hy with rfl | hy
        · cases e
        · exact List.mem_cons_of_mem _ (e4 y hy cs e)⟩
theorem den_A {s : SV} (h1 : ∀ cs, s ≠ .agg cs) (h2 : ∀ l, s ≠ .tup l) : den V s = denA V s := by
  cases s with
  | agg cs => exact absurd rfl (h1 cs)
  | tup l => exact absurd rfl (h2 l)
  | _ => rfl
end
end Go.Proofs.YtmkifodpkcmgoaaDoor.E

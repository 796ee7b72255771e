/- The engine, part Z: jumps back to a label. -/
import Derived.Test.YtmkifodpkcmgoaaDoorEngY
import Derived.ScopeJumps
namespace Go.Proofs.YtmkifodpkcmgoaaDoor.E
open Go

theorem least {J : Nat → Prop} : ∀ n, J n → ∃ k, J k ∧ ∀ j, j < k → ¬ J j := by
  intro n
  induction n using Nat.strongRecOn with
  | _ n ih =>
    intro h
    by_cases hj : ∃ j, j < n ∧ J j
    · obtain ⟨j, hlt, hJ⟩ := hj
      exact ih j hlt hJ
    · exact ⟨n, h, fun j hlt hJ => hj ⟨j, hlt, hJ⟩⟩
section
variable {P : Program} {a : Act} {w : World} {Q : Exit → Act → World → Prop}
/-- Jumps back to one label, with a ghost. -/
theorem wp_scope_ghost {c rest : Code} (l : Nat) (J : Nat → Act → World → Prop) (hf : findLabel c l = some rest) (first : c.wp P (Exit.jump l (fun a' w' => ∃ k, J k a' w') Q) a w)
    (pass : ∀ k a w, J k a w → rest.wp P (Exit.jump l (fun a' w' => ∃ k', k' < k ∧ J k' a' w') Q) a w) : (Code.scope c).wp P Q a w := by
  classical
  refine wp_scope_jumps l (fun a w => ∃ k, J k a w) (fun a w => if h : ∃ k, J k a w ∧ ∀ j, j < k → ¬ J j a w then Classical.choose h else 0) hf first ?_
  rintro a w ⟨k0, h0⟩
  have hex : ∃ k, J k a w ∧ ∀ j, j < k → ¬ J j a w := least k0 h0
  obtain ⟨h1, h2⟩ := Classical.choose_spec hex
  refine wp_mono (pass _ a w h1) ?_
  intro e a' w' hq
  cases e with
  | goto l' =>
    obtain ⟨rfl, k', hlt, hk⟩ := hq
    refine ⟨rfl, ⟨k', hk⟩, ?_⟩
    have hex' : ∃ k, J k a' w' ∧ ∀ j, j < k → ¬ J j a' w' := least k' hk
    simp only [dif_pos hex, dif_pos hex']
    rcases Nat.lt_or_ge (Classical.choose hex') (Classical.choose hex) with h | h
    · exact h
    · exact absurd hk ((Classical.choose_spec hex').2 k' (Nat.lt_of_lt_of_le hlt h))
  | _ => exact hq
end
section
variable {P : Program} {n : Nat} {c : Cfg} {st : LS}
/-- A SCOPE: jumps back to one label. -/
theorem WP_scope (hpu : PureOk c P) {body rest : Code} {l : Nat} {Q : Exit → LS → Prop} {X : Type} (S : X → LS) (I : X → Prop) (μ : X → Nat) (hf : findLabel body l = some rest)
    (hd' : dstOkC n rest = true) (hn : ∀ x, I x → st.nid ≤ (S x).nid) (hm : ∀ x, I x → leM st.m (S x).m) (hok : ∀ x, okHd (S x))
    (first : WP P n body (jumpQ l (fun st' => ∃ x', Match st' (S x') ∧ I x') Q) st)
    (pass : ∀ x, I x → vcC (.mk (k := (c, P, n, rest, jumpQ l (fun st' => ∃ x', Match st' (S x') ∧ I x' ∧ μ x' < μ x) Q)) (S x))) : WPv (.mk (k := (P, n, .scope body, Q)) st) := by
  rintro C a w ⟨hrho, V, D, hS⟩
  have hB : ∀ b ∈ C.H0.bx, b.id < st.nid := fun b hb => (hS.w.baseB b hb).2
  have hV : ∀ b ∈ C.H0.vc, b.id < st.nid := fun b hb => (hS.w.baseV b hb).2.1
  have hm0 : ∀ x, I x → C.m0.le (S x).m := fun x hx => by
    rcases hm x hx with e | h
    · rw [← e]; exact hS.w.m0
    · exact Mem.le_trans hS.w.m0 h
  have weak : ∀ (st1 : LS) (a1 : Act) (w1 : World) (x : X), SatE C n st1 a1 w1 → Match st1 (S x) → I x → SatE C n (S x) a1 w1 := by
    rintro st1 a1 w1 x ⟨_, V1, D1, hS1⟩ hM hx
    exact ⟨hM.2.1, V1, D1, hS1.weaken hM (hok x) (fun b hb => Nat.lt_of_lt_of_le (hB b hb) (hn x hx)) (fun b hb => Nat.lt_of_lt_of_le (hV b hb) (hn x hx)) (hm0 x hx)⟩
  refine wp_scope_ghost l (fun k a w => ∃ x, I x ∧ μ x = k ∧ SatE C n (S x) a w) hf ?_ ?_
  · refine wp_mono (first C a w ⟨hrho, V, D, hS⟩) ?_
    rintro e a2 w2 ⟨st2, hE2, hq⟩
    cases e with
    | goto l' =>
      obtain ⟨rfl, x', hM, hx'⟩ := hq
      exact ⟨rfl, μ x', x', hx', rfl, weak _ _ _ _ hE2 hM hx'⟩
    | normal => exact ⟨st2, hE2, hq⟩
    | exit id => exact ⟨st2, hE2, hq⟩
    | ret => exact ⟨st2, hE2, hq⟩
    | panic ch => exact ⟨st2, hE2, hq⟩
    | outgrown => exact ⟨st2, hE2, hq⟩
  · rintro k a1 w1 ⟨x, hx, rfl, hE⟩
    refine wp_mono (vcC_sound hpu hd' (pass x hx) C a1 w1 hE) ?_
    rintro e a2 w2 ⟨st2, hE2, hq⟩
    cases e with
    | goto l' =>
      obtain ⟨rfl, x', hM, hx', hlt⟩ := hq
      exact ⟨rfl, μ x', hlt, x', hx', rfl, weak _ _ _ _ hE2 hM hx'⟩
    | normal => exact ⟨st2, hE2, hq⟩
    | exit id => exact ⟨st2, hE2, hq⟩
    | ret => exact ⟨st2, hE2, hq⟩
    | panic ch => exact ⟨st2, hE2, hq⟩
    | outgrown => exact ⟨st2, hE2, hq⟩
def noG (Q : Exit → LS → Prop) : Exit → LS → Prop
  | .goto _, _ => False
  | e, st => Q e st
/-- A scope without a jump. -/
theorem WP_scope0 (hpu : PureOk c P) {body : Code} {Q : Exit → LS → Prop} (hd : dstOkC n body = true) (h : vcC (.mk (k := (c, P, n, body, noG Q)) st)) : WPv (.mk (k := (P, n, .scope body, Q)) st) := by
  intro C a w hE
  refine wp_scope_straight (wp_mono (vcC_sound hpu hd h C a w hE) ?_)
  rintro e a2 w2 ⟨st2, hE2, hq⟩
  cases e with
  | goto l => exact hq.elim
  | normal => exact ⟨st2, hE2, hq⟩
  | exit id => exact ⟨st2, hE2, hq⟩
  | ret => exact ⟨st2, hE2, hq⟩
  | panic ch => exact ⟨st2, hE2, hq⟩
  | outgrown => exact ⟨st2, hE2, hq⟩
/-- The label stands first. -/
theorem WP_scope1 (hpu : PureOk c P) {rest : Code} {l : Nat} {Q : Exit → LS → Prop} {X : Type} (S : X → LS) (I : X → Prop) (μ : X → Nat) (x0 : X)
    (hd : dstOkC n rest = true) (hn : ∀ x, I x → st.nid ≤ (S x).nid) (hm : ∀ x, I x → leM st.m (S x).m) (hok : ∀ x, okHd (S x)) (h0 : Match st (S x0)) (hI : I x0)
    (pass : ∀ x, I x → vcC (.mk (k := (c, P, n, rest, jumpQ l (fun st' => ∃ x', Match st' (S x') ∧ I x' ∧ μ x' < μ x) Q)) (S x))) : WPv (.mk (k := (P, n, .scope (.seq (.label l) rest), Q)) st) := by
  have hd2 : dstOkC n (.seq .skip rest) = true := by simp only [dstOkC, Bool.true_and]; exact hd
  have hd3 : dstOkC n (.seq (.label l) rest) = true := by simp only [dstOkC, Bool.true_and]; exact hd
  refine WP_scope hpu S I μ (rest := .seq .skip rest) (by simp [findLabel]) hd2 hn hm hok ?_ pass
  rintro C a w ⟨hrho, V, D, hS⟩
  have hE : SatE C n (S x0) a w := ⟨h0.2.1, V, D, hS.weaken h0 (hok x0) (fun b hb => Nat.lt_of_lt_of_le (hS.w.baseB b hb).2 (hn x0 hI)) (fun b hb => Nat.lt_of_lt_of_le (hS.w.baseV b hb).2.1 (hn x0 hI)) (by
    rcases hm x0 hI with e | h
    · rw [← e]; exact hS.w.m0
    · exact Mem.le_trans hS.w.m0 h)⟩
  have hw : WP P n (.seq (.label l) rest) _ (S x0) := vcC_sound hpu hd3 (pass x0 hI)
  refine (WP.mono hw ?_) C a w hE
  intro e st' hq
  cases e with
  | goto l' =>
    obtain ⟨rfl, x', hM, hx', _⟩ := hq
    exact ⟨rfl, x', hM, hx'⟩
  | _ => exact hq
/-- The same to a state that says less. -/
theorem WP_weak {x : Code} {Q : Exit → LS → Prop} (st' : LS) (hM : Match st st') (hok : okHd st') (hn : st.nid ≤ st'.nid) (hm : leM st.m st'.m) (h : WPv (.mk (k := (P, n, x, Q)) st')) : WPv (.mk (k := (P, n, x, Q)) st) := by
  rintro C a w ⟨hrho, V, D, hS⟩
  exact h C a w ⟨hM.2.1, V, D, hS.weaken hM hok (fun b hb => Nat.lt_of_lt_of_le (hS.w.baseB b hb).2 hn) (fun b hb => Nat.lt_of_lt_of_le (hS.w.baseV b hb).2.1 hn) (by
    rcases hm with e | h
    · rw [← e]; exact hS.w.m0
    · exact Mem.le_trans hS.w.m0 h)⟩
/-- A LOOP in a block, whose ways out are brought to one form. -/
theorem WP_loopX (hpu : PureOk c P) {id : Nat} {body : Code} {K : LS → Prop} {Q : Exit → LS → Prop} {X Y : Type} (S : X → LS) (I : X → Prop) (μ : X → Nat) (x0 : X) (E : Y → LS) (J : Y → Prop)
    (hd : dstOkC n body = true) (hn : ∀ x, I x → st.nid ≤ (S x).nid) (hm : ∀ x, I x → leM st.m (S x).m) (hok : ∀ x, okHd (S x)) (h0 : Match st (S x0)) (hI : I x0)
    (hnE : ∀ y, J y → st.nid ≤ (E y).nid) (hmE : ∀ y, J y → leM st.m (E y).m) (hokE : ∀ y, okHd (E y)) (out : ∀ y, J y → K (E y))
    (round : ∀ x, I x → vcC (.mk (k := (c, P, n, body, thenQ (fun st' => ∃ x', Match st' (S x') ∧ I x' ∧ μ x' < μ x) (blockQ id (thenQ (fun st' => ∃ y, Match st' (E y) ∧ J y) Q)))) (S x))) :
    WPv (.mk (k := (P, n, .loop body, blockQ id (thenQ K Q))) st) := by
  have hW : WP P n (.loop body) (blockQ id (thenQ (fun st' => ∃ y, Match st' (E y) ∧ J y) Q)) st := WP_loop hpu S I μ x0 hd hn hm hok h0 hI round
  rintro C a w ⟨hrho, V, D, hS⟩
  have hK : ∀ st2 a2 w2, SatE C n st2 a2 w2 → (∃ y, Match st2 (E y) ∧ J y) → ∃ st', SatE C n st' a2 w2 ∧ K st' := by
    rintro st2 a2 w2 ⟨_, V2, D2, hS2⟩ ⟨y, hM, hy⟩
    refine ⟨E y, ⟨hM.2.1, V2, D2, hS2.weaken hM (hokE y) (fun b hb => Nat.lt_of_lt_of_le (hS.w.baseB b hb).2 (hnE y hy)) (fun b hb => Nat.lt_of_lt_of_le (hS.w.baseV b hb).2.1 (hnE y hy)) ?_⟩, out y hy⟩
    rcases hmE y hy with e | h
    · rw [← e]; exact hS.w.m0
    · exact Mem.le_trans hS.w.m0 h
  refine wp_mono (hW C a w ⟨hrho, V, D, hS⟩) ?_
  rintro e a2 w2 ⟨st2, hE2, hq⟩
  cases e with
  | normal =>
    obtain ⟨st3, h1, h2⟩ := hK st2 a2 w2 hE2 hq
    exact ⟨st3, h1, h2⟩
  | exit id' =>
    simp only [blockQ] at hq
    split at hq
    · rename_i e
      obtain ⟨st3, h1, h2⟩ := hK st2 a2 w2 hE2 hq
      exact ⟨st3, h1, by simp only [blockQ]; rw [if_pos e]; exact h2⟩
    · rename_i e
      exact ⟨st2, hE2, by simp only [blockQ]; rw [if_neg e]; exact hq⟩
  | goto l => exact ⟨st2, hE2, hq⟩
  | ret => exact ⟨st2, hE2, hq⟩
  | panic ch => exact ⟨st2, hE2, hq⟩
  | outgrown => exact ⟨st2, hE2, hq⟩
/-- A nil slice is an own slice of no elements. -/
theorem WP_adopt {x : Code} {Q : Exit → LS → Prop} (t : Nat) (e : TypeId) (sz : Nat) (h0 : 0 < sz) (hl : lkE st.env t [] = some (.v (.slice none 0 0)))
    (h : WPv (.mk (k := (P, n, x, Q)) ⟨⟨t, [], .vec st.nid 0⟩ :: st.env, st.rho, st.bx, ⟨st.nid, 0, e, sz, 0, []⟩ :: st.vc, st.nid + 1, st.m⟩)) : WPv (.mk (k := (P, n, x, Q)) st) := by
  rintro C a w ⟨hrho, V, D, hS⟩
  obtain ⟨V', ha, hγ, hW⟩ := hS.w.addVc (w' := w) (hd := ⟨none, 0, 0⟩) (e := e) (sz := sz) (n := 0) (xs := []) rfl rfl rfl (Nat.le_refl _) (fun _ _ => rfl) (World.ownsRow_nil w 0 e sz) (fun g hg => by cases hg) h0 (fun u hu => by cases hu)
  have hS' : Sat C n _ a V' D w := hS.to ha (Nat.le_succ _) (fun k u hk hv => verLe_cons rfl k u hk hv) hW
  refine h C a w ⟨hrho, V', D, ⟨hS'.f.defers, hS'.f.size, fun e' he' => ?_, fun t' q s' hq hl' hc => ?_, hS'.f.rho⟩, fun e' he' => ?_, hW⟩
  · rcases List.mem_cons.1 he' with rfl | he'
    · exact wfP_nil
    · exact hS'.f.pth e' he'
  · simp only [lkE] at hl'
    split at hl'
    · rename_i ht
      subst ht
      split at hl'
      · cases hl'
        have := hS.f.env t [] _ wfP_nil hl rfl
        rw [this]
        show some (Value.slice none 0 0) = some (Hd.val (V'.γ st.nid 0))
        rw [hγ]; rfl
      · cases hl'
    · exact hS'.f.env t' q s' hq hl' hc
  · rcases List.mem_cons.1 he' with rfl | he'
    · exact ⟨Nat.lt_succ_self _, by simp [verLe]⟩
    · exact hS'.ids e' he'
end
attribute [go_sem] noG.eq_1 noG.eq_2
end Go.Proofs.YtmkifodpkcmgoaaDoor.E

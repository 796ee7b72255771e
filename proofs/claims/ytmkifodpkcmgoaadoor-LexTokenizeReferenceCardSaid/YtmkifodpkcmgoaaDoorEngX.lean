/- The engine, part X: an operation that only reads may be taken first. -/
import Derived.Test.YtmkifodpkcmgoaaDoorEngW
namespace Go.Proofs.YtmkifodpkcmgoaaDoor.E
open Go

/-- 'j' waits for 'i', through whatever lies between. -/
def depF (ops : Array Oper) : Nat → Nat → Nat → Bool
  | 0, _, _ => false
  | f + 1, j, i => match ops[j]? with
    | some o => o.after.toList.any fun e => Region.binds .any e && (e.on == i || depF ops f e.on i)
    | none => false
def Dep (ops : Array Oper) (j i : Nat) : Prop := ∃ f, depF ops f j i = true
/-- Who is listed has those listed for whom it waits. -/
def Closed (ops : Array Oper) (listed : Array Bool) (i : Nat) : Prop := ∀ k, listed.getD k false = true → Dep ops k i → listed.getD i false = true
section
variable {P : Program} {ops : Array Oper} {Q : Exit → Act → World → Prop} {Cw : World → Prop}
theorem unlisted {listed : Array Bool} {i : Nat} (h : listed.getD i true = false) : listed.getD i false = false := by
  rcases Nat.lt_or_ge i listed.size with h' | h'
  · simp only [Array.getD, h', dite_true] at h ⊢; exact h
  · simp [Array.getElem?_eq_none h'] at h
theorem ready_nodep {listed : Array Bool} {i j : Nat} (hc : Closed ops listed i) (hi : listed.getD i false = false) (hj : j ∈ Region.ready .any ops listed) : ¬ Dep ops j i := by
  rintro ⟨f, hf⟩
  obtain ⟨_, o, ho, hall⟩ := mem_ready.1 hj
  cases f with
  | zero => cases hf
  | succ f =>
    simp only [depF, ho] at hf
    obtain ⟨e, he, h⟩ := List.any_eq_true.1 hf
    simp only [Bool.and_eq_true, Bool.or_eq_true, beq_iff_eq] at h
    have hl := hall e (by simpa using he) h.1
    rcases h.2 with h2 | h2
    · rw [h2, hi] at hl; cases hl
    · have := hc _ hl ⟨f, h2⟩
      rw [hi] at this; cases this
theorem Closed.set {listed : Array Bool} {i j : Nat} (hc : Closed ops listed i) (hj : ¬ Dep ops j i) : Closed ops (listed.setIfInBounds j true) i := fun k hk hd => by
  by_cases e : j = k
  · subst e; exact absurd hd hj
  · rw [getD_set_ne false e] at hk
    exact getD_set_true (hc k hk hd)
theorem Closed.done {listed : Array Bool} {i : Nat} (h : listed.getD i false = true) : Closed ops listed i := fun _ _ _ => h

/-- The value that it yields in every world of the class, the world as it was. -/
def YW (P : Program) (ops : Array Oper) (Cw : World → Prop) (o : Oper) (v : Value) (a : Act) : Prop :=
  (Region.wanted o (yielded ops a.tmps) = true ∧ ∀ w, Cw w → (execOp a.eval o).run P w = .ok (.value v) w) ∨ (Region.wanted o (yielded ops a.tmps) = false ∧ v = undef)
theorem YW.same {o : Oper} {v : Value} {a a' : Act} (hy : YW P ops Cw o v a) (he : execOp a'.eval o = execOp a.eval o) (hw : Region.wanted o (yielded ops a'.tmps) = Region.wanted o (yielded ops a.tmps)) : YW P ops Cw o v a' := by
  unfold YW at *
  rw [he, hw]
  exact hy
theorem YW.wpOp {i : Nat} {o : Oper} {v : Value} {a : Act} (hi : ops[i]? = some o) (hy : YW P ops Cw o v a) {K : Act → World → Prop} {w : World} (hw : Cw w) (h : K (a.put o.dst v) w) : wpOp P ops Q i K a w := by
  unfold Go.wpOp
  simp only [hi]
  rcases hy with ⟨hwd, hv⟩ | ⟨hwd, rfl⟩
  · simp only [hwd, if_true, Oper.wp, hv w hw, Oper.upon]; exact .inl h
  · simp only [hwd, Bool.false_eq_true, if_false]; exact h
theorem wpOp_putW {j : Nat} {oi oj : Oper} {v : Value} (hj : ops[j]? = some oj) (hap : oi.apart ops oj = true) (hsi : ∀ cs b, oi.op ≠ .select cs b) (hsj : ∀ cs b, oj.op ≠ .select cs b)
    (hQ : ∀ c a w, ¬ Q (.panic c) a w) {K : Act → World → Prop} {a : Act} {w : World} (hy : YW P ops Cw oi v a) (h : wpOp P ops Q j K (a.put oi.dst v) w) :
    wpOp P ops Q j (fun a' w' => YW P ops Cw oi v a' ∧ K (a'.put oi.dst v) w') a w := by
  obtain ⟨h1, h2, h3⟩ := Oper.apart_spec hap
  have keep : ∀ (a : Act), YW P ops Cw oi v a → ∀ u, YW P ops Cw oi v (a.put oj.dst u) := fun a hy u =>
    hy.same (execOp_put oi hsi a oj.dst u h3) (wanted_put oi a oj.dst u h3)
  have keepD : ∀ d, YW P ops Cw oi v { a with defers := d :: a.defers } := fun d => hy.same rfl rfl
  unfold wpOp at *
  simp only [hj] at *
  rw [wanted_put oj a oi.dst v h1] at h
  split
  · rename_i hw
    simp only [hw, if_true] at h
    rcases h with h | ⟨hasks, hlets⟩
    case inr => exact .inr ⟨by unfold Oper.asks at *; rw [execOp_put oj hsj a oi.dst v h1] at hasks; exact hasks, hlets⟩
    refine .inl ?_
    unfold Oper.wp at *
    rw [execOp_put oj hsj a oi.dst v h1] at h
    generalize (execOp a.eval oj).run P w = r at *
    cases r with
    | ok n w' =>
      cases n <;> simp only [Oper.upon] at h ⊢
      case value u => exact ⟨keep a hy u, by rw [← Act.put_comm a v u h2]; exact h⟩
      case skip => exact ⟨keep a hy _, by rw [← Act.put_comm a v undef h2]; exact h⟩
      case defer d =>
        refine ⟨keep _ (keepD d) _, ?_⟩
        rw [← Act.put_comm _ v undef h2, ← Act.put_defers]
        exact h
      case enter f args =>
        refine Calls.mono h fun e w'' he => ?_
        cases e with
        | returned u => exact ⟨keep a hy u, by rw [← Act.put_comm a v u h2]; exact he⟩
        | panicked c => exact absurd he (hQ _ _ _)
        | outgrown => exact he
      case row row args => exact Rows.mono h fun u w'' he => ⟨keep a hy u, by rw [← Act.put_comm a v u h2]; exact he⟩
    | halt x w' =>
      cases x <;> simp only [Oper.upon] at h ⊢
      case panic u => exact absurd h (hQ _ _ _)
  · rename_i hw
    simp only [hw] at h
    exact ⟨keep a hy _, by rw [← Act.put_comm a v undef h2]; exact h⟩

/-- Whatever order is picked; 'I' has operations that were taken first, and the worlds in which they may be taken: such a world stands behind each operation until one comes up that waits for them. -/
def wpAnyC (P : Program) (ops : Array Oper) (Q : Exit → Act → World → Prop) : Nat → (Nat × (World → Prop) → Prop) → Array Bool → Act → World → Prop
  | 0, _, listed, a, w => Region.ready .any ops listed = [] ∧ Q .normal a w
  | fuel + 1, I, listed, a, w =>
    (Region.ready .any ops listed = [] → Q .normal a w) ∧
    ∀ j ∈ Region.ready .any ops listed, wpOp P ops Q j (fun a' w' => (∀ x, I x → ¬ Dep ops j x.1 → x.2 w') ∧ wpAnyC P ops Q fuel (fun x => I x ∧ ¬ Dep ops j x.1) (listed.setIfInBounds j true) a' w') a w
theorem wpAnyC_any : ∀ (fuel : Nat) (I : Nat × (World → Prop) → Prop) (listed : Array Bool) (a : Act) (w : World), wpAnyC P ops Q fuel I listed a w → wpAny P .any ops Q fuel listed a w
  | 0, _, _, _, _, h => h
  | fuel + 1, _, _, _, _, h => ⟨h.1, fun j hj => wpOp_mono (fun a' w' h' => wpAnyC_any fuel _ _ a' w' h'.2) (h.2 j hj)⟩
theorem wpAnyC_less : ∀ (fuel : Nat) (I J : Nat × (World → Prop) → Prop) (_ : ∀ i, J i → I i) (listed : Array Bool) (a : Act) (w : World), wpAnyC P ops Q fuel I listed a w → wpAnyC P ops Q fuel J listed a w
  | 0, _, _, _, _, _, _, h => h
  | fuel + 1, I, J, hI, _, _, _, h => ⟨h.1, fun j hj => wpOp_mono (fun a' w' h' => ⟨fun x h1 h2 => h'.1 x (hI x h1) h2, wpAnyC_less fuel _ _ (fun x hx => ⟨hI x hx.1, hx.2⟩) _ a' w' h'.2⟩) (h.2 j hj)⟩
theorem hoist {i : Nat} {oi : Oper} {v : Value} (hi : ops[i]? = some oi) (hsel : ∀ (j : Nat) (o : Oper) cs b, ops[j]? = some o → o.op ≠ .select cs b) (hQ : ∀ c a w, ¬ Q (.panic c) a w) :
    ∀ (fuel : Nat) (I : Nat × (World → Prop) → Prop) (listed : Array Bool) (a : Act) (w : World),
      (∀ j oj, ops[j]? = some oj → j ≠ i → listed.getD j true = false → (∀ e ∈ oj.after, Region.binds .any e = true → e.on ≠ i) → oi.apart ops oj = true) →
      Closed ops listed i → i ∈ Region.ready .any ops listed → YW P ops Cw oi v a → Cw w → (∀ x, I x → x.2 w) →
      wpAnyC P ops Q fuel (fun x => x = (i, Cw) ∨ I x) (listed.setIfInBounds i true) (a.put oi.dst v) w → wpAnyC P ops Q (fuel + 1) I listed a w := by
  intro fuel
  induction fuel with
  | zero =>
    intro I listed a w _ _ hr hy hC hI H
    refine ⟨fun h => (by rw [h] at hr; cases hr), fun j hj => ?_⟩
    by_cases hji : j = i
    · subst hji; exact hy.wpOp hi hC ⟨fun x h1 _ => hI x h1, H⟩
    · have := ready_mono hj hji
      rw [H.1] at this
      cases this
  | succ fuel ih =>
    intro I listed a w hfree hcl hr hy hC hI H
    refine ⟨fun h => (by rw [h] at hr; cases hr), fun j hj => ?_⟩
    by_cases hji : j = i
    · subst hji; exact hy.wpOp hi hC ⟨fun x h1 _ => hI x h1, wpAnyC_less _ _ _ (fun x hx => .inr hx.1) _ _ _ H⟩
    · have h1 := H.2 j (ready_mono hj hji)
      obtain ⟨hjun, oj, hoj, hall⟩ := mem_ready.1 hj
      have hiun := unlisted (mem_ready.1 hr).1
      have hnd := ready_nodep hcl hiun hj
      have hnot : ∀ e ∈ oj.after, Region.binds .any e = true → e.on ≠ i := fun e he hb heq => by
        have h1 := hall e he hb
        rw [heq, hiun] at h1
        cases h1
      have h2 := wpOp_putW hoj (hfree j oj hoj hji hjun hnot) (fun cs b => hsel i oi cs b hi) (fun cs b => hsel j oj cs b hoj) hQ hy h1
      have hfree' : ∀ k ok, ops[k]? = some ok → k ≠ i → (listed.setIfInBounds j true).getD k true = false →
          (∀ e ∈ ok.after, Region.binds .any e = true → e.on ≠ i) → oi.apart ops ok = true := fun k ok hk hki hun hno => by
        refine hfree k ok hk hki ?_ hno
        by_cases hjk : j = k
        · subst hjk; exact hjun
        · rw [getD_set_ne true hjk] at hun; exact hun
      refine wpOp_mono (fun a' w' h3 => ?_) h2
      obtain ⟨hy', hC', h3⟩ := h3
      have hC'' := hC' (i, Cw) (.inl rfl) hnd
      have hI' : ∀ x, I x ∧ ¬ Dep ops j x.1 → x.2 w' := fun x hx => hC' x (.inr hx.1) hx.2
      refine ⟨fun x h1 h2 => hI' x ⟨h1, h2⟩, ih _ (listed.setIfInBounds j true) a' w' hfree' (hcl.set hnd) (ready_mono hr (Ne.symm hji)) hy' hC'' hI' ?_⟩
      rw [Array.setIfInBounds_comm _ _ hji]
      refine wpAnyC_less _ _ _ (fun x hx => ?_) _ _ _ h3
      rcases hx with rfl | hx
      · exact ⟨.inl rfl, hnd⟩
      · exact ⟨.inr hx.1, hx.2⟩
end
end Go.Proofs.YtmkifodpkcmgoaaDoor.E

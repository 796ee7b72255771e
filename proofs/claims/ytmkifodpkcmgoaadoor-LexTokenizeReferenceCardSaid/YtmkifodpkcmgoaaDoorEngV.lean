/- The engine, part V: what a quiet operation yields hangs on the state alone. -/
import Derived.Test.YtmkifodpkcmgoaaDoorEngU
namespace Go.Proofs.YtmkifodpkcmgoaaDoor.E
open Go

def A.re {γ δ α : Type} {k : γ} (k' : δ) : A k α → A k' α
  | .mk a => .mk a
section
variable {P : Program} {op : BinOp} {t : TypeId} {k : IntKind} {u : Prop → Prop} {K : SV → Prop}
theorem withO_det {o : Option SV} (h : withO (.mk (k := K) o)) : ∃ s, K s ∧ withO (.mk (k := (· = s)) o) := by
  obtain ⟨s, rfl, h⟩ := withO_some h
  exact Exists.intro s (And.intro h rfl)
theorem arith_det : ∀ (x : A (k, u, K) Int), arith x → ∃ s, K s ∧ arith (x.re (k, u, (· = s))) := by
  rintro ⟨n⟩ h
  cases k <;> first
    | exact Exists.intro _ (And.intro h.2 (And.intro h.1 rfl))
    | exact Exists.intro _ (And.intro h rfl)
theorem binI_det : ∀ (x : A (op, k, u, K) (Int × Int)), binI x → ∃ s, K s ∧ binI (x.re (op, k, u, (· = s))) := by
  rintro ⟨a, b⟩ h
  cases op
  case add => obtain ⟨s, h1, h2⟩ := arith_det _ h; exact Exists.intro s (And.intro h1 h2)
  case sub => obtain ⟨s, h1, h2⟩ := arith_det _ h; exact Exists.intro s (And.intro h1 h2)
  case mul => obtain ⟨s, h1, h2⟩ := arith_det _ h; exact Exists.intro s (And.intro h1 h2)
  case quo => obtain ⟨s, h1, h2⟩ := arith_det _ h.2; exact Exists.intro s (And.intro h1 (And.intro h.1 h2))
  all_goals first
    | exact Exists.intro _ (And.intro h rfl)
    | exact Exists.intro _ (And.intro h.2 (And.intro h.1 rfl))
theorem binS_det : ∀ (x : A (op, u, K) (List UInt8 × List UInt8)), binS x → ∃ s, K s ∧ binS (x.re (op, u, (· = s))) := by
  rintro ⟨a, b⟩ h
  cases op
  all_goals first
    | exact h.elim
    | exact Exists.intro _ (And.intro h rfl)
    | exact Exists.intro _ (And.intro h.2 (And.intro h.1 rfl))
theorem binB_det : ∀ (x : A (op, K) Bool), binB x → ∃ s, K s ∧ binB (x.re (op, (fun s0 : SV => s0 = s))) := by
  rintro ⟨a⟩ h
  cases op
  all_goals first
    | exact h.elim
    | exact Exists.intro _ (And.intro h rfl)
theorem binQ_det : ∀ (x : A (P, op, t, u, K) (SV × SV)), binQ x → ∃ s, K s ∧ binQ (x.re (P, op, t, u, (· = s))) := by
  intro x h
  unfold binQ at h
  split at h
  · obtain ⟨s, h1, h2⟩ := binI_det _ h.2; exact Exists.intro s (And.intro h1 (And.intro h.1 h2))
  · obtain ⟨s, h1, h2⟩ := binS_det _ h; exact Exists.intro s (And.intro h1 h2)
  · obtain ⟨s, h1, h2⟩ := binB_det _ h.2; exact Exists.intro s (And.intro h1 (And.intro h.1 h2))
  · obtain ⟨h1, h2, h3⟩ := h
    obtain ⟨b, hb, h3⟩ := withO_some h3
    obtain ⟨s, h4, h5⟩ := binB_det _ h3
    exact Exists.intro s (And.intro h4 (And.intro h1 (And.intro h2 (by rw [hb]; exact h5))))
  · obtain ⟨h1, h2, h3⟩ := h
    obtain ⟨b, hb, h3⟩ := withO_some h3
    obtain ⟨s, h4, h5⟩ := binB_det _ h3
    exact Exists.intro s (And.intro h4 (And.intro h1 (And.intro h2 (by rw [hb]; exact h5))))
  · exact h.elim
theorem qNilI_det : ∀ (x : A (P, op, t, u, K) SV), qNilI x → ∃ s, K s ∧ qNilI (x.re (P, op, t, u, (· = s))) := by
  intro x h
  unfold qNilI at h
  split at h
  · obtain ⟨s, h1, h2⟩ := binB_det _ h.2.2; exact Exists.intro s (And.intro h1 (And.intro h.1 (And.intro h.2.1 h2)))
  · exact h.elim
theorem pickB_det {md : PM} : ∀ (x : A (md, K) (Bool × SV × SV)), pickB x → ∃ s, K s ∧ pickB (x.re (md, (fun s0 : SV => s0 = s))) := by
  intro x h
  unfold pickB at h
  split at h
  all_goals first
    | exact h.elim
    | exact Exists.intro _ (And.intro h rfl)
theorem qNil_det : ∀ (x : A (u, K) SV), qNil x → ∃ s, K s ∧ qNil (x.re (u, (fun s0 : SV => s0 = s))) := by
  intro x h
  unfold qNil at h
  split at h
  all_goals first
    | exact h.elim
    | exact Exists.intro _ (And.intro h rfl)
    | exact Exists.intro _ (And.intro h.2 (And.intro h.1 rfl))
theorem qUn_det {op : UnOp} : ∀ (x : A (op, u, K) SV), qUn x → ∃ s, K s ∧ qUn (x.re (op, u, (fun s0 : SV => s0 = s))) := by
  intro x h
  unfold qUn at h
  split at h
  · exact Exists.intro _ (And.intro h rfl)
  · obtain ⟨s, h1, h2⟩ := arith_det _ h; exact Exists.intro s (And.intro h1 h2)
  · exact h.elim
theorem qConv_det : ∀ (x : A (u, K) (LS × CvK × SV)), qConv x → ∃ s, K s ∧ qConv (x.re (u, (fun s0 : SV => s0 = s))) := by
  intro x h
  unfold qConv at h
  split at h
  · exact Exists.intro _ (And.intro h rfl)
  · exact Exists.intro _ (And.intro h rfl)
  · obtain ⟨b, hb, l, h1, h2⟩ := withO_some h
    refine Exists.intro _ (And.intro h2 ?_)
    show withO _
    rw [hb]
    exact ⟨l, h1, rfl⟩
  · obtain ⟨l, h1, h2⟩ := h
    exact Exists.intro _ (And.intro h2 (Exists.intro l (And.intro h1 rfl)))
  · exact h.elim
theorem qFld_det : ∀ (x : A (u, K) (LS × SV × Nat)), qFld x → ∃ s, K s ∧ qFld (x.re (u, (fun s0 : SV => s0 = s))) := by
  intro x h
  unfold qFld at h
  split at h
  · exact Exists.intro _ (And.intro h rfl)
  · obtain ⟨b, hb, h1, h2⟩ := withO_some h
    refine Exists.intro _ (And.intro h2 ?_)
    show withO _
    rw [hb]
    exact ⟨h1, rfl⟩
  · exact Exists.intro _ (And.intro h.2 (And.intro h.1 rfl))
  · exact h.elim
theorem qIxA_det : ∀ (x : A (P, u, K) (LS × TypeId × SV × SV)), qIxA x → ∃ s, K s ∧ qIxA (x.re (P, u, (fun s0 : SV => s0 = s))) := by
  intro x h
  unfold qIxA at h
  split at h
  · exact Exists.intro _ (And.intro h.2.2 (And.intro h.1 (And.intro h.2.1 rfl)))
  · obtain ⟨b, hb, h0, h1, h2⟩ := withO_some h
    refine Exists.intro _ (And.intro h2 ?_)
    show withO _
    rw [hb]
    exact ⟨h0, h1, rfl⟩
  · exact h.elim
theorem qIx_det : ∀ (x : A (P, t, u, K) (SV × SV)), qIx x → ∃ s, K s ∧ qIx (x.re (P, t, u, (fun s0 : SV => s0 = s))) := by
  intro x h
  unfold qIx at h
  split at h
  · exact Exists.intro _ (And.intro h.2.2 (And.intro h.1 (And.intro h.2.1 rfl)))
  · exact h.elim
theorem qSl_det : ∀ (x : A (P, t, u, K) (SV × Option SV × Option SV)), qSl x → ∃ s, K s ∧ qSl (x.re (P, t, u, (fun s0 : SV => s0 = s))) := by
  intro x h
  unfold qSl at h
  split at h
  · obtain ⟨h0, h⟩ := h
    obtain ⟨l, hl, h⟩ := withO_some h
    obtain ⟨m, hm, h⟩ := withO_some h
    refine Exists.intro _ (And.intro h.2 ?_)
    refine And.intro h0 ?_
    show withO _
    rw [hl]
    show withO _
    rw [hm]
    exact And.intro h.1 rfl
  · obtain ⟨l, hl, h⟩ := withO_some h
    obtain ⟨m, hm, h⟩ := withO_some h
    obtain ⟨e, he, h0, h1, h2⟩ := withO_some h
    refine Exists.intro _ (And.intro h2 ?_)
    show withO _
    rw [hl]
    show withO _
    rw [hm]
    show withO _
    rw [he]
    exact And.intro h0 (And.intro h1 rfl)
  · exact h.elim
theorem qRd_det {m : Mem} {y : Value} : ∀ (x : A (m, y, u, K) (Option Nat)), qRd x → ∃ s, K s ∧ qRd (x.re (m, y, u, (fun s0 : SV => s0 = s))) := by
  rintro ⟨x⟩ h
  cases x with
  | none => obtain ⟨c, h1, h2⟩ := h; exact Exists.intro _ (And.intro h2 (Exists.intro c (And.intro h1 rfl)))
  | some n => obtain ⟨c, h1, h2⟩ := h; exact Exists.intro _ (And.intro h2 (Exists.intro c (And.intro h1 rfl)))
theorem qRdV_det {b : Vc} {o : Nat} : ∀ (x : A (b, o, u, K) (Option Nat)), qRdV x → ∃ s, K s ∧ qRdV (x.re (b, o, u, (fun s0 : SV => s0 = s))) := by
  rintro ⟨x⟩ h
  cases x with
  | none => exact Exists.intro _ (And.intro h.2 (And.intro h.1 rfl))
  | some n => exact Exists.intro _ (And.intro h.2.2 (And.intro h.1 (And.intro h.2.1 rfl)))
theorem qLoad_det : ∀ (x : A (P, t, u, K) (LS × SV)), qLoad x → ∃ s, K s ∧ qLoad (x.re (P, t, u, (fun s0 : SV => s0 = s))) := by
  intro x h
  unfold qLoad at h
  split at h
  · obtain ⟨b, hb, h⟩ := withO_some h
    obtain ⟨ag, hag, h⟩ := withO_some h
    obtain ⟨r, hr, h⟩ := withO_some h
    refine Exists.intro _ (And.intro h ?_)
    simp only [A.re, qLoad, withO, hb, hag, hr]
  · obtain ⟨b, hb, h⟩ := withO_some h
    obtain ⟨ag, hag, h⟩ := withO_some h
    obtain ⟨s, h1, h2⟩ := qRdV_det _ h
    refine Exists.intro _ (And.intro h1 ?_)
    show withO _
    rw [hb]
    show withO _
    rw [hag]
    exact h2
  · obtain ⟨ag, hag, h⟩ := withO_some h
    obtain ⟨s, h1, h2⟩ := qRd_det _ h
    refine Exists.intro _ (And.intro h1 ?_)
    show withO _
    rw [hag]
    exact h2
  · exact h.elim
theorem qExt_det : ∀ (x : A K (SV × Nat)), qExt x → ∃ s, K s ∧ qExt (x.re (fun s0 : SV => s0 = s)) := by
  intro x h
  unfold qExt at h
  split at h
  · exact withO_det h
  · exact withO_det h
  · exact h.elim
theorem qLen_det : ∀ (x : A (P, t, K) (LS × SV)), qLen x → ∃ s, K s ∧ qLen (x.re (P, t, (fun s0 : SV => s0 = s))) := by
  intro x h
  unfold qLen at h
  split at h
  · exact Exists.intro _ (And.intro h.2 (And.intro h.1 rfl))
  · obtain ⟨e, he, h⟩ := withO_some h
    refine Exists.intro _ (And.intro h ?_)
    show withO _
    rw [he]
    rfl
  · obtain ⟨e, he, h⟩ := withO_some h
    obtain ⟨b, hb, h⟩ := withO_some h
    refine Exists.intro _ (And.intro h ?_)
    show withO _
    rw [he]
    show withO _
    rw [hb]
    rfl
  · exact h.elim
theorem qMin_det : ∀ (x : A K (SV × SV)), qMin x → ∃ s, K s ∧ qMin (x.re (fun s0 : SV => s0 = s)) := by
  intro x h
  unfold qMin at h
  split at h
  · exact Exists.intro _ (And.intro h rfl)
  · exact h.elim
theorem qPick_det {p : Pth} {a b : Operand} {st : LS} {g : Gd} : ∀ (x : A (p, a, b, st, g, K) PM), qPick x → ∃ s, K s ∧ qPick (x.re (p, a, b, st, g, (fun s0 : SV => s0 = s))) := by
  rintro ⟨md⟩ h
  unfold qPick at h
  split at h
  · obtain ⟨s, h1, h2⟩ := withO_det h.2; exact Exists.intro s (And.intro h1 (And.intro h.1 h2))
  · obtain ⟨s, h1, h2⟩ := withO_det h.2; exact Exists.intro s (And.intro h1 (And.intro h.1 h2))
  · rename_i q
    cases q
    obtain ⟨h0, h⟩ := h
    obtain ⟨x, hx, h⟩ := withO_some h
    obtain ⟨y, hy, h⟩ := withO_some h
    obtain ⟨s, h1, h2⟩ := pickB_det _ h
    refine Exists.intro s (And.intro h1 (And.intro h0 ?_))
    rw [hx]
    show withO _
    rw [hy]
    exact h2
theorem qOp_det {op : Op} : ∀ (x : A (P, op, K) (LS × Pth)), qOp x → ∃ s, K s ∧ qOp (x.re (P, op, (fun s0 : SV => s0 = s))) := by
  intro x h
  unfold qOp at h
  split at h
  · exact withO_det h
  · exact withO_det h
  · obtain ⟨g, hg, h⟩ := withO_some h
    obtain ⟨s, h1, h2⟩ := qPick_det _ h
    exact Exists.intro s (And.intro h1 (by simp only [A.re, qOp, withO, hg]; exact h2))
  · obtain ⟨x, hx, h⟩ := withO_some h
    obtain ⟨s, h1, h2⟩ := qNil_det _ h
    exact Exists.intro s (And.intro h1 (by simp only [A.re, qOp, withO, hx]; exact h2))
  · obtain ⟨x, hx, h⟩ := withO_some h
    obtain ⟨s, h1, h2⟩ := qNilI_det _ h
    exact Exists.intro s (And.intro h1 (by simp only [A.re, qOp, withO, hx]; exact h2))
  · rename_i bop t x' y' ty st' p' hne
    obtain ⟨x, hx, h⟩ := withO_some h
    obtain ⟨y, hy, h⟩ := withO_some h
    obtain ⟨s, h1, h2⟩ := binQ_det _ h
    have hy' : ¬ y' = .const .nilIface := fun e => by subst e; exact hne _ _ rfl HEq.rfl
    exact Exists.intro s (And.intro h1 (by simp only [A.re, qOp, withO, hx, hy, hy', false_implies, implies_true]; exact h2))
  · obtain ⟨x, hx, h⟩ := withO_some h
    obtain ⟨s, h1, h2⟩ := qUn_det _ h
    exact Exists.intro s (And.intro h1 (by simp only [A.re, qOp, withO, hx]; exact h2))
  · obtain ⟨x, hx, h⟩ := withO_some h
    obtain ⟨s, h1, h2⟩ := qConv_det _ h
    exact Exists.intro s (And.intro h1 (by simp only [A.re, qOp, withO, hx]; exact h2))
  · obtain ⟨x, hx, h⟩ := withO_some h
    obtain ⟨y, hy, h⟩ := withO_some h
    obtain ⟨s, h1, h2⟩ := qFld_det _ h
    exact Exists.intro s (And.intro h1 (by simp only [A.re, qOp, withO, hx, hy]; exact h2))
  · obtain ⟨x, hx, h⟩ := withO_some h
    obtain ⟨y, hy, h⟩ := withO_some h
    obtain ⟨s, h1, h2⟩ := withO_det h
    exact Exists.intro s (And.intro h1 (by simp only [A.re, qOp, withO, hx, hy]; exact h2))
  · obtain ⟨x, hx, h⟩ := withO_some h
    obtain ⟨y, hy, h⟩ := withO_some h
    obtain ⟨z, hz, h⟩ := withO_some h
    obtain ⟨s, h1, h2⟩ := qIxA_det _ h
    exact Exists.intro s (And.intro h1 (by simp only [A.re, qOp, withO, hx, hy, hz]; exact h2))
  · obtain ⟨x, hx, h⟩ := withO_some h
    obtain ⟨y, hy, h⟩ := withO_some h
    obtain ⟨s, h1, h2⟩ := qIx_det _ h
    exact Exists.intro s (And.intro h1 (by simp only [A.re, qOp, withO, hx, hy]; exact h2))
  · obtain ⟨x, hx, h⟩ := withO_some h
    obtain ⟨y, hy, h⟩ := withO_some h
    obtain ⟨z, hz, h⟩ := withO_some h
    obtain ⟨s, h1, h2⟩ := qSl_det _ h
    exact Exists.intro s (And.intro h1 (by simp only [A.re, qOp, withO, hx, hy, hz]; exact h2))
  · obtain ⟨x, hx, h⟩ := withO_some h
    obtain ⟨s, h1, h2⟩ := qLoad_det _ h
    exact Exists.intro s (And.intro h1 (by simp only [A.re, qOp, withO, hx]; exact h2))
  · obtain ⟨x, hx, h⟩ := withO_some h
    obtain ⟨s, h1, h2⟩ := qExt_det _ h
    exact Exists.intro s (And.intro h1 (by simp only [A.re, qOp, withO, hx]; exact h2))
  · obtain ⟨h0, h⟩ := h
    obtain ⟨z, hz, h⟩ := withO_some h
    obtain ⟨cs, hcs, h⟩ := withO_some h
    exact Exists.intro _ (And.intro h (by simp only [A.re, qOp, withO, hz, hcs]; exact And.intro h0 trivial))
  · obtain ⟨x, hx, h⟩ := withO_some h
    obtain ⟨s, h1, h2⟩ := qLen_det _ h
    exact Exists.intro s (And.intro h1 (by simp only [A.re, qOp, withO, hx]; exact h2))
  · obtain ⟨x, hx, h⟩ := withO_some h
    obtain ⟨y, hy, h⟩ := withO_some h
    obtain ⟨s, h1, h2⟩ := qMin_det _ h
    exact Exists.intro s (And.intro h1 (by simp only [A.re, qOp, withO, hx, hy]; exact h2))
  · exact h.elim
end
end Go.Proofs.YtmkifodpkcmgoaaDoor.E

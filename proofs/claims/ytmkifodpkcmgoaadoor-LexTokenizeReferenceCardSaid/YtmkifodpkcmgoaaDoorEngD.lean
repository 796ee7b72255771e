/- The engine, part D: what a quiet operation yields is what the model's operation yields. -/
import Derived.Test.YtmkifodpkcmgoaaDoorEngC
import Derived.Laws.Strings
import Derived.Laws.StructEq
import Derived.Laws.Shifts
import Derived.Laws.Cover1
namespace Go.Proofs.YtmkifodpkcmgoaaDoor.E
open Go

theorem denA_agg (V : Vl) (cs : List SV) : denA V (.agg cs) = undef := rfl
theorem den_v (V : Vl) (x : Value) : den V (.v x) = x := rfl
theorem den_box (V : Vl) (k o : Nat) : den V (.box k o) = .pointer (some ⟨V.β k, o, none⟩) := rfl
theorem den_agg (V : Vl) (cs : List SV) : den V (.agg cs) = .agg ⟨cs.map (denA V)⟩ := rfl
theorem den_tup (V : Vl) (cs : List SV) : den V (.tup cs) = .tuple ⟨cs.map (denB V)⟩ := rfl
theorem map_v (V : Vl) (l : List Value) : (l.map SV.v).map (denA V) = l := by
  induction l with
  | nil => rfl
  | cons x l ih => simp only [List.map_cons, ih]; rfl
theorem svCells_den {V : Vl} {s : SV} {cs : List SV} (h : svCells s = some cs) : (den V s).cells = ⟨cs.map (denA V)⟩ := by
  cases s with
  | agg l => simp only [svCells, Option.some.injEq] at h; subst h; rfl
  | tup l => simp [svCells] at h
  | v x =>
    cases x with
    | agg a => obtain ⟨l⟩ := a; simp only [svCells, Option.some.injEq] at h; subst h; simp only [map_v]; rfl
    | tuple a => simp [svCells] at h
    | _ => simp only [svCells, Option.some.injEq] at h; subst h; rfl
  | _ => simp only [svCells, Option.some.injEq] at h; subst h; rfl

/-! Paths. -/
theorem gval_of {rho : List Gd} {j : Nat} {w : Bool} {g : Gd} (h : lkG rho j = some g) : gval rho j w = (if w = true then g.b.val else !g.b.val) := by
  unfold gval; rw [h]
theorem lkG_i {rho : List Gd} {i : Nat} {g : Gd} (h : lkG rho i = some g) : g.i = i ∧ g ∈ rho := by
  induction rho with
  | nil => cases h
  | cons x r ih =>
    obtain ⟨i', t', p', b'⟩ := x
    simp only [lkG] at h
    split at h
    · rename_i e; cases h; exact ⟨e, List.mem_cons_self ..⟩
    · exact ⟨(ih h).1, List.mem_cons_of_mem _ (ih h).2⟩
theorem pthEq_eq : ∀ {p q : Pth}, pthEq p q = true → p = q
  | [], [], _ => rfl
  | (j, w) :: p, (k, u) :: q, h => by
    simp only [pthEq] at h
    split at h
    · split at h
      · rename_i e e'; subst e; subst e'; rw [pthEq_eq h]
      · cases h
    · cases h
  | [], _ :: _, h => by simp [pthEq] at h
  | _ :: _, [], h => by simp [pthEq] at h
theorem sfx_drop {p : Pth} : ∀ {q : Pth}, sfx p q = true → ∃ r, q = r ++ p
  | [], h => ⟨[], by simp only [sfx] at h; rw [pthEq_eq h]; rfl⟩
  | x :: q, h => by
    simp only [sfx] at h
    split at h
    · rename_i e; exact ⟨[], by rw [pthEq_eq e]; rfl⟩
    · obtain ⟨r, hr⟩ := sfx_drop h; exact ⟨x :: r, by rw [hr]; rfl⟩
theorem condP_app {rho : List Gd} : ∀ {p q : Pth}, condP rho (p ++ q) = (condP rho p && condP rho q)
  | [], q => by simp [condP]
  | (j, w) :: p, q => by simp [condP, condP_app (p := p), Bool.and_assoc]
theorem condP_sfx {rho : List Gd} {p q : Pth} (h : sfx p q = true) (hq : condP rho q = true) : condP rho p = true := by
  obtain ⟨r, rfl⟩ := sfx_drop h
  rw [condP_app, Bool.and_eq_true] at hq
  exact hq.2
theorem wfP_sfx {rho : List Gd} {p q : Pth} (h : sfx p q = true) (hq : wfP rho q) : wfP rho p := by
  obtain ⟨r, rfl⟩ := sfx_drop h
  exact fun x hx => hq x (List.mem_append_right _ hx)
theorem wfP_nil {rho : List Gd} : wfP rho [] := fun _ h => by cases h
theorem condP_nil {rho : List Gd} : condP rho [] = true := rfl
theorem deadP_not {rho : List Gd} : ∀ {p : Pth}, deadP rho p = true → condP rho p = false
  | [], h => by simp [deadP] at h
  | (j, w) :: p, h => by
    simp only [deadP] at h
    split at h
    · rename_i e
      simp only [condP, Bool.and_eq_false_iff]
      refine .inl ?_
      cases hg : lkG rho j with
      | none => rw [hg] at e; cases w <;> simp [gdead] at e
      | some g =>
        rw [hg] at e
        rw [gval_of hg]
        obtain ⟨i', t', p', b'⟩ := g
        cases b' with
        | lit b => cases b <;> cases w <;> simp_all [gdead, GB.val]
        | sym b => cases w <;> simp [gdead] at e
    · simp only [condP, Bool.and_eq_false_iff]; exact .inr (deadP_not h)

section
variable {C : Ctx} {n : Nat} {st : LS} {a : Act} {V : Vl} {D : Nat → Nat} {w : World} {P : Program}

theorem rdO_sound (hS : Sat C n st a V D w) {p : Pth} (hp : wfP st.rho p) (hc : condP st.rho p = true) {x : Operand} {s : SV} (h : rdO st p x = some s) : a.eval x = den V s := by
  cases x with
  | tmp t =>
    have := hS.env t p s hp h hc
    simp [Act.eval, this]
  | const v => simp only [rdO, Option.some.injEq] at h; subst h; rfl
  | func f => simp only [rdO, Option.some.injEq] at h; subst h; rfl
  | global g => simp only [rdO, Option.some.injEq] at h; subst h; rfl
theorem lkB_mem {l : List Bx} {k : Nat} {b : Bx} (h : lkB l k = some b) : b.id = k ∧ b ∈ l := by
  induction l with
  | nil => cases h
  | cons x r ih =>
    obtain ⟨i', t', p'⟩ := x
    simp only [lkB] at h
    split at h
    · rename_i e; cases h; exact ⟨e, List.mem_cons_self ..⟩
    · exact ⟨(ih h).1, List.mem_cons_of_mem _ (ih h).2⟩
theorem lkV_mem {l : List Vc} {k u : Nat} {b : Vc} (h : lkV l k u = some b) : b.id = k ∧ b.ver = u ∧ b ∈ l := by
  induction l with
  | nil => cases h
  | cons x r ih =>
    obtain ⟨i', u', e', z', n', x'⟩ := x
    simp only [lkV] at h
    split at h
    · rename_i e
      split at h
      · rename_i e'; cases h; exact ⟨e, e', List.mem_cons_self ..⟩
      · cases h
    · exact ⟨(ih h).1, (ih h).2.1, List.mem_cons_of_mem _ (ih h).2.2⟩
end

/-- What an operation is to yield, if it comes up at all. -/
def Yl (c : Bool) (P : Program) (x : Sem Value) (w : World) (v : Value) : Prop := c = true → x.run P w = .ok v w

section
variable {P : Program} {c : Bool} {w : World}
/-- The condition under which side conditions are owed. -/
abbrev U (c : Bool) : Prop → Prop := fun B => c = true → B

theorem arith_sound {k : IntKind} {V : Vl} {K : SV → Prop} {n : Int} (h : arith (.mk (k := (k, U c, K)) n)) :
    ∃ s, K s ∧ (c = true → den V s = .int k (k.wrap n)) := by
  cases k
  case i64 =>
    simp only [arith] at h
    refine ⟨_, h.2, fun hc => ?_⟩
    have hb := h.1 hc
    rw [den_v]
    have : IntKind.i64.wrap n = n := by
      rw [IntKind.wrap_i64]; unfold I64 at hb; omega
    rw [this]
  all_goals exact ⟨_, h, fun _ => rfl⟩

theorem binI_sound {op : BinOp} {k k' : IntKind} {x y : Int} {t : TypeId} {o o' : Operand} {V : Vl} {K : SV → Prop} (hk : op = .shl ∨ op = .shr ∨ k = k') (h : binI (.mk (k := (op, k, U c, K)) (x, y))) :
    ∃ s, K s ∧ Yl c P (do eqGuard op t o o' (.int k x) (.int k' y); binOp op t (.int k x) (.int k' y)) w (den V s) := by
  by_cases hs : op = .shl ∨ op = .shr
  · rcases hs with rfl | rfl
    · simp only [binI] at h
      refine ⟨_, h.2, fun hc => ?_⟩
      simp [go_sem, shift_shl _ _ _ _ (h.1 hc).1 (h.1 hc).2, den_v]
    · simp only [binI] at h
      refine ⟨_, h.2, fun hc => ?_⟩
      simp [go_sem, shift_shr _ _ _ _ (h.1 hc).1 (h.1 hc).2, den_v]
  · have hkk : k = k' := by
      rcases hk with h1 | h1 | h1
      · exact absurd (.inl h1) hs
      · exact absurd (.inr h1) hs
      · exact h1
    subst hkk
    cases op <;> simp only [binI] at h
    case shl => exact absurd (.inl rfl) hs
    case shr => exact absurd (.inr rfl) hs
    case add => obtain ⟨s, h1, h2⟩ := arith_sound (V := V) h; exact ⟨s, h1, fun hc => by rw [h2 hc]; simp [go_sem, Op.intArith]⟩
    case sub => obtain ⟨s, h1, h2⟩ := arith_sound (V := V) h; exact ⟨s, h1, fun hc => by rw [h2 hc]; simp [go_sem, Op.intArith]⟩
    case mul => obtain ⟨s, h1, h2⟩ := arith_sound (V := V) h; exact ⟨s, h1, fun hc => by rw [h2 hc]; simp [go_sem, Op.intArith]⟩
    case quo => obtain ⟨s, h1, h2⟩ := arith_sound (V := V) h.2; exact ⟨s, h1, fun hc => by rw [h2 hc]; simp [go_sem, Op.intDiv, h.1 hc]⟩
    case rem => exact ⟨_, h.2, fun hc => by simp [go_sem, Op.intDiv, h.1 hc, den_v]⟩
    case eql => exact ⟨_, h, fun _ => by simp [go_sem, den_v]; rfl⟩
    case neq => exact ⟨_, h, fun _ => by simp [go_sem, den_v, bne]; rfl⟩
    all_goals exact ⟨_, h, fun _ => by simp [go_sem, den_v]⟩
end
end Go.Proofs.YtmkifodpkcmgoaaDoor.E

/- The engine, part S: a region, in the order of its text. -/
import Derived.Test.YtmkifodpkcmgoaaDoorEngR
namespace Go.Proofs.YtmkifodpkcmgoaaDoor.E
open Go

def dstOk (n : Nat) (o : Oper) : Bool := match o.dst with | some d => decide (d < n) | none => true
def RInv (ops : Array Oper) (L : Nat → Prop) (rho : List Gd) : Prop := ∀ g ∈ rho, L g.i ∧ (ops[g.i]?).bind (·.dst) = some g.slot
def PureOk (c : Cfg) (P : Program) : Prop :=
  ∀ f F, c.pure f = some F → fnOk P f = true ∧ ∀ vals y, F vals = some y → y.1 → ∀ m, FnH P f (vals.map SV.v) ⟨[], []⟩ m (fun r H' _ => r = .v y.2 ∧ H' = ⟨[], []⟩)

theorem lkG_cons_ne {g : Gd} {rho : List Gd} {j : Nat} (h : g.i ≠ j) : lkG (g :: rho) j = lkG rho j := by
  obtain ⟨i, t, p, b⟩ := g
  simp only [lkG]
  rw [if_neg h]
theorem lkG_cons_eq {g : Gd} {rho : List Gd} : lkG (g :: rho) g.i = some g := by
  obtain ⟨i, t, p, b⟩ := g
  simp only [lkG, if_true]
theorem wfP_cons {g : Gd} {rho : List Gd} {p : Pth} (h : wfP rho p) : wfP (g :: rho) p := fun x hx => by
  obtain ⟨g', hg'⟩ := h x hx
  by_cases e : g.i = x.1
  · exact ⟨g, by rw [← e]; exact lkG_cons_eq⟩
  · exact ⟨g', by rw [lkG_cons_ne e]; exact hg'⟩
theorem gval_cons {g : Gd} {rho : List Gd} {j : Nat} {w : Bool} (h : g.i ≠ j) : gval (g :: rho) j w = gval rho j w := by
  unfold gval; rw [lkG_cons_ne h]
theorem condP_cons {g : Gd} {rho : List Gd} : ∀ {p : Pth}, (∀ x ∈ p, x.1 ≠ g.i) → condP (g :: rho) p = condP rho p
  | [], _ => rfl
  | (j, w) :: p, h => by
    simp only [condP]
    rw [gval_cons (fun e => h (j, w) (List.mem_cons_self ..) e.symm), condP_cons fun x hx => h x (List.mem_cons_of_mem _ hx)]
theorem wfP_lt {rho : List Gd} {i : Nat} (hi : ∀ g ∈ rho, g.i ≠ i) {p : Pth} (h : wfP rho p) : ∀ x ∈ p, x.1 ≠ i := fun x hx e => by
  obtain ⟨g, hg⟩ := h x hx
  obtain ⟨h1, h2⟩ := lkG_i hg
  exact hi g h2 (h1.trans e)
theorem pthEq_refl : ∀ p : Pth, pthEq p p = true
  | [] => rfl
  | (j, w) :: p => by simp only [pthEq, if_true]; exact pthEq_refl p
theorem sfx_refl : ∀ p : Pth, sfx p p = true
  | [] => rfl
  | x :: p => by simp only [sfx]; rw [if_pos (pthEq_refl _)]
theorem lkE_pth {env : List Ev} {t : Nat} {q : Pth} {s : SV} (h : lkE env t q = some s) : ∃ e ∈ env, sfx e.p q = true ∧ lkE env t e.p = some s := by
  induction env with
  | nil => cases h
  | cons x r ih =>
    obtain ⟨t', p', s'⟩ := x
    simp only [lkE] at h
    split at h
    · rename_i ht
      split at h
      · rename_i hsf
        refine ⟨_, List.mem_cons_self .., hsf, ?_⟩
        simp only [lkE]
        rw [if_pos ht, if_pos (sfx_refl p')]
        exact h
      · cases h
    · rename_i ht
      obtain ⟨e, he, h1, h2⟩ := ih h
      refine ⟨e, List.mem_cons_of_mem _ he, h1, ?_⟩
      simp only [lkE]
      rw [if_neg ht]
      exact h2
theorem hitG_slot {d : Nat} : ∀ {rho : List Gd}, hitG rho (some d) = false → ∀ g ∈ rho, g.slot ≠ d
  | [], _, _, hg => by cases hg
  | ⟨i, t, p, b⟩ :: r, h, g, hg => by
    simp only [hitG] at h
    split at h
    · cases h
    · rename_i hne
      rcases List.mem_cons.1 hg with rfl | hg
      · exact hne
      · exact hitG_slot h g hg

section
variable {C : Ctx} {n : Nat} {st : LS} {a : Act} {V : Vl} {D : Nat → Nat} {w : World} {P : Program} {p : Pth} {c : Cfg} {ops : Array Oper} {L : Nat → Prop} {i : Nat} {o : Oper}

theorem put_tmp (hS : Sat C n st a V D w) {d : Nat} (hd : d < n) (v : Value) : (a.put (some d) v).tmps[d]? = some v := by
  have := hS.f.size
  simp only [Act.put]
  rw [Array.getElem?_setIfInBounds_self_of_lt (by omega)]
theorem put_other {d t : Nat} (v : Value) (h : t ≠ d) : (a.put (some d) v).tmps[t]? = a.tmps[t]? := by
  simp only [Act.put]
  rw [Array.getElem?_setIfInBounds_ne (fun e => h e.symm)]
theorem Sat.put (hS : Sat C n st a V D w) {d : Option Nat} (hd : ∀ x, d = some x → x < n) (hit : hitG st.rho d = false) (hp : wfP st.rho p) {s : SV} (hs : okS st.nid st.vc s) {v : Value}
    (hv : condP st.rho p = true → v = den V s) : Sat C n (E.put st d p s) (a.put d v) V D w := by
  cases d with
  | none => exact hS
  | some d =>
    refine ⟨⟨hS.f.defers, by simp only [Act.put, Array.size_setIfInBounds]; exact hS.f.size, ?_, ?_, ?_⟩, ?_, hS.w⟩
    · intro e he
      rcases List.mem_cons.1 he with rfl | he
      · exact hp
      · exact hS.f.pth e he
    · intro t q s' hq hl hc
      simp only [E.put, lkE] at hl
      split at hl
      · rename_i ht
        subst ht
        split at hl
        · rename_i hsf
          cases hl
          rw [put_tmp hS (hd _ rfl), hv (condP_sfx hsf hc)]
        · cases hl
      · rename_i ht
        rw [put_other _ (fun e => ht e.symm)]
        exact hS.f.env t q s' hq hl hc
    · intro g hg
      obtain ⟨h1, h2, h3⟩ := hS.f.rho g hg
      exact ⟨h1, h2, by rw [put_other _ (hitG_slot hit g hg)]; exact h3⟩
    · intro e he
      rcases List.mem_cons.1 he with rfl | he
      · exact hs
      · exact hS.ids e he
theorem Sat.note (hS : Sat C n st a V D w) (hp : wfP st.rho p) {b : Bool} {d : Nat} (hi : ∀ g ∈ st.rho, g.i ≠ i) (ht : a.tmps[d]? = some (if condP st.rho p = true then .bool b else undef)) :
    Sat C n ⟨st.env, ⟨i, d, p, .sym b⟩ :: st.rho, st.bx, st.vc, st.nid, st.m⟩ a V D w := by
  have hc : ∀ {q : Pth}, wfP st.rho q → condP (⟨i, d, p, .sym b⟩ :: st.rho) q = condP st.rho q := fun hq => condP_cons (wfP_lt hi hq)
  refine ⟨⟨hS.f.defers, hS.f.size, fun e he => wfP_cons (hS.f.pth e he), ?_, ?_⟩, hS.ids, hS.w⟩
  · intro t q s hq hl hcq
    obtain ⟨e, he, hsf, hl'⟩ := lkE_pth hl
    have hwe := hS.f.pth e he
    exact hS.f.env t e.p s hwe hl' (by rw [← hc hwe]; exact condP_sfx hsf hcq)
  · intro g hg
    rcases List.mem_cons.1 hg with rfl | hg
    · exact ⟨lkG_cons_eq, wfP_cons hp, by rw [hc hp]; exact ht⟩
    · obtain ⟨h1, h2, h3⟩ := hS.f.rho g hg
      have := hi g hg
      exact ⟨by rw [lkG_cons_ne (fun e => this e.symm)]; exact h1, wfP_cons h2, by rw [hc h2]; exact h3⟩

/-! Forks. -/
structure Fk (st st' : LS) : Prop where
  eqs : st'.bx = st.bx ∧ st'.vc = st.vc ∧ st'.nid = st.nid ∧ st'.m = st.m
  cond : ∀ q, condP st'.rho q = condP st.rho q
  wf : ∀ q, wfP st.rho q → wfP st'.rho q
  hit : ∀ d, hitG st'.rho d = hitG st.rho d
  inv : ∀ ops (L : Nat → Prop), RInv ops L st.rho → RInv ops L st'.rho
theorem Fk.refl (st : LS) : Fk st st := ⟨⟨rfl, rfl, rfl, rfl⟩, fun _ => rfl, fun _ h => h, fun _ => rfl, fun _ _ h => h⟩
theorem Fk.trans {st st' st'' : LS} (h : Fk st st') (h' : Fk st' st'') : Fk st st'' :=
  ⟨⟨h'.eqs.1.trans h.eqs.1, h'.eqs.2.1.trans h.eqs.2.1, h'.eqs.2.2.1.trans h.eqs.2.2.1, h'.eqs.2.2.2.trans h.eqs.2.2.2⟩, fun q => (h'.cond q).trans (h.cond q), fun q x => h'.wf q (h.wf q x),
    fun d => (h'.hit d).trans (h.hit d), fun o i x => h'.inv o i (h.inv o i x)⟩
theorem Step.same {nid nid' : Nat} {vc vc' : List Vc} (h1 : nid' = nid) (h2 : vc' = vc) (V : Vl) : Step nid vc nid' vc' V V := by
  subst h1 h2; exact ⟨Agree.refl _ _ _, Nat.le_refl _, fun _ _ _ h => h⟩
theorem Step.trans {nid nid' nid'' : Nat} {vc vc' vc'' : List Vc} {V V' V'' : Vl} (h : Step nid vc nid' vc' V V') (h' : Step nid' vc' nid'' vc'' V' V'') : Step nid vc nid'' vc'' V V'' :=
  ⟨fun k hk => ⟨((h'.agr k (Nat.lt_of_lt_of_le hk h.up)).1).trans (h.agr k hk).1, fun u hu => ((h'.agr k (Nat.lt_of_lt_of_le hk h.up)).2 u (h.ver k u hk hu)).trans ((h.agr k hk).2 u hu)⟩, Nat.le_trans h.up h'.up,
    fun k u hk hu => h'.ver k u (Nat.lt_of_lt_of_le hk h.up) (h.ver k u hk hu)⟩
theorem Fk.step {st st' : LS} (h : Fk st st') (V : Vl) : Step st.nid st.vc st'.nid st'.vc V V := Step.same h.eqs.2.2.1 h.eqs.2.1 V
def fix1 (j : Nat) (x : Bool) (g : Gd) : Gd := if g.i = j then ⟨g.i, g.slot, g.p, .lit x⟩ else g
theorem fix_map {j : Nat} {x : Bool} : ∀ {rho : List Gd}, fixG rho j x = rho.map (fix1 j x)
  | [] => rfl
  | ⟨i, t, p, b⟩ :: r => by
    simp only [fixG, List.map_cons, fix1]
    split
    · rw [fix_map]
    · rw [fix_map]
theorem fix1_i {j : Nat} {x : Bool} (g : Gd) : (fix1 j x g).i = g.i ∧ (fix1 j x g).slot = g.slot ∧ (fix1 j x g).p = g.p := by
  unfold fix1; split <;> exact ⟨rfl, rfl, rfl⟩
theorem lk_map {f : Gd → Gd} (hf : ∀ g, (f g).i = g.i) : ∀ {rho : List Gd} (k : Nat), lkG (rho.map f) k = (lkG rho k).map f
  | [], _ => rfl
  | g :: r, k => by
    by_cases e : g.i = k
    · subst e
      rw [lkG_cons_eq, List.map_cons, ← hf g, lkG_cons_eq]; rfl
    · rw [lkG_cons_ne e, List.map_cons, lkG_cons_ne (by rw [hf]; exact e), lk_map hf]
theorem fix_lk {rho : List Gd} {j : Nat} {x : Bool} (k : Nat) : lkG (fixG rho j x) k = (lkG rho k).map (fix1 j x) := by
  rw [fix_map]; exact lk_map (fun g => (fix1_i g).1) k
theorem fix_mem {rho : List Gd} {j : Nat} {x : Bool} {g : Gd} (h : g ∈ fixG rho j x) : ∃ g' ∈ rho, g = fix1 j x g' := by
  rw [fix_map] at h
  obtain ⟨g', h1, h2⟩ := List.mem_map.1 h
  exact ⟨g', h1, h2.symm⟩
theorem hit_map {f : Gd → Gd} (hf : ∀ g, (f g).slot = g.slot) {d : Option Nat} : ∀ {rho : List Gd}, hitG (rho.map f) d = hitG rho d
  | [] => rfl
  | g :: r => by
    cases d with
    | none => rfl
    | some d =>
      have h1 : ∀ (g : Gd) (r : List Gd), hitG (g :: r) (some d) = if g.slot = d then true else hitG r (some d) := fun g r => by cases g; rfl
      rw [List.map_cons, h1, h1, hf, hit_map hf]
theorem fix_hit {j : Nat} {x : Bool} {d : Option Nat} {rho : List Gd} : hitG (fixG rho j x) d = hitG rho d := by
  rw [fix_map]; exact hit_map fun g => (fix1_i g).2.1
theorem fix_val {rho : List Gd} {j k : Nat} {x : Bool} {g g' : Gd} (hg : lkG rho j = some g) (hb : g.b.val = x) (hk : lkG rho k = some g') : (fix1 j x g').b.val = g'.b.val := by
  unfold fix1
  split
  · rename_i e
    have := (lkG_i hk).1
    rw [this] at e
    subst e
    rw [hg] at hk
    cases hk
    exact hb.symm
  · rfl
theorem fix_gval {rho : List Gd} {j k : Nat} {x u : Bool} {g : Gd} (hg : lkG rho j = some g) (hb : g.b.val = x) : gval (fixG rho j x) k u = gval rho k u := by
  unfold gval
  rw [fix_lk]
  cases hk : lkG rho k with
  | none => rfl
  | some g' => simp only [Option.map_some, fix_val hg hb hk]
theorem fix_cond {rho : List Gd} {j : Nat} {x : Bool} {g : Gd} (hg : lkG rho j = some g) (hb : g.b.val = x) : ∀ q : Pth, condP (fixG rho j x) q = condP rho q
  | [] => rfl
  | (k, u) :: q => by simp only [condP]; rw [fix_gval hg hb, fix_cond hg hb q]
theorem fix_wf {rho : List Gd} {j : Nat} {x : Bool} {q : Pth} : wfP (fixG rho j x) q ↔ wfP rho q := by
  constructor
  · intro h y hy
    obtain ⟨g, hg⟩ := h y hy
    rw [fix_lk] at hg
    obtain ⟨g', hg', _⟩ := Option.map_eq_some_iff.1 hg
    exact ⟨g', hg'⟩
  · intro h y hy
    obtain ⟨g, hg⟩ := h y hy
    exact ⟨_, by rw [fix_lk, hg]; rfl⟩
theorem fork_one (hS : Sat C n st a V D w) {j t : Nat} {q : Pth} {b : GB} {i' : Nat} {x : Bool} (hg : lkG st.rho j = some ⟨i', t, q, b⟩) (hb : b.val = x) :
    Sat C n ⟨⟨t, q, .v (.bool x)⟩ :: st.env, fixG st.rho j x, st.bx, st.vc, st.nid, st.m⟩ a V D w ∧ Fk st ⟨⟨t, q, .v (.bool x)⟩ :: st.env, fixG st.rho j x, st.bx, st.vc, st.nid, st.m⟩ := by
  have hc := fix_cond hg hb
  obtain ⟨hgi, hgm⟩ := lkG_i hg
  obtain ⟨h1, h2, h3⟩ := hS.f.rho _ hgm
  refine ⟨⟨⟨hS.f.defers, hS.f.size, ?_, ?_, ?_⟩, ?_, hS.w⟩, ⟨rfl, rfl, rfl, rfl⟩, hc, fun q => fix_wf.2, fun _ => fix_hit, ?_⟩
  · intro e he
    rcases List.mem_cons.1 he with rfl | he
    · exact fix_wf.2 h2
    · exact fix_wf.2 (hS.f.pth e he)
  · intro t' q' s hq hl hcq
    simp only at hq hcq
    rw [hc] at hcq
    have hq := fix_wf.1 hq
    simp only [lkE] at hl
    split at hl
    · rename_i ht
      subst ht
      split at hl
      · rename_i hsf
        cases hl
        simp only at h3
        rw [h3, if_pos (condP_sfx hsf hcq), hb]
        rfl
      · cases hl
    · exact hS.f.env t' q' s hq hl hcq
  · intro g hg'
    obtain ⟨g0, hg0, rfl⟩ := fix_mem hg'
    obtain ⟨e1, e2, e3⟩ := hS.f.rho g0 hg0
    obtain ⟨f1, f2, f3⟩ := fix1_i (j := j) (x := x) g0
    refine ⟨by rw [f1, fix_lk, e1]; rfl, by rw [f3]; exact fix_wf.2 e2, ?_⟩
    simp only
    rw [f2, f3, hc, fix_val hg hb e1]
    exact e3
  · intro e he
    rcases List.mem_cons.1 he with rfl | he
    · trivial
    · exact hS.ids e he
  · intro ops i hR g hg
    obtain ⟨g', h1, rfl⟩ := fix_mem hg
    obtain ⟨f1, f2, f3⟩ := fix1_i (j := j) (x := x) g'
    rw [f1, f2]
    exact hR g' h1
theorem forkG_sound (hS : Sat C n st a V D w) {j : Nat} {u : Bool} {g : Gd} (hg : lkG st.rho j = some g) {dead live : LS → Prop} (h : forkG (.mk (k := (j, u, dead, live)) (st, g))) :
    ∃ st', Sat C n st' a V D w ∧ Fk st st' ∧ (gval st.rho j u = true → live st') ∧ (gval st.rho j u = false → dead st') := by
  have hv := gval_of hg (w := u)
  obtain ⟨i', t, q, b⟩ := g
  cases b with
  | lit b =>
    refine ⟨st, hS, Fk.refl st, ?_⟩
    rw [hv]
    cases u <;> cases b <;> simp_all [forkG, GB.val]
  | sym b =>
    obtain ⟨h1, h2⟩ := fork_one hS hg (x := b) rfl
    refine ⟨_, h1, h2, ?_⟩
    rw [hv]
    cases u <;> cases b <;> simp_all [forkG, GB.val]
theorem forkP_sound (hS : Sat C n st a V D w) : ∀ {p : Pth} {dead live : LS → Prop}, forkPx p dead live st → ∃ st', Sat C n st' a V D w ∧ Fk st st' ∧ (condP st.rho p = true → live st') ∧ (condP st.rho p = false → dead st')
  | [], dead, live, h => ⟨st, hS, Fk.refl st, fun _ => h, fun e => by cases e⟩
  | (j, u) :: p, dead, live, h => by
    simp only [forkPx] at h
    obtain ⟨st1, s1, f1, l1, d1⟩ := forkP_sound hS h
    cases hc : condP st.rho p with
    | false => exact ⟨st1, s1, f1, fun e => by simp [condP, hc] at e, fun _ => d1 hc⟩
    | true =>
      obtain ⟨g, hg, h'⟩ := withO_some (l1 hc)
      obtain ⟨st2, s2, f2, l2, d2⟩ := forkG_sound s1 hg h'
      have : gval st1.rho j u = gval st.rho j u := by
        have := f1.cond [(j, u)]
        simpa [condP] using this
      rw [this] at l2 d2
      exact ⟨st2, s2, f1.trans f2, fun e => l2 (by simpa [condP, hc] using e), fun e => d2 (by simpa [condP, hc] using e)⟩

/-! The guard of an operation. -/
theorem path_sound (hS : Sat C n st a V D w) (hR : RInv ops L st.rho) (h : pathOf st o.guard = some p) : wfP st.rho p ∧ Region.wanted o (yielded ops a.tmps) = condP st.rho p := by
  unfold Region.wanted
  cases hg : o.guard with
  | none => rw [hg] at h; simp only [pathOf, Option.some.injEq] at h; subst h; exact ⟨wfP_nil, rfl⟩
  | some x =>
    obtain ⟨j, u⟩ := x
    rw [hg] at h
    simp only [pathOf, Option.map_eq_some_iff] at h
    obtain ⟨g, hj, rfl⟩ := h
    obtain ⟨hi, hm⟩ := lkG_i hj
    obtain ⟨h1, h2, h3⟩ := hS.f.rho g hm
    have hslot := (hR g hm).2
    rw [hi] at hslot
    refine ⟨fun y hy => ?_, ?_⟩
    · rcases List.mem_cons.1 hy with rfl | hy
      · exact ⟨g, hj⟩
      · exact h2 y hy
    · simp only [condP, gval_of hj, yielded, hslot, Option.bind_some, h3]
      cases hc : condP st.rho g.p with
      | false => simp [undef]
      | true => cases u <;> cases g.b.val <;> simp
theorem RInv.mono {rho : List Gd} {L' : Nat → Prop} (h : RInv ops L rho) (hL : ∀ k, L k → L' k) : RInv ops L' rho := fun g hg => ⟨hL _ (h g hg).1, (h g hg).2⟩
theorem RInv.note {rho : List Gd} (h : RInv ops L rho) (hoi : ops[i]? = some o) {d : Nat} (hd : o.dst = some d) {b : GB} : RInv ops (fun k => L k ∨ k = i) (⟨i, d, p, b⟩ :: rho) := fun g hg => by
  rcases List.mem_cons.1 hg with rfl | hg
  · exact ⟨.inr rfl, by simp only [hoi, Option.bind_some]; exact hd⟩
  · exact ⟨.inl (h g hg).1, (h g hg).2⟩
theorem put_rho {d : Option Nat} {s : SV} : (E.put st d p s).rho = st.rho ∧ (E.put st d p s).nid = st.nid ∧ (E.put st d p s).vc = st.vc := by
  cases d <;> exact ⟨rfl, rfl, rfl⟩

theorem plainS_den {s : SV} {x : Value} (h : plainS s = some x) : den V s = x := by
  cases s with
  | v y => simp only [plainS, Option.some.injEq] at h; subst h; rfl
  | agg cs =>
    simp only [plainS, Option.map_eq_some_iff] at h
    obtain ⟨l, hl, rfl⟩ := h
    rw [den_agg, plains_den hl]
  | _ => simp [plainS] at h
theorem plainSs_den : ∀ {ss : List SV} {l : List Value}, plainSs ss = some l → ss.map (den V) = l
  | [], l, h => by simp only [plainSs, Option.some.injEq] at h; subst h; rfl
  | s :: r, l, h => by
    simp only [plainSs, Option.bind_eq_some_iff, Option.map_eq_some_iff] at h
    obtain ⟨x, hx, l', hl, rfl⟩ := h
    simp only [List.map_cons]
    rw [plainS_den hx, plainSs_den hl]
theorem SatW.quiet {bx : List Bx} {vc : List Vc} {nid : Nat} {m : Mem} (h : SatW C bx vc nid m V D w) {w2 : World} {D2 : Nat → Nat} {V1 : Vl} (wf2 : Wf w2 D2) (hfr : Frm (· ∈ blks V1 ⟨[], []⟩) w D w2 D2) (hle : Mem.le ⟨w, D⟩ ⟨w2, D2⟩) :
    SatW C bx vc nid m V D2 w2 :=
  have hb := blks_lt h.heap
  ⟨h.heap.frame (fun _ _ => ⟨rfl, rfl⟩) (fun _ _ => rfl) (fun g hg => hfr.same g (hb g hg) (by simp [blks])), wf2, h.frm.trans hfr (fun b hx => by simp [blks] at hx), h.own, h.baseB, h.baseV, h.ids,
    Mem.le_trans h.le0 hle, h.m0, Mem.le_trans h.mle hle⟩
theorem opK_pure {op : Op} {F : List Value → Option (Prop × Value)} (h : opK c op = .pu F) : ∃ f args ts, op = .call { callee := .value (.func f), args, argTypes := ts } ∧ c.pure f = some F := by
  unfold opK at h
  split at h
  all_goals first | cases h | skip
  refine ⟨_, _, _, rfl, ?_⟩
  cases hf : c.pure _ with
  | none => rw [hf] at h; cases h
  | some G => rw [hf] at h; cases h; rfl
theorem pure_sound (hS : Sat C n st a V D w) (hpu : PureOk c P) (hp : wfP st.rho p) (hc : condP st.rho p = true) {F : List Value → Option (Prop × Value)} (hk : opK c o.op = .pu F) {K : SV → Prop} (h : qCall (.mk (k := (F, und st p, K)) (rdOs st p (callArgs o.op))))
    {next : Act → World → Prop} {Q : Exit → Act → World → Prop} (hn : ∀ y D' w', K (.v y) → Sat C n st a V D' w' → next (a.put o.dst y) w') : o.wp P a w next Q := by
  obtain ⟨f, args, ts, ho, hf⟩ := opK_pure hk
  obtain ⟨hok, hF⟩ := hpu f F hf
  obtain ⟨y, hy, hB, hK⟩ := withO_some h
  rw [ho] at hy
  simp only [callArgs, Option.bind_eq_some_iff] at hy
  obtain ⟨vals, ⟨ss, hss, hvals⟩, hy⟩ := hy
  have hrun := run_call (w := w) (a := a) ho rfl hok
  unfold Oper.wp
  rw [hrun]
  have hargs : args.map a.eval = ⟨(vals.map SV.v).map (den V)⟩ := by
    apply Array.ext'
    rw [Array.toList_map, rdOs_sound hS hp hc hss, plainSs_den hvals]
    simp only [List.map_map]
    exact (List.map_id'' (fun x => rfl) vals).symm
  rw [hargs]
  refine (hF vals y hy (hB hc) st.m V w D hS.w.wf hS.w.mle ⟨fun b hb => (by cases hb), fun b hb => (by cases hb), by simp [blks], by simp⟩).mono fun e w2 ⟨r, V2, D2, H', m', he, h1, h2, h3, h4, h5, h6, h7, h8, h9, hr, hH⟩ => ?_
  subst he
  subst hr
  exact hn y.2 D2 w2 hK ⟨hS.f, hS.ids, hS.w.quiet h1 h5 h7⟩

/-! One operation. -/
theorem noteG_cases (st : LS) (i : Nat) (d : Option Nat) (p : Pth) (mv : Bool) (s : SV) : noteG st i d p mv s = st ∨ ∃ d' b, d = some d' ∧ s = .v (.bool b) ∧ noteG st i d p mv s = ⟨st.env, ⟨i, d', p, .sym b⟩ :: st.rho, st.bx, st.vc, st.nid, st.m⟩ := by
  unfold noteG
  split
  · exact .inr ⟨_, _, rfl, rfl, rfl⟩
  · exact .inl rfl
theorem noteD_cases (st : LS) (i : Nat) (d : Option Nat) (p : Pth) (mv : Bool) : noteD st i d p mv = st ∨ ∃ d', d = some d' ∧ noteD st i d p mv = ⟨st.env, ⟨i, d', p, .sym false⟩ :: st.rho, st.bx, st.vc, st.nid, st.m⟩ := by
  unfold noteD
  split
  · exact .inr ⟨_, rfl, rfl⟩
  · exact .inl rfl
theorem noteG_same {st : LS} {i : Nat} {d : Option Nat} {p : Pth} {mv : Bool} {s : SV} : (noteG (E.put st d p s) i d p mv s).nid = st.nid ∧ (noteG (E.put st d p s) i d p mv s).vc = st.vc := by
  rcases noteG_cases (E.put st d p s) i d p mv s with e | ⟨_, _, _, _, e⟩ <;> rw [e] <;> cases d <;> exact ⟨rfl, rfl⟩
theorem noteD_same {st : LS} {i : Nat} {d : Option Nat} {p : Pth} {mv : Bool} {s : SV} : (noteD (E.put st d p s) i d p mv).nid = st.nid ∧ (noteD (E.put st d p s) i d p mv).vc = st.vc := by
  rcases noteD_cases (E.put st d p s) i d p mv with e | ⟨_, _, e⟩ <;> rw [e] <;> cases d <;> exact ⟨rfl, rfl⟩
theorem dst_lt (hd : dstOk n o = true) : ∀ x, o.dst = some x → x < n := fun x hx => by
  simp only [dstOk, hx] at hd
  exact of_decide_eq_true hd
theorem doneG (hS : Sat C n st a V D w) (hR : RInv ops L st.rho) (hLi : ¬ L i) (hoi : ops[i]? = some o) (hd : dstOk n o = true) (hit : hitG st.rho o.dst = false) (hp : wfP st.rho p) {s : SV} (hs : okS st.nid st.vc s) {v : Value}
    (hv : v = if condP st.rho p = true then den V s else undef) (mv : Bool) :
    Sat C n (noteG (E.put st o.dst p s) i o.dst p mv s) (a.put o.dst v) V D w ∧ RInv ops (fun k => L k ∨ k = i) (noteG (E.put st o.dst p s) i o.dst p mv s).rho := by
  have hd' := dst_lt hd
  have h1 := Sat.put hS (V := V) hd' hit hp hs (v := v) (fun hc => by rw [hv, if_pos hc])
  rcases noteG_cases (E.put st o.dst p s) i o.dst p mv s with e | ⟨d, b, e1, e2, e⟩
  · rw [e]; exact ⟨h1, by rw [put_rho.1]; exact hR.mono fun _ => .inl⟩
  · rw [e]
    refine ⟨h1.note (by rw [put_rho.1]; exact hp) (by rw [put_rho.1]; exact fun g hg e => hLi (e ▸ (hR g hg).1)) ?_, by
      simp only [put_rho.1]; exact hR.note hoi e1⟩
    rw [e1, put_tmp hS (hd' _ e1), put_rho.1, hv, e2]
    rfl
theorem doneD (hS : Sat C n st a V D w) (hR : RInv ops L st.rho) (hLi : ¬ L i) (hoi : ops[i]? = some o) (hd : dstOk n o = true) (hit : hitG st.rho o.dst = false) (hp : wfP st.rho p) (hc : condP st.rho p = false) (mv : Bool) :
    Sat C n (noteD (E.put st o.dst p (.v undef)) i o.dst p mv) (a.put o.dst undef) V D w ∧ RInv ops (fun k => L k ∨ k = i) (noteD (E.put st o.dst p (.v undef)) i o.dst p mv).rho := by
  have hd' := dst_lt hd
  have h1 := Sat.put hS (V := V) hd' hit hp (s := .v undef) trivial (v := undef) (fun _ => rfl)
  rcases noteD_cases (E.put st o.dst p (.v undef)) i o.dst p mv with e | ⟨d, e1, e⟩
  · rw [e]; exact ⟨h1, by rw [put_rho.1]; exact hR.mono fun _ => .inl⟩
  · rw [e]
    refine ⟨h1.note (by rw [put_rho.1]; exact hp) (by rw [put_rho.1]; exact fun g hg e => hLi (e ▸ (hR g hg).1)) ?_, by
      simp only [put_rho.1]; exact hR.note hoi e1⟩
    rw [e1, put_tmp hS (hd' _ e1), put_rho.1, hc]
    rfl
theorem doneP (hS : Sat C n st a V D w) (hR : RInv ops L st.rho) (hd : dstOk n o = true) (hit : hitG st.rho o.dst = false) (hp : wfP st.rho p) {s : SV} (hs : okS st.nid st.vc s) {v : Value} (hv : condP st.rho p = true → v = den V s) :
    Sat C n (E.put st o.dst p s) (a.put o.dst v) V D w ∧ RInv ops (fun k => L k ∨ k = i) (E.put st o.dst p s).rho :=
  ⟨Sat.put hS (dst_lt hd) hit hp hs hv, by rw [put_rho.1]; exact hR.mono fun _ => .inl⟩
theorem one_sound (hS : Sat C n st a V D w) (hpu : PureOk c P) (hR : RInv ops L st.rho) (hLi : ¬ L i) (hoi : ops[i]? = some o) (hd : dstOk n o = true) (hpath : pathOf st o.guard = some p) {K : LS → Prop} (h : one (.mk (k := (c, P, i, o, K)) (st, p)))
    {next : Act → World → Prop} {Q : Exit → Act → World → Prop} (hn : ∀ st' a' V' D' w', K st' → Sat C n st' a' V' D' w' → RInv ops (fun k => L k ∨ k = i) st'.rho → Step st.nid st.vc st'.nid st'.vc V V' → next a' w') :
    if Region.wanted o (yielded ops a.tmps) then o.wp P a w next Q ∨ (o.asks P a w ∧ LetsOut Q) else next (a.put o.dst undef) w := by
  obtain ⟨hp, hw⟩ := path_sound hS hR hpath
  have stepP : ∀ (d : Option Nat) (p : Pth) (s : SV), Step st.nid st.vc (E.put st d p s).nid (E.put st d p s).vc V V := fun d p s => Step.same put_rho.2.1 put_rho.2.2 V
  have stepG : ∀ (d : Option Nat) (p : Pth) (s : SV) (mv : Bool), Step st.nid st.vc (noteG (E.put st d p s) i d p mv s).nid (noteG (E.put st d p s) i d p mv s).vc V V := fun d p s mv => Step.same noteG_same.1 noteG_same.2 V
  have stepD : ∀ (d : Option Nat) (p : Pth) (s : SV) (mv : Bool), Step st.nid st.vc (noteD (E.put st d p s) i d p mv).nid (noteD (E.put st d p s) i d p mv).vc V V := fun d p s mv => Step.same noteD_same.1 noteD_same.2 V
  rw [hw]
  simp only [one] at h
  unfold one2 at h
  split at h
  · rename_i q dead he
    simp only [A.mk.injEq, Prod.mk.injEq] at he
    obtain ⟨hq, hdead, hit⟩ := he
    unfold one3 at h
    split at h
    · rename_i st' p' q'
      cases q'
      have hc := deadP_not hdead
      rw [hc]
      simp only [Bool.false_eq_true, if_false]
      obtain ⟨h1, h2⟩ := doneD hS hR hLi hoi hd hit hp hc (isMove o.op)
      exact hn _ _ _ _ _ h h1 h2 (stepD _ _ _ _)
    · rename_i st' p' q'
      cases q'
      obtain ⟨s, ⟨hs, hK⟩, hrun⟩ := qOp_sound hS hp (o := o) rfl h
      cases hc : condP st.rho p with
      | true =>
        simp only [if_true]
        obtain ⟨h1, h2⟩ := doneG hS hR hLi hoi hd hit hp hs (v := den V s) (by rw [hc]; rfl) (isMove o.op)
        exact .inl (wp_ok (hrun hc) (hn _ _ _ _ _ hK h1 h2 (stepG _ _ _ _)))
      | false =>
        simp only [Bool.false_eq_true, if_false]
        obtain ⟨h1, h2⟩ := doneG hS hR hLi hoi hd hit hp hs (v := undef) (by rw [hc]; rfl) (isMove o.op)
        exact hn _ _ _ _ _ hK h1 h2 (stepG _ _ _ _)
    · rename_i F st' p' q'
      cases q'
      cases hc : condP st.rho p with
      | true =>
        simp only [if_true]
        refine .inl (pure_sound hS hpu hp hc hq h fun y D' w' hK hS' => ?_)
        obtain ⟨h1, h2⟩ := doneP (i := i) hS' hR hd hit hp (s := .v y) trivial (v := y) (fun _ => rfl)
        exact hn _ _ _ _ _ hK h1 h2 (stepP _ _ _)
      | false =>
        simp only [Bool.false_eq_true, if_false]
        obtain ⟨y, hy, hB, hK⟩ := withO_some h
        obtain ⟨h1, h2⟩ := doneP (i := i) hS hR hd hit hp (s := .v y.2) trivial (v := undef) (fun e => by rw [hc] at e; cases e)
        exact hn _ _ _ _ _ hK h1 h2 (stepP _ _ _)
    · rename_i st' p' q'
      cases q'
      obtain ⟨st1, s1, f1, l1, d1⟩ := forkP_sound hS h
      have hp1 := f1.wf _ hp
      have hit1 : hitG st1.rho o.dst = false := by rw [f1.hit]; exact hit
      have hR1 := f1.inv _ _ hR
      cases hc : condP st.rho p with
      | true =>
        simp only [if_true]
        have hc1 : condP st1.rho p = true := by rw [f1.cond]; exact hc
        refine .inl (lOp_sound s1 hp1 hc1 rfl (l1 hc) fun s st' V' D' w' ⟨hs, hK⟩ hrho hS' hst => ?_)
        rw [← hrho] at hp1 hit1 hR1
        obtain ⟨h1, h2⟩ := doneP (i := i) hS' hR1 hd hit1 hp1 hs (v := den V' s) (fun _ => rfl)
        exact hn _ _ _ _ _ hK h1 h2 (by rw [put_rho.2.1, put_rho.2.2]; exact (f1.step V).trans hst)
      | false =>
        simp only [Bool.false_eq_true, if_false]
        obtain ⟨h1, h2⟩ := doneP (i := i) s1 hR1 hd hit1 hp1 (s := .v undef) trivial (v := undef) (fun _ => rfl)
        exact hn _ _ _ _ _ (d1 hc) h1 h2 (by rw [put_rho.2.1, put_rho.2.2]; exact f1.step V)
  · cases h

/-! The whole region. -/
theorem memN_cons {y x : Nat} {l : List Nat} (h : memN (y :: l) x = false) : y ≠ x ∧ memN l x = false := by
  simp only [memN] at h
  split at h
  · cases h
  · rename_i e; exact ⟨e, h⟩
theorem clean_lk : ∀ {env : List Ev} {dead : List Nat} {t : Nat} {s : SV}, lkE (cleanE dead env) t [] = some s → memN dead t = false ∧ lkE env t [] = some s
  | [], dead, t, s, h => by simp [cleanE, lkE] at h
  | ⟨t', [], s'⟩ :: r, dead, t, s, h => by
    simp only [cleanE] at h
    split at h
    · rename_i hm
      obtain ⟨h1, h2⟩ := clean_lk h
      refine ⟨h1, ?_⟩
      simp only [lkE]
      rw [if_neg (fun e => by rw [e, h1] at hm; cases hm)]
      exact h2
    · rename_i hm
      simp only [lkE] at h ⊢
      split at h
      · rename_i e
        subst e
        rw [if_pos rfl]
        exact ⟨by simpa using hm, h⟩
      · rename_i e
        rw [if_neg e]
        exact clean_lk h
  | ⟨t', x :: q, s'⟩ :: r, dead, t, s, h => by
    simp only [cleanE] at h
    obtain ⟨h1, h2⟩ := clean_lk h
    obtain ⟨h3, h4⟩ := memN_cons h1
    refine ⟨h4, ?_⟩
    simp only [lkE]
    rw [if_neg h3]
    exact h2
theorem clean_mem : ∀ {env : List Ev} {dead : List Nat} {e : Ev}, e ∈ cleanE dead env → e ∈ env ∧ e.p = []
  | [], dead, e, h => by simp [cleanE] at h
  | ⟨t', [], s'⟩ :: r, dead, e, h => by
    simp only [cleanE] at h
    split at h
    · obtain ⟨h1, h2⟩ := clean_mem h; exact ⟨List.mem_cons_of_mem _ h1, h2⟩
    · rcases List.mem_cons.1 h with rfl | h
      · exact ⟨List.mem_cons_self .., rfl⟩
      · obtain ⟨h1, h2⟩ := clean_mem h; exact ⟨List.mem_cons_of_mem _ h1, h2⟩
  | ⟨t', x :: q, s'⟩ :: r, dead, e, h => by
    simp only [cleanE] at h
    obtain ⟨h1, h2⟩ := clean_mem h
    exact ⟨List.mem_cons_of_mem _ h1, h2⟩
theorem clean_sound (hS : Sat C n st a V D w) : SatE C n (clean st) a w := by
  refine ⟨rfl, V, D, ⟨hS.f.defers, hS.f.size, fun e he => ?_, fun t q s hq hl _ => ?_, fun g hg => by cases hg⟩, fun e he => hS.ids e (clean_mem he).1, hS.w⟩
  · rw [(clean_mem he).2]; exact wfP_nil
  · have : q = [] := by
      cases q with
      | nil => rfl
      | cons x q => obtain ⟨g, hg⟩ := hq x (List.mem_cons_self ..); cases hg
    subst this
    exact hS.f.env t [] s wfP_nil (clean_lk hl).2 rfl
end
section
variable {C : Ctx} {n : Nat} {P : Program} {c : Cfg} {ops : Array Oper}
theorem vcLx_sound (hpu : PureOk c P) {K : LS → Prop} {Q : Exit → Act → World → Prop} (hQ : ∀ st' a' w', K st' → SatE C n st' a' w' → Q .normal a' w') :
    ∀ (l : List Oper) (i : Nat) (st : LS) (a : Act) (V : Vl) (D : Nat → Nat) (w : World), vcLx c P l i K st → Sat C n st a V D w → RInv ops (· < i) st.rho → (∀ j, l[j]? = ops[i + j]?) → (∀ o ∈ l, dstOk n o = true) → wpList P ops Q l a w
  | [], i, st, a, V, D, w, h, hS, hR, hl, hd => hQ _ _ _ h (clean_sound hS)
  | o :: r, i, st, a, V, D, w, h, hS, hR, hl, hd => by
    obtain ⟨p, hp, h⟩ := withO_some h
    have hoi : ops[i]? = some o := by have := hl 0; simpa using this.symm
    unfold wpList
    refine one_sound hS hpu hR (Nat.lt_irrefl _) hoi (hd o (List.mem_cons_self ..)) hp h fun st' a' V' D' w' hK hS' hR' _ => ?_
    exact vcLx_sound hpu hQ r (i + 1) st' a' V' D' w' hK hS' (hR'.mono fun k hk => by omega) (fun j => by have := hl (j + 1); simpa [Nat.add_assoc, Nat.add_comm 1 j] using this) (fun o ho => hd o (List.mem_cons_of_mem _ ho))
end
end Go.Proofs.YtmkifodpkcmgoaaDoor.E

/- The engine, part I: every quiet operation. -/
import Derived.Test.YtmkifodpkcmgoaaDoorEngH
namespace Go.Proofs.YtmkifodpkcmgoaaDoor.E
open Go

section
variable {C : Ctx} {n : Nat} {st : LS} {a : Act} {V : Vl} {D : Nat → Nat} {w : World} {P : Program} {p : Pth} {K : SV → Prop} {c : Bool}

theorem setC_len : ∀ (l cs : List SV) (off : Nat), (setC cs off l).length = cs.length
  | [], _, _ => rfl
  | c :: r, cs, off => by simp only [setC]; rw [setC_len r]; simp
theorem fold_set {V : Vl} : ∀ (l : List SV) (cs : List SV) (off k : Nat),
    (List.zipIdx (l.map (denA V)) k).foldl (fun (cs : Array Value) (x : Value × Nat) => cs.setIfInBounds (off + x.2) x.1) ⟨cs.map (denA V)⟩ = ⟨(setC cs (off + k) l).map (denA V)⟩
  | [], _, _, _ => rfl
  | c :: r, cs, off, k => by
    simp only [List.map_cons, List.zipIdx_cons, List.foldl_cons, setC]
    have : (⟨cs.map (denA V)⟩ : Array Value).setIfInBounds (off + k) (denA V c) = ⟨(cs.set (off + k) c).map (denA V)⟩ := by
      apply Array.ext'
      simp
    rw [this, fold_set r (cs.set (off + k) c) off (k + 1)]
    rfl
theorem run_mapM {α β : Type} (f : α → Sem β) (g : α → β) : ∀ (l : List α), (∀ x ∈ l, ∀ w, (f x).run P w = .ok (g x) w) → ∀ w, (l.mapM f).run P w = .ok (l.map g) w
  | [], _, w => by simp
  | x :: r, h, w => by
    simp only [List.mapM_cons, Sem.run_bind, h x (List.mem_cons_self ..), Result.andThen_ok, run_mapM f g r (fun y hy => h y (List.mem_cons_of_mem _ hy)), Sem.run_pure, List.map_cons]
theorem run_mapA {α β : Type} (f : α → Sem β) (g : α → β) (l : Array α) (h : ∀ x ∈ l.toList, ∀ w, (f x).run P w = .ok (g x) w) : (l.mapM f).run P w = .ok (l.map g) w := by
  obtain ⟨l⟩ := l
  simp only [List.mapM_toArray, Sem.run_map, run_mapM f g l h, Result.andThen_ok]
  simp
theorem zeroO_spec {t : TypeId} {cs : List SV} (h : zeroO P t = some cs) : ∃ z, (zeroValue t).run P w = .ok z w ∧ z.cells = ⟨cs.map (denA V)⟩ := by
  unfold zeroO at h
  simp only [Option.map_eq_some_iff, Option.bind_eq_some_iff] at h
  obtain ⟨z, ⟨i, hi, hz⟩, rfl⟩ := h
  refine ⟨z, by simp [zeroValue, typeInfo, hi, hz], ?_⟩
  rw [map_v]
theorem buildC_sound (hS : Sat C n st a V D w) (hp : wfP st.rho p) (hc : condP st.rho p = true) {t : TypeId} {fs : Array Field} (hf : P.underlying t = some (.struct fs)) :
    ∀ (parts : List (Nat × Operand)) (cs cs' : List SV), buildC P t st p parts cs = some cs' →
      Instr.fill (fun i => (fs.map fun f => (f.offset, szT P f.type))[i]?) ⟨cs.map (denA V)⟩ (parts.map fun x => (x.1, a.eval x.2)) = some ⟨cs'.map (denA V)⟩
  | [], cs, cs', h => by simp only [buildC, Option.some.injEq] at h; subst h; rfl
  | (i, x) :: r, cs, cs', h => by
    simp only [buildC, Option.bind_eq_some_iff] at h
    obtain ⟨⟨off, ag, sz⟩, hfo, l, ⟨s, hs, hl⟩, h⟩ := h
    split at h
    · rename_i hsz
      split at h
      · rename_i hfit
        dsimp only at hsz hfit h
        obtain ⟨fs', y, hs', hy, rfl, _, _, rfl⟩ := fld_spec hfo
        rw [hf] at hs'
        cases hs'
        have hev := rdO_sound hS hp hc hs
        have hcl := svCells_den (V := V) hl
        have hsize : (a.eval x).cells.size = l.length := by rw [hev, hcl]; simp
        have hpl : (fs.map fun f => (f.offset, szT P f.type))[i]? = some (y.offset, szT P y.type) := by
          simp [Array.getElem?_map, hy]
        simp only [List.map_cons, Instr.fill, hpl]
        rw [if_neg (by
          simp only [hsize, List.size_toArray, List.length_map, Bool.or_eq_true, decide_eq_true_eq, not_or, Decidable.not_not]
          exact ⟨by simpa using hsz, by omega⟩)]
        have hfold : ((a.eval x).cells.zipIdx.foldl (fun (cs : Array Value) (x : Value × Nat) => cs.setIfInBounds (y.offset + x.2) x.1) ⟨cs.map (denA V)⟩) = ⟨(setC cs y.offset l).map (denA V)⟩ := by
          rw [hev, hcl, ← Array.foldl_toList]
          have := fold_set (V := V) l cs y.offset 0
          simp only [Nat.add_zero] at this
          rw [← this]
          simp [Array.toList_zipIdx]
        have ih := buildC_sound hS hp hc hf r _ cs' h
        rw [← ih, ← hfold]
      · cases h
    · cases h

theorem run_sizes {fs : Array Field} (h : (fs.toList.all fun x => (P.info? x.type).isSome) = true) :
    (fs.mapM (m := Sem) fun (f : Field) => do pure (f.offset, ← sizeOf f.type)).run P w = .ok (fs.map fun f => (f.offset, szT P f.type)) w := by
  refine run_mapA _ _ fs (fun x hx w => ?_)
  have := List.all_eq_true.1 h x hx
  obtain ⟨i, hi⟩ := Option.isSome_iff_exists.1 this
  simp [sizeOf, typeInfo, hi, szT]
theorem build_sound (hS : Sat C n st a V D w) (hp : wfP st.rho p) (hc : condP st.rho p = true) {t : TypeId} {parts : Array (Nat × Operand)} {z cs : List SV}
    (hb : bldOk P t = true) (hz : zeroO P t = some z) (h : buildC P t st p parts.toList z = some cs) :
    (Instr.build t (parts.map fun x => (x.1, a.eval x.2))).run P w = .ok (.agg ⟨cs.map (denA V)⟩) w := by
  unfold bldOk at hb
  split at hb
  · rename_i fs hf
    obtain ⟨zv, hzv, hzc⟩ := zeroO_spec (V := V) (w := w) hz
    have hfill := buildC_sound hS hp hc hf parts.toList z cs h
    simp only [Instr.build, Sem.run_bind, hzv, Result.andThen_ok, run_underlying hf, run_sizes hb, hzc]
    have : (parts.map fun x => (x.1, a.eval x.2)).toList = parts.toList.map fun x => (x.1, a.eval x.2) := by simp
    rw [this, hfill]
    simp
  · cases hb

theorem rdO_opt (hS : Sat C n st a V D w) (hp : wfP st.rho p) (hc : condP st.rho p = true) {x : Option Operand} {s : Option SV} (h : optO st p x = some s) : x.map a.eval = s.map (den V) := by
  cases x with
  | none => simp only [optO, Option.some.injEq] at h; subst h; rfl
  | some x =>
    simp only [optO, Option.map_eq_some_iff] at h
    obtain ⟨s, hs, rfl⟩ := h
    simp only [Option.map_some, rdO_sound hS hp hc hs]
theorem noTup_den {s r : SV} (h : noTup s = some r) : den V r = denB V s := by
  cases s <;> simp only [noTup, Option.some.injEq] at h <;> first | (subst h; rfl) | cases h
theorem qExt_sound {x : SV} {i : Nat} (h : qExt (.mk (k := K) (x, i))) : ∃ r, K r ∧ (Instr.extract (den V x) i).run P w = .ok (den V r) w := by
  unfold qExt at h
  split at h
  · rename_i l i' q
    simp only [A.mk.injEq, Prod.mk.injEq] at q
    obtain ⟨rfl, rfl⟩ := q
    obtain ⟨r, hr, hK⟩ := withO_some h
    obtain ⟨s, hs, hr⟩ := bnd hr
    refine ⟨r, hK, ?_⟩
    have : (⟨l.map (denB V)⟩ : Array Value)[i]? = some (den V r) := by
      rw [← Array.getElem?_toList]
      simp only [List.getElem?_map, hs, Option.map_some, noTup_den hr]
    rw [den_tup]
    simp only [Instr.extract, this, Sem.run_pure]
  · rename_i l i' q
    simp only [A.mk.injEq, Prod.mk.injEq] at q
    obtain ⟨rfl, rfl⟩ := q
    obtain ⟨r, hr, hK⟩ := withO_some h
    simp only [Option.map_eq_some_iff] at hr
    obtain ⟨v, hv, rfl⟩ := hr
    refine ⟨_, hK, ?_⟩
    have : (⟨l⟩ : Array Value)[i]? = some v := by rw [← Array.getElem?_toList]; exact hv
    simp only [den_v, Instr.extract, this, Sem.run_pure]
  · cases h
theorem qLen_sound (hS : Sat C n st a V D w) {t ty : TypeId} {x : SV} (h : qLen (.mk (k := (P, t, K)) (st, x))) : ∃ r, K r ∧ (Builtin.len_ #[t] ty #[den V x]).run P w = .ok (den V r) w := by
  unfold qLen at h
  split at h
  · rename_i st' s q
    simp only [A.mk.injEq, Prod.mk.injEq] at q
    obtain ⟨rfl, rfl⟩ := q
    refine ⟨_, h.2, ?_⟩
    simp [Builtin.len_, run_underlying h.1, den_v, goInt, tl_len]
  · rename_i st' x m cp q
    simp only [A.mk.injEq, Prod.mk.injEq] at q
    obtain ⟨rfl, rfl⟩ := q
    obtain ⟨e, he, hK⟩ := withO_some h
    refine ⟨_, hK, ?_⟩
    simp [Builtin.len_, run_underlying (elT_spec he), den_v, goInt]
  · rename_i st' k v q
    simp only [A.mk.injEq, Prod.mk.injEq] at q
    obtain ⟨rfl, rfl⟩ := q
    obtain ⟨e, he, h⟩ := withO_some h
    obtain ⟨b, hb, hK⟩ := withO_some h
    obtain ⟨hv, rfl, rfl⟩ := vc_of hS hb
    obtain ⟨hn, _, _⟩ := own_at hv.1
    refine ⟨_, hK, ?_⟩
    show (Builtin.len_ #[t] ty #[(V.γ b.id b.ver).val]).run P w = _
    unfold Hd.val
    simp [Builtin.len_, run_underlying (elT_spec he), den_v, goInt, hn]
  · cases h
theorem qMin_sound {ts : Array TypeId} {ty : TypeId} {x y : SV} (h : qMin (.mk (k := K) (x, y))) : ∃ r, K r ∧ (Builtin.min_ ts ty #[den V x, den V y]).run P w = .ok (den V r) w := by
  unfold qMin at h
  split at h
  · rename_i k i k' j q
    simp only [A.mk.injEq, Prod.mk.injEq] at q
    obtain ⟨rfl, rfl⟩ := q
    exact ⟨_, h, by simp [Builtin.min_, Builtin.min2, den_v]⟩
  · cases h

theorem qPick_sound (hS : Sat C n st a V D w) (hp : wfP st.rho p) {g : Gd} {x y : Operand} (hg : g ∈ st.rho) (h : qPick (.mk (k := (p, x, y, st, g, K)) (pickM x y))) :
    ∃ r, K r ∧ (condP st.rho p = true → a.tmps.getD g.slot undef = .bool g.b.val ∧ (if g.b.val = true then a.eval x else a.eval y) = den V r) := by
  obtain ⟨hlk, hwf, hslot⟩ := hS.rho g hg
  have hcell : condP st.rho p = true → sfx g.p p = true → a.tmps.getD g.slot undef = .bool g.b.val ∧ condP st.rho g.p = true := fun hc hs => by
    have := condP_sfx hs hc
    rw [this, if_pos rfl] at hslot
    exact ⟨by simp [hslot], this⟩
  have side : ∀ b, g.b.val = b → condP st.rho g.p = true → condP st.rho ((g.i, b) :: g.p) = true := fun b hb hc => by
    simp only [condP, gval_of hlk, hb, hc, Bool.and_true]
    cases b <;> simp
  have wf2 : ∀ b, wfP st.rho ((g.i, b) :: g.p) := fun b x hx => by
    rcases List.mem_cons.1 hx with rfl | hx
    · exact ⟨g, hlk⟩
    · exact hwf x hx
  unfold qPick at h
  split at h
  · rename_i i s q _
    obtain ⟨hs, h⟩ := h
    obtain ⟨r, hr, hK⟩ := withO_some h
    refine ⟨r, hK, fun hc => ?_⟩
    obtain ⟨h1, h2⟩ := hcell hc hs
    exact ⟨h1, by simp only [GB.val, if_true]; exact rdO_sound hS (wf2 true) (side true rfl h2) hr⟩
  · rename_i i s q _
    obtain ⟨hs, h⟩ := h
    obtain ⟨r, hr, hK⟩ := withO_some h
    refine ⟨r, hK, fun hc => ?_⟩
    obtain ⟨h1, h2⟩ := hcell hc hs
    exact ⟨h1, by simp only [GB.val, Bool.false_eq_true, if_false]; exact rdO_sound hS (wf2 false) (side false rfl h2) hr⟩
  · rename_i i s q b md heq
    obtain ⟨hs, h⟩ := h
    obtain ⟨sx, hx, h⟩ := withO_some h
    obtain ⟨sy, hy, h⟩ := withO_some h
    have evx : condP st.rho p = true → b = true → a.eval x = den V sx := fun hc hb => rdO_sound hS (wf2 true) (side true hb (hcell hc hs).2) hx
    have evy : condP st.rho p = true → b = false → a.eval y = den V sy := fun hc hb => rdO_sound hS (wf2 false) (side false hb (hcell hc hs).2) hy
    unfold pickB at h
    split at h
    · rename_i b' a1 q'
      simp only [A.mk.injEq, Prod.mk.injEq] at q'
      obtain ⟨rfl, rfl, rfl⟩ := q'
      refine ⟨_, h, fun hc => ⟨(hcell hc hs).1, ?_⟩⟩
      cases b with
      | true => simp only [GB.val, if_true, evx hc rfl, den_v, Bool.true_and]
      | false => simp only [GB.val, Bool.false_eq_true, if_false, evy hc rfl, den_v, Bool.false_and]
    · rename_i b' a1 q'
      simp only [A.mk.injEq, Prod.mk.injEq] at q'
      obtain ⟨rfl, rfl, rfl⟩ := q'
      refine ⟨_, h, fun hc => ⟨(hcell hc hs).1, ?_⟩⟩
      cases b with
      | true => simp only [GB.val, if_true, evx hc rfl, den_v, Bool.true_or]
      | false => simp only [GB.val, Bool.false_eq_true, if_false, evy hc rfl, den_v, Bool.false_or]
    · rename_i b' a1 a2 q'
      simp only [A.mk.injEq, Prod.mk.injEq] at q'
      obtain ⟨rfl, rfl, rfl⟩ := q'
      refine ⟨_, h, fun hc => ⟨(hcell hc hs).1, ?_⟩⟩
      cases b with
      | true => simp only [GB.val, if_true, evx hc rfl, den_v, cond_true]
      | false => simp only [GB.val, Bool.false_eq_true, if_false, evy hc rfl, den_v, cond_false]
    · cases h

/-- EVERY QUIET OPERATION. -/
theorem qOp_sound (hS : Sat C n st a V D w) (hp : wfP st.rho p) {o : Oper} {op : Op} (ho : o.op = op) (h : qOp (.mk (k := (P, op, K)) (st, p))) :
    ∃ s, K s ∧ (condP st.rho p = true → (execOp a.eval o).run P w = .ok (.value (den V s)) w) := by
  unfold qOp at h
  split at h
  · rename_i x st' p' q
    cases q
    obtain ⟨s, hs, hK⟩ := withO_some h
    exact ⟨s, hK, fun hc => by simp only [execOp, ho, Sem.run_pure, rdO_sound hS hp hc hs]⟩
  · rename_i x st' p' q
    cases q
    obtain ⟨s, hs, hK⟩ := withO_some h
    exact ⟨s, hK, fun hc => by simp only [execOp, ho, Sem.run_pure, rdO_sound hS hp hc hs]⟩
  · rename_i t x y st' p' q
    cases q
    obtain ⟨g, hg, h'⟩ := withO_some h
    obtain ⟨hsl, hm⟩ := lkGs_mem hg
    obtain ⟨r, hK, hr⟩ := qPick_sound hS hp hm h'
    refine ⟨r, hK, fun hc => ?_⟩
    obtain ⟨h1, h2⟩ := hr hc
    have he : a.eval (.tmp t) = .bool g.b.val := by rw [← hsl]; exact h1
    simp only [execOp, ho, he, asBool, Sem.run_bind, Sem.run_pure, Result.andThen_ok, h2]
  · rename_i x st' p' q
    cases q
    obtain ⟨s, hs, h⟩ := withO_some h
    obtain ⟨r, hK, e, hn⟩ := qNil_sound (V := V) h
    refine ⟨r, hK, fun hc => ?_⟩
    have hev := rdO_sound hS hp hc hs
    rw [e, ← hev]
    exact exec_nil ho (by rw [hev]; exact hn hc)
  · rename_i bop t x t' st' p' q
    cases q
    obtain ⟨sx, hx, h⟩ := withO_some h
    obtain ⟨r, hK, hr⟩ := qNilI_sound (V := V) (w := w) (o := x) h
    refine ⟨r, hK, fun hc => ?_⟩
    have := exec_v (hr hc)
    rw [← rdO_sound hS hp hc hx] at this
    simp only [execOp, ho]
    exact this
  · rename_i bop t x y t' st' p' _ q
    cases q
    obtain ⟨sx, hx, h⟩ := withO_some h
    obtain ⟨sy, hy, h⟩ := withO_some h
    obtain ⟨r, hK, hr⟩ := binQ_sound (V := V) (w := w) (o := x) (o' := y) h
    refine ⟨r, hK, fun hc => ?_⟩
    have := exec_v (hr hc)
    rw [← rdO_sound hS hp hc hx, ← rdO_sound hS hp hc hy] at this
    simp only [execOp, ho]
    exact this
  · rename_i uop t x st' p' q
    cases q
    obtain ⟨sx, hx, h⟩ := withO_some h
    obtain ⟨r, hK, hr⟩ := qUn_sound (V := V) (w := w) (P := P) h
    refine ⟨r, hK, fun hc => ?_⟩
    have := exec_v (hr hc)
    rw [← rdO_sound hS hp hc hx] at this
    simp only [execOp, ho]
    exact this
  · rename_i src dst x st' p' q
    cases q
    obtain ⟨sx, hx, h⟩ := withO_some h
    obtain ⟨r, hK, hr⟩ := qConv_sound hS h
    refine ⟨r, hK, fun hc => ?_⟩
    have := exec_v (hr hc)
    rw [← rdO_sound hS hp hc hx] at this
    simp only [execOp, ho]
    exact this
  · rename_i s x f st' p' q
    cases q
    obtain ⟨sx, hx, h⟩ := withO_some h
    obtain ⟨⟨off, ag, sz⟩, hf, h⟩ := withO_some h
    obtain ⟨r, hK, hr⟩ := qFld_sound hS hf h
    refine ⟨r, hK, fun hc => ?_⟩
    have := exec_v (hr hc)
    rw [← rdO_sound hS hp hc hx] at this
    simp only [execOp, ho]
    exact this
  · rename_i s x f st' p' q
    cases q
    obtain ⟨cs, hcs, h⟩ := withO_some h
    obtain ⟨sx, hx, hcs⟩ := bnd hcs
    obtain ⟨⟨off, ag, sz⟩, hf, h⟩ := withO_some h
    obtain ⟨r, hr, hK⟩ := withO_some h
    refine ⟨r, hK, fun hc => ?_⟩
    have := exec_v (qField_sound (V := V) (w := w) hf hcs hr)
    rw [← rdO_sound hS hp hc hx] at this
    simp only [execOp, ho]
    exact this
  · rename_i t x i st' p' q
    cases q
    obtain ⟨sx, hx, h⟩ := withO_some h
    obtain ⟨si, hi, h⟩ := withO_some h
    obtain ⟨e, he, h⟩ := withO_some h
    obtain ⟨r, hK, hr⟩ := qIxA_sound hS he h
    refine ⟨r, hK, fun hc => ?_⟩
    have := exec_v (hr hc)
    rw [← rdO_sound hS hp hc hx, ← rdO_sound hS hp hc hi] at this
    simp only [execOp, ho]
    exact this
  · rename_i t x i st' p' q
    cases q
    obtain ⟨sx, hx, h⟩ := withO_some h
    obtain ⟨si, hi, h⟩ := withO_some h
    obtain ⟨r, hK, hr⟩ := qIx_sound (V := V) (w := w) h
    refine ⟨r, hK, fun hc => ?_⟩
    have := exec_v (hr hc)
    rw [← rdO_sound hS hp hc hx, ← rdO_sound hS hp hc hi] at this
    simp only [execOp, ho]
    exact this
  · rename_i t x lo hi st' p' q
    cases q
    obtain ⟨sx, hx, h⟩ := withO_some h
    obtain ⟨sl, hl, h⟩ := withO_some h
    obtain ⟨sh, hh, h⟩ := withO_some h
    obtain ⟨r, hK, hr⟩ := qSl_sound (V := V) (w := w) h
    refine ⟨r, hK, fun hc => ?_⟩
    have := exec_v (hr hc)
    rw [← rdO_sound hS hp hc hx, ← rdO_opt hS hp hc hl, ← rdO_opt hS hp hc hh] at this
    simp only [execOp, ho]
    exact this
  · rename_i t x st' p' q
    cases q
    obtain ⟨sx, hx, h⟩ := withO_some h
    obtain ⟨r, hK, hr⟩ := qLoad_sound hS h
    refine ⟨r, hK, fun hc => ?_⟩
    have := exec_v (hr hc)
    rw [← rdO_sound hS hp hc hx] at this
    simp only [execOp, ho]
    exact this
  · rename_i x i st' p' q
    cases q
    obtain ⟨sx, hx, h⟩ := withO_some h
    obtain ⟨r, hK, hr⟩ := qExt_sound (V := V) (P := P) (w := w) h
    refine ⟨r, hK, fun hc => ?_⟩
    have := exec_v hr
    rw [← rdO_sound hS hp hc hx] at this
    simp only [execOp, ho]
    exact this
  · rename_i t parts st' p' q
    cases q
    obtain ⟨hb, h⟩ := h
    obtain ⟨z, hz, h⟩ := withO_some h
    obtain ⟨cs, hcs, hK⟩ := withO_some h
    refine ⟨_, hK, fun hc => ?_⟩
    simp only [execOp, ho]
    exact exec_v (build_sound hS hp hc hb hz hcs)
  · rename_i x t st' p' q
    cases q
    obtain ⟨sx, hx, h⟩ := withO_some h
    obtain ⟨r, hK, hr⟩ := qLen_sound (ty := o.type) hS h
    refine ⟨r, hK, fun hc => ?_⟩
    rw [← rdO_sound hS hp hc hx] at hr
    simp only [execOp, ho, resolve, Sem.run_bind, Sem.run_pure, Result.andThen_ok, invoke, builtin]
    simp only [List.map_toArray, List.map_cons, List.map_nil, hr, Result.andThen_ok]
  · rename_i x y ts st' p' q
    cases q
    obtain ⟨sx, hx, h⟩ := withO_some h
    obtain ⟨sy, hy, h⟩ := withO_some h
    obtain ⟨r, hK, hr⟩ := qMin_sound (V := V) (P := P) (w := w) (ts := ts) (ty := o.type) h
    refine ⟨r, hK, fun hc => ?_⟩
    rw [← rdO_sound hS hp hc hx, ← rdO_sound hS hp hc hy] at hr
    simp only [execOp, ho, resolve, Sem.run_bind, Sem.run_pure, Result.andThen_ok, invoke, builtin]
    simp only [List.map_toArray, List.map_cons, List.map_nil, hr, Result.andThen_ok]
  · cases h
end
end Go.Proofs.YtmkifodpkcmgoaaDoor.E

/- The engine, part R: every operation that acts, together. -/
import Derived.Test.YtmkifodpkcmgoaaDoorEngQ
import Derived.Laws.MakeOwn
namespace Go.Proofs.YtmkifodpkcmgoaaDoor.E
open Go

theorem range_flat (z : List Value) (h : 0 < z.length) : ∀ len : Nat, (List.range (len * z.length)).map (fun i => z[i % z.length]!) = (List.replicate len z).flatten
  | 0 => by simp
  | len + 1 => by
    rw [Nat.succ_mul, List.range_add, List.map_append, range_flat z h len, List.replicate_succ', List.flatten_append]
    congr 1
    simp only [List.map_map, List.flatten_cons, List.flatten_nil, List.append_nil]
    apply List.ext_getElem?
    intro j
    simp only [List.getElem?_map, Function.comp]
    rcases Nat.lt_or_ge j z.length with hj | hj
    · rw [List.getElem?_range hj, List.getElem?_eq_getElem hj]
      simp only [Option.map_some, Option.some.injEq, Function.comp]
      rw [Nat.add_comm, Nat.add_mul_mod_self_right, Nat.mod_eq_of_lt hj]
      simp [List.getElem!_eq_getElem?_getD, List.getElem?_eq_getElem hj]
    · rw [List.getElem?_eq_none (by simpa using hj), List.getElem?_eq_none hj]
      rfl
theorem made_flat (z : List Value) (len : Nat) (h : 0 < z.length) : (Array.range (len * z.length)).map (fun i => (⟨z⟩ : Array Value)[i % (⟨z⟩ : Array Value).size]!) = ⟨(List.replicate len z).flatten⟩ := by
  apply Array.ext'
  rw [← range_flat z h len]
  simp
theorem flat_map {α β : Type} (f : α → β) (z : List α) (len : Nat) : ((List.replicate len z).flatten).map f = (List.replicate len (z.map f)).flatten := by
  induction len with
  | zero => rfl
  | succ k ih => simp only [List.replicate_succ, List.flatten_cons, List.map_append, ih]
theorem flat_len (z : List Value) (len : Nat) : ((List.replicate len z).flatten).length = len * z.length := by
  induction len with
  | zero => simp
  | succ k ih => simp only [List.replicate_succ, List.flatten_cons, List.length_append, ih, Nat.succ_mul]; omega
theorem flat_take (z : List Value) {l c : Nat} (h : l ≤ c) : ((List.replicate c z).flatten).take (l * z.length) = (List.replicate l z).flatten := by
  obtain ⟨d, rfl⟩ := Nat.exists_eq_add_of_le h
  rw [← List.replicate_append_replicate, List.flatten_append, ← flat_len z l]
  exact List.take_left
theorem flat_mem {z : List Value} {len : Nat} {u : Value} (h : u ∈ (List.replicate len z).flatten) : u ∈ z := by
  obtain ⟨l, hl, hu⟩ := List.mem_flatten.1 h
  rw [List.mem_replicate] at hl
  exact hl.2 ▸ hu

theorem okL_set1 {nid : Nat} {vc : List Vc} {c : SV} (hc : okA nid vc c) : ∀ (cs : List SV) (off : Nat), okL nid vc cs → okL nid vc (cs.set off c)
  | [], _, h => h
  | _ :: _, 0, h => ⟨hc, h.2⟩
  | _ :: cs, off + 1, h => ⟨h.1, okL_set1 hc cs off h.2⟩
theorem okL_setC {nid : Nat} {vc : List Vc} : ∀ (l cs : List SV) (off : Nat), okL nid vc l → okL nid vc cs → okL nid vc (setC cs off l)
  | [], _, _, _, h => h
  | _ :: r, _, _, hl, h => okL_setC r _ _ hl.2 (okL_set1 hl.1 _ _ h)

section
variable {C : Ctx} {n : Nat} {st : LS} {a : Act} {V : Vl} {D : Nat → Nat} {w : World} {P : Program} {p : Pth} {c : Cfg}
theorem partsS_C {sz : Nat} {st : LS} {p : Pth} {z : List SV} (hz : z.length = sz) : ∀ (l : List (Nat × Operand)) (i k : Nat) (pre cs : List SV), partsS sz st p i l = some cs → pre.length = i * sz → cs.length = k * sz → 0 < sz →
    partsC sz st p l (pre ++ (List.replicate k z).flatten) = some (pre ++ cs)
  | [], i, k, pre, cs, h, hp, hk, h0 => by
    simp only [partsS, Option.some.injEq] at h
    subst h
    have : k = 0 := by
      rcases Nat.eq_zero_or_pos k with h | h
      · exact h
      · have := Nat.mul_pos h h0
        simp only [List.length_nil] at hk
        omega
    subst this
    simp [partsC]
  | (j, x) :: r, i, k, pre, cs, h, hp, hk, h0 => by
    simp only [partsS] at h
    split at h
    · rename_i e
      subst e
      simp only [Option.bind_eq_some_iff] at h
      obtain ⟨l, hl, h⟩ := h
      split at h
      · rename_i hls
        obtain ⟨cs', hcs, rfl⟩ := Option.map_eq_some_iff.1 h
        have hk1 : 0 < k := by
          rcases Nat.eq_zero_or_pos k with h | h
          · subst h; simp only [List.length_append, Nat.zero_mul] at hk; omega
          · exact h
        obtain ⟨k', rfl⟩ : ∃ k', k = k' + 1 := ⟨k - 1, by omega⟩
        have hfl : (List.replicate (k' + 1) z).flatten = z ++ (List.replicate k' z).flatten := by rw [List.replicate_succ, List.flatten_cons]
        have hk' : cs'.length = k' * sz := by
          rw [Nat.add_mul] at hk
          simp only [List.length_append, hls] at hk
          omega
        simp only [partsC]
        have hb : ((rdO st p x).bind svCells) = some l := by simpa [Option.bind_eq_some_iff] using hl
        rw [hb]
        simp only [Option.bind_some]
        rw [if_pos hls, if_pos (by rw [List.length_append, hp, hfl, List.length_append, hz]; omega)]
        rw [hfl, setC_eq _ _ _ (by rw [List.length_append, hp, List.length_append, hz, hls]; omega)]
        have e1 : (pre ++ (z ++ (List.replicate k' z).flatten)).take (j * sz) = pre := by rw [← hp]; exact List.take_left' rfl
        have e2 : (pre ++ (z ++ (List.replicate k' z).flatten)).drop (j * sz + l.length) = (List.replicate k' z).flatten := by
          rw [← List.append_assoc]
          exact List.drop_left' (by rw [List.length_append, hp, hz, hls])
        rw [e1, e2, partsS_C hz r (j + 1) k' (pre ++ l) cs' hcs (by rw [List.length_append, hp, hls, Nat.add_mul]; omega) hk' h0, List.append_assoc]
      · cases h
    · cases h
theorem partsG_C {sz len : Nat} {st : LS} {p : Pth} {z : List SV} {parts : List (Nat × Operand)} {cs : List SV} (hz : z.length = sz) (h0 : 0 < sz) (h : partsG sz st p parts len z (partsS sz st p 0 parts) = some cs) : partsC sz st p parts (List.replicate len z).flatten = some cs := by
  cases hs : partsS sz st p 0 parts with
  | none => rw [hs] at h; exact h
  | some cs' =>
    rw [hs] at h
    simp only [partsG] at h
    split at h
    · rename_i hl
      cases h
      have := partsS_C hz parts 0 len [] _ hs (by simp) hl h0
      simpa using this
    · exact h
theorem partsC_sound (hS : Sat C n st a V D w) (hp : wfP st.rho p) (hc : condP st.rho p = true) {sz : Nat} :
    ∀ (parts : List (Nat × Operand)) (cs cs' : List SV), partsC sz st p parts cs = some cs' →
      Instr.fill (fun i => some (i * sz, sz)) ⟨cs.map (denA V)⟩ (parts.map fun x => (x.1, a.eval x.2)) = some ⟨cs'.map (denA V)⟩ ∧ cs'.length = cs.length
  | [], cs, cs', h => by simp only [partsC, Option.some.injEq] at h; subst h; exact ⟨rfl, rfl⟩
  | (i, x) :: r, cs, cs', h => by
    simp only [partsC] at h
    obtain ⟨l, hl, h⟩ := bnd h
    obtain ⟨s, hs, hl⟩ := bnd hl
    split at h
    · rename_i hsz
      split at h
      · rename_i hfit
        have hev := rdO_sound hS hp hc hs
        have hcl := svCells_den (V := V) hl
        have hsize : (a.eval x).cells.size = l.length := by rw [hev, hcl]; simp
        obtain ⟨ih, ihl⟩ := partsC_sound hS hp hc r _ cs' h
        refine ⟨?_, by rw [ihl, setC_len]⟩
        simp only [List.map_cons, Instr.fill]
        rw [if_neg (by
          simp only [hsize, List.size_toArray, List.length_map, Bool.or_eq_true, decide_eq_true_eq, not_or, Decidable.not_not]
          exact ⟨by simpa using hsz, by omega⟩)]
        have hfold : ((a.eval x).cells.zipIdx.foldl (fun (cs : Array Value) (y : Value × Nat) => cs.setIfInBounds (i * sz + y.2) y.1) ⟨cs.map (denA V)⟩) = ⟨(setC cs (i * sz) l).map (denA V)⟩ := by
          rw [hev, hcl, ← Array.foldl_toList]
          have := fold_set (V := V) l cs (i * sz) 0
          simp only [Nat.add_zero] at this
          rw [← this]
          simp [Array.toList_zipIdx]
        rw [← ih, ← hfold]
      · cases h
    · cases h
theorem buildSlice_run (hS : Sat C n st a V D w) (hp : wfP st.rho p) (hc : condP st.rho p = true) {t e : TypeId} {len : Nat} {parts : Array (Nat × Operand)} {z cs : List SV}
    (he : elT P t = some e) (hz : zeroO P e = some z) (hzl : z.length = szT P e) (h0 : 0 < szT P e) (hbig : len * szT P e ≤ 16777216) (h : partsC (szT P e) st p parts.toList (List.replicate len z).flatten = some cs) :
    (Instr.buildSlice t len (parts.map fun x => (x.1, a.eval x.2))).run P w = .ok (.slice (some ⟨w.heap.size, 0, none⟩) len len) (w.alloc (.cells ⟨cs.map (denA V)⟩ e)) ∧ cs.length = len * szT P e := by
  obtain ⟨hfill, hlen⟩ := partsC_sound hS hp hc _ _ _ h
  have hlen' : cs.length = len * szT P e := by
    rw [hlen]
    have : ((List.replicate len z).flatten).length = len * z.length := by
      induction len with
      | zero => simp
      | succ k _ => simp
    rw [this, hzl]
  refine ⟨?_, hlen'⟩
  obtain ⟨zv, hzv, hzc⟩ := zeroO_spec (V := V) (w := w) hz
  have hparts : (parts.map fun x => (x.1, a.eval x.2)).toList = parts.toList.map fun x => (x.1, a.eval x.2) := by simp
  simp only [Instr.buildSlice, Sem.run_bind, run_underlying (elT_spec he), Result.andThen_ok, run_szT h0]
  rw [if_neg (by have : (2 : Nat) ^ 24 = 16777216 := by decide
                 omega)]
  rcases Nat.eq_zero_or_pos len with hl | hl
  · subst hl
    simp only [Nat.zero_mul, Array.range_zero', List.replicate_zero, List.flatten_nil] at h hfill ⊢
    have hcs : cs = [] := List.eq_nil_of_length_eq_zero (by simpa using hlen')
    subst hcs
    simp only [if_true, Sem.run_pure, Result.andThen_ok, hparts, Sem.run_bind]
    simp only [List.map_nil] at hfill
    have : (#[] : Array Nat).map (fun i => (#[] : Array Value)[i % (#[] : Array Value).size]!) = #[] := by simp
    rw [this]
    rw [hfill]
    simp [newRow]
  · have hne : ¬ len * szT P e = 0 := by have := Nat.mul_pos hl h0; omega
    rw [if_neg hne]
    simp only [Sem.run_bind, Sem.run_pure, Result.andThen_ok, hzv, hzc, hparts]
    have hmade : (Array.range (len * szT P e)).map (fun i => (⟨z.map (denA V)⟩ : Array Value)[i % (⟨z.map (denA V)⟩ : Array Value).size]!) = ⟨((List.replicate len z).flatten).map (denA V)⟩ := by
      have := made_flat (z.map (denA V)) len (by simp; omega)
      simp only [List.length_map, hzl] at this
      rw [this, flat_map]
    rw [hmade, hfill]
    simp [newRow]

theorem wp_ok {o : Oper} {v : Value} {w' : World} {next : Act → World → Prop} {Q : Exit → Act → World → Prop} (h : (execOp a.eval o).run P w = .ok (.value v) w') (hn : next (a.put o.dst v) w') : o.wp P a w next Q := by
  unfold Oper.wp; rw [h]; exact hn
theorem wp_skip' {o : Oper} {w' : World} {next : Act → World → Prop} {Q : Exit → Act → World → Prop} (h : (execOp a.eval o).run P w = .ok .skip w') (hn : next (a.put o.dst undef) w') : o.wp P a w next Q := by
  unfold Oper.wp; rw [h]; exact hn

/-- EVERY OPERATION THAT ACTS. -/
theorem lOp_sound (hS : Sat C n st a V D w) (hp : wfP st.rho p) (hc : condP st.rho p = true) {o : Oper} {op : Op} (ho : o.op = op) {K : SV → LS → Prop} (h : lOp (.mk (k := (c, P, op, K)) (st, p)))
    {next : Act → World → Prop} {Q : Exit → Act → World → Prop} (hn : ∀ s st' V' D' w', K s st' → st'.rho = st.rho → Sat C n st' a V' D' w' → Step st.nid st.vc st'.nid st'.vc V V' → next (a.put o.dst (den V' s)) w') : o.wp P a w next Q := by
  unfold lOp at h
  split at h
  · rename_i t st' p' q
    cases q
    obtain ⟨cs, hz, hok, hK⟩ := withO_some h
    obtain ⟨zv, hzv, hzc⟩ := zeroO_spec (V := V) (w := w) hz
    obtain ⟨V', ha, hβ, hW⟩ := hS.w.addBx (t := t) hok
    have hrun : (Instr.alloc t true (.tuple #[])).run P w = .ok (.pointer (some ⟨w.heap.size, 0, none⟩)) (w.alloc (.cells ⟨cs.map (denA V)⟩ t)) := by
      simp [Instr.alloc, hzv, newVar, newRow, hzc]
    refine wp_ok (v := .pointer (some ⟨w.heap.size, 0, none⟩)) (by simp only [execOp, ho]; exact exec_v hrun) ?_
    have := hn _ _ V' D _ hK rfl (hS.to ha (Nat.le_succ _) (fun _ _ _ h => h) hW) ⟨ha, Nat.le_succ _, fun _ _ _ h => h⟩
    rwa [den_box, hβ] at this
  · rename_i t x st' p' q
    cases q
    obtain ⟨cs, hcs, hok, hK⟩ := withO_some h
    obtain ⟨s, hs, hcs⟩ := bnd hcs
    obtain ⟨V', ha, hβ, hW⟩ := hS.w.addBx (t := t) hok
    have hcl := svCells_den (V := V) hcs
    have hrun : (Instr.box t (den V s)).run P w = .ok (.pointer (some ⟨w.heap.size, 0, none⟩)) (w.alloc (.cells ⟨cs.map (denA V)⟩ t)) := by
      simp [Instr.box, newVar, newRow, hcl]
    refine wp_ok (v := .pointer (some ⟨w.heap.size, 0, none⟩)) (by simp only [execOp, ho, rdO_sound hS hp hc hs]; exact exec_v hrun) ?_
    have := hn _ _ V' D _ hK rfl (hS.to ha (Nat.le_succ _) (fun _ _ _ h => h) hW) ⟨ha, Nat.le_succ _, fun _ _ _ h => h⟩
    rwa [den_box, hβ] at this
  · rename_i t x y st' p' q
    cases q
    obtain ⟨sx, hx, h1⟩ := withO_some h
    obtain ⟨cs, hcs, h2⟩ := withO_some h1
    obtain ⟨sy, hy, hcs⟩ := bnd hcs
    clear h h1
    unfold lSto at h2
    split at h2
    · rename_i st' k off q
      simp only [A.mk.injEq, Prod.mk.injEq] at q
      obtain ⟨rfl, rfl⟩ := q
      obtain ⟨b, hb, h0, hsz, hone, hok, hfit, hK⟩ := withO_some h2
      obtain ⟨hbi, hbm⟩ := lkB_mem hb
      have hrow := (hS.heap.bx b hbm).1
      rw [hbi] at hrow
      have hset : (cs.map (denA V)) = cs.map (denA V) := rfl
      have hW := hS.w.setBx (cs := setC b.cs off cs) hb (by
        have hbo := (hS.w.ids.1 b hbm).2
        exact okL_setC cs b.cs off hok hbo)
      have hcl := svCells_den (V := V) hcs
      have hst := run_storeCells_at P (V.β k) off b.ty (cs.map (denA V)) 0 ⟨b.cs.map (denA V)⟩ w hrow (by simp; exact hfit) (okC_one hone)
      have hrun : (Instr.storeAt t (.pointer (some ⟨V.β k, off, none⟩)) (den V sy)).run P w = .ok () (w.setRow (V.β k) ⟨(setC b.cs off cs).map (denA V)⟩) := by
        have hsize : (den V sy).cells.size = szT P t := by rw [hcl]; simpa using hsz
        simp only [Instr.storeAt, Instr.sureAddr, Sem.run_bind, Sem.run_pure, Result.andThen_ok, storeVar, run_szT h0]
        rw [if_neg (by rw [hsize]; simp)]
        rw [hcl]
        rw [setC_eq _ _ _ hfit]
        simp only [Nat.add_zero] at hst
        simp only [List.map_append, List.map_take, List.map_drop]
        rw [← List.length_map (f := denA V)]
        exact hst
      refine wp_skip' (w' := w.setRow (V.β k) ⟨(setC b.cs off cs).map (denA V)⟩) (by
        simp only [execOp, ho, rdO_sound hS hp hc hx, rdO_sound hS hp hc hy, den_box, Sem.run_bind, hrun, Result.andThen_ok, Sem.run_pure]) ?_
      exact hn _ _ V D _ hK rfl (hS.to (Agree.refl _ _ _) (Nat.le_refl _) (fun _ _ _ h => h) hW) ⟨Agree.refl _ _ _, Nat.le_refl _, fun _ _ _ h => h⟩
    · cases h2
  · rename_i t len parts st' p' q
    cases q
    obtain ⟨e, he, h⟩ := withO_some h
    obtain ⟨z, hz, hzl, h0, hbig, h⟩ := withO_some h
    obtain ⟨cs, hcs, h⟩ := withO_some h
    have hcs := partsG_C hzl h0 hcs
    obtain ⟨l', m1, D1, e1, e2, e3, _⟩ := pubA_sound (st := st) cs _ st.m D h hS.w
    obtain ⟨l, hl, hone, hK⟩ := withO_some e1
    have hpl := plains_den (V := V) hl
    obtain ⟨hrun, hclen⟩ := buildSlice_run hS hp hc he hz hzl h0 hbig hcs
    rw [← e3, hpl] at hrun
    have hll : l.length = len * szT P e := by
      rw [← hpl, e3, List.length_map, hclen]
    obtain ⟨V', ha, hγ, hW⟩ := SatW.addVc (w' := w.alloc (.cells ⟨l⟩ e)) (hd := ⟨some ⟨w.heap.size, 0, none⟩, len, len⟩) (e := e) (sz := szT P e) (n := len) (xs := l) e2 rfl rfl rfl (by simp) (fun b hb => heap_alloc_lt w _ b hb)
      ⟨hll, .inr ⟨w.heap.size, len, ⟨l⟩, rfl, Nat.zero_le _, heap_alloc_new w _, Nat.le_refl _, by
        have : len ≤ len * szT P e := Nat.le_mul_of_pos_right _ h0
        simp only [maxLen]; omega, by simpa using hll, by rw [← hll]; simp⟩⟩
      (fun g hg => by simp only [Hd.blk, Option.map_some, Option.some.injEq] at hg; omega) h0
      (fun u hu => by rw [← hpl] at hu; exact okC_one hone u hu)
    refine wp_ok (v := .slice (some ⟨w.heap.size, 0, none⟩) len len) (by simp only [execOp, ho]; exact exec_v hrun) ?_
    have := hn _ _ V' D1 _ hK rfl (Sat.to (st := ⟨st.env, st.rho, st.bx, st.vc, st.nid, m1⟩) ⟨hS.f, hS.ids, e2⟩ ha (Nat.le_succ _) (fun k u hk hv => verLe_cons rfl k u hk hv) hW) ⟨ha, Nat.le_succ _, fun k u hk hv => verLe_cons rfl k u hk hv⟩
    rwa [show den V' (.vec st.nid 0) = .slice (some ⟨w.heap.size, 0, none⟩) len len from by show Hd.val _ = _; rw [hγ]; rfl] at this
  · rename_i x y t tx st' p' q
    cases q
    obtain ⟨sx, hx, h⟩ := withO_some h
    obtain ⟨sy, hy, h⟩ := withO_some h
    obtain ⟨e, he, h⟩ := withO_some h
    obtain ⟨r, st', V', D', w', hrun, hK, hrho, hS', ha⟩ := lApp_sound (ty := o.type) hS he h
    rw [← rdO_sound hS hp hc hx, ← rdO_sound hS hp hc hy] at hrun
    refine wp_ok (v := den V' r) (by
      simp only [execOp, ho, resolve, Sem.run_bind, Sem.run_pure, Result.andThen_ok, invoke, builtin]
      simp only [List.map_toArray, List.map_cons, List.map_nil, hrun, Result.andThen_ok]) (hn _ _ V' D' w' hK hrho hS' ha)
  · rename_i t l cp st' p' q
    cases q
    obtain ⟨sl, hl, h1⟩ := withO_some h
    obtain ⟨sc, hcp, h2⟩ := withO_some h1
    obtain ⟨e, he, h3⟩ := withO_some h2
    obtain ⟨z, hz, h4⟩ := withO_some h3
    clear h h1 h2 h3
    obtain ⟨zs, hzs, hz⟩ := bnd hz
    unfold lMk at h4
    split at h4
    · rename_i st' kl l' kc c' q
      simp only [A.mk.injEq, Prod.mk.injEq] at q
      obtain ⟨rfl, rfl, rfl⟩ := q
      obtain ⟨hl0, hlc, hroom, hzl, h0, hone, hK⟩ := h4
      obtain ⟨i, hi, hisz, hiby⟩ := info_of h0
      have hzs' := hzs
      unfold zeroO at hzs'
      simp only [Option.map_eq_some_iff, Option.bind_eq_some_iff] at hzs'
      obtain ⟨zv, ⟨i', hi', hzv⟩, hzz⟩ := hzs'
      rw [hi] at hi'
      cases hi'
      have hzvc : zv.cells = ⟨z⟩ := by
        have := plains_den (V := V) hz
        rw [← hzz, map_v] at this
        rw [← this]
      have hcpos : 0 ≤ c' := by omega
      have hrun := run_make (P := P) w t e i zv (elT_spec he) hi hzv kl kc l' c' hl0 hlc (by
        have := hroom.1
        rw [← hiby] at this
        have hh : ((i.bytes * c'.toNat : Nat) : Int) ≤ 281474976710656 := by rw [Nat.mul_comm]; omega
        rw [Int.natCast_mul, Int.toNat_of_nonneg hcpos] at hh
        exact hh) (by have := hroom.2; simp only [maxLen] at this; omega)
      have hcells : madeCells zv.cells (c'.toNat * i.size) = ⟨(List.replicate c'.toNat z).flatten⟩ := by
        unfold madeCells
        rw [hzvc, hisz, ← hzl]
        exact made_flat z _ (by omega)
      rw [hcells] at hrun
      have hlen : ((List.replicate l'.toNat z).flatten).length = l'.toNat * szT P e := by rw [flat_len, hzl]
      obtain ⟨V', ha, hγ, hW⟩ := SatW.addVc (w' := w.alloc (.cells ⟨(List.replicate c'.toNat z).flatten⟩ e)) (hd := ⟨some ⟨w.heap.size, 0, none⟩, l'.toNat, c'.toNat⟩) (e := e) (sz := szT P e) (n := l'.toNat) (xs := (List.replicate l'.toNat z).flatten)
        hS.w rfl rfl rfl (by simp) (fun b hb => heap_alloc_lt w _ b hb)
        ⟨hlen, .inr ⟨w.heap.size, c'.toNat, ⟨(List.replicate c'.toNat z).flatten⟩, rfl, Nat.zero_le _, heap_alloc_new w _, by omega, hroom.2, by simp only [List.size_toArray, flat_len, hzl], by
          show ((List.replicate c'.toNat z).flatten).take (l'.toNat * szT P e) = _
          rw [← hzl]; exact flat_take z (by omega)⟩⟩
        (fun g hg => by simp only [Hd.blk, Option.map_some, Option.some.injEq] at hg; omega) h0
        (fun u hu => by
          have := okC_one (V := V) hone u
          rw [map_v] at this
          exact this (flat_mem hu))
      refine wp_ok (v := .slice (some ⟨w.heap.size, 0, none⟩) l'.toNat c'.toNat) (by
        simp only [execOp, ho, rdO_sound hS hp hc hl, rdO_sound hS hp hc hcp, den_v]
        exact exec_v hrun) ?_
      have := hn _ _ V' D _ hK rfl (hS.to ha (Nat.le_succ _) (fun k u hk hv => verLe_cons rfl k u hk hv) hW) ⟨ha, Nat.le_succ _, fun k u hk hv => verLe_cons rfl k u hk hv⟩
      rwa [show den V' (.vec st.nid 0) = .slice (some ⟨w.heap.size, 0, none⟩) l'.toNat c'.toNat from by show Hd.val _ = _; rw [hγ]; rfl] at this
    · cases h4
  · rename_i fo args _ st' p' q
    cases q
    obtain ⟨l, hl, h1⟩ := withO_some h
    obtain ⟨sf, hf, h2⟩ := withO_some h1
    clear h h1
    unfold lCall at h2
    split at h2
    · rename_i st' f q
      simp only [A.mk.injEq, Prod.mk.injEq] at q
      obtain ⟨rfl, rfl⟩ := q
      obtain ⟨hok, h3⟩ := h2
      have hrun := run_call (w := w) ho (rdO_sound hS hp hc hf) hok
      unfold Oper.wp
      rw [hrun]
      have hargs : args.map a.eval = ⟨l.map (den V)⟩ := by
        apply Array.ext'
        rw [Array.toList_map, rdOs_sound hS hp hc hl]
      rw [hargs]
      refine callO_sound (R := fun | .returned v, w'' => next (a.put o.dst v) w'' | .panicked chain, w'' => Q (.panic chain) a w'' | .outgrown, _ => LetsOut Q) hS h3 ?_
      intro s st' V' D' w' hK hrho hS' ha
      exact hn s st' V' D' w' hK hrho hS' ha
    · cases h2
  · cases h
end
end Go.Proofs.YtmkifodpkcmgoaaDoor.E

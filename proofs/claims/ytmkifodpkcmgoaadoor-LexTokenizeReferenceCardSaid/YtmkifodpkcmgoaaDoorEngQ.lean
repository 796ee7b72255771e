/- The engine, part Q: every operation that acts. -/
import Derived.Test.YtmkifodpkcmgoaaDoorEngP
namespace Go.Proofs.YtmkifodpkcmgoaaDoor.E
open Go

section
variable {C : Ctx} {n : Nat} {st : LS} {a : Act} {V : Vl} {D : Nat → Nat} {w : World} {P : Program} {p : Pth} {c : Cfg}
theorem pubS_sound : ∀ (l : List SV) (K : List SV → LS → Prop) (m : Mem) (D : Nat → Nat), pubSx l K ⟨st.env, st.rho, st.bx, st.vc, st.nid, m⟩ → SatW C st.bx st.vc st.nid m V D w →
    ∃ l' m1 D1, K l' ⟨st.env, st.rho, st.bx, st.vc, st.nid, m1⟩ ∧ SatW C st.bx st.vc st.nid m1 V D1 w ∧ l'.map (den V) = l.map (den V)
  | [], K, m, D, h, hW => ⟨[], m, D, h, hW, rfl⟩
  | s :: r, K, m, D, h, hW => by
    cases s with
    | agg cs =>
      obtain ⟨cs', m1, D1, e1, e2, e3, _⟩ := pubA_sound (st := st) cs _ m D h hW
      obtain ⟨l', m2, D2, f1, f2, f3⟩ := pubS_sound r _ m1 D1 e1 e2
      exact ⟨_, m2, D2, f1, f2, by simp only [List.map_cons, f3, den_agg, e3]⟩
    | vec k u =>
      simp only [pubSx, pubAx] at h
      obtain ⟨b, hb, h⟩ := withO_some h
      obtain ⟨ad, cp, m1, D', h1, h2, h3, h4, h5⟩ := SatW.pub (st := ⟨st.env, st.rho, st.bx, st.vc, st.nid, m⟩) hW hb
      obtain ⟨l', m2, D2, f1, f2, f3⟩ := pubS_sound r _ m1 D' (h ad cp m1 h1 h2 h3) h5
      refine ⟨_, m2, D2, f1, f2, ?_⟩
      simp only [List.map_cons, List.cons_append, List.nil_append, f3]
      congr 1
      exact h4.symm
    | v x =>
      obtain ⟨l', m2, D2, f1, f2, f3⟩ := pubS_sound r _ m D h hW
      exact ⟨_, m2, D2, f1, f2, by simp only [List.map_cons, List.cons_append, List.nil_append, f3]⟩
    | box k o =>
      obtain ⟨l', m2, D2, f1, f2, f3⟩ := pubS_sound r _ m D h hW
      exact ⟨_, m2, D2, f1, f2, by simp only [List.map_cons, List.cons_append, List.nil_append, f3]⟩
    | vp k u o =>
      obtain ⟨l', m2, D2, f1, f2, f3⟩ := pubS_sound r _ m D h hW
      exact ⟨_, m2, D2, f1, f2, by simp only [List.map_cons, List.cons_append, List.nil_append, f3]⟩
    | tup l0 =>
      obtain ⟨l', m2, D2, f1, f2, f3⟩ := pubS_sound r _ m D h hW
      exact ⟨_, m2, D2, f1, f2, by simp only [List.map_cons, List.cons_append, List.nil_append, f3]⟩

theorem rdOs_sound (hS : Sat C n st a V D w) (hp : wfP st.rho p) (hc : condP st.rho p = true) : ∀ {l : List Operand} {ss : List SV}, rdOs st p l = some ss → l.map a.eval = ss.map (den V)
  | [], ss, h => by simp only [rdOs, Option.some.injEq] at h; subst h; rfl
  | x :: r, ss, h => by
    simp only [rdOs, Option.bind_eq_some_iff, Option.map_eq_some_iff] at h
    obtain ⟨s, hs, ss', hr, rfl⟩ := h
    simp only [List.map_cons, rdO_sound hS hp hc hs, rdOs_sound hS hp hc hr]
theorem run_call {o : Oper} {fo : Operand} {args : Array Operand} {ts : Array TypeId} {f : FuncId} (ho : o.op = .call { callee := .value fo, args, argTypes := ts }) (hf : a.eval fo = .func (.func f) #[] #[]) (hok : fnOk P f = true) :
    (execOp a.eval o).run P w = .ok (.enter f (args.map a.eval)) w := by
  unfold fnOk at hok
  split at hok
  · rename_i fn hfn
    simp only [Bool.and_eq_true, Bool.not_eq_true'] at hok
    have hb : fn.body.isNone = false := by cases h : fn.body <;> simp_all
    simp only [execOp, ho, resolve, hf, Deferred.ofValue, Sem.run_bind, Sem.run_pure, Result.andThen_ok, invoke, callFunc, run_program, hfn, hok.1, hb, Bool.false_eq_true, if_false]
    simp
  · cases hok
/-- A call, its arguments already shown. -/
theorem callH_sound (hS : Sat C n st a V D w) {f : FuncId} {ss : List SV} {K : SV → LS → Prop} {R : Ending → World → Prop} (h : callH (.mk (k := (P, f, K)) (st, ss)))
    (hn : ∀ s st' V' D' w', K s st' → st'.rho = st.rho → Sat C n st' a V' D' w' → Step st.nid st.vc st'.nid st'.vc V V' → R (.returned (den V' s)) w') : Calls P f ⟨ss.map (den V)⟩ w R := by
  simp only [callH, callL] at h
  obtain ⟨hin, h⟩ := h
  simp only [FnV, FnH] at h
  have hW := hS.w
  have hHin : HSat (inV (closeIds st.bx (idsS [] ss)) V) D w (hpIn st (closeIds st.bx (idsS [] ss))) := (split_heap _ hW.heap).app.1.into hin.2.2.2
  have := h (inV (closeIds st.bx (idsS [] ss)) V) w D hW.wf hW.mle hHin
  rw [den_args hin.2.2.1] at this
  refine this.mono fun e w2 ⟨r, V2, D2, H', m', he, h1, h2, h3, h4, h5, h6, h7, h8, h9, hback, hK⟩ => ?_
  obtain ⟨V3, a1, a2, a3, a4⟩ := hW.call (r := r) ⟨hin.1, hin.2.1, trivial, hin.2.2.2⟩ hback h1 h2 h3 h4 h5 h6 h7 h8 h9
  subst he
  rw [← a2]
  exact hn _ _ V3 D2 w2 hK rfl (hS.to a1 (Nat.le_add_right _ _) a4 a3) ⟨a1, Nat.le_add_right _ _, a4⟩
theorem callO_sound (hS : Sat C n st a V D w) {f : FuncId} {ss : List SV} {b : Bool} {K : SV → LS → Prop} {R : Ending → World → Prop} (h : callO (.mk (k := (P, f, st, ss, K)) b))
    (hn : ∀ s st' V' D' w', K s st' → st'.rho = st.rho → Sat C n st' a V' D' w' → Step st.nid st.vc st'.nid st'.vc V V' → R (.returned (den V' s)) w') : Calls P f ⟨ss.map (den V)⟩ w R := by
  cases b with
  | true => exact callH_sound hS h hn
  | false =>
    obtain ⟨l', m1, D1, e1, e2, e3⟩ := pubS_sound (st := st) ss _ st.m D h hS.w
    rw [← e3]
    exact callH_sound (st := ⟨st.env, st.rho, st.bx, st.vc, st.nid, m1⟩) ⟨hS.f, hS.ids, e2⟩ e1 hn

theorem appSrc_sound (hS : Sat C n st a V D w) {tx : TypeId} {sz : Nat} {y : SV} {K : Nat → List Value → Prop} (hsz : 0 < sz) (h : appSrc (.mk (k := (P, tx, sz, K)) (st, y))) : ∃ m news, K m news ∧ Src P sz tx (den V y) m news w := by
  unfold appSrc at h
  split at h
  · rename_i st' k u q
    simp only [A.mk.injEq, Prod.mk.injEq] at q
    obtain ⟨rfl, rfl⟩ := q
    obtain ⟨e, he, h⟩ := withO_some h
    obtain ⟨b, hb, rfl, hK⟩ := withO_some h
    refine ⟨_, _, hK, ?_⟩
    obtain ⟨hv, rfl, rfl⟩ := vc_of hS hb
    obtain ⟨hn, hl, hx⟩ := own_at hv.1
    show Src P b.sz tx (Hd.val _) b.n b.xs w
    rcases Nat.eq_zero_or_pos b.n with h0 | h0
    · have hnil : b.xs = [] := List.eq_nil_of_length_eq_zero (by rw [hl, h0, Nat.zero_mul])
      unfold Hd.val
      rw [hn, h0, hnil]
      cases ha : (V.γ b.id b.ver).a with
      | none => exact Src.ofNil w (elT_spec he) _
      | some ad => exact Src.ofSlice w (elT_spec he) ad 0 _ [] (by simp) (fun j u hu => by simp at hu) (fun u hu => by cases hu)
    · obtain ⟨g, hg, hc⟩ := hx h0
      unfold Hd.val
      rw [hn, hg]
      exact Src.ofSlice w (elT_spec he) ⟨g, 0, none⟩ b.n _ b.xs hl (fun j u hu => by rw [add_zero_off]; exact hc j u hu) hv.2.2.2
  · rename_i st' x m cp q
    simp only [A.mk.injEq, Prod.mk.injEq] at q
    obtain ⟨rfl, rfl⟩ := q
    obtain ⟨e, he, xs, h1, h2, hK⟩ := withO_some h
    refine ⟨_, _, hK, ?_⟩
    show Src P sz tx (.slice x m cp) m xs w
    rcases Nat.eq_zero_or_pos m with h0 | h0
    · subst h0
      have hnil : xs = [] := List.eq_nil_of_length_eq_zero (by rw [h1.1, Nat.zero_mul])
      subst hnil
      cases x with
      | none => exact Src.ofNil w (elT_spec he) _
      | some ad => exact Src.ofSlice w (elT_spec he) ad 0 _ [] (by simp) (fun j u hu => by simp at hu) (fun u hu => by cases hu)
    · obtain ⟨ad, rfl, hc⟩ := Rds_at hS.mle h1 h0
      exact Src.ofSlice w (elT_spec he) ad m _ xs h1.1 hc h2
  · rename_i st' s q
    simp only [A.mk.injEq, Prod.mk.injEq] at q
    obtain ⟨rfl, rfl⟩ := q
    obtain ⟨h1, rfl, hK⟩ := h
    refine ⟨_, _, hK, ?_⟩
    rw [tl_len]
    exact Src.ofString w h1 s
  · cases h
theorem upd_id {b : Vc} {n : Nat} {xs : List Value} : (bumpV b n xs).id = b.id ∧ (bumpV b n xs).ver = b.ver + 1 := by cases b; exact ⟨rfl, rfl⟩
theorem lApp_sound (hS : Sat C n st a V D w) {t tx e ty : TypeId} {s y : SV} {K : SV → LS → Prop} (he : elT P t = some e) (h : lApp (.mk (k := (P, e, tx, y, K)) (st, s))) :
    ∃ r st' V' D' w', (Builtin.append_ #[t, tx] ty #[den V s, den V y]).run P w = .ok (den V' r) w' ∧ K r st' ∧ st'.rho = st.rho ∧ Sat C n st' a V' D' w' ∧ Step st.nid st.vc st'.nid st'.vc V V' := by
  unfold lApp at h
  split at h
  · rename_i st' k u q
    simp only [A.mk.injEq, Prod.mk.injEq] at q
    obtain ⟨rfl, rfl⟩ := q
    obtain ⟨b, hb, h1, h2, h3, h⟩ := withO_some h
    obtain ⟨z, hz, h4, h⟩ := withO_some h
    obtain ⟨m, news, ⟨hroom, hK⟩, hsrc⟩ := appSrc_sound hS h3 h
    obtain ⟨i, hi, hisz, hiby⟩ := info_of h3
    obtain ⟨zv, hzv, hzs⟩ := zero_of hi hz
    obtain ⟨hv, hbi, hbv⟩ := vc_of hS hb
    have hown := hv.1
    rw [hbi, hbv, h1, h2, ← hisz] at hown
    rw [← hisz] at hsrc
    obtain ⟨h', w', hrun, hown', hcase⟩ := run_append (ty := ty) (elT_spec he) hi hzv (by rw [hzs, h4, hisz]) hown hsrc (by rw [hiby]; exact hroom)
    have hbo := hv.2.2
    have hone : ∀ y' ∈ b.xs ++ news, y'.oneCell' = true := fun y' hy => (List.mem_append.1 hy).elim (hbo.2 y') (hsrc.one y')
    have hU := hS.w.updVc (w' := w') (n := b.n + m) (hd := h') (xs := b.xs ++ news) hb (Nat.mul_le_mul_right _ (Nat.le_add_right _ _))
      (by rcases hcase with ⟨rfl, _⟩ | ⟨g, cur, cur', _, _, _, rfl, _⟩ | ⟨cc, _, rfl⟩ <;> rfl)
      (by rcases hcase with ⟨rfl, _⟩ | ⟨g, cur, cur', _, _, _, rfl, _⟩ | ⟨cc, _, rfl⟩ <;> rfl)
      (by rcases hcase with ⟨rfl, _⟩ | ⟨g, cur, cur', _, _, _, rfl, _⟩ | ⟨cc, _, rfl⟩ <;> rfl)
      (by rcases hcase with ⟨rfl, _⟩ | ⟨g, cur, cur', _, _, _, rfl, _⟩ | ⟨cc, _, rfl⟩ <;> simp)
      (fun x hx hne => by
        rcases hcase with ⟨rfl, _⟩ | ⟨g, cur, cur', _, hg, _, rfl, _⟩ | ⟨cc, _, rfl⟩
        · rfl
        · exact setRow_other w g x _ (fun e => hne (e ▸ hg))
        · exact heap_alloc_lt w.drew _ x hx)
      (fun x hx => by
        rcases hcase with ⟨rfl, _⟩ | ⟨g, cur, cur', _, hg, hcur, rfl, hsame⟩ | ⟨cc, _, rfl⟩
        · exact keepObj_same rfl
        · rw [hg] at hx
          obtain rfl : g = x := Option.some.inj hx
          rw [hcur, setRow_heap w g cur _ e _ hcur]
          exact ⟨_, _, _, rfl, fun j hj => hsame j (by rw [hisz, ← h1]; exact hj)⟩
        · exact keepObj_same (heap_alloc_lt w.drew _ x (own_blk hown hx).2))
      (by rw [h1, h2, ← hisz]; exact hown')
      (fun x hx => by
        rcases hcase with ⟨rfl, rfl⟩ | ⟨g, cur, cur', hg', hg, _, rfl, _⟩ | ⟨cc, hg', rfl⟩
        · exact .inl hx
        · rw [hg'] at hx; cases hx; exact .inl hg
        · rw [hg'] at hx; cases hx; exact .inr (Nat.le_refl _))
      hone
    obtain ⟨V', ha, hγ, hW⟩ := hU
    have hvm : ∀ k' u', k' < st.nid → verLe st.vc k' u' → verLe (updV st.vc k (bumpV b (b.n + m) (b.xs ++ news))) k' u' := fun k' u' _ => verLe_updV hb (by rw [upd_id.1]; exact hbi) (by rw [upd_id.2, hbv]; exact Nat.le_succ _) k' u'
    refine ⟨_, _, V', D, w', ?_, hK, rfl, hS.to ha (Nat.le_refl _) hvm hW, ⟨ha, Nat.le_refl _, hvm⟩⟩
    rw [show den V' (.vec k (u + 1)) = h'.val from by show Hd.val _ = _; rw [hγ]]
    exact hrun
  · rename_i st' q
    simp only [A.mk.injEq, Prod.mk.injEq] at q
    obtain ⟨rfl, rfl⟩ := q
    obtain ⟨h3, h⟩ := h
    obtain ⟨z, hz, h4, h⟩ := withO_some h
    obtain ⟨m, news, ⟨hroom, hK⟩, hsrc⟩ := appSrc_sound hS h3 h
    obtain ⟨i, hi, hisz, hiby⟩ := info_of h3
    obtain ⟨zv, hzv, hzs⟩ := zero_of hi hz
    rw [← hisz] at hsrc
    have hown : w.ownsRow 0 e i.size (Hd.val ⟨none, 0, 0⟩) 0 [] := World.ownsRow_nil w 0 e i.size
    obtain ⟨h', w', hrun, hown', hcase⟩ := run_append (ty := ty) (elT_spec he) hi hzv (by rw [hzs, h4, hisz]) hown hsrc (by rw [hiby, Nat.zero_add]; exact hroom)
    rw [Nat.zero_add, List.nil_append, hisz] at hown'
    obtain ⟨V', ha, hγ, hW⟩ := hS.w.addVc (w' := w') (hd := h')
      (by rcases hcase with ⟨rfl, _⟩ | ⟨g, cur, cur', _, _, _, rfl, _⟩ | ⟨cc, _, rfl⟩ <;> rfl)
      (by rcases hcase with ⟨rfl, _⟩ | ⟨g, cur, cur', _, _, _, rfl, _⟩ | ⟨cc, _, rfl⟩ <;> rfl)
      (by rcases hcase with ⟨rfl, _⟩ | ⟨g, cur, cur', _, _, _, rfl, _⟩ | ⟨cc, _, rfl⟩ <;> rfl)
      (by rcases hcase with ⟨rfl, _⟩ | ⟨g, cur, cur', _, _, _, rfl, _⟩ | ⟨cc, _, rfl⟩ <;> simp)
      (fun x hx => by
        rcases hcase with ⟨rfl, _⟩ | ⟨g, cur, cur', _, hg, _, rfl, _⟩ | ⟨cc, _, rfl⟩
        · rfl
        · cases hg
        · exact heap_alloc_lt w.drew _ x hx)
      hown'
      (fun x hx => by
        rcases hcase with ⟨rfl, rfl⟩ | ⟨g, cur, cur', hg', hg, _, rfl, _⟩ | ⟨cc, hg', rfl⟩
        · cases hx
        · cases hg
        · rw [hg'] at hx; cases hx; exact Nat.le_refl _)
      h3 hsrc.one
    refine ⟨_, _, V', D, w', ?_, hK, rfl, hS.to ha (Nat.le_succ _) (fun k u hk hv => verLe_cons rfl k u hk hv) hW, ⟨ha, Nat.le_succ _, fun k u hk hv => verLe_cons rfl k u hk hv⟩⟩
    rw [show den V' (.vec st.nid 0) = h'.val from by show Hd.val _ = _; rw [hγ]]
    exact hrun
  · cases h
end
end Go.Proofs.YtmkifodpkcmgoaaDoor.E

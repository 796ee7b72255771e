/- The engine, part W: joins; regions that draw their order and only read. -/
import Derived.Test.YtmkifodpkcmgoaaDoorEngV
import Derived.Deep.Quiet
namespace Go.Proofs.YtmkifodpkcmgoaaDoor.E
open Go

section
variable {n : Nat} {st : LS} {P : Program} {c : Cfg}
/-- Both arms go on: what follows is walked twice. -/
theorem WP_dup (hpu : PureOk c P) {x : Operand} {a b rest : Code} {Q : Exit → LS → Prop} (hd : dstOkC n (.seq (.cond x a b) rest) = true)
    (h : withO (.mk (k := fun t : Bool => (t = true → vcC (.mk (k := (c, P, n, a, thenQ (fun st' => vcC (.mk (k := (c, P, n, rest, Q)) st')) Q)) st)) ∧ (t = false → vcC (.mk (k := (c, P, n, b, thenQ (fun st' => vcC (.mk (k := (c, P, n, rest, Q)) st')) Q)) st))) ((rdO st [] x).bind svBool))) :
    WPv (.mk (k := (P, n, .seq (.cond x a b) rest, Q)) st) := by
  simp only [dstOkC, Bool.and_eq_true] at hd
  obtain ⟨t, ht, h1, h2⟩ := withO_some h
  obtain ⟨s, hs, ht⟩ := bnd ht
  exact WP_seq (WP_cond hs ht (fun e => vcC_sound hpu hd.1.1 (h1 e)) (fun e => vcC_sound hpu hd.1.2 (h2 e))) fun st' h' => vcC_sound hpu hd.2 h'
/-- A CUT: what follows is walked once, from the states that 'S' describes. -/
theorem WP_cutC (hpu : PureOk c P) {a rest : Code} {Q : Exit → LS → Prop} {X : Type} (S : X → LS) (J : X → Prop) (hd : dstOkC n (.seq a rest) = true)
    (hn : ∀ x, J x → st.nid ≤ (S x).nid) (hm : ∀ x, J x → leM st.m (S x).m) (hok : ∀ x, J x → okHd (S x))
    (h : WP P n a (thenQ (fun st' => ∃ x, Match st' (S x) ∧ J x) Q) st) (hr : ∀ x, J x → vcC (.mk (k := (c, P, n, rest, Q)) (S x))) : WP P n (.seq a rest) Q st := by
  simp only [dstOkC, Bool.and_eq_true] at hd
  rintro C a1 w ⟨hrho, V, D, hS⟩
  refine wp_seq (wp_mono (h C a1 w ⟨hrho, V, D, hS⟩) ?_)
  rintro e a2 w2 ⟨st2, hE2, hq⟩
  cases e with
  | normal =>
    obtain ⟨x, hM, hx⟩ := hq
    obtain ⟨_, V2, D2, hS2⟩ := hE2
    refine vcC_sound hpu hd.2 (hr x hx) C a2 w2 ⟨hM.2.1, V2, D2, hS2.weaken hM (hok x hx) (fun b hb => Nat.lt_of_lt_of_le (hS.w.baseB b hb).2 (hn x hx)) (fun b hb => Nat.lt_of_lt_of_le (hS.w.baseV b hb).2.1 (hn x hx)) ?_⟩
    rcases hm x hx with e | h
    · rw [← e]; exact hS.w.m0
    · exact Mem.le_trans hS.w.m0 h
  | exit id => exact ⟨st2, hE2, hq⟩
  | goto l => exact ⟨st2, hE2, hq⟩
  | ret => exact ⟨st2, hE2, hq⟩
  | panic ch => exact ⟨st2, hE2, hq⟩
  | outgrown => exact ⟨st2, hE2, hq⟩
theorem WP_cut (hpu : PureOk c P) {x : Operand} {a b rest : Code} {Q : Exit → LS → Prop} {X : Type} (S : X → LS) (J : X → Prop) (hd : dstOkC n (.seq (.cond x a b) rest) = true)
    (hn : ∀ x, J x → st.nid ≤ (S x).nid) (hm : ∀ x, J x → leM st.m (S x).m) (hok : ∀ x, J x → okHd (S x))
    (h : vcC (.mk (k := (c, P, n, .cond x a b, thenQ (fun st' => ∃ x, Match st' (S x) ∧ J x) Q)) st)) (hr : ∀ x, J x → vcC (.mk (k := (c, P, n, rest, Q)) (S x))) :
    WPv (.mk (k := (P, n, .seq (.cond x a b) rest, Q)) st) :=
  WP_cutC hpu S J hd hn hm hok (vcC_sound hpu (by simp only [dstOkC, Bool.and_eq_true] at hd ⊢; exact hd.1) h) hr
end

/-! Regions that draw their order, of quiet operations and pure calls. -/
def notAc : OpK → Bool
  | .ac => false
  | _ => true
section
variable {C : Ctx} {n : Nat} {st : LS} {a : Act} {V : Vl} {D : Nat → Nat} {w : World} {P : Program} {p : Pth} {c : Cfg} {ops : Array Oper} {L : Nat → Prop} {i : Nat} {o : Oper}
/-- The worlds in which the state's memory is as it was. -/
def Cl (C : Ctx) (bx : List Bx) (vc : List Vc) (nid : Nat) (m : Mem) (V : Vl) (w : World) : Prop := ∃ V' D', Agree nid vc V V' ∧ SatW C bx vc nid m V' D' w
theorem SatW.drew {bx : List Bx} {vc : List Vc} {nid : Nat} {m : Mem} (h : SatW C bx vc nid m V D w) (k : Nat) : SatW C bx vc nid m V D { w with drawn := k } :=
  ⟨⟨h.heap.bx, h.heap.vc, h.heap.apart, h.heap.uniq⟩, h.wf, ⟨h.frm.os, h.frm.tape, h.frm.output, h.frm.size, h.frm.same⟩, h.own, h.baseB, h.baseV, h.ids, h.le0, h.m0, h.mle⟩
theorem one_quiet (hF : SatF n st.env st.rho a V) (hids : ∀ e ∈ st.env, okS st.nid st.vc e.s) {w0 : World} (hcl0 : Cl C st.bx st.vc st.nid st.m V w0)
    (hpu : PureOk c P) (hR : RInv ops L st.rho) (hLi : ¬ L i) (hoi : ops[i]? = some o) (hd : dstOk n o = true) (hna : notAc (opK c o.op) = true) (hpath : pathOf st o.guard = some p) {K : LS → Prop} (h : one (.mk (k := (c, P, i, o, K)) (st, p)))
    {next : Act → Prop} (hn : ∀ st' a', K st' → SatF n st'.env st'.rho a' V → (∀ e ∈ st'.env, okS st.nid st.vc e.s) → st'.bx = st.bx ∧ st'.vc = st.vc ∧ st'.nid = st.nid ∧ st'.m = st.m → RInv ops (fun k => L k ∨ k = i) st'.rho → next a') :
    if Region.wanted o (yielded ops a.tmps) then o.quiet P a (Cl C st.bx st.vc st.nid st.m V) next else next (a.put o.dst undef) := by
  obtain ⟨V0, D0, ha0, hW0⟩ := hcl0
  have satOf : ∀ {V' : Vl} {D' : Nat → Nat} {w' : World}, Agree st.nid st.vc V V' → SatW C st.bx st.vc st.nid st.m V' D' w' → Sat C n st a V' D' w' := fun ha hW => ⟨hF.agree hids ha, hids, hW⟩
  have hS0 := satOf ha0 hW0
  obtain ⟨hp, hw⟩ := path_sound hS0 hR hpath
  rw [hw]
  have back : ∀ {st' : LS} {a' : Act}, Sat C n st' a' V0 D0 w0 → st'.bx = st.bx ∧ st'.vc = st.vc ∧ st'.nid = st.nid ∧ st'.m = st.m → SatF n st'.env st'.rho a' V ∧ ∀ e ∈ st'.env, okS st.nid st.vc e.s := by
    intro st' a' hS' he
    have hid : ∀ e ∈ st'.env, okS st.nid st.vc e.s := by rw [← he.2.1, ← he.2.2.1]; exact hS'.ids
    exact ⟨hS'.f.agree hid (fun k hk => ⟨((ha0 k hk).1).symm, fun u hu => ((ha0 k hk).2 u hu).symm⟩), hid⟩
  simp only [one] at h
  unfold one2 at h
  split at h
  · rename_i q dead he
    simp only [A.mk.injEq, Prod.mk.injEq] at he
    obtain ⟨hq, hdead, hit⟩ := he
    have heqs : ∀ (d : Option Nat) (p : Pth) (s : SV), (E.put st d p s).bx = st.bx ∧ (E.put st d p s).vc = st.vc ∧ (E.put st d p s).nid = st.nid ∧ (E.put st d p s).m = st.m := fun d p s => by cases d <;> exact ⟨rfl, rfl, rfl, rfl⟩
    have heqG : ∀ (d : Option Nat) (p : Pth) (s : SV) (mv : Bool), (noteG (E.put st d p s) i d p mv s).bx = st.bx ∧ (noteG (E.put st d p s) i d p mv s).vc = st.vc ∧ (noteG (E.put st d p s) i d p mv s).nid = st.nid ∧ (noteG (E.put st d p s) i d p mv s).m = st.m := fun d p s mv => by
      rcases noteG_cases (E.put st d p s) i d p mv s with e | ⟨_, _, _, _, e⟩
      · rw [e]; exact heqs d p s
      · rw [e]; exact heqs d p s
    have heqD : ∀ (d : Option Nat) (p : Pth) (s : SV) (mv : Bool), (noteD (E.put st d p s) i d p mv).bx = st.bx ∧ (noteD (E.put st d p s) i d p mv).vc = st.vc ∧ (noteD (E.put st d p s) i d p mv).nid = st.nid ∧ (noteD (E.put st d p s) i d p mv).m = st.m := fun d p s mv => by
      rcases noteD_cases (E.put st d p s) i d p mv with e | ⟨_, _, e⟩
      · rw [e]; exact heqs d p s
      · rw [e]; exact heqs d p s
    unfold one3 at h
    split at h
    · rename_i st' p' q'
      cases q'
      have hc := deadP_not hdead
      rw [hc]
      simp only [Bool.false_eq_true, if_false]
      obtain ⟨h1, h2⟩ := doneD hS0 hR hLi hoi hd hit hp hc (isMove o.op)
      obtain ⟨h3, h4⟩ := back h1 (heqD _ _ _ _)
      exact hn _ _ h h3 h4 (heqD _ _ _ _) h2
    · rename_i st' p' q'
      cases q'
      obtain ⟨s, ⟨hs, hK⟩, hdet⟩ := qOp_det _ h
      have hrun : ∀ w', Cl C st.bx st.vc st.nid st.m V w' → condP st.rho p = true → (execOp a.eval o).run P w' = .ok (.value (den V s)) w' := by
        rintro w' ⟨V', D', ha, hW⟩ hc
        obtain ⟨s', e, hr⟩ := qOp_sound (satOf ha hW) hp (o := o) rfl hdet
        subst e
        rw [hr hc, den_agree ha hs]
      cases hc : condP st.rho p with
      | true =>
        simp only [if_true]
        refine ⟨den V s, fun w' hw' => ?_, ?_⟩
        · unfold Oper.quietAt
          rw [hrun w' hw' hc]
          exact ⟨rfl, rfl⟩
        · have e0 : den V s = den V0 s := (den_agree ha0 hs).symm
          obtain ⟨h1, h2⟩ := doneG hS0 hR hLi hoi hd hit hp hs (v := den V s) (by rw [hc, e0]; rfl) (isMove o.op)
          obtain ⟨h3, h4⟩ := back h1 (heqG _ _ _ _)
          exact hn _ _ hK h3 h4 (heqG _ _ _ _) h2
      | false =>
        simp only [Bool.false_eq_true, if_false]
        obtain ⟨h1, h2⟩ := doneG hS0 hR hLi hoi hd hit hp hs (v := undef) (by rw [hc]; rfl) (isMove o.op)
        obtain ⟨h3, h4⟩ := back h1 (heqG _ _ _ _)
        exact hn _ _ hK h3 h4 (heqG _ _ _ _) h2
    · rename_i F st' p' q'
      cases q'
      obtain ⟨y, hy, hB, hK⟩ := withO_some h
      cases hc : condP st.rho p with
      | true =>
        simp only [if_true]
        obtain ⟨f, args, ts, ho, hf⟩ := opK_pure hq
        obtain ⟨hok, hFF⟩ := hpu f F hf
        rw [ho] at hy
        simp only [callArgs, Option.bind_eq_some_iff] at hy
        obtain ⟨vals, ⟨ss, hss, hvals⟩, hy⟩ := hy
        refine ⟨y.2, ?_, ?_⟩
        · rintro w' ⟨V', D', ha, hW⟩
          have hS' := satOf ha hW
          have hrun := run_call (w := w') (a := a) ho rfl hok
          unfold Oper.quietAt
          rw [hrun]
          refine ⟨rfl, ?_⟩
          have hargs : args.map a.eval = ⟨(vals.map SV.v).map (den V')⟩ := by
            apply Array.ext'
            rw [Array.toList_map, rdOs_sound hS' hp hc hss, plainSs_den hvals]
            simp only [List.map_map]
            exact (List.map_id'' (fun x => rfl) vals).symm
          rw [hargs]
          refine (hFF vals y hy (hB hc) st.m V' w' D' hW.wf hW.mle ⟨fun b hb => (by cases hb), fun b hb => (by cases hb), by simp [blks], by simp⟩).mono fun e w2 ⟨r, V2, D2, H', m', he, h1, h2, h3, h4, h5, h6, h7, h8, h9, hr, hH⟩ => ?_
          subst he
          subst hr
          exact ⟨rfl, V', D2, ha, hW.quiet h1 h5 h7⟩
        · obtain ⟨h1, h2⟩ := doneP (i := i) hS0 hR hd hit hp (s := .v y.2) trivial (v := y.2) (fun _ => rfl)
          obtain ⟨h3, h4⟩ := back h1 (heqs _ _ _)
          exact hn _ _ hK h3 h4 (heqs _ _ _) h2
      | false =>
        simp only [Bool.false_eq_true, if_false]
        obtain ⟨h1, h2⟩ := doneP (i := i) hS0 hR hd hit hp (s := .v y.2) trivial (v := undef) (fun e => by rw [hc] at e; cases e)
        obtain ⟨h3, h4⟩ := back h1 (heqs _ _ _)
        exact hn _ _ hK h3 h4 (heqs _ _ _) h2
    · rw [hq] at hna; cases hna
  · cases h
theorem vcQ_sound (hpu : PureOk c P) {C : Ctx} {V : Vl} {w0 : World} {bx : List Bx} {vc : List Vc} {nid : Nat} {m : Mem} (hcl0 : Cl C bx vc nid m V w0) {K : LS → Prop} {Q : Act → Prop}
    (hQ : ∀ st' a', K (clean st') → SatF n st'.env st'.rho a' V → (∀ e ∈ st'.env, okS nid vc e.s) → st'.bx = bx ∧ st'.vc = vc ∧ st'.nid = nid ∧ st'.m = m → Q a') :
    ∀ (l : List Oper) (i : Nat) (st : LS) (a : Act), vcLx c P l i K st → SatF n st.env st.rho a V → (∀ e ∈ st.env, okS nid vc e.s) → st.bx = bx ∧ st.vc = vc ∧ st.nid = nid ∧ st.m = m → RInv ops (· < i) st.rho →
      (∀ j, l[j]? = ops[i + j]?) → (∀ o ∈ l, dstOk n o = true ∧ notAc (opK c o.op) = true) → wpQuiet P ops (Cl C bx vc nid m V) Q l a
  | [], i, st, a, h, hF, hids, he, hR, hl, hd => hQ _ _ h hF hids he
  | o :: r, i, st, a, h, hF, hids, he, hR, hl, hd => by
    obtain ⟨p, hp, h⟩ := withO_some h
    have hoi : ops[i]? = some o := by have := hl 0; simpa using this.symm
    obtain ⟨rfl, rfl, rfl, rfl⟩ := he
    unfold wpQuiet
    refine one_quiet hF hids hcl0 hpu hR (Nat.lt_irrefl _) hoi (hd o (List.mem_cons_self ..)).1 (hd o (List.mem_cons_self ..)).2 hp h fun st' a' hK hF' hids' he' hR' => ?_
    exact vcQ_sound hpu hcl0 hQ r (i + 1) st' a' hK hF' hids' he' (hR'.mono fun k hk => by omega) (fun j => by have := hl (j + 1); simpa [Nat.add_assoc, Nat.add_comm 1 j] using this) (fun o ho => hd o (List.mem_cons_of_mem _ ho))
/-- A REGION THAT DRAWS ITS ORDER AND ONLY READS. -/
theorem WP_drawQ (hpu : PureOk c P) {id : Nat} {l : List Oper} {Q : Exit → LS → Prop} {st : LS} (hm : P.follows .mixedOrders = true) (hB : Region.lexB .any ⟨l⟩ = true) (hd : l.all (fun o => dstOk n o && notAc (opK c o.op)) = true)
    (h : vcL (.mk (k := (c, P, 0, l, Q .normal)) st)) : WPv (.mk (k := (P, n, .region id ⟨l⟩ true, Q)) st) := by
  rintro C a w ⟨hrho, V, D, hS⟩
  have hcl : Cl C st.bx st.vc st.nid st.m V { w with drawn := w.drawn + 1 } := ⟨V, D, Agree.refl _ _ _, hS.w.drew _⟩
  refine wp_region_quiet (C := Cl C st.bx st.vc st.nid st.m V) hm hB hcl ?_
  refine vcQ_sound (ops := ⟨l⟩) hpu hcl (K := Q .normal) ?_ l 0 st a h hS.f hS.ids ⟨rfl, rfl, rfl, rfl⟩ ?_ (fun j => by simp) (fun o ho => ?_)
  · rintro st' a' hK hF' hids' ⟨e1, e2, e3, e4⟩ w' ⟨V', D', ha, hW⟩
    refine ⟨clean st', ?_, hK⟩
    have hS' : Sat C n st' a' V' D' w' := ⟨hF'.agree hids' ha, by rw [e2, e3]; exact hids', by rw [e1, e2, e3, e4]; exact hW⟩
    exact clean_sound hS'
  · rw [hrho]; intro g hg; cases hg
  · have := List.all_eq_true.1 hd o ho
    simpa using this
end

/-! Functions of values, listed. -/
def lkF : List (FuncId × (List Value → Option (Prop × Value))) → FuncId → Option (List Value → Option (Prop × Value))
  | [], _ => none
  | (g, F) :: r, f => if g = f then some F else lkF r f
def mkCf (own : FuncId → Bool) (L : List (FuncId × (List Value → Option (Prop × Value)))) : Cfg := ⟨own, lkF L⟩
attribute [go_sem] lkF.eq_1 lkF.eq_2 mkCf.eq_1
theorem pure_nil {P : Program} {own : FuncId → Bool} : PureOk (mkCf own []) P := fun f F h => by cases h
theorem pure_cons {P : Program} {own : FuncId → Bool} {L : List (FuncId × (List Value → Option (Prop × Value)))} {g : FuncId} {F : List Value → Option (Prop × Value)} (hok : fnOk P g = true)
    (h : ∀ vals y, F vals = some y → y.1 → ∀ m, FnH P g (vals.map SV.v) ⟨[], []⟩ m (fun r H' _ => r = .v y.2 ∧ H' = ⟨[], []⟩)) (hL : PureOk (mkCf own L) P) : PureOk (mkCf own ((g, F) :: L)) P := by
  intro f G hf
  simp only [mkCf, lkF] at hf
  split at hf
  · rename_i e
    subst e
    cases hf
    exact ⟨hok, h⟩
  · exact hL f G hf
end Go.Proofs.YtmkifodpkcmgoaaDoor.E

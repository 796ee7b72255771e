/- The engine, part U: into a function; the head of a loop. -/
import Derived.Test.YtmkifodpkcmgoaaDoorEngT
namespace Go.Proofs.YtmkifodpkcmgoaaDoor.E
open Go

theorem env0_lk : ∀ {l : List SV} {i t : Nat} {q : Pth} {s : SV}, lkE (env0 i l) t q = some s → i ≤ t ∧ l[t - i]? = some s
  | [], i, t, q, s, h => by simp [env0, lkE] at h
  | x :: r, i, t, q, s, h => by
    simp only [env0, lkE] at h
    split at h
    · rename_i e
      subst e
      split at h
      · cases h; exact ⟨Nat.le_refl _, by simp⟩
      · cases h
    · rename_i e
      obtain ⟨h1, h2⟩ := env0_lk h
      refine ⟨by omega, ?_⟩
      have : t - i = (t - (i + 1)) + 1 := by omega
      rw [this, List.getElem?_cons_succ]
      exact h2
theorem env0_mem : ∀ {l : List SV} {i : Nat} {e : Ev}, e ∈ env0 i l → e.p = [] ∧ e.s ∈ l
  | [], i, e, h => by simp [env0] at h
  | x :: r, i, e, h => by
    rcases List.mem_cons.1 h with rfl | h
    · exact ⟨rfl, List.mem_cons_self ..⟩
    · obtain ⟨h1, h2⟩ := env0_mem h; exact ⟨h1, List.mem_cons_of_mem _ h2⟩
theorem okSs_mem {nid : Nat} {vc : List Vc} : ∀ {l : List SV}, okSs nid vc l → ∀ s ∈ l, okS nid vc s
  | x :: r, h, s, hs => by
    rcases List.mem_cons.1 hs with rfl | hs
    · exact h.1
    · exact okSs_mem h.2 s hs
theorem topB_lt : ∀ {bx : List Bx} {b : Bx}, b ∈ bx → b.id < topB bx
  | ⟨k, t, cs⟩ :: r, b, h => by
    simp only [topB]
    rcases List.mem_cons.1 h with rfl | h
    · simp only; omega
    · have := topB_lt h; omega
theorem topV_lt : ∀ {vc : List Vc} {b : Vc}, b ∈ vc → b.id < topV vc
  | ⟨k, u, e, z, n, xs⟩ :: r, b, h => by
    simp only [topV]
    rcases List.mem_cons.1 h with rfl | h
    · simp only; omega
    · have := topV_lt h; omega

section
variable {P : Program} {c : Cfg}
theorem blks_sub {V : Vl} {bx bx' : List Bx} {vc vc' : List Vc} (hb : ∀ b ∈ bx', b ∈ bx) (hv : ∀ b ∈ vc', b ∈ vc) : ∀ g ∈ blks V ⟨bx', vc'⟩, g ∈ blks V ⟨bx, vc⟩ := fun g hg => by
  simp only [blks, List.mem_append, List.mem_map, List.mem_filterMap] at hg ⊢
  rcases hg with ⟨x, hx, e⟩ | ⟨x, hx, e⟩
  · exact .inl ⟨x, hb x hx, e⟩
  · exact .inr ⟨x, hv x hx, e⟩
theorem pickBx_mem {L : List Nat} {bx : List Bx} {b : Bx} (h : b ∈ pickBx L bx) : b ∈ bx := by
  rw [pickBx_eq, List.mem_filter] at h; exact h.1
/-- INTO A FUNCTION. -/
theorem enterW {f : FuncId} {fn : Func} {code : Code} {res : List ResultVar} {args : List SV} {H : Hp} {m : Mem} {R : SV → Hp → Mem → Prop}
    (hf : P.funcs[f]? = some fn) (hb : fn.body = some code) (hr : fn.results = ⟨res⟩) (hl : args.length ≤ fn.ntmps) (hok : okArgs args H)
    (h : WP P fn.ntmps code (endQ P res (ids0 H) R) (st0 args H m)) : FnH P f args H m R := by
  intro V w D hwf hm hH
  refine calls_of_wp hf hb ?_
  have hsz : ((⟨args.map (den V)⟩ : Array Value) ++ Array.replicate (fn.ntmps - (⟨args.map (den V)⟩ : Array Value).size) undef).size = fn.ntmps := by
    simp only [Array.size_append, List.size_toArray, List.length_map, Array.size_replicate]; omega
  have hS : Sat ⟨w, D, (· ∈ blks V H), H, V, m⟩ fn.ntmps (st0 args H m) { tmps := (⟨args.map (den V)⟩ : Array Value) ++ Array.replicate (fn.ntmps - (⟨args.map (den V)⟩ : Array Value).size) undef, defers := [] } V D w := by
    refine ⟨⟨rfl, hsz, fun e he => ?_, fun t q s hq hlk _ => ?_, fun g hg => by cases hg⟩, fun e he => okSs_mem hok.1 _ (env0_mem he).2, ?_⟩
    · rw [(env0_mem he).1]; exact wfP_nil
    · obtain ⟨_, h2⟩ := env0_lk hlk
      have hlt : t < args.length := (List.getElem?_eq_some_iff.1 h2).1
      simp only [Nat.sub_zero] at h2
      rw [Array.getElem?_append_left (by simpa using hlt)]
      simp [h2]
    · refine ⟨hH, hwf, Frm.refl _ _ _, fun b hb => .inl hb, fun b hb => ⟨rfl, ?_⟩, fun b hb => ⟨fun _ _ => rfl, ?_, verLe_self hH.uniq hb⟩, ⟨fun b hb => ⟨?_, okBxs_mem hok.2 b hb⟩, fun b hb => ?_⟩, Mem.le_refl _ hwf,
        fun b => ⟨Nat.le_refl _, fun h0 => ⟨((hm b).2 h0).1, keepObj_same rfl⟩⟩, hm⟩
      · exact Nat.lt_of_lt_of_le (topB_lt hb) (Nat.le_max_left _ _)
      · exact Nat.lt_of_lt_of_le (topV_lt hb) (Nat.le_max_right _ _)
      · exact Nat.lt_of_lt_of_le (topB_lt hb) (Nat.le_max_left _ _)
      · exact Nat.lt_of_lt_of_le (topV_lt hb) (Nat.le_max_right _ _)
  refine wp_mono (h _ _ _ ⟨rfl, V, D, hS⟩) ?_
  rintro e a2 w2 ⟨st2, ⟨hrho, V2, D2, hS2⟩, hq⟩
  have fin : ∀ l : List SV, retV P st2 res = some l → R (ret1 l) ⟨pickBx (closeIds st2.bx (idsS (ids0 H) l)) st2.bx, pickVc (closeIds st2.bx (idsS (ids0 H) l)) st2.vc⟩ st2.m →
      a2.defers = [] ∧ ∃ v, (results fn a2.tmps).run P w2 = .ok v w2 ∧ ∃ (r : SV) (V' : Vl) (D' : Nat → Nat) (H' : Hp) (m' : Mem),
      Ending.returned v = .returned (den V' r) ∧ Wf w2 D' ∧ HSat V' D' w2 H' ∧ (∀ b ∈ H.bx, V'.β b.id = V.β b.id) ∧ (∀ b ∈ H.vc, ∀ u, u ≤ b.ver → V'.γ b.id u = V.γ b.id u) ∧
      Frm (· ∈ blks V H) w D w2 D' ∧ (∀ b ∈ blks V' H', b ∈ blks V H ∨ w.heap.size ≤ b) ∧
      Mem.le ⟨w, D⟩ ⟨w2, D'⟩ ∧ m.le m' ∧ m'.le ⟨w2, D'⟩ ∧ R r H' m' := by
    intro l hl hR
    have hW := hS2.w
    refine ⟨hS2.f.defers, _, results_sound hS2 hr hl, ret1 l, V2, D2, _, st2.m, rfl, hW.wf, (split_heap _ hW.heap).app.1, fun b hb => (hW.baseB b hb).1, fun b hb => (hW.baseV b hb).1, hW.frm, fun b hb => ?_, hW.le0, hW.m0, hW.mle, hR⟩
    exact hW.own b (blks_sub (fun x hx => pickBx_mem hx) (fun x hx => (pick_mem hx).1) b hb)
  cases e with
  | normal => obtain ⟨l, hl, hR⟩ := withO_some hq; exact fin l hl hR
  | ret => obtain ⟨l, hl, hR⟩ := withO_some hq; exact fin l hl hR
  | exit id => exact hq.elim
  | goto l => exact hq.elim
  | panic ch => exact hq.elim
  | outgrown => exact hq.elim
theorem enter (cf : Cfg) (hpu : PureOk cf P) {f : FuncId} {fn : Func} {code : Code} {res : List ResultVar} {args : List SV} {H : Hp} {m : Mem} {R : SV → Hp → Mem → Prop}
    (hf : P.funcs[f]? = some fn) (hb : fn.body = some code) (hr : fn.results = ⟨res⟩) (hd : dstOkC fn.ntmps code = true) (hl : Nat.ble args.length fn.ntmps = true) (hok : okArgs args H)
    (h : vcC (.mk (k := (cf, P, fn.ntmps, code, endQ P res (ids0 H) R)) (st0 args H m))) : FnH P f args H m R :=
  enterW hf hb hr (Nat.le_of_ble_eq_true hl) hok (vcC_sound hpu hd h)
theorem FnH.mono {f : FuncId} {args : List SV} {H : Hp} {m : Mem} {R R' : SV → Hp → Mem → Prop} (h : FnH P f args H m R) (hR : ∀ r H' m', m.le m' → R r H' m' → R' r H' m') : FnH P f args H m R' :=
  fun V w D h1 h2 h3 => (h V w D h1 h2 h3).mono fun e w2 ⟨r, V', D', H', m', e1, e2, e3, e4, e5, e6, e7, e8, e9, e10, e11⟩ => ⟨r, V', D', H', m', e1, e2, e3, e4, e5, e6, e7, e8, e9, e10, hR r H' m' e9 e11⟩
theorem FnV_of {f : FuncId} {args : List SV} {H : Hp} {m : Mem} {R : SV → Hp → Mem → Prop} (h : FnH P f args H m R) : FnV (.mk (k := (P, f, R)) (args, H, m)) := h
theorem WP.mono {n : Nat} {x : Code} {Q Q' : Exit → LS → Prop} {st : LS} (h : WP P n x Q st) (hQ : ∀ e st', Q e st' → Q' e st') : WP P n x Q' st :=
  fun C a w hE => wp_mono (h C a w hE) fun e _ _ ⟨st', h1, h2⟩ => ⟨st', h1, hQ e st' h2⟩
end

/-! The head of a loop. -/
theorem mEnv_mem {st : LS} : ∀ {l : List Ev}, mEnv st l → ∀ e ∈ l, lkE st.env e.t [] = some e.s ∧ e.p = []
  | ⟨t, p, s⟩ :: r, h, e, he => by
    rcases List.mem_cons.1 he with rfl | he
    · exact ⟨h.1, h.2.1⟩
    · exact mEnv_mem h.2.2 e he
theorem mEnv_lk {st : LS} : ∀ {l : List Ev}, mEnv st l → ∀ {t : Nat} {s : SV}, lkE l t [] = some s → lkE st.env t [] = some s
  | ⟨t', p', s'⟩ :: r, h, t, s, hl => by
    simp only [lkE] at hl
    split at hl
    · rename_i e
      subst e
      split at hl
      · cases hl; exact h.1
      · cases hl
    · exact mEnv_lk h.2.2 hl
theorem lkB_none {l : List Bx} {k : Nat} (h : lkB l k = none) : ∀ b ∈ l, b.id ≠ k := by
  induction l with
  | nil => intro b hb; cases hb
  | cons x r ih =>
    obtain ⟨i', t', p'⟩ := x
    simp only [lkB] at h
    split at h
    · cases h
    · rename_i e
      intro b hb
      rcases List.mem_cons.1 hb with rfl | hb
      · exact e
      · exact ih h b hb
theorem mBx_mem {st : LS} : ∀ {l : List Bx}, mBx st l → (∀ b ∈ l, b ∈ st.bx) ∧ (l.map (·.id)).Nodup
  | [], _ => ⟨fun b hb => (by cases hb), List.nodup_nil⟩
  | ⟨k, t, cs⟩ :: r, h => by
    obtain ⟨h1, h2, h3⟩ := h
    obtain ⟨i1, i2⟩ := mBx_mem h3
    refine ⟨fun b hb => ?_, ?_⟩
    · rcases List.mem_cons.1 hb with rfl | hb
      · exact (lkB_mem h1).2
      · exact i1 b hb
    · simp only [List.map_cons, List.nodup_cons]
      refine ⟨fun hm => ?_, i2⟩
      obtain ⟨b, hb, e⟩ := List.mem_map.1 hm
      exact lkB_none h2 b hb e
theorem lkVi_mem {l : List Vc} {k : Nat} {b : Vc} (h : lkVi l k = some b) : b.id = k ∧ b ∈ l := by
  induction l with
  | nil => cases h
  | cons x r ih =>
    obtain ⟨i', u', e', z', n', x'⟩ := x
    simp only [lkVi] at h
    split at h
    · rename_i e; cases h; exact ⟨e, List.mem_cons_self ..⟩
    · exact ⟨(ih h).1, List.mem_cons_of_mem _ (ih h).2⟩
theorem lkVi_none {l : List Vc} {k : Nat} (h : lkVi l k = none) : ∀ b ∈ l, b.id ≠ k := by
  induction l with
  | nil => intro b hb; cases hb
  | cons x r ih =>
    obtain ⟨i', u', e', z', n', x'⟩ := x
    simp only [lkVi] at h
    split at h
    · cases h
    · rename_i e
      intro b hb
      rcases List.mem_cons.1 hb with rfl | hb
      · exact e
      · exact ih h b hb
theorem mVc_mem {st : LS} : ∀ {l : List Vc}, mVc st l → (∀ b ∈ l, b ∈ st.vc) ∧ (l.map (·.id)).Nodup
  | [], _ => ⟨fun b hb => (by cases hb), List.nodup_nil⟩
  | ⟨k, u, e, z, n, xs⟩ :: r, h => by
    obtain ⟨h1, h2, h3⟩ := h
    obtain ⟨i1, i2⟩ := mVc_mem h3
    refine ⟨fun b hb => ?_, ?_⟩
    · rcases List.mem_cons.1 hb with rfl | hb
      · exact (lkVi_mem h1).2
      · exact i1 b hb
    · simp only [List.map_cons, List.nodup_cons]
      refine ⟨fun hm => ?_, i2⟩
      obtain ⟨b, hb, e⟩ := List.mem_map.1 hm
      exact lkVi_none h2 b hb e
theorem verLe_iff {vc : List Vc} (hu : (vc.map (·.id)).Nodup) {k u : Nat} : verLe vc k u ↔ ∀ b ∈ vc, b.id = k → u ≤ b.ver := by
  induction vc with
  | nil => simp [verLe]
  | cons x r ih =>
    obtain ⟨i', u', e', z', n', x'⟩ := x
    simp only [List.map_cons, List.nodup_cons] at hu
    simp only [verLe]
    split
    · rename_i e
      subst e
      constructor
      · intro h b hb e
        rcases List.mem_cons.1 hb with rfl | hb
        · exact h
        · exact absurd (List.mem_map.2 ⟨b, hb, e⟩) hu.1
      · exact fun h => h _ (List.mem_cons_self ..) rfl
    · rename_i e
      rw [ih hu.2]
      constructor
      · intro h b hb e'
        rcases List.mem_cons.1 hb with rfl | hb
        · exact absurd e' e
        · exact h b hb e'
      · exact fun h b hb => h b (List.mem_cons_of_mem _ hb)
theorem nodup_inj {α β : Type} {f : α → β} : ∀ {l : List α}, (l.map f).Nodup → ∀ x ∈ l, ∀ y ∈ l, f x = f y → x = y
  | a :: r, h, x, hx, y, hy, e => by
    simp only [List.map_cons, List.nodup_cons] at h
    rcases List.mem_cons.1 hx with rfl | hx'
    · rcases List.mem_cons.1 hy with rfl | hy'
      · rfl
      · exact absurd (List.mem_map.2 ⟨y, hy', e.symm⟩) h.1
    · rcases List.mem_cons.1 hy with rfl | hy'
      · exact absurd (List.mem_map.2 ⟨x, hx', e⟩) h.1
      · exact nodup_inj h.2 x hx' y hy' e
theorem map_nodup {α β γ : Type} {f : α → β} {g : α → γ} : ∀ {l : List α}, (l.map g).Nodup → (∀ x ∈ l, ∀ y ∈ l, f x = f y → x = y) → (l.map f).Nodup
  | [], _, _ => List.nodup_nil
  | a :: r, h, hi => by
    simp only [List.map_cons, List.nodup_cons] at h ⊢
    refine ⟨fun hm => ?_, map_nodup h.2 fun x hx y hy => hi x (List.mem_cons_of_mem _ hx) y (List.mem_cons_of_mem _ hy)⟩
    obtain ⟨b, hb, e⟩ := List.mem_map.1 hm
    have := hi b (List.mem_cons_of_mem _ hb) a (List.mem_cons_self ..) e
    subst this
    exact h.1 (List.mem_map.2 ⟨b, hb, rfl⟩)
theorem filterMap_nodup {α β γ : Type} {f : α → Option β} {g : α → γ} : ∀ {l : List α}, (l.map g).Nodup → (∀ x ∈ l, ∀ y ∈ l, ∀ b, f x = some b → f y = some b → x = y) → (l.filterMap f).Nodup
  | [], _, _ => List.nodup_nil
  | a :: r, h, hi => by
    simp only [List.map_cons, List.nodup_cons] at h
    have ih := filterMap_nodup (f := f) h.2 fun x hx y hy => hi x (List.mem_cons_of_mem _ hx) y (List.mem_cons_of_mem _ hy)
    rw [List.filterMap_cons]
    split
    · exact ih
    · rename_i b hb
      refine List.nodup_cons.2 ⟨fun hm => ?_, ih⟩
      obtain ⟨x, hx, e⟩ := List.mem_filterMap.1 hm
      have := hi x (List.mem_cons_of_mem _ hx) a (List.mem_cons_self ..) b e hb
      subst this
      exact h.1 (List.mem_map.2 ⟨x, hx, rfl⟩)
theorem okEs_mem {nid : Nat} {vc : List Vc} : ∀ {l : List Ev}, okEs nid vc l → ∀ e ∈ l, okS nid vc e.s
  | ⟨t, p, s⟩ :: r, h, e, he => by
    rcases List.mem_cons.1 he with rfl | he
    · exact h.1
    · exact okEs_mem h.2 e he
theorem okHB_mem {nid : Nat} {vc : List Vc} : ∀ {l : List Bx}, okHB nid vc l → ∀ b ∈ l, b.id < nid ∧ okL nid vc b.cs
  | ⟨k, t, cs⟩ :: r, h, b, hb => by
    rcases List.mem_cons.1 hb with rfl | hb
    · exact ⟨h.1, h.2.1⟩
    · exact okHB_mem h.2.2 b hb
theorem okHV_mem {nid : Nat} : ∀ {l : List Vc}, okHV nid l → ∀ b ∈ l, b.id < nid
  | ⟨k, _, _, _, _, _⟩ :: r, h, b, hb => by
    rcases List.mem_cons.1 hb with rfl | hb
    · exact h.1
    · exact okHV_mem h.2 b hb

section
variable {C : Ctx} {n : Nat} {st st' : LS} {a : Act} {V : Vl} {D : Nat → Nat} {w : World} {P : Program} {c : Cfg}
theorem leM_le {m m' m'' : Mem} (h : leM m m') (h' : m'.le m'') : m.le m'' := by
  rcases h with rfl | h
  · exact h'
  · exact Mem.le_trans h h'
theorem Sat.weaken (hS : Sat C n st a V D w) (hM : Match st st') (hok : okHd st') (hB : ∀ b ∈ C.H0.bx, b.id < st'.nid) (hV : ∀ b ∈ C.H0.vc, b.id < st'.nid) (hm : C.m0.le st'.m) : Sat C n st' a V D w := by
  obtain ⟨h1, h2, h3, h4, h5⟩ := hM
  obtain ⟨hbs, hbu⟩ := mBx_mem h3
  obtain ⟨hvs, hvu⟩ := mVc_mem h4
  have hW := hS.w
  have hap := hW.heap.apart
  have hap' := List.nodup_append.1 hap
  refine ⟨⟨hS.f.defers, hS.f.size, fun e he => ?_, fun t q s hq hl _ => ?_, fun g hg => by rw [h2] at hg; cases hg⟩, okEs_mem hok.1, ?_⟩
  · rw [(mEnv_mem h1 e he).2]; exact wfP_nil
  · have : q = [] := by
      cases q with
      | nil => rfl
      | cons x q => obtain ⟨g, hg⟩ := hq x (List.mem_cons_self ..); rw [h2] at hg; cases hg
    subst this
    exact hS.env t [] s wfP_nil (mEnv_lk h1 hl) rfl
  · refine ⟨⟨fun b hb => hW.heap.bx b (hbs b hb), fun b hb => hW.heap.vc b (hvs b hb), ?_, hvu⟩, hW.wf, hW.frm, fun g hg => hW.own g (blks_sub hbs hvs g hg), fun b hb => ⟨(hW.baseB b hb).1, hB b hb⟩,
      fun b hb => ⟨(hW.baseV b hb).1, hV b hb, ?_⟩, ⟨okHB_mem hok.2.1, okHV_mem hok.2.2⟩, hW.le0, hm, leM_le h5 hW.mle⟩
    · refine List.nodup_append.2 ⟨?_, ?_, fun x hx y hy => ?_⟩
      · exact map_nodup hbu fun x hx y hy e => nodup_inj hap'.1 x (hbs x hx) y (hbs y hy) e
      · exact filterMap_nodup hvu fun x hx y hy b e1 e2 => blk_uniq (hvs x hx) (hvs y hy) e1 e2 hap'.2.1
      · refine hap'.2.2 x ?_ y ?_
        · obtain ⟨z, hz, e⟩ := List.mem_map.1 hx; exact List.mem_map.2 ⟨z, hbs z hz, e⟩
        · obtain ⟨z, hz, e⟩ := List.mem_filterMap.1 hy; exact List.mem_filterMap.2 ⟨z, hvs z hz, e⟩
    · refine (verLe_iff hvu).2 fun x hx e => ?_
      exact (verLe_iff hW.heap.uniq).1 (hW.baseV b hb).2.2 x (hvs x hx) e
/-- A LOOP. -/
theorem WP_loop (hpu : PureOk c P) {body : Code} {Q : Exit → LS → Prop} {X : Type} (S : X → LS) (I : X → Prop) (μ : X → Nat) (x0 : X)
    (hd : dstOkC n body = true) (hn : ∀ x, I x → st.nid ≤ (S x).nid) (hm : ∀ x, I x → leM st.m (S x).m) (hok : ∀ x, okHd (S x)) (h0 : Match st (S x0)) (hI : I x0)
    (round : ∀ x, I x → vcC (.mk (k := (c, P, n, body, thenQ (fun st' => ∃ x', Match st' (S x') ∧ I x' ∧ μ x' < μ x) Q)) (S x))) : WPv (.mk (k := (P, n, .loop body, Q)) st) := by
  rintro C a w ⟨hrho, V, D, hS⟩
  have hB : ∀ b ∈ C.H0.bx, b.id < st.nid := fun b hb => (hS.w.baseB b hb).2
  have hV : ∀ b ∈ C.H0.vc, b.id < st.nid := fun b hb => (hS.w.baseV b hb).2.1
  have hm0 : ∀ x, I x → C.m0.le (S x).m := fun x hx => by
    rcases hm x hx with e | h
    · rw [← e]; exact hS.w.m0
    · exact Mem.le_trans hS.w.m0 h
  have weak : ∀ (st1 : LS) (a1 : Act) (w1 : World) (x : X), SatE C n st1 a1 w1 → Match st1 (S x) → I x → SatE C n (S x) a1 w1 := by
    rintro st1 a1 w1 x ⟨_, V1, D1, hS1⟩ hM hx
    exact ⟨hM.2.1, V1, D1, hS1.weaken hM (hok x) (fun b hb => Nat.lt_of_lt_of_le (hB b hb) (hn x hx)) (fun b hb => Nat.lt_of_lt_of_le (hV b hb) (hn x hx)) (hm0 x hx)⟩
  refine wp_loop_ghost (fun k a w => ∃ x, I x ∧ μ x = k ∧ SatE C n (S x) a w) (μ x0) ⟨x0, hI, rfl, weak _ _ _ _ ⟨hrho, V, D, hS⟩ h0 hI⟩ ?_
  rintro k a1 w1 ⟨x, hx, rfl, hE⟩
  refine wp_mono (vcC_sound hpu hd (round x hx) C a1 w1 hE) ?_
  rintro e a2 w2 ⟨st2, hE2, hq⟩
  cases e with
  | normal =>
    obtain ⟨x', hM, hx', hlt⟩ := hq
    exact ⟨μ x', hlt, x', hx', rfl, weak _ _ _ _ hE2 hM hx'⟩
  | exit id => exact ⟨st2, hE2, hq⟩
  | goto l => exact ⟨st2, hE2, hq⟩
  | ret => exact ⟨st2, hE2, hq⟩
  | panic ch => exact ⟨st2, hE2, hq⟩
  | outgrown => exact ⟨st2, hE2, hq⟩
end
end Go.Proofs.YtmkifodpkcmgoaaDoor.E

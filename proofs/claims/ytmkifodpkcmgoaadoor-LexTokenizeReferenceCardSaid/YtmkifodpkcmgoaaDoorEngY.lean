/- The engine, part Y: regions that draw their order, walked by a plan. -/
import Derived.Test.YtmkifodpkcmgoaaDoorEngX
namespace Go.Proofs.YtmkifodpkcmgoaaDoor.E
open Go

/-- What is done in which order: 'hoist': an operation that only reads is taken first; 'alt': any of these may come up now ('ow': the hoisted ones that do not wait behind it). -/
inductive Plan where
  | done
  | stop
  | hoist (i : Nat) (r : Plan)
  | alt (j : Nat) (ow : List Nat) (r next : Plan)
/-- What a hoisted operation may read. -/
structure HX where
  i : Nat
  bx : List Bx
  vc : List Vc
  m : Mem
def lkO : List Oper → Nat → Option Oper
  | [], _ => none
  | o :: _, 0 => some o
  | _ :: r, n + 1 => lkO r n
def rdIds (st : LS) (p : Pth) : List Operand → List Nat → List Nat
  | [], acc => acc
  | x :: r, acc => rdIds1 st p r acc (rdO st p x)
where rdIds1 (st : LS) (p : Pth) (r : List Operand) (acc : List Nat) : Option SV → List Nat
  | some s => rdIds st p r (idsS acc [s])
  | none => rdIds st p r acc
def ownOf : Op → List Operand
  | .load _ a => [a]
  | .convert _ _ a => [a]
  | .fieldAddr _ a _ => [a]
  | .indexAddr _ a _ => [a]
  | .call { args := ⟨[x]⟩, .. } => [x]
  | .move _ => []
  | .assign _ => []
  | .pick _ _ _ => []
  | .nilCheck _ => []
  | .binOp _ _ _ _ _ => []
  | .unOp _ _ _ => []
  | .field _ _ _ => []
  | .index _ _ _ => []
  | .slice _ _ _ _ _ => []
  | .extract _ _ => []
  | .build _ _ => []
  | _ => []
def keepX (ow : List Nat) : List HX → List HX
  | [] => []
  | ⟨i, bx, vc, m⟩ :: r => if memN ow i = true then ⟨i, bx, vc, m⟩ :: keepX ow r else keepX ow r
def owe (st : LS) : List HX → Prop
  | [] => True
  | ⟨_, bx, vc, m⟩ :: r => mBx st bx ∧ mVc st vc ∧ leM m st.m ∧ owe st r
def hst2 {P : Program} {o : Oper} {p : Pth} {st : LS} {i : Nat} {K : LS → HX → Prop} (x : A (P, o, p, st, i, K) (OpK × Bool × Bool × List Nat)) : Prop :=
  match x with
  | .mk (_, true, false, _) => K (noteD (put st o.dst p (.v undef)) i o.dst p (isMove o.op)) ⟨i, [], [], st.m⟩
  | .mk (.qt, false, false, ks) => qOp (.mk (k := (P, o.op, fun s => okS st.nid st.vc s ∧ K (noteG (put st o.dst p s) i o.dst p (isMove o.op) s) ⟨i, pickBx ks st.bx, pickVc ks st.vc, st.m⟩)) (⟨st.env, st.rho, pickBx ks st.bx, pickVc ks st.vc, st.nid, st.m⟩, p))
  | _ => False
def hst {c : Cfg} {P : Program} {o : Oper} {i : Nat} {K : LS → HX → Prop} (x : A (c, P, o, i, K) (LS × Pth)) : Prop :=
  match x with
  | .mk (st, p) => hst2 (.mk (k := (P, o, p, st, i, K)) (opK c o.op, deadP st.rho p, hitG st.rho o.dst, rdIds st p (ownOf o.op) []))
def vcPx (c : Cfg) (P : Program) (l : List Oper) (K : LS → Prop) : Plan → List HX → LS → Prop
  | .done, _, st => K (clean st)
  | .stop, _, _ => True
  | .hoist i r, I, st => withO (.mk (k := fun o : Oper => withO (.mk (k := fun p : Pth => hst (.mk (k := (c, P, o, i, fun st' X => vcPx c P l K r (X :: I) st')) (st, p))) (pathOf st o.guard))) (lkO l i))
  | .alt j ow r nx, I, st => withO (.mk (k := fun o : Oper => withO (.mk (k := fun p : Pth => one (.mk (k := (c, P, j, o, fun st' => owe st' (keepX ow I) ∧ vcPx c P l K r (keepX ow I) st')) (st, p))) (pathOf st o.guard))) (lkO l j)) ∧ vcPx c P l K nx I st
def vcP {c : Cfg} {P : Program} {l : List Oper} {K : LS → Prop} {pl : Plan} {I : List HX} (x : A (c, P, l, K, pl, I) LS) : Prop := match x with | .mk st => vcPx c P l K pl I st

/-! Does the plan fit the region? -/
def chk (ops : Array Oper) : Plan → Nat → List Nat → Array Bool → Option (List Nat) → Bool
  | .done, _, _, listed, none => (Region.ready .any ops listed).isEmpty
  | .hoist i r, f + 1, H, listed, none => Region.free .any ops listed i && (Region.ready .any ops listed).contains i && chk ops r f (i :: H) (listed.setIfInBounds i true) none
  | .alt j ow r nx, f + 1, H, listed, none => (Region.ready .any ops listed).contains j && H.all (fun i => memN ow i || depF ops ops.size j i) &&
      chk ops r f (H.filter (memN ow)) (listed.setIfInBounds j true) none && chk ops nx (f + 1) H listed (some ((Region.ready .any ops listed).filter (· != j)))
  | .alt j ow r nx, f + 1, H, listed, some R => R.contains j && (Region.ready .any ops listed).contains j && H.all (fun i => memN ow i || depF ops ops.size j i) &&
      chk ops r f (H.filter (memN ow)) (listed.setIfInBounds j true) none && chk ops nx (f + 1) H listed (some (R.filter (· != j)))
  | .stop, _, _, _, some R => R.isEmpty
  | _, _, _, _, _ => false

section
variable {ops : Array Oper}
def AllClosed (ops : Array Oper) (listed : Array Bool) : Prop := ∀ i, Closed ops listed i
theorem ready_lt {listed : Array Bool} {j : Nat} (hj : j ∈ Region.ready .any ops listed) : j < listed.size := by
  have h := (mem_ready.1 hj).1
  rcases Nat.lt_or_ge j listed.size with h' | h'
  · exact h'
  · simp [Array.getElem?_eq_none h'] at h
theorem set_get {listed : Array Bool} {j : Nat} (hj : j < listed.size) : (listed.setIfInBounds j true).getD j false = true := by simp [hj]
theorem set_cases {listed : Array Bool} {j k : Nat} (h : (listed.setIfInBounds j true).getD k false = true) : k = j ∨ listed.getD k false = true := by
  by_cases e : j = k
  · exact .inl e.symm
  · rw [getD_set_ne false e] at h; exact .inr h
theorem AllClosed.set {listed : Array Bool} {j : Nat} (hc : AllClosed ops listed) (hj : j ∈ Region.ready .any ops listed) : AllClosed ops (listed.setIfInBounds j true) := by
  intro i k hk hd
  refine getD_set_true ?_
  rcases set_cases hk with rfl | hk
  · obtain ⟨_, o, ho, hall⟩ := mem_ready.1 hj
    obtain ⟨f, hf⟩ := hd
    cases f with
    | zero => cases hf
    | succ f =>
      simp only [depF, ho] at hf
      obtain ⟨e, he, h⟩ := List.any_eq_true.1 hf
      simp only [Bool.and_eq_true, Bool.or_eq_true, beq_iff_eq] at h
      have hl := hall e (by simpa using he) h.1
      rcases h.2 with h2 | h2
      · rw [← h2]; exact hl
      · exact hc i _ hl ⟨f, h2⟩
  · exact hc i k hk hd
theorem lkO_get : ∀ {l : List Oper} {i : Nat} {o : Oper}, lkO l i = some o → l[i]? = some o
  | [], _, _, h => by cases h
  | o :: r, 0, o', h => h
  | o :: r, n + 1, o', h => by
    simp only [lkO] at h
    simpa using lkO_get h
end

section
variable {C : Ctx} {n : Nat} {st : LS} {a : Act} {V : Vl} {D : Nat → Nat} {w : World} {P : Program} {p : Pth} {c : Cfg} {ops : Array Oper} {L : Nat → Prop} {i : Nat} {o : Oper}
/-- A hoisted operation: where it was taken. -/
structure SX where
  h : HX
  nid : Nat
  vc : List Vc
  V : Vl
def SX.cl (C : Ctx) (x : SX) (w : World) : Prop := ∃ V' D', Agree x.nid x.vc x.V V' ∧ SatW C x.h.bx x.h.vc x.nid x.h.m V' D' w
structure SX.ok (C : Ctx) (st : LS) (V : Vl) (x : SX) : Prop where
  step : Step x.nid x.vc st.nid st.vc x.V V
  hd : okHd ⟨[], [], x.h.bx, x.h.vc, x.nid, x.h.m⟩
  b : ∀ b ∈ C.H0.bx, b.id < x.nid
  v : ∀ b ∈ C.H0.vc, b.id < x.nid
  m : C.m0.le x.h.m
theorem pickBx_sub {L : List Nat} : ∀ {bx : List Bx}, ∀ b ∈ pickBx L bx, b ∈ bx
  | [], _, h => h
  | ⟨k, t, cs⟩ :: r, b, h => by
    simp only [pickBx] at h
    split at h
    · rcases List.mem_cons.1 h with rfl | h
      · exact List.mem_cons_self ..
      · exact List.mem_cons_of_mem _ (pickBx_sub b h)
    · exact List.mem_cons_of_mem _ (pickBx_sub b h)
theorem SatW.pickW (h : SatW C st.bx st.vc st.nid st.m V D w) (ks : List Nat) : SatW C (pickBx ks st.bx) (pickVc ks st.vc) st.nid st.m V D w := by
  have hsp := (split_heap ks h.heap).app.1
  have hv : ∀ b ∈ pickVc ks st.vc, b ∈ st.vc := fun b hb => (pick_mem hb).1
  have hb : ∀ b ∈ pickBx ks st.bx, b ∈ st.bx := fun b hb => pickBx_sub b hb
  have hvl : ∀ {k u : Nat}, verLe st.vc k u → verLe (pickVc ks st.vc) k u := fun {k u} hh => (verLe_iff hsp.uniq).2 fun x hx e => (verLe_iff h.heap.uniq).1 hh x (hv x hx) e
  have hokA : ∀ s : SV, okA st.nid st.vc s → okA st.nid (pickVc ks st.vc) s := fun s hs => by
    cases s <;> first | exact hs | exact ⟨hs.1, hvl hs.2⟩
  have hokL : ∀ l : List SV, okL st.nid st.vc l → okL st.nid (pickVc ks st.vc) l := fun l => by
    induction l with
    | nil => exact id
    | cons s r ih => exact fun hs => ⟨hokA s hs.1, ih hs.2⟩
  exact ⟨hsp, h.wf, h.frm, fun g hg => h.own g (blks_sub hb hv g hg), h.baseB, fun b hbm => ⟨(h.baseV b hbm).1, (h.baseV b hbm).2.1, hvl (h.baseV b hbm).2.2⟩,
    ⟨fun b hbm => ⟨(h.ids.1 b (hb b hbm)).1, hokL _ (h.ids.1 b (hb b hbm)).2⟩, fun b hbm => h.ids.2 b (hv b hbm)⟩, h.le0, h.m0, h.mle⟩
theorem okHB_of {nid : Nat} {vc : List Vc} : ∀ {bx : List Bx}, (∀ b ∈ bx, b.id < nid ∧ okL nid vc b.cs) → okHB nid vc bx
  | [], _ => trivial
  | ⟨k, t, cs⟩ :: r, h => ⟨(h ⟨k, t, cs⟩ (List.mem_cons_self ..)).1, (h ⟨k, t, cs⟩ (List.mem_cons_self ..)).2, okHB_of fun b hb => h b (List.mem_cons_of_mem _ hb)⟩
theorem okHV_of {nid : Nat} : ∀ {vc : List Vc}, (∀ b ∈ vc, b.id < nid) → okHV nid vc
  | [], _ => trivial
  | ⟨k, _, _, _, _, _⟩ :: r, h => ⟨h _ (List.mem_cons_self ..), okHV_of fun b hb => h b (List.mem_cons_of_mem _ hb)⟩
theorem hst_sound (hS : Sat C n st a V D w) (hR : RInv ops L st.rho) (hLi : ¬ L i) (hoi : ops[i]? = some o) (hd : dstOk n o = true) (hpath : pathOf st o.guard = some p) {K : LS → HX → Prop} (h : hst (.mk (k := (c, P, o, i, K)) (st, p))) :
    ∃ (v : Value) (x : SX) (st' : LS), x.h.i = i ∧ YW P ops (x.cl C) o v a ∧ x.cl C w ∧ x.ok C st' V ∧ st'.nid = st.nid ∧ st'.vc = st.vc ∧ K st' x.h ∧ Sat C n st' (a.put o.dst v) V D w ∧ RInv ops (fun k => L k ∨ k = i) st'.rho := by
  obtain ⟨hp, hw⟩ := path_sound hS hR hpath
  have hokx : ∀ ks, okHd ⟨[], [], pickBx ks st.bx, pickVc ks st.vc, st.nid, st.m⟩ := fun ks => by
    have := (hS.w.pickW ks).ids
    exact ⟨trivial, okHB_of this.1, okHV_of this.2⟩
  have hB : ∀ b ∈ C.H0.bx, b.id < st.nid := fun b hb => (hS.w.baseB b hb).2
  have hV : ∀ b ∈ C.H0.vc, b.id < st.nid := fun b hb => (hS.w.baseV b hb).2.1
  simp only [hst] at h
  unfold hst2 at h
  split at h
  · rename_i ks q
    simp only [A.mk.injEq, Prod.mk.injEq] at q
    obtain ⟨hq, hdead, hit, _⟩ := q
    have hc := deadP_not hdead
    obtain ⟨h1, h2⟩ := doneD hS hR hLi hoi hd hit hp hc (isMove o.op)
    have hcl := hS.w.pickW []
    have e1 : pickBx [] st.bx = [] := by
      generalize st.bx = l
      induction l with
      | nil => rfl
      | cons x r ih => obtain ⟨_, _, _⟩ := x; simp only [pickBx, List.contains_nil, Bool.false_eq_true, if_false]; exact ih
    have e2 : pickVc [] st.vc = [] := by
      generalize st.vc = l
      induction l with
      | nil => rfl
      | cons x r ih => obtain ⟨_, _, _, _, _, _⟩ := x; simp only [pickVc, List.contains_nil, Bool.false_eq_true, if_false]; exact ih
    rw [e1, e2] at hcl
    have hh := hokx []
    rw [e1, e2] at hh
    refine ⟨undef, ⟨⟨i, [], [], st.m⟩, st.nid, st.vc, V⟩, _, rfl, .inr ⟨by rw [hw]; exact hc, rfl⟩, ⟨V, D, Agree.refl _ _ _, hcl⟩, ⟨Step.same noteD_same.1 noteD_same.2 V, hh, hB, hV, hS.w.m0⟩, noteD_same.1, noteD_same.2, h, h1, h2⟩
  · rename_i ks q
    simp only [A.mk.injEq, Prod.mk.injEq] at q
    obtain ⟨hq, hdead, hit, hks⟩ := q
    obtain ⟨s, ⟨hs, hK⟩, hdet⟩ := qOp_det _ h
    have hids : ∀ e ∈ st.env, okS st.nid st.vc e.s := hS.ids
    have hvl : ∀ {k u : Nat}, verLe st.vc k u → verLe (pickVc ks st.vc) k u := fun {k u} hh =>
      (verLe_iff (hS.w.pickW ks).heap.uniq).2 fun x hx e => (verLe_iff hS.w.heap.uniq).1 hh x (pick_mem hx).1 e
    have satOf : ∀ {V' : Vl} {D' : Nat → Nat} {w' : World}, Agree st.nid st.vc V V' → SatW C (pickBx ks st.bx) (pickVc ks st.vc) st.nid st.m V' D' w' →
        Sat C n ⟨st.env, st.rho, pickBx ks st.bx, pickVc ks st.vc, st.nid, st.m⟩ a V' D' w' := fun ha hW =>
      ⟨hS.f.agree hids ha, fun e he => okS_mono (Nat.le_refl _) (fun k u _ hh => hvl hh) (hids e he), hW⟩
    have hrun : ∀ w', (SX.cl C ⟨⟨i, pickBx ks st.bx, pickVc ks st.vc, st.m⟩, st.nid, st.vc, V⟩ w') → condP st.rho p = true → (execOp a.eval o).run P w' = .ok (.value (den V s)) w' := by
      rintro w' ⟨V', D', ha, hW⟩ hc
      obtain ⟨s', e, hr⟩ := qOp_sound (satOf ha hW) hp (o := o) rfl hdet
      subst e
      rw [hr hc, den_agree ha hs]
    refine ⟨if condP st.rho p = true then den V s else undef, ⟨⟨i, pickBx ks st.bx, pickVc ks st.vc, st.m⟩, st.nid, st.vc, V⟩, _, rfl, ?_, ⟨V, D, Agree.refl _ _ _, hS.w.pickW ks⟩, ⟨Step.same noteG_same.1 noteG_same.2 V, hokx ks, hB, hV, hS.w.m0⟩, noteG_same.1, noteG_same.2, hK, doneG hS hR hLi hoi hd hit hp hs rfl (isMove o.op)⟩
    cases hc : condP st.rho p with
    | true => exact .inl ⟨by rw [hw]; exact hc, fun w' hw' => by simpa using hrun w' hw' hc⟩
    | false => exact .inr ⟨by rw [hw]; exact hc, by simp⟩
  · cases h

theorem owe_mem {st : LS} : ∀ {I : List HX}, owe st I → ∀ x ∈ I, mBx st x.bx ∧ mVc st x.vc ∧ leM x.m st.m
  | [], _, _, h => by cases h
  | ⟨_, _, _, _⟩ :: r, h, x, hx => by
    rcases List.mem_cons.1 hx with rfl | hx
    · exact ⟨h.1, h.2.1, h.2.2.1⟩
    · exact owe_mem h.2.2.2 x hx
theorem keepX_map {ow : List Nat} : ∀ {S : List SX}, keepX ow (S.map (·.h)) = (S.filter fun x => memN ow x.h.i).map (·.h)
  | [] => rfl
  | x :: r => by
    obtain ⟨⟨i, bx, vc, m⟩, nid, vc', V⟩ := x
    simp only [List.map_cons, keepX, List.filter_cons]
    split
    · rw [keepX_map]; rfl
    · exact keepX_map
theorem filt_map {ow : List Nat} {S : List SX} : (S.filter fun x => memN ow x.h.i).map (·.h.i) = (S.map (·.h.i)).filter (memN ow) := by
  rw [List.filter_map]; rfl
theorem mBx_st {st st' : LS} (e : st'.bx = st.bx) : ∀ {l : List Bx}, mBx st l → mBx st' l
  | [], _ => trivial
  | ⟨_, _, _⟩ :: _, h => ⟨by rw [e]; exact h.1, h.2.1, mBx_st e h.2.2⟩
theorem mVc_st {st st' : LS} (e : st'.vc = st.vc) : ∀ {l : List Vc}, mVc st l → mVc st' l
  | [], _ => trivial
  | ⟨_, _, _, _, _, _⟩ :: _, h => ⟨by rw [e]; exact h.1, h.2.1, mVc_st e h.2.2⟩
/-- Behind an operation that acts, the class of what was hoisted still holds. -/
theorem SX.still {x : SX} (hx : x.ok C st V) (hS : Sat C n st a V D w) (h1 : mBx st x.h.bx) (h2 : mVc st x.h.vc) (h3 : leM x.h.m st.m) : x.cl C w := by
  have hF : Sat C n ⟨[], [], st.bx, st.vc, st.nid, st.m⟩ a V D w :=
    ⟨⟨hS.f.defers, hS.f.size, fun e he => (by cases he), fun t q s _ hl _ => (by cases hl), fun g hg => (by cases hg)⟩, fun e he => (by cases he), hS.w⟩
  have hM : Match ⟨[], [], st.bx, st.vc, st.nid, st.m⟩ ⟨[], [], x.h.bx, x.h.vc, x.nid, x.h.m⟩ := by
    refine ⟨trivial, rfl, ?_, ?_, h3⟩
    · exact mBx_st (st := st) (st' := ⟨[], [], st.bx, st.vc, st.nid, st.m⟩) rfl h1
    · exact mVc_st (st := st) (st' := ⟨[], [], st.bx, st.vc, st.nid, st.m⟩) rfl h2
  exact ⟨V, D, hx.step.agr, (hF.weaken hM hx.hd hx.b hx.v hx.m).w⟩

theorem alt_one (hpu : PureOk c P) {l : List Oper} {K : LS → Prop} {Q : Exit → Act → World → Prop} {listed : Array Bool} {S : List SX} {j f : Nat} {ow : List Nat} {r : Plan} (hdst : ∀ o ∈ l, dstOk n o = true)
    (hj : j ∈ Region.ready .any ⟨l⟩ listed) (hH : (S.map (·.h.i)).all (fun i => memN ow i || depF ⟨l⟩ l.length j i) = true)
    (h : withO (.mk (k := fun o : Oper => withO (.mk (k := fun p : Pth => one (.mk (k := (c, P, j, o, fun st' => owe st' (keepX ow (S.map (·.h))) ∧ vcPx c P l K r (keepX ow (S.map (·.h))) st')) (st, p))) (pathOf st o.guard))) (lkO l j)))
    (hS : Sat C n st a V D w) (hR : RInv ⟨l⟩ (fun k => listed.getD k false = true) st.rho) (hX : ∀ x ∈ S, x.ok C st V ∧ x.cl C w)
    (ih : ∀ st' a' V' D' w', vcPx c P l K r ((S.filter fun x => memN ow x.h.i).map (·.h)) st' → Sat C n st' a' V' D' w' → RInv ⟨l⟩ (fun k => (listed.setIfInBounds j true).getD k false = true) st'.rho →
      (∀ x ∈ S.filter (fun x => memN ow x.h.i), x.ok C st' V' ∧ x.cl C w') → wpAnyC P ⟨l⟩ Q f (fun y => ∃ x ∈ S.filter (fun x => memN ow x.h.i), y = (x.h.i, x.cl C)) (listed.setIfInBounds j true) a' w') :
    wpOp P ⟨l⟩ Q j (fun a' w' => (∀ y, (∃ x ∈ S, y = (x.h.i, x.cl C)) → ¬ Dep ⟨l⟩ j y.1 → y.2 w') ∧ wpAnyC P ⟨l⟩ Q f (fun y => (∃ x ∈ S, y = (x.h.i, x.cl C)) ∧ ¬ Dep ⟨l⟩ j y.1) (listed.setIfInBounds j true) a' w') a w := by
  obtain ⟨o, ho, h⟩ := withO_some h
  obtain ⟨p, hp, h⟩ := withO_some h
  have hol : l[j]? = some o := lkO_get ho
  have hoi : (⟨l⟩ : Array Oper)[j]? = some o := by simpa using hol
  have hun := unlisted (mem_ready.1 hj).1
  have hnot : ∀ x ∈ S, ¬ Dep ⟨l⟩ j x.h.i → memN ow x.h.i = true := fun x hx hnd => by
    have := List.all_eq_true.1 hH x.h.i (List.mem_map.2 ⟨x, hx, rfl⟩)
    rcases Bool.or_eq_true_iff.1 this with h | h
    · exact h
    · exact absurd ⟨_, h⟩ hnd
  unfold wpOp
  simp only [hoi]
  refine one_sound hS hpu hR (by rw [hun]; exact Bool.false_ne_true) hoi (hdst o (List.mem_of_getElem? hol)) hp h fun st' a' V' D' w' ⟨how, hK⟩ hS' hR' hst => ?_
  rw [keepX_map] at how hK
  have hX' : ∀ x ∈ S.filter (fun x => memN ow x.h.i), x.ok C st' V' ∧ x.cl C w' := fun x hx => by
    have hxo := (hX x (List.mem_filter.1 hx).1).1
    have hok : x.ok C st' V' := ⟨hxo.step.trans hst, hxo.hd, hxo.b, hxo.v, hxo.m⟩
    obtain ⟨h1, h2, h3⟩ := owe_mem how x.h (List.mem_map.2 ⟨x, hx, rfl⟩)
    exact ⟨hok, SX.still hok hS' h1 h2 h3⟩
  refine ⟨?_, wpAnyC_less _ _ _ ?_ _ _ _ (ih st' a' V' D' w' hK hS' (hR'.mono fun k hk => ?_) hX')⟩
  · rintro y ⟨x, hx, rfl⟩ hnd
    exact (hX' x (List.mem_filter.2 ⟨hx, hnot x hx hnd⟩)).2
  · rintro y ⟨⟨x, hx, rfl⟩, hnd⟩
    exact ⟨x, List.mem_filter.2 ⟨hx, hnot x hx hnd⟩, rfl⟩
  · rcases hk with hk | rfl
    · exact getD_set_true hk
    · exact set_get (ready_lt hj)
theorem plan_sound (hpu : PureOk c P) {l : List Oper} {K : LS → Prop} {Q : Exit → Act → World → Prop} (hQ0 : ∀ c a w, ¬ Q (.panic c) a w) (hQ : ∀ st' a' w', K st' → SatE C n st' a' w' → Q .normal a' w')
    (hsel : Region.noSelect ⟨l⟩ = true) (hdst : ∀ o ∈ l, dstOk n o = true) :
    ∀ (pl : Plan) (fuel : Nat) (listed : Array Bool) (rem : Option (List Nat)) (st : LS) (a : Act) (V : Vl) (D : Nat → Nat) (w : World) (S : List SX),
      chk ⟨l⟩ pl fuel (S.map (·.h.i)) listed rem = true → AllClosed ⟨l⟩ listed → vcPx c P l K pl (S.map (·.h)) st → Sat C n st a V D w → RInv ⟨l⟩ (fun k => listed.getD k false = true) st.rho → (∀ x ∈ S, x.ok C st V ∧ x.cl C w) →
      match rem with
      | none => wpAnyC P ⟨l⟩ Q fuel (fun y => ∃ x ∈ S, y = (x.h.i, x.cl C)) listed a w
      | some R => ∀ f, fuel = f + 1 → ∀ j ∈ R, wpOp P ⟨l⟩ Q j (fun a' w' => (∀ y, (∃ x ∈ S, y = (x.h.i, x.cl C)) → ¬ Dep ⟨l⟩ j y.1 → y.2 w') ∧ wpAnyC P ⟨l⟩ Q f (fun y => (∃ x ∈ S, y = (x.h.i, x.cl C)) ∧ ¬ Dep ⟨l⟩ j y.1) (listed.setIfInBounds j true) a' w') a w := by
  intro pl
  induction pl with
  | done =>
    intro fuel listed rem st a V D w S hc hcl h hS hR hX
    cases rem with
    | some R => simp [chk] at hc
    | none =>
      simp only [chk, List.isEmpty_iff] at hc
      have hq := hQ _ _ _ h (clean_sound hS)
      cases fuel with
      | zero => exact ⟨hc, hq⟩
      | succ f => exact ⟨fun _ => hq, by rw [hc]; intro j hj; cases hj⟩
  | stop =>
    intro fuel listed rem st a V D w S hc hcl h hS hR hX
    cases rem with
    | none => simp [chk] at hc
    | some R =>
      simp only [chk, List.isEmpty_iff] at hc
      subst hc
      intro f _ j hj
      cases hj
  | hoist i r ih =>
    intro fuel listed rem st a V D w S hc hcl h hS hR hX
    cases rem with
    | some R => cases fuel <;> simp [chk] at hc
    | none =>
      cases fuel with
      | zero => simp [chk] at hc
      | succ f =>
        simp only [chk, Bool.and_eq_true] at hc
        obtain ⟨⟨hfree, hrd⟩, hc⟩ := hc
        have hrd : i ∈ Region.ready .any ⟨l⟩ listed := by simpa using hrd
        obtain ⟨o, ho, h⟩ := withO_some h
        obtain ⟨p, hp, h⟩ := withO_some h
        have hol : l[i]? = some o := lkO_get ho
        have hoi : (⟨l⟩ : Array Oper)[i]? = some o := by simpa using hol
        have hun := unlisted (mem_ready.1 hrd).1
        obtain ⟨v, x, st', hxi, hy, hclw, hok, hn, hv, hK, hS', hR'⟩ := hst_sound hS hR (by rw [hun]; exact Bool.false_ne_true) hoi (hdst o (List.mem_of_getElem? hol)) hp h
        refine hoist hoi (Region.noSelect_spec hsel) hQ0 f _ listed a w (Region.free_spec hoi hfree) (hcl i) hrd hy hclw ?_ ?_
        · rintro y ⟨z, hz, rfl⟩
          exact (hX z hz).2
        · have := ih f (listed.setIfInBounds i true) none st' (a.put o.dst v) V D w (x :: S) (by simp only [List.map_cons, hxi]; exact hc) (hcl.set hrd) hK hS' (hR'.mono fun k hk => by
            rcases hk with hk | rfl
            · exact getD_set_true hk
            · exact set_get (ready_lt hrd)) (fun z hz => by
            rcases List.mem_cons.1 hz with rfl | hz
            · exact ⟨hok, hclw⟩
            · obtain ⟨h1, h2⟩ := hX z hz
              exact ⟨⟨by rw [hn, hv]; exact h1.step, h1.hd, h1.b, h1.v, h1.m⟩, h2⟩)
          refine wpAnyC_less _ _ _ ?_ _ _ _ this
          rintro y (rfl | ⟨z, hz, rfl⟩)
          · exact ⟨x, List.mem_cons_self .., by rw [hxi]⟩
          · exact ⟨z, List.mem_cons_of_mem _ hz, rfl⟩
  | alt j ow r nx ihr ihn =>
    intro fuel listed rem st a V D w S hc hcl h hS hR hX
    cases fuel with
    | zero => cases rem <;> simp [chk] at hc
    | succ f =>
      obtain ⟨h, hnx⟩ := h
      have key : ∀ (hj : j ∈ Region.ready .any ⟨l⟩ listed) (hH : (S.map (·.h.i)).all (fun i => memN ow i || depF ⟨l⟩ l.length j i) = true) (hcr : chk ⟨l⟩ r f ((S.map (·.h.i)).filter (memN ow)) (listed.setIfInBounds j true) none = true),
          wpOp P ⟨l⟩ Q j (fun a' w' => (∀ y, (∃ x ∈ S, y = (x.h.i, x.cl C)) → ¬ Dep ⟨l⟩ j y.1 → y.2 w') ∧ wpAnyC P ⟨l⟩ Q f (fun y => (∃ x ∈ S, y = (x.h.i, x.cl C)) ∧ ¬ Dep ⟨l⟩ j y.1) (listed.setIfInBounds j true) a' w') a w := by
        intro hj hH hcr
        refine alt_one hpu hdst hj hH h hS hR hX fun st' a' V' D' w' hK hS' hR' hX' => ?_
        exact ihr f (listed.setIfInBounds j true) none st' a' V' D' w' (S.filter fun x => memN ow x.h.i) (by rw [filt_map]; exact hcr) (hcl.set hj) hK hS' hR' hX'
      cases rem with
      | none =>
        simp only [chk, Bool.and_eq_true] at hc
        obtain ⟨⟨⟨h1, h2⟩, h3⟩, h4⟩ := hc
        have hj : j ∈ Region.ready .any ⟨l⟩ listed := by simpa using h1
        have hrest := ihn (f + 1) listed (some _) st a V D w S h4 hcl hnx hS hR hX f rfl
        refine ⟨fun h0 => (by rw [h0] at hj; cases hj), fun k hk => ?_⟩
        by_cases e : k = j
        · subst e; exact key hj h2 h3
        · exact hrest k (List.mem_filter.2 ⟨hk, by simpa using e⟩)
      | some R =>
        simp only [chk, Bool.and_eq_true] at hc
        obtain ⟨⟨⟨⟨h0, h1⟩, h2⟩, h3⟩, h4⟩ := hc
        have hj : j ∈ Region.ready .any ⟨l⟩ listed := by simpa using h1
        have hrest := ihn (f + 1) listed (some _) st a V D w S h4 hcl hnx hS hR hX f rfl
        rintro f' e k hk
        obtain rfl : f = f' := Nat.succ.inj e
        by_cases e : k = j
        · subst e; exact key hj h2 h3
        · exact hrest k (List.mem_filter.2 ⟨hk, by simpa using e⟩)
/-- A REGION THAT DRAWS ITS ORDER, by a plan. -/
theorem WP_draw (pl : Plan) (hpu : PureOk c P) {id : Nat} {l : List Oper} {Q : Exit → LS → Prop} {st : LS} (hm : P.follows .mixedOrders = true)
    (hc : (chk ⟨l⟩ pl l.length [] (Array.replicate l.length false) none && Region.noSelect ⟨l⟩ && l.all (dstOk n)) = true)
    (h : vcP (.mk (k := (c, P, l, Q .normal, pl, [])) st)) : WPv (.mk (k := (P, n, .region id ⟨l⟩ true, Q)) st) := by
  simp only [Bool.and_eq_true] at hc
  obtain ⟨⟨hc, hns⟩, hd⟩ := hc
  rintro C a w ⟨hrho, V, D, hS⟩
  refine wp_mono (Q := fun e a' w' => match e with | .normal => ∃ st', SatE C n st' a' w' ∧ Q .normal st' | _ => False) (wp_region_any hm (wpAnyC_any _ (fun y => ∃ x ∈ ([] : List SX), y = (x.h.i, x.cl C)) _ _ _ ?_)) ?_
  · refine plan_sound hpu (K := Q .normal) (fun _ _ _ h => h) (fun st' a' w' hq hE => ⟨st', hE, hq⟩) hns (fun o ho => List.all_eq_true.1 hd o ho) pl l.length (Array.replicate l.length false) none st a V D _ [] hc ?_ h
      ⟨hS.f, hS.ids, hS.w.drew _⟩ ?_ (fun x hx => by cases hx)
    · intro i k hk
      exfalso
      rcases Nat.lt_or_ge k l.length with h' | h'
      · simp [h'] at hk
      · simp [Nat.not_lt.2 h'] at hk
    · rw [hrho]; intro g hg; cases hg
  · intro e a' w' hq
    cases e with
    | normal => exact hq
    | _ => exact False.elim hq
end
section
variable {c : Cfg} {P : Program} {l : List Oper} {K : LS → Prop} {I : List HX} {st : LS}
theorem vcP_done : vcP (.mk (k := (c, P, l, K, Plan.done, I)) st) = K (clean st) := rfl
theorem vcP_stop : vcP (.mk (k := (c, P, l, K, Plan.stop, I)) st) = True := rfl
theorem vcP_hoist {i : Nat} {r : Plan} : vcP (.mk (k := (c, P, l, K, Plan.hoist i r, I)) st) =
    withO (.mk (k := fun o : Oper => withO (.mk (k := fun p : Pth => hst (.mk (k := (c, P, o, i, fun st' X => vcP (.mk (k := (c, P, l, K, r, X :: I)) st'))) (st, p))) (pathOf st o.guard))) (lkO l i)) := rfl
theorem vcP_alt {j : Nat} {ow : List Nat} {r nx : Plan} : vcP (.mk (k := (c, P, l, K, Plan.alt j ow r nx, I)) st) =
    (withO (.mk (k := fun o : Oper => withO (.mk (k := fun p : Pth => one (.mk (k := (c, P, j, o, fun st' => owe st' (keepX ow I) ∧ vcP (.mk (k := (c, P, l, K, r, keepX ow I)) st'))) (st, p))) (pathOf st o.guard))) (lkO l j)) ∧
      vcP (.mk (k := (c, P, l, K, nx, I)) st)) := rfl
end
theorem oc_str {x : ByteArray} : (Value.string x).oneCell' = true := rfl
theorem oc_int {k : IntKind} {x : Int} : (Value.int k x).oneCell' = true := rfl
theorem oc_bool {x : Bool} : (Value.bool x).oneCell' = true := rfl
theorem oc_ptr {x : Option Addr} : (Value.pointer x).oneCell' = true := rfl
theorem oc_sl {x : Option Addr} {n c : Nat} : (Value.slice x n c).oneCell' = true := rfl
attribute [go_sem] oc_str oc_int oc_bool oc_ptr oc_sl
attribute [go_sem] hst.eq_1 hst2.eq_1 hst2.eq_2 rdIds.eq_1 rdIds.eq_2 rdIds.rdIds1.eq_1 rdIds.rdIds1.eq_2 ownOf.eq_1 ownOf.eq_2 ownOf.eq_3 ownOf.eq_4 ownOf.eq_5 ownOf.eq_6 ownOf.eq_7 ownOf.eq_8 ownOf.eq_9 ownOf.eq_10 ownOf.eq_11 ownOf.eq_12 ownOf.eq_13 ownOf.eq_14 ownOf.eq_15 ownOf.eq_16 vcP_done vcP_stop vcP_hoist vcP_alt lkO.eq_1 lkO.eq_2 lkO.eq_3 keepX.eq_1 keepX.eq_2 owe.eq_1 owe.eq_2
end Go.Proofs.YtmkifodpkcmgoaaDoor.E

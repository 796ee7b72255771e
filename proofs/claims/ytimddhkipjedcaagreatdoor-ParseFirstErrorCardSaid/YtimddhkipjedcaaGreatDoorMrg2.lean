/- Several texts in one: EngQ, EngR, EngS, EngT, EngU, EngV, EngW, EngX, EngY, EngZ, Shelf, AstL, AstCard, AstRa. -/
import Derived.Laws.MakeOwn
import Derived.Deep.LoopGhost
import Derived.Deep.Quiet
import Derived.ScopeJumps
import Derived.Shelf.Strings.Builder1
import Derived.Shelf.Strings.Builder2
import Derived.Shelf.Small.Strs
import Derived.Shelf.Strings.BuilderF
import Derived.Shelf.Strings.BuilderK
import Derived.Shelf.Utf8.RuneCount
import Derived.Shelf.Strings.Builder2Cap
import Derived.Shelf.Strconv.Itoa0
import Derived.Shelf.Strconv.Itoa1
import Derived.Shelf.LaysM
import Derived.Shelf.Strconv.Itoa2
import Derived.Shelf.Strconv.Itoa3
import Derived.Shelf.Strconv.ParseIntEmpty
import Derived.Shelf.Strconv.Clone
import Derived.Shelf.Strconv.SyntaxError
import Derived.Shelf.Strconv.Lower
import Derived.Shelf.Strconv.ParseUint10
import Derived.Shelf.Strconv.ParseUint10Empty
import Derived.Shelf.Strconv.RangeError
import Derived.Shelf.Strconv.ParseUintEmpty
import Derived.Shelf.Strconv.ParseUint10b64
import Derived.Shelf.Strconv.ParseUint10b32
import Derived.Shelf.Strconv.ParseUint10b16
import Derived.Shelf.Strconv.ParseUint10b8
import Derived.Shelf.Strings.Search1
import Derived.Shelf.Strings.Search2
import Derived.Shelf.Strings.Search3
import Derived.Shelf.Strings.Count
import Derived.Shelf.Strings.Shaped
import Derived.Shelf.Strings.LastIndex
import Derived.Shelf.Strings.Prefix
import Derived.Shelf.Strings.Split
import Derived.Shelf.Strings.Replace
import Derived.Shelf.Strings.SplitShaped
import Derived.Shelf.Unicode.Decode
import Derived.Shelf.Strings.RuneCount
import Derived.Shelf.Unicode.DecodeSlow
import Derived.Shelf.Unicode.DecodeAny
import Derived.Shelf.Strings.BuilderCap
import Derived.Shelf.Slices.Turned
import Derived.Ground.PaProg
import Derived.Shelf.Path.Small
import Derived.Test.YtimddhkipjedcaaGreatDoorProg
import Derived.Lib.Join
import Derived.Test.YtimddhkipjedcaaGreatDoorRows
import Derived.Test.YtimddhkipjedcaaGreatDoorCards
import Derived.Test.YtimddhkipjedcaaGreatDoorTie
import Derived.ProofKit
import Derived.OpenShut
import Derived.LaidMore
import Derived.Lay
import Derived.SevenTiedAt
import Derived.Stop.Joined
import Derived.Stop.LaidErr
import Derived.Lib.LaidTab
import Derived.Shelf.Vars
import Derived.Deep.Slices
import Derived.Deep.DeepHandedRow
import Derived.Carry
import Derived.Test.YtimddhkipjedcaaGreatDoorMrg1
set_option linter.unusedSimpArgs false
set_option linter.unusedVariables false
set_option maxHeartbeats 4000000
set_option maxRecDepth 20000
namespace Go.Proofs.YtimddhkipjedcaaGreatDoor.E
open Go
section
variable {C : Ctx} {n : Nat} {st : LS} {a : Act} {V : Vl} {D : Nat → Nat} {w : World} {P : Program} {p : Pth} {c : Cfg}
theorem pubS_sound : ∀ (l : List SV) (K : List SV → LS → Prop) (m : Mem) (D : Nat → Nat), pubSx l K ⟨st.env, st.rho, st.bx, st.vc, st.nid, m⟩ → SatW C st.bx st.vc st.nid m V D w →
  ∃ l' m1 D1, K l' ⟨st.env, st.rho, st.bx, st.vc, st.nid, m1⟩ ∧ SatW C st.bx st.vc st.nid m1 V D1 w ∧ l'.map (den V) = l.map (den V)
 | [], K, m, D, h, hW => ⟨[], m, D, h, hW, rfl⟩
 | s :: r, K, m, D, h, hW => by
  cases s with
  | agg cs =>
   obtain ⟨cs', m1, D1, e1, e2, e3, _⟩ := pubA_sound (st := st) cs _ m D h hW
   obtain ⟨l', m2, D2, f1, f2, f3⟩ := pubS_sound r _ m1 D1 e1 e2
   exact ⟨_, m2, D2, f1, f2, by simp only [List.map_cons, f3, den_agg, e3]⟩
  | vec k u =>
   simp only [pubSx, pubAx] at h
   obtain ⟨b, hb, h⟩ := withO_some h
   obtain ⟨ad, cp, m1, D', h1, h2, h3, h4, h5⟩ := SatW.pub (st := ⟨st.env, st.rho, st.bx, st.vc, st.nid, m⟩) hW hb
   obtain ⟨l', m2, D2, f1, f2, f3⟩ := pubS_sound r _ m1 D' (h ad cp m1 h1 h2 h3) h5
   refine ⟨_, m2, D2, f1, f2, ?_⟩
   simp only [List.map_cons, List.cons_append, List.nil_append, f3]
   congr 1
   exact h4.symm
  | v x =>
   obtain ⟨l', m2, D2, f1, f2, f3⟩ := pubS_sound r _ m D h hW
   exact ⟨_, m2, D2, f1, f2, by simp only [List.map_cons, List.cons_append, List.nil_append, f3]⟩
  | box k o =>
   obtain ⟨l', m2, D2, f1, f2, f3⟩ := pubS_sound r _ m D h hW
   exact ⟨_, m2, D2, f1, f2, by simp only [List.map_cons, List.cons_append, List.nil_append, f3]⟩
  | vp k u o =>
   obtain ⟨l', m2, D2, f1, f2, f3⟩ := pubS_sound r _ m D h hW
   exact ⟨_, m2, D2, f1, f2, by simp only [List.map_cons, List.cons_append, List.nil_append, f3]⟩
  | mp k =>
   obtain ⟨l', m2, D2, f1, f2, f3⟩ := pubS_sound r _ m D h hW
   exact ⟨_, m2, D2, f1, f2, by simp only [List.map_cons, List.cons_append, List.nil_append, f3]⟩
  | mv f k o =>
   obtain ⟨l', m2, D2, f1, f2, f3⟩ := pubS_sound r _ m D h hW
   exact ⟨_, m2, D2, f1, f2, by simp only [List.map_cons, List.cons_append, List.nil_append, f3]⟩
  | tup l0 =>
   obtain ⟨l', m2, D2, f1, f2, f3⟩ := pubS_sound r _ m D h hW
   exact ⟨_, m2, D2, f1, f2, by simp only [List.map_cons, List.cons_append, List.nil_append, f3]⟩
theorem rdOs_sound (hS : Sat C n st a V D w) (hp : wfP st.rho p) (hc : condP st.rho p = true) : ∀ {l : List Operand} {ss : List SV}, rdOs st p l = some ss → l.map a.eval = ss.map (den V)
 | [], ss, h => by simp only [rdOs, Option.some.injEq] at h; subst h; rfl
 | x :: r, ss, h => by
  simp only [rdOs, Option.bind_eq_some_iff, Option.map_eq_some_iff] at h
  obtain ⟨s, hs, ss', hr, rfl⟩ := h
  simp only [List.map_cons, rdO_sound hS hp hc hs, rdOs_sound hS hp hc hr]
theorem run_call {o : Oper} {fo : Operand} {args : Array Operand} {ts : Array TypeId} {f : FuncId} (ho : o.op = .call { callee := .value fo, args, argTypes := ts }) (hf : a.eval fo = .func (.func f) #[] #[]) (hok : fnOk P f = true) :
  (execOp a.eval o).run P w = .ok (.enter f (args.map a.eval)) w := by
 unfold fnOk at hok
 split at hok
 ·rename_i fn hfn
  simp only [Bbt, Bool.not_eq_true'] at hok
  have hb : fn.body.isNone = false := by cases h : fn.body <;> simp_all
  simp only [execOp, ho, resolve, hf, Deferred.ofValue, Sem.run_bind, Sem.run_pure, Result.andThen_ok, invoke, callFunc, run_program, hfn, hok.1, hb, Bool.false_eq_true, if_false]
  simp
 ·cases hok
theorem run_callF {o : Oper} {fo : Operand} {args : Array Operand} {ts : Array TypeId} {f : FuncId} {x : Value} (ho : o.op = .call { callee := .value fo, args, argTypes := ts }) (hf : a.eval fo = .func (.func f) #[x] #[]) (hok : fnOk P f = true) :
  (execOp a.eval o).run P w = .ok (.enter f (#[x] ++ args.map a.eval)) w := by
 unfold fnOk at hok
 split at hok
 ·rename_i fn hfn
  simp only [Bbt, Bool.not_eq_true'] at hok
  have hb : fn.body.isNone = false := by cases h : fn.body <;> simp_all
  simp only [execOp, ho, resolve, hf, Deferred.ofValue, Sem.run_bind, Sem.run_pure, Result.andThen_ok, invoke, callFunc, run_program, hfn, hok.1, hb, Bool.false_eq_true, if_false]
  simp
 ·cases hok
theorem callH_sound (hS : Sat C n st a V D w) {f : FuncId} {ss : List SV} {K : SV → LS → Prop} {R : Ending → World → Prop} (h : callH (.mk (k := (P, f, K)) (st, ss)))
  (hn : ∀ s st' V' D' w', K s st' → st'.rho = st.rho → Sat C n st' a V' D' w' → Step st.nid st.vc st'.nid st'.vc V V' → R (.returned (den V' s)) w') : Calls P f ⟨ss.map (den V)⟩ w R := by
 simp only [callH, callL] at h
 obtain ⟨hin, h⟩ := h
 simp only [FnV, FnH] at h
 have hW := hS.w
 have hHin : HSat (inV (closeIds st.bx (idsS [] ss)) V) D w (hpIn st (closeIds st.bx (idsS [] ss))) := (split_heap _ hW.heap).app.1.into hin.2.2.2
 have := h (inV (closeIds st.bx (idsS [] ss)) V) w D hW.wf hW.mle hHin
 rw [den_args hin.2.2.1] at this
 refine this.mono fun e w2 ⟨r, V2, D2, H', m', he, h1, h2, h3, h4, h5, h6, h7, h8, h9, hback, hK⟩ => ?_
 obtain ⟨V3, a1, a2, a3, a4⟩ := hW.call (r := r) ⟨hin.1, hin.2.1, trivial, hin.2.2.2⟩ hback h1 h2 h3 h4 h5 h6 h7 h8 h9
 subst he
 rw [← a2]
 exact hn _ _ V3 D2 w2 hK rfl (hS.to a1 (Nat.le_add_right _ _) a4 a3) ⟨a1, Nat.le_add_right _ _, a4⟩
theorem callO_sound (hS : Sat C n st a V D w) {f : FuncId} {ss : List SV} {b : Bool} {K : SV → LS → Prop} {R : Ending → World → Prop} (h : callO (.mk (k := (P, f, st, ss, K)) b))
  (hn : ∀ s st' V' D' w', K s st' → st'.rho = st.rho → Sat C n st' a V' D' w' → Step st.nid st.vc st'.nid st'.vc V V' → R (.returned (den V' s)) w') : Calls P f ⟨ss.map (den V)⟩ w R := by
 cases b with
 | true => exact callH_sound hS h hn
 | false =>
  obtain ⟨l', m1, D1, e1, e2, e3⟩ := pubS_sound (st := st) ss _ st.m D h hS.w
  rw [← e3]
  exact callH_sound (st := ⟨st.env, st.rho, st.bx, st.vc, st.nid, m1⟩) ⟨hS.f, hS.ids, e2⟩ e1 hn
theorem appSrc_sound (hS : Sat C n st a V D w) {tx : TypeId} {sz : Nat} {y : SV} {K : Nat → List Value → Prop} (hsz : 0 < sz) (h : appSrc (.mk (k := (P, tx, sz, K)) (st, y))) : ∃ m news, K m news ∧ Src P sz tx (den V y) m news w := by
 unfold appSrc at h
 split at h
 ·rename_i st' k u q
  simp only [A.mk.injEq, Prod.mk.injEq] at q
  obtain ⟨rfl, rfl⟩ := q
  obtain ⟨e, he, h⟩ := withO_some h
  obtain ⟨b, hb, rfl, hK⟩ := withO_some h
  refine ⟨_, _, hK, ?_⟩
  obtain ⟨hv, rfl, rfl⟩ := vc_of hS hb
  obtain ⟨hn, hl, hx⟩ := own_at hv.1
  show Src P b.sz tx (Hd.val _) b.n b.xs w
  rcases Nat.eq_zero_or_pos b.n with h0 | h0
  ·have hnil : b.xs = [] := List.eq_nil_of_length_eq_zero (by rw [hl, h0, Nat.zero_mul])
   unfold Hd.val
   rw [hn, h0, hnil]
   cases ha : (V.γ b.id b.ver).a with
   | none => exact Src.ofNil w (elT_spec he) _
   | some ad => exact Src.ofSlice w (elT_spec he) ad 0 _ [] (by simp) (fun j u hu => by simp at hu) (fun u hu => by cases hu)
  ·obtain ⟨g, hg, hc⟩ := hx h0
   unfold Hd.val
   rw [hn, hg]
   exact Src.ofSlice w (elT_spec he) ⟨g, 0, none⟩ b.n _ b.xs hl (fun j u hu => by rw [add_zero_off]; exact hc j u hu) hv.2.2.2
 ·rename_i st' x m cp q
  simp only [A.mk.injEq, Prod.mk.injEq] at q
  obtain ⟨rfl, rfl⟩ := q
  obtain ⟨e, he, xs, h1, h2, hK⟩ := withO_some h
  refine ⟨_, _, hK, ?_⟩
  show Src P sz tx (.slice x m cp) m xs w
  rcases Nat.eq_zero_or_pos m with h0 | h0
  ·subst h0
   have hnil : xs = [] := List.eq_nil_of_length_eq_zero (by rw [h1.1, Nat.zero_mul])
   subst hnil
   cases x with
   | none => exact Src.ofNil w (elT_spec he) _
   | some ad => exact Src.ofSlice w (elT_spec he) ad 0 _ [] (by simp) (fun j u hu => by simp at hu) (fun u hu => by cases hu)
  ·obtain ⟨ad, rfl, hc⟩ := Rds_at hS.mle h1 h0
   exact Src.ofSlice w (elT_spec he) ad m _ xs h1.1 hc h2
 ·rename_i st' s q
  simp only [A.mk.injEq, Prod.mk.injEq] at q
  obtain ⟨rfl, rfl⟩ := q
  obtain ⟨h1, rfl, hK⟩ := h
  refine ⟨_, _, hK, ?_⟩
  rw [tl_len]
  exact Src.ofString w h1 s
 ·cases h
theorem upd_id {b : Vc} {n : Nat} {xs : List Value} : (bumpV b n xs).id = b.id ∧ (bumpV b n xs).ver = b.ver + 1 := by cases b; exact ⟨rfl, rfl⟩
theorem lApp_sound (hS : Sat C n st a V D w) {t tx e ty : TypeId} {s y : SV} {K : SV → LS → Prop} (he : elT P t = some e) (h : lApp (.mk (k := (P, e, tx, y, K)) (st, s))) :
  ∃ r st' V' D' w', (Builtin.append_ #[t, tx] ty #[den V s, den V y]).run P w = .ok (den V' r) w' ∧ K r st' ∧ st'.rho = st.rho ∧ Sat C n st' a V' D' w' ∧ Step st.nid st.vc st'.nid st'.vc V V' := by
 unfold lApp at h
 split at h
 ·rename_i st' k u q
  simp only [A.mk.injEq, Prod.mk.injEq] at q
  obtain ⟨rfl, rfl⟩ := q
  obtain ⟨b, hb, h1, h2, h3, h⟩ := withO_some h
  obtain ⟨z, hz, h4, h⟩ := withO_some h
  obtain ⟨m, news, ⟨hroom, hK⟩, hsrc⟩ := appSrc_sound hS h3 h
  obtain ⟨i, hi, hisz, hiby⟩ := info_of h3
  obtain ⟨zv, hzv, hzs⟩ := zero_of hi hz
  obtain ⟨hv, hbi, hbv⟩ := vc_of hS hb
  have hown := hv.1
  rw [hbi, hbv, h1, h2, ← hisz] at hown
  rw [← hisz] at hsrc
  obtain ⟨h', w', hrun, hown', hcase⟩ := run_append (ty := ty) (elT_spec he) hi hzv (by rw [hzs, h4, hisz]) hown hsrc (by rw [hiby]; exact hroom)
  have hbo := hv.2.2
  have hone : ∀ y' ∈ b.xs ++ news, y'.oneCell' = true := fun y' hy => (List.mem_append.1 hy).elim (hbo.2 y') (hsrc.one y')
  have hU := hS.w.updVc (w' := w') (n := b.n + m) (hd := h') (xs := b.xs ++ news) hb (Nat.mul_le_mul_right _ (Nat.le_add_right _ _))
   (by rcases hcase with ⟨rfl, _⟩ | ⟨g, cur, cur', _, _, _, rfl, _⟩ | ⟨cc, _, rfl⟩ <;> rfl)
   (by rcases hcase with ⟨rfl, _⟩ | ⟨g, cur, cur', _, _, _, rfl, _⟩ | ⟨cc, _, rfl⟩ <;> rfl)
   (by rcases hcase with ⟨rfl, _⟩ | ⟨g, cur, cur', _, _, _, rfl, _⟩ | ⟨cc, _, rfl⟩ <;> rfl)
   (by rcases hcase with ⟨rfl, _⟩ | ⟨g, cur, cur', _, _, _, rfl, _⟩ | ⟨cc, _, rfl⟩ <;> simp)
   (fun x hx hne => by
    rcases hcase with ⟨rfl, _⟩ | ⟨g, cur, cur', _, hg, _, rfl, _⟩ | ⟨cc, _, rfl⟩
    ·rfl
    ·exact setRow_other w g x _ (fun e => hne (e ▸ hg))
    ·exact heap_alloc_lt w.drew _ x hx)
   (fun x hx => by
    rcases hcase with ⟨rfl, _⟩ | ⟨g, cur, cur', _, hg, hcur, rfl, hsame⟩ | ⟨cc, _, rfl⟩
    ·exact keepObj_same rfl
    ·rw [hg] at hx
     obtain rfl : g = x := Option.some.inj hx
     rw [hcur, setRow_heap w g cur _ e _ hcur]
     exact ⟨_, _, _, rfl, fun j hj => hsame j (by rw [hisz, ← h1]; exact hj)⟩
    ·exact keepObj_same (heap_alloc_lt w.drew _ x (own_blk hown hx).2))
   (by rw [h1, h2, ← hisz]; exact hown')
   (fun x hx => by
    rcases hcase with ⟨rfl, rfl⟩ | ⟨g, cur, cur', hg', hg, _, rfl, _⟩ | ⟨cc, hg', rfl⟩
    ·exact .inl hx
    ·rw [hg'] at hx; cases hx; exact .inl hg
    ·rw [hg'] at hx; cases hx; exact .inr (Nnr _))
   hone
  obtain ⟨V', ha, hγ, hW⟩ := hU
  have hvm : ∀ k' u', k' < st.nid → verLe st.vc k' u' → verLe (updV st.vc k (bumpV b (b.n + m) (b.xs ++ news))) k' u' := fun k' u' _ => verLe_updV hb (by rw [upd_id.1]; exact hbi) (by rw [upd_id.2, hbv]; exact Nat.le_succ _) k' u'
  refine ⟨_, _, V', D, w', ?_, hK, rfl, hS.to ha (Nnr _) hvm hW, ⟨ha, Nnr _, hvm⟩⟩
  rw [show den V' (.vec k (u + 1)) = h'.val from by show Hd.val _ = _; rw [hγ]]
  exact hrun
 ·rename_i st' q
  simp only [A.mk.injEq, Prod.mk.injEq] at q
  obtain ⟨rfl, rfl⟩ := q
  obtain ⟨h3, h⟩ := h
  obtain ⟨z, hz, h4, h⟩ := withO_some h
  obtain ⟨m, news, ⟨hroom, hK⟩, hsrc⟩ := appSrc_sound hS h3 h
  obtain ⟨i, hi, hisz, hiby⟩ := info_of h3
  obtain ⟨zv, hzv, hzs⟩ := zero_of hi hz
  rw [← hisz] at hsrc
  have hown : w.ownsRow 0 e i.size (Hd.val ⟨none, 0, 0⟩) 0 [] := World.ownsRow_nil w 0 e i.size
  obtain ⟨h', w', hrun, hown', hcase⟩ := run_append (ty := ty) (elT_spec he) hi hzv (by rw [hzs, h4, hisz]) hown hsrc (by rw [hiby, Nat.zero_add]; exact hroom)
  rw [Nat.zero_add, List.nil_append, hisz] at hown'
  obtain ⟨V', ha, hγ, hW⟩ := hS.w.addVc (w' := w') (hd := h')
   (by rcases hcase with ⟨rfl, _⟩ | ⟨g, cur, cur', _, _, _, rfl, _⟩ | ⟨cc, _, rfl⟩ <;> rfl)
   (by rcases hcase with ⟨rfl, _⟩ | ⟨g, cur, cur', _, _, _, rfl, _⟩ | ⟨cc, _, rfl⟩ <;> rfl)
   (by rcases hcase with ⟨rfl, _⟩ | ⟨g, cur, cur', _, _, _, rfl, _⟩ | ⟨cc, _, rfl⟩ <;> rfl)
   (by rcases hcase with ⟨rfl, _⟩ | ⟨g, cur, cur', _, _, _, rfl, _⟩ | ⟨cc, _, rfl⟩ <;> simp)
   (fun x hx => by
    rcases hcase with ⟨rfl, _⟩ | ⟨g, cur, cur', _, hg, _, rfl, _⟩ | ⟨cc, _, rfl⟩
    ·rfl
    ·cases hg
    ·exact heap_alloc_lt w.drew _ x hx)
   hown'
   (fun x hx => by
    rcases hcase with ⟨rfl, rfl⟩ | ⟨g, cur, cur', hg', hg, _, rfl, _⟩ | ⟨cc, hg', rfl⟩
    ·cases hx
    ·cases hg
    ·rw [hg'] at hx; cases hx; exact Nnr _)
   h3 hsrc.one
  refine ⟨_, _, V', D, w', ?_, hK, rfl, hS.to ha (Nat.le_succ _) (fun k u hk hv => verLe_cons rfl k u hk hv) hW, ⟨ha, Nat.le_succ _, fun k u hk hv => verLe_cons rfl k u hk hv⟩⟩
  rw [show den V' (.vec st.nid 0) = h'.val from by show Hd.val _ = _; rw [hγ]]
  exact hrun
 ·cases h
end
theorem range_flat (z : List Value) (h : 0 < z.length) : ∀ len : Nat, (List.range (len * z.length)).map (fun i => z[i % z.length]!) = (List.replicate len z).flatten
 | 0 => by simp
 | len + 1 => by
  rw [Nat.succ_mul, List.range_add, List.map_append, range_flat z h len, List.replicate_succ', List.flatten_append]
  congr 1
  simp only [List.map_map, List.flatten_cons, List.flatten_nil, List.append_nil]
  apply List.ext_getElem?
  intro j
  simp only [List.getElem?_map, Function.comp]
  rcases Nat.lt_or_ge j z.length with hj | hj
  ·rw [List.getElem?_range hj, List.getElem?_eq_getElem hj]
   simp only [Option.map_some, Option.some.injEq, Function.comp]
   rw [Nat.add_comm, Nat.add_mul_mod_self_right, Nat.mod_eq_of_lt hj]
   simp [List.getElem!_eq_getElem?_getD, List.getElem?_eq_getElem hj]
  ·rw [List.getElem?_eq_none (by simpa using hj), List.getElem?_eq_none hj]
   rfl
theorem made_flat (z : List Value) (len : Nat) (h : 0 < z.length) : (Array.range (len * z.length)).map (fun i => (⟨z⟩ : Array Value)[i % (⟨z⟩ : Array Value).size]!) = ⟨(List.replicate len z).flatten⟩ := by
 apply Array.ext'
 rw [← range_flat z h len]
 simp
theorem flat_map {α β : Type} (f : α → β) (z : List α) (len : Nat) : ((List.replicate len z).flatten).map f = (List.replicate len (z.map f)).flatten := by
 induction len with
 | zero => rfl
 | succ k ih => simp only [List.replicate_succ, List.flatten_cons, List.map_append, ih]
theorem flat_len (z : List Value) (len : Nat) : ((List.replicate len z).flatten).length = len * z.length := by
 induction len with
 | zero => simp
 | succ k ih => simp only [List.replicate_succ, List.flatten_cons, Lla, ih, Nat.succ_mul]; omega
theorem flat_take (z : List Value) {l c : Nat} (h : l ≤ c) : ((List.replicate c z).flatten).take (l * z.length) = (List.replicate l z).flatten := by
 obtain ⟨d, rfl⟩ := Nat.exists_eq_add_of_le h
 rw [← List.replicate_append_replicate, List.flatten_append, ← flat_len z l]
 exact List.take_left
theorem flat_mem {z : List Value} {len : Nat} {u : Value} (h : u ∈ (List.replicate len z).flatten) : u ∈ z := by
 obtain ⟨l, hl, hu⟩ := List.mem_flatten.1 h
 rw [List.mem_replicate] at hl
 exact hl.2 ▸ hu
theorem okL_set1 {nid : Nat} {vc : List Vc} {c : SV} (hc : okA nid vc c) : ∀ (cs : List SV) (off : Nat), okL nid vc cs → okL nid vc (cs.set off c)
 | [], _, h => h
 | _ :: _, 0, h => ⟨hc, h.2⟩
 | _ :: cs, off + 1, h => ⟨h.1, okL_set1 hc cs off h.2⟩
theorem okL_setC {nid : Nat} {vc : List Vc} : ∀ (l cs : List SV) (off : Nat), okL nid vc l → okL nid vc cs → okL nid vc (setC cs off l)
 | [], _, _, _, h => h
 | _ :: r, _, _, hl, h => okL_setC r _ _ hl.2 (okL_set1 hl.1 _ _ h)
section
variable {C : Ctx} {n : Nat} {st : LS} {a : Act} {V : Vl} {D : Nat → Nat} {w : World} {P : Program} {p : Pth} {c : Cfg}
theorem partsS_C {sz : Nat} {st : LS} {p : Pth} {z : List SV} (hz : z.length = sz) : ∀ (l : List (Nat × Operand)) (i k : Nat) (pre cs : List SV), partsS sz st p i l = some cs → pre.length = i * sz → cs.length = k * sz → 0 < sz →
  partsC sz st p l (pre ++ (List.replicate k z).flatten) = some (pre ++ cs)
 | [], i, k, pre, cs, h, hp, hk, h0 => by
  simp only [partsS, Option.some.injEq] at h
  subst h
  have : k = 0 := by
   rcases Nat.eq_zero_or_pos k with h | h
   ·exact h
   ·have := Nat.mul_pos h h0
    simp only [Lln] at hk
    omega
  subst this
  simp [partsC]
 | (j, x) :: r, i, k, pre, cs, h, hp, hk, h0 => by
  simp only [partsS] at h
  split at h
  ·rename_i e
   subst e
   simp only [Option.bind_eq_some_iff] at h
   obtain ⟨l, hl, h⟩ := h
   split at h
   ·rename_i hls
    obtain ⟨cs', hcs, rfl⟩ := Option.map_eq_some_iff.1 h
    have hk1 : 0 < k := by
     rcases Nat.eq_zero_or_pos k with h | h
     ·subst h; simp only [Lla, Nat.zero_mul] at hk; omega
     ·exact h
    obtain ⟨k', rfl⟩ : ∃ k', k = k' + 1 := ⟨k - 1, by omega⟩
    have hfl : (List.replicate (k' + 1) z).flatten = z ++ (List.replicate k' z).flatten := by rw [List.replicate_succ, List.flatten_cons]
    have hk' : cs'.length = k' * sz := by
     rw [Nat.add_mul] at hk
     simp only [Lla, hls] at hk
     omega
    simp only [partsC]
    have hb : ((rdO st p x).bind svCells) = some l := by simpa [Option.bind_eq_some_iff] using hl
    rw [hb]
    simp only [Option.bind_some]
    rw [if_pos hls, if_pos (by rw [Lla, hp, hfl, Lla, hz]; omega)]
    rw [hfl, setC_eq _ _ _ (by rw [Lla, hp, Lla, hz, hls]; omega)]
    have e1 : (pre ++ (z ++ (List.replicate k' z).flatten)).take (j * sz) = pre := by rw [← hp]; exact List.take_left' rfl
    have e2 : (pre ++ (z ++ (List.replicate k' z).flatten)).drop (j * sz + l.length) = (List.replicate k' z).flatten := by
     rw [← List.append_assoc]
     exact List.drop_left' (by rw [Lla, hp, hz, hls])
    rw [e1, e2, partsS_C hz r (j + 1) k' (pre ++ l) cs' hcs (by rw [Lla, hp, hls, Nat.add_mul]; omega) hk' h0, List.append_assoc]
   ·cases h
  ·cases h
theorem partsG_C {sz len : Nat} {st : LS} {p : Pth} {z : List SV} {parts : List (Nat × Operand)} {cs : List SV} (hz : z.length = sz) (h0 : 0 < sz) (h : partsG sz st p parts len z (partsS sz st p 0 parts) = some cs) : partsC sz st p parts (List.replicate len z).flatten = some cs := by
 cases hs : partsS sz st p 0 parts with
 | none => rw [hs] at h; exact h
 | some cs' =>
  rw [hs] at h
  simp only [partsG] at h
  split at h
  ·rename_i hl
   cases h
   have := partsS_C hz parts 0 len [] _ hs (by simp) hl h0
   simpa using this
  ·exact h
theorem partsC_sound (hS : Sat C n st a V D w) (hp : wfP st.rho p) (hc : condP st.rho p = true) {sz : Nat} :
  ∀ (parts : List (Nat × Operand)) (cs cs' : List SV), partsC sz st p parts cs = some cs' →
   Instr.fill (fun i => some (i * sz, sz)) ⟨cs.map (denA V)⟩ (parts.map fun x => (x.1, a.eval x.2)) = some ⟨cs'.map (denA V)⟩ ∧ cs'.length = cs.length
 | [], cs, cs', h => by simp only [partsC, Option.some.injEq] at h; subst h; exact ⟨rfl, rfl⟩
 | (i, x) :: r, cs, cs', h => by
  simp only [partsC] at h
  obtain ⟨l, hl, h⟩ := bnd h
  obtain ⟨s, hs, hl⟩ := bnd hl
  split at h
  ·rename_i hsz
   split at h
   ·rename_i hfit
    have hev := rdO_sound hS hp hc hs
    have hcl := svCells_den (V := V) hl
    have hsize : (a.eval x).cells.size = l.length := by rw [hev, hcl]; simp
    obtain ⟨ih, ihl⟩ := partsC_sound hS hp hc r _ cs' h
    refine ⟨?_, by rw [ihl, setC_len]⟩
    simp only [List.map_cons, Instr.fill]
    rw [if_neg (by
     simp only [hsize, List.size_toArray, List.length_map, Bool.or_eq_true, decide_eq_true_eq, not_or, Decidable.not_not]
     exact ⟨by simpa using hsz, by omega⟩)]
    have hfold : ((a.eval x).cells.zipIdx.foldl (fun (cs : Array Value) (y : Value × Nat) => cs.setIfInBounds (i * sz + y.2) y.1) ⟨cs.map (denA V)⟩) = ⟨(setC cs (i * sz) l).map (denA V)⟩ := by
     rw [hev, hcl, ← Array.foldl_toList]
     have := fold_set (V := V) l cs (i * sz) 0
     simp only [Nat.add_zero] at this
     rw [← this]
     simp [Array.toList_zipIdx]
    rw [← ih, ← hfold]
   ·cases h
  ·cases h
theorem buildSlice_run (hS : Sat C n st a V D w) (hp : wfP st.rho p) (hc : condP st.rho p = true) {t e : TypeId} {len : Nat} {parts : Array (Nat × Operand)} {z cs : List SV}
    (he : elT P t = some e) (hz : zeroO P e = some z) (hzl : z.length = szT P e) (h0 : 0 < szT P e) (hbig : len * szT P e ≤ 16777216) (h : partsC (szT P e) st p parts.toList (List.replicate len z).flatten = some cs) :
    (Instr.buildSlice t len (parts.map fun x => (x.1, a.eval x.2))).run P w = .ok (.slice (some ⟨w.heap.size, 0, none⟩) len len) (w.alloc (.cells ⟨cs.map (denA V)⟩ e)) ∧ cs.length = len * szT P e := by
  obtain ⟨hfill, hlen⟩ := partsC_sound hS hp hc _ _ _ h
  have hlen' : cs.length = len * szT P e := by
    rw [hlen]
    have : ((List.replicate len z).flatten).length = len * z.length := by
      induction len with
      | zero => simp
      | succ k _ => simp
    rw [this, hzl]
  refine ⟨?_, hlen'⟩
  obtain ⟨zv, hzv, hzc⟩ := zeroO_spec (V := V) (w := w) hz
  have hparts : (parts.map fun x => (x.1, a.eval x.2)).toList = parts.toList.map fun x => (x.1, a.eval x.2) := by simp
  simp only [Instr.buildSlice, Sem.run_bind, run_underlying (elT_spec he), Result.andThen_ok, run_szT h0]
  rw [if_neg (by have : (2 : Nat) ^ 24 = 16777216 := by decide
                 omega)]
  rcases Nat.eq_zero_or_pos len with hl | hl
  · subst hl
    simp only [Nat.zero_mul, Array.range_zero', List.replicate_zero, List.flatten_nil] at h hfill ⊢
    have hcs : cs = [] := List.eq_nil_of_length_eq_zero (by simpa using hlen')
    subst hcs
    simp only [if_true, Sem.run_pure, Result.andThen_ok, hparts, Sem.run_bind]
    simp only [List.map_nil] at hfill
    have : (#[] : Array Nat).map (fun i => (#[] : Array Value)[i % (#[] : Array Value).size]!) = #[] := by simp
    rw [this]
    rw [hfill]
    simp [newRow]
  · have hne : ¬ len * szT P e = 0 := by have := Nat.mul_pos hl h0; omega
    rw [if_neg hne]
    simp only [Sem.run_bind, Sem.run_pure, Result.andThen_ok, hzv, hzc, hparts]
    have hmade : (Array.range (len * szT P e)).map (fun i => (⟨z.map (denA V)⟩ : Array Value)[i % (⟨z.map (denA V)⟩ : Array Value).size]!) = ⟨((List.replicate len z).flatten).map (denA V)⟩ := by
      have := made_flat (z.map (denA V)) len (by simp; omega)
      simp only [List.length_map, hzl] at this
      rw [this, flat_map]
    rw [hmade, hfill]
    simp [newRow]
theorem wp_ok {o : Oper} {v : Value} {w' : World} {next : Act → World → Prop} {Q : Exit → Act → World → Prop} (h : (execOp a.eval o).run P w = .ok (.value v) w') (hn : next (a.put o.dst v) w') : o.wp P a w next Q := by
 unfold Oper.wp; rw [h]; exact hn
theorem wp_skip' {o : Oper} {w' : World} {next : Act → World → Prop} {Q : Exit → Act → World → Prop} (h : (execOp a.eval o).run P w = .ok .skip w') (hn : next (a.put o.dst undef) w') : o.wp P a w next Q := by
 unfold Oper.wp; rw [h]; exact hn
theorem lOp_sound (hS : Sat C n st a V D w) (hp : wfP st.rho p) (hc : condP st.rho p = true) {o : Oper} {op : Op} (ho : o.op = op) {K : SV → LS → Prop} (h : lOp (.mk (k := (c, P, op, K)) (st, p)))
  {next : Act → World → Prop} {Q : Exit → Act → World → Prop} (hn : ∀ s st' V' D' w', K s st' → st'.rho = st.rho → Sat C n st' a V' D' w' → Step st.nid st.vc st'.nid st'.vc V V' → next (a.put o.dst (den V' s)) w') : o.wp P a w next Q := by
 unfold lOp at h
 split at h
 ·rename_i t st' p' q
  cases q
  obtain ⟨cs, hz, hty, hok, hK⟩ := withO_some h
  obtain ⟨zv, hzv, hzc⟩ := zeroO_spec (V := V) (w := w) hz
  obtain ⟨V', ha, hβ, hW⟩ := hS.w.addBx (t := t) (bxObj_cells hty) hok
  have hrun : (Instr.alloc t true (.tuple #[])).run P w = .ok (.pointer (some ⟨w.heap.size, 0, none⟩)) (w.alloc (.cells ⟨cs.map (denA V)⟩ t)) := by
   simp [Instr.alloc, hzv, newVar, newRow, hzc]
  refine wp_ok (v := .pointer (some ⟨w.heap.size, 0, none⟩)) (by simp only [execOp, ho]; exact exec_v hrun) ?_
  have := hn _ _ V' D _ hK rfl (hS.to ha (Nat.le_succ _) (fun _ _ _ h => h) hW) ⟨ha, Nat.le_succ _, fun _ _ _ h => h⟩
  rwa [den_box, hβ] at this
 ·rename_i t x st' p' q
  cases q
  obtain ⟨cs, hcs, hty, hok, hK⟩ := withO_some h
  obtain ⟨s, hs, hcs⟩ := bnd hcs
  obtain ⟨V', ha, hβ, hW⟩ := hS.w.addBx (t := t) (bxObj_cells hty) hok
  have hcl := svCells_den (V := V) hcs
  have hrun : (Instr.box t (den V s)).run P w = .ok (.pointer (some ⟨w.heap.size, 0, none⟩)) (w.alloc (.cells ⟨cs.map (denA V)⟩ t)) := by
   simp [Instr.box, newVar, newRow, hcl]
  refine wp_ok (v := .pointer (some ⟨w.heap.size, 0, none⟩)) (by simp only [execOp, ho, rdO_sound hS hp hc hs]; exact exec_v hrun) ?_
  have := hn _ _ V' D _ hK rfl (hS.to ha (Nat.le_succ _) (fun _ _ _ h => h) hW) ⟨ha, Nat.le_succ _, fun _ _ _ h => h⟩
  rwa [den_box, hβ] at this
 ·rename_i t x y st' p' q
  cases q
  obtain ⟨sx, hx, h1⟩ := withO_some h
  obtain ⟨cs, hcs, h2⟩ := withO_some h1
  obtain ⟨sy, hy, hcs⟩ := bnd hcs
  clear h h1
  unfold lSto at h2
  split at h2
  ·rename_i st' k off q
   simp only [A.mk.injEq, Prod.mk.injEq] at q
   obtain ⟨rfl, rfl⟩ := q
   obtain ⟨b, hb, hty, h0, hsz, hone, hok, hfit, hK⟩ := withO_some h2
   obtain ⟨hbi, hbm⟩ := lkB_mem hb
   obtain ⟨ob, hrow, hob⟩ := (hS.heap.bx b hbm).1
   have hob' := bxObj_is hty hob
   subst hob'
   rw [hbi] at hrow
   have hset : (cs.map (denA V)) = cs.map (denA V) := rfl
   have hW := hS.w.setBx (cs := setC b.cs off cs) hb hty (by
    have hbo := (hS.w.ids.1 b hbm).2
    exact okL_setC cs b.cs off hok hbo)
   have hcl := svCells_den (V := V) hcs
   have hst := run_storeCells_at P (V.β k) off b.ty (cs.map (denA V)) 0 ⟨b.cs.map (denA V)⟩ w hrow (by simp; exact hfit) (okC_one hone)
   have hrun : (Instr.storeAt t (.pointer (some ⟨V.β k, off, none⟩)) (den V sy)).run P w = .ok () (w.setRow (V.β k) ⟨(setC b.cs off cs).map (denA V)⟩) := by
    have hsize : (den V sy).cells.size = szT P t := by rw [hcl]; simpa using hsz
    simp only [Instr.storeAt, Instr.sureAddr, Sem.run_bind, Sem.run_pure, Result.andThen_ok, storeVar, run_szT h0]
    rw [if_neg (by rw [hsize]; simp)]
    rw [hcl]
    rw [setC_eq _ _ _ hfit]
    simp only [Nat.add_zero] at hst
    simp only [List.map_append, List.map_take, List.map_drop]
    rw [← List.length_map (f := denA V)]
    exact hst
   refine wp_skip' (w' := w.setRow (V.β k) ⟨(setC b.cs off cs).map (denA V)⟩) (by
    simp only [execOp, ho, rdO_sound hS hp hc hx, rdO_sound hS hp hc hy, den_box, Sem.run_bind, hrun, Result.andThen_ok, Sem.run_pure]) ?_
   exact hn _ _ V D _ hK rfl (hS.to (Agree.refl _ _ _) (Nnr _) (fun _ _ _ h => h) hW) ⟨Agree.refl _ _ _, Nnr _, fun _ _ _ h => h⟩
  ·cases h2
 ·rename_i t len parts st' p' q
  cases q
  obtain ⟨e, he, h⟩ := withO_some h
  obtain ⟨z, hz, hzl, h0, hbig, h⟩ := withO_some h
  obtain ⟨cs, hcs, h⟩ := withO_some h
  have hcs := partsG_C hzl h0 hcs
  obtain ⟨l', m1, D1, e1, e2, e3, _⟩ := pubA_sound (st := st) cs _ st.m D h hS.w
  obtain ⟨l, hl, hone, hK⟩ := withO_some e1
  have hpl := plains_den (V := V) hl
  obtain ⟨hrun, hclen⟩ := buildSlice_run hS hp hc he hz hzl h0 hbig hcs
  rw [← e3, hpl] at hrun
  have hll : l.length = len * szT P e := by
   rw [← hpl, e3, List.length_map, hclen]
  obtain ⟨V', ha, hγ, hW⟩ := SatW.addVc (w' := w.alloc (.cells ⟨l⟩ e)) (hd := ⟨some ⟨w.heap.size, 0, none⟩, len, len⟩) (e := e) (sz := szT P e) (n := len) (xs := l) e2 rfl rfl rfl (by simp) (fun b hb => heap_alloc_lt w _ b hb)
   ⟨hll, .inr ⟨w.heap.size, len, ⟨l⟩, rfl, Nat.zero_le _, heap_alloc_new w _, Nnr _, by
    have : len ≤ len * szT P e := Nat.le_mul_of_pos_right _ h0
    simp only [maxLen]; omega, by simpa using hll, by rw [← hll]; simp⟩⟩
   (fun g hg => by simp only [Hd.blk, Option.map_some, Option.some.injEq] at hg; omega) h0
   (fun u hu => by rw [← hpl] at hu; exact okC_one hone u hu)
  refine wp_ok (v := .slice (some ⟨w.heap.size, 0, none⟩) len len) (by simp only [execOp, ho]; exact exec_v hrun) ?_
  have := hn _ _ V' D1 _ hK rfl (Sat.to (st := ⟨st.env, st.rho, st.bx, st.vc, st.nid, m1⟩) ⟨hS.f, hS.ids, e2⟩ ha (Nat.le_succ _) (fun k u hk hv => verLe_cons rfl k u hk hv) hW) ⟨ha, Nat.le_succ _, fun k u hk hv => verLe_cons rfl k u hk hv⟩
  rwa [show den V' (.vec st.nid 0) = .slice (some ⟨w.heap.size, 0, none⟩) len len from by show Hd.val _ = _; rw [hγ]; rfl] at this
 ·rename_i x y t tx st' p' q
  cases q
  obtain ⟨sx, hx, h⟩ := withO_some h
  obtain ⟨sy, hy, h⟩ := withO_some h
  obtain ⟨e, he, h⟩ := withO_some h
  obtain ⟨r, st', V', D', w', hrun, hK, hrho, hS', ha⟩ := lApp_sound (ty := o.type) hS he h
  rw [← rdO_sound hS hp hc hx, ← rdO_sound hS hp hc hy] at hrun
  refine wp_ok (v := den V' r) (by
   simp only [execOp, ho, resolve, Sem.run_bind, Sem.run_pure, Result.andThen_ok, invoke, builtin]
   simp only [List.map_toArray, List.map_cons, List.map_nil, hrun, Result.andThen_ok]) (hn _ _ V' D' w' hK hrho hS' ha)
 ·rename_i t l cp st' p' q
  cases q
  obtain ⟨sl, hl, h1⟩ := withO_some h
  obtain ⟨sc, hcp, h2⟩ := withO_some h1
  obtain ⟨e, he, h3⟩ := withO_some h2
  obtain ⟨z, hz, h4⟩ := withO_some h3
  clear h h1 h2 h3
  obtain ⟨zs, hzs, hz⟩ := bnd hz
  unfold lMk at h4
  split at h4
  ·rename_i st' kl l' kc c' q
   simp only [A.mk.injEq, Prod.mk.injEq] at q
   obtain ⟨rfl, rfl, rfl⟩ := q
   obtain ⟨hl0, hlc, hroom, hzl, h0, hone, hK⟩ := h4
   obtain ⟨i, hi, hisz, hiby⟩ := info_of h0
   have hzs' := hzs
   unfold zeroO at hzs'
   simp only [Option.map_eq_some_iff, Option.bind_eq_some_iff] at hzs'
   obtain ⟨zv, ⟨i', hi', hzv⟩, hzz⟩ := hzs'
   rw [hi] at hi'
   cases hi'
   have hzvc : zv.cells = ⟨z⟩ := by
    have := plains_den (V := V) hz
    rw [← hzz, map_v] at this
    rw [← this]
   have hcpos : 0 ≤ c' := by omega
   have hrun := run_make (P := P) w t e i zv (elT_spec he) hi hzv kl kc l' c' hl0 hlc (by
    have := hroom.1
    rw [← hiby] at this
    have hh : ((i.bytes * c'.toNat : Nat) : Int) ≤ 281474976710656 := by rw [Nat.mul_comm]; omega
    rw [Int.natCast_mul, Int.toNat_of_nonneg hcpos] at hh
    exact hh) (by have := hroom.2; simp only [maxLen] at this; omega)
   have hcells : madeCells zv.cells (c'.toNat * i.size) = ⟨(List.replicate c'.toNat z).flatten⟩ := by
    unfold madeCells
    rw [hzvc, hisz, ← hzl]
    exact made_flat z _ (by omega)
   rw [hcells] at hrun
   have hlen : ((List.replicate l'.toNat z).flatten).length = l'.toNat * szT P e := by rw [flat_len, hzl]
   obtain ⟨V', ha, hγ, hW⟩ := SatW.addVc (w' := w.alloc (.cells ⟨(List.replicate c'.toNat z).flatten⟩ e)) (hd := ⟨some ⟨w.heap.size, 0, none⟩, l'.toNat, c'.toNat⟩) (e := e) (sz := szT P e) (n := l'.toNat) (xs := (List.replicate l'.toNat z).flatten)
    hS.w rfl rfl rfl (by simp) (fun b hb => heap_alloc_lt w _ b hb)
    ⟨hlen, .inr ⟨w.heap.size, c'.toNat, ⟨(List.replicate c'.toNat z).flatten⟩, rfl, Nat.zero_le _, heap_alloc_new w _, by omega, hroom.2, by simp only [List.size_toArray, flat_len, hzl], by
     show ((List.replicate c'.toNat z).flatten).take (l'.toNat * szT P e) = _
     rw [← hzl]; exact flat_take z (by omega)⟩⟩
    (fun g hg => by simp only [Hd.blk, Option.map_some, Option.some.injEq] at hg; omega) h0
    (fun u hu => by
     have := okC_one (V := V) hone u
     rw [map_v] at this
     exact this (flat_mem hu))
   refine wp_ok (v := .slice (some ⟨w.heap.size, 0, none⟩) l'.toNat c'.toNat) (by
    simp only [execOp, ho, rdO_sound hS hp hc hl, rdO_sound hS hp hc hcp, den_v]
    exact exec_v hrun) ?_
   have := hn _ _ V' D _ hK rfl (hS.to ha (Nat.le_succ _) (fun k u hk hv => verLe_cons rfl k u hk hv) hW) ⟨ha, Nat.le_succ _, fun k u hk hv => verLe_cons rfl k u hk hv⟩
   rwa [show den V' (.vec st.nid 0) = .slice (some ⟨w.heap.size, 0, none⟩) l'.toNat c'.toNat from by show Hd.val _ = _; rw [hγ]; rfl] at this
  ·cases h4
 ·rename_i t st' p' q
  cases q
  obtain ⟨hmo, h⟩ := h
  obtain ⟨V', ha, hβ, hW⟩ := hS.w.addBx (t := (mapD P t).1) (cs := []) (o := .map #[] 0) (by unfold bxObj; rw [if_neg (Nat.not_lt.2 hmo.1)]; exact ⟨#[], 0, [], rfl, rfl, rfl, fun x hx => by cases hx⟩) trivial
  have hrun : (Instr.makeMap t (Option.map a.eval none)).run P w = .ok (.map (some w.heap.size)) (w.alloc (.map #[] 0)) := by
   simp [Instr.makeMap]
  refine wp_ok (v := .map (some w.heap.size)) (by simp only [execOp, ho]; exact exec_v hrun) ?_
  have := hn _ _ V' D _ h rfl (hS.to ha (Nat.le_succ _) (fun _ _ _ h => h) hW) ⟨ha, Nat.le_succ _, fun _ _ _ h => h⟩
  rwa [show den V' (.mp st.nid) = .map (some w.heap.size) from by show Value.map _ = _; rw [hβ]] at this
 ·rename_i f r st' p' q
  cases q
  obtain ⟨sr, hr, h1⟩ := withO_some h
  clear h
  unfold lMv at h1
  split at h1
  ·rename_i st' k o' q
   simp only [A.mk.injEq, Prod.mk.injEq] at q
   obtain ⟨rfl, rfl⟩ := q
   have hrun : (Instr.makeFunc (.func f) (Array.map a.eval #[r]) (Array.map a.eval #[])).run P w = .ok (den V (.mv f k o')) w := by
    have e : Array.map a.eval #[r] = #[den V (.box k o')] := by
     apply Array.ext'
     simp only [Array.toList_map, List.map_cons, List.map_nil]
     rw [rdO_sound hS hp hc hr]
    rw [e]
    simp [Instr.makeFunc]
    rfl
   refine wp_ok (v := den V (.mv f k o')) (by simp only [execOp, ho]; exact exec_v hrun) ?_
   exact hn _ _ V D _ h1 rfl (hS.to (Agree.refl _ _ _) (Nnr _) (fun _ _ _ h => h) hS.w) ⟨Agree.refl _ _ _, Nnr _, fun _ _ _ h => h⟩
  ·cases h1
 ·rename_i t m k x st' p' q
  cases q
  obtain ⟨sm, hm, h1⟩ := withO_some h
  obtain ⟨sk, hk, h2⟩ := withO_some h1
  obtain ⟨sx, hx, h3⟩ := withO_some h2
  clear h h1 h2
  unfold lMpu at h3
  split at h3
  ·rename_i st' j s v q
   simp only [A.mk.injEq, Prod.mk.injEq] at q
   obtain ⟨rfl, rfl, hpk, hpv⟩ := q
   obtain ⟨b, hb, hty, ht, hkk, hvv, h4⟩ := withO_some h3
   obtain ⟨l, hl, hK⟩ := withO_some h4
   have hbty := beq_iff_eq.1 hty
   obtain ⟨es, clk, l', e1, e2, e3, e4⟩ := mp_obj hS hb (by rw [hbty]; exact ht.1)
   rw [plains_sv hl] at e2
   subst e2
   have e4' := e4
   rw [hbty] at e4'
   obtain ⟨es', clk', hrun, hes'⟩ := update_run (P := P) (w := w) ht e1 e3 e4' (by rw [← hbty]; exact hkk) v
   rw [putE_ent] at hK
   have hlt : V.β j < w.heap.size := (Array.getElem?_eq_some_iff.1 e1).1
   have hden : ((entC (putM l' s v)).map SV.v).map (denA V) = entC (putM l' s v) := by rw [List.map_map]; exact List.map_id'' (fun _ => rfl) _
   have hokl : okL st.nid st.vc ((entC (putM l' s v)).map SV.v) := by
    generalize entC (putM l' s v) = z
    induction z with
    | nil => trivial
    | cons y z ih => exact ⟨trivial, ih⟩
   have hW := hS.w.setOb (w' := { w with heap := w.heap.setIfInBounds (V.β j) (.map es' clk') }) (o := .map es' clk') (cs := (entC (putM l' s v)).map SV.v) hb hokl
    (by unfold bxObj; rw [if_neg (Nat.not_lt.2 (by rw [hbty]; exact ht.1)), hden]; exact ⟨es', clk', _, rfl, rfl, hes', putM_ok hkk hvv e4⟩) rfl rfl rfl (by simp) (MapKept.heap_set e1).1 (fun g hg => (MapKept.heap_set e1).2 g hg)
   refine wp_skip' (w' := { w with heap := w.heap.setIfInBounds (V.β j) (.map es' clk') }) (by
    simp only [execOp, ho, rdO_sound hS hp hc hm, rdO_sound hS hp hc hk, rdO_sound hS hp hc hx, Sem.run_bind]
    rw [show den V (.mp j) = .map (some (V.β j)) from rfl, plainS_sv hpk, plainS_sv hpv, hrun]
    rfl) ?_
   exact hn _ _ V D _ hK rfl (hS.to (Agree.refl _ _ _) (Nnr _) (fun _ _ _ h => h) hW) ⟨Agree.refl _ _ _, Nnr _, fun _ _ _ h => h⟩
  ·cases h3
 ·rename_i fo args _ st' p' q
  cases q
  obtain ⟨l, hl, h1⟩ := withO_some h
  obtain ⟨sf, hf, h2⟩ := withO_some h1
  clear h h1
  unfold lCall at h2
  split at h2
  ·rename_i st' f q
   simp only [A.mk.injEq, Prod.mk.injEq] at q
   obtain ⟨rfl, rfl⟩ := q
   obtain ⟨hok, h3⟩ := h2
   have hrun := run_call (w := w) ho (rdO_sound hS hp hc hf) hok
   unfold Oper.wp
   rw [hrun]
   have hargs : args.map a.eval = ⟨l.map (den V)⟩ := by
    apply Array.ext'
    rw [Array.toList_map, rdOs_sound hS hp hc hl]
   rw [hargs]
   refine callO_sound (R := fun | .returned v, w'' => next (a.put o.dst v) w'' | .panicked chain, w'' => Q (.panic chain) a w'' | .outgrown, _ => LetsOut Q) hS h3 ?_
   intro s st' V' D' w' hK hrho hS' ha
   exact hn s st' V' D' w' hK hrho hS' ha
  ·rename_i st' f k o' q
   simp only [A.mk.injEq, Prod.mk.injEq] at q
   obtain ⟨rfl, rfl⟩ := q
   obtain ⟨hok, h3⟩ := h2
   have hrun := run_callF (w := w) ho (rdO_sound hS hp hc hf) hok
   unfold Oper.wp
   rw [hrun]
   have hargs : #[Value.pointer (some ⟨V.β k, o', none⟩)] ++ args.map a.eval = ⟨(SV.box k o' :: l).map (den V)⟩ := by
    apply Array.ext'
    simp only [Array.toList_append, Array.toList_map, rdOs_sound hS hp hc hl, List.map_cons]
    rfl
   rw [hargs]
   refine callO_sound (R := fun | .returned v, w'' => next (a.put o.dst v) w'' | .panicked chain, w'' => Q (.panic chain) a w'' | .outgrown, _ => LetsOut Q) hS h3 ?_
   intro s st' V' D' w' hK hrho hS' ha
   exact hn s st' V' D' w' hK hrho hS' ha
  ·cases h2
 ·cases h
end
def dstOk (n : Nat) (o : Oper) : Bool := match o.dst with | some d => decide (d < n) | none => true
def RInv (ops : Array Oper) (L : Nat → Prop) (rho : List Gd) : Prop := ∀ g ∈ rho, L g.i ∧ (ops[g.i]?).bind (·.dst) = some g.slot
def PureOk (c : Cfg) (P : Program) : Prop :=
 ∀ f F, c.pure f = some F → fnOk P f = true ∧ ∀ vals y, F vals = some y → y.1 → ∀ m, FnH P f (vals.map SV.v) ⟨[], []⟩ m (fun r H' _ => r = .v y.2 ∧ H' = ⟨[], []⟩)
theorem lkG_cons_ne {g : Gd} {rho : List Gd} {j : Nat} (h : g.i ≠ j) : lkG (g :: rho) j = lkG rho j := by
 obtain ⟨i, t, p, b⟩ := g
 simp only [lkG]
 rw [if_neg h]
theorem lkG_cons_eq {g : Gd} {rho : List Gd} : lkG (g :: rho) g.i = some g := by
 obtain ⟨i, t, p, b⟩ := g
 simp only [lkG, if_true]
theorem wfP_cons {g : Gd} {rho : List Gd} {p : Pth} (h : wfP rho p) : wfP (g :: rho) p := fun x hx => by
 obtain ⟨g', hg'⟩ := h x hx
 by_cases e : g.i = x.1
 ·exact ⟨g, by rw [← e]; exact lkG_cons_eq⟩
 ·exact ⟨g', by rw [lkG_cons_ne e]; exact hg'⟩
theorem gval_cons {g : Gd} {rho : List Gd} {j : Nat} {w : Bool} (h : g.i ≠ j) : gval (g :: rho) j w = gval rho j w := by
 unfold gval; rw [lkG_cons_ne h]
theorem condP_cons {g : Gd} {rho : List Gd} : ∀ {p : Pth}, (∀ x ∈ p, x.1 ≠ g.i) → condP (g :: rho) p = condP rho p
 | [], _ => rfl
 | (j, w) :: p, h => by
  simp only [condP]
  rw [gval_cons (fun e => h (j, w) (List.mem_cons_self ..) e.symm), condP_cons fun x hx => h x (List.mem_cons_of_mem _ hx)]
theorem wfP_lt {rho : List Gd} {i : Nat} (hi : ∀ g ∈ rho, g.i ≠ i) {p : Pth} (h : wfP rho p) : ∀ x ∈ p, x.1 ≠ i := fun x hx e => by
 obtain ⟨g, hg⟩ := h x hx
 obtain ⟨h1, h2⟩ := lkG_i hg
 exact hi g h2 (h1.trans e)
theorem pthEq_refl : ∀ p : Pth, pthEq p p = true
 | [] => rfl
 | (j, w) :: p => by simp only [pthEq, if_true]; exact pthEq_refl p
theorem sfx_refl : ∀ p : Pth, sfx p p = true
 | [] => rfl
 | x :: p => by simp only [sfx]; rw [if_pos (pthEq_refl _)]
theorem lkE_pth {env : List Ev} {t : Nat} {q : Pth} {s : SV} (h : lkE env t q = some s) : ∃ e ∈ env, sfx e.p q = true ∧ lkE env t e.p = some s := by
 induction env with
 | nil => cases h
 | cons x r ih =>
  obtain ⟨t', p', s'⟩ := x
  simp only [lkE] at h
  split at h
  ·rename_i ht
   split at h
   ·rename_i hsf
    refine ⟨_, List.mem_cons_self .., hsf, ?_⟩
    simp only [lkE]
    rw [if_pos ht, if_pos (sfx_refl p')]
    exact h
   ·cases h
  ·rename_i ht
   obtain ⟨e, he, h1, h2⟩ := ih h
   refine ⟨e, List.mem_cons_of_mem _ he, h1, ?_⟩
   simp only [lkE]
   rw [if_neg ht]
   exact h2
theorem hitG_slot {d : Nat} : ∀ {rho : List Gd}, hitG rho (some d) = false → ∀ g ∈ rho, g.slot ≠ d
 | [], _, _, hg => by cases hg
 | ⟨i, t, p, b⟩ :: r, h, g, hg => by
  simp only [hitG] at h
  split at h
  ·cases h
  ·rename_i hne
   rcases List.mem_cons.1 hg with rfl | hg
   ·exact hne
   ·exact hitG_slot h g hg
section
variable {C : Ctx} {n : Nat} {st : LS} {a : Act} {V : Vl} {D : Nat → Nat} {w : World} {P : Program} {p : Pth} {c : Cfg} {ops : Array Oper} {L : Nat → Prop} {i : Nat} {o : Oper}
theorem put_tmp (hS : Sat C n st a V D w) {d : Nat} (hd : d < n) (v : Value) : (a.put (some d) v).tmps[d]? = some v := by
 have := hS.f.size
 simp only [Act.put]
 rw [Array.getElem?_setIfInBounds_self_of_lt (by omega)]
theorem put_other {d t : Nat} (v : Value) (h : t ≠ d) : (a.put (some d) v).tmps[t]? = a.tmps[t]? := by
 simp only [Act.put]
 rw [Array.getElem?_setIfInBounds_ne (fun e => h e.symm)]
theorem Sat.put (hS : Sat C n st a V D w) {d : Option Nat} (hd : ∀ x, d = some x → x < n) (hit : hitG st.rho d = false) (hp : wfP st.rho p) {s : SV} (hs : okS st.nid st.vc s) {v : Value}
  (hv : condP st.rho p = true → v = den V s) : Sat C n (E.put st d p s) (a.put d v) V D w := by
 cases d with
 | none => exact hS
 | some d =>
  refine ⟨⟨hS.f.defers, by simp only [Act.put, Array.size_setIfInBounds]; exact hS.f.size, ?_, ?_, ?_⟩, ?_, hS.w⟩
  ·intro e he
   rcases List.mem_cons.1 he with rfl | he
   ·exact hp
   ·exact hS.f.pth e he
  ·intro t q s' hq hl hc
   simp only [E.put, lkE] at hl
   split at hl
   ·rename_i ht
    subst ht
    split at hl
    ·rename_i hsf
     cases hl
     rw [put_tmp hS (hd _ rfl), hv (condP_sfx hsf hc)]
    ·cases hl
   ·rename_i ht
    rw [put_other _ (fun e => ht e.symm)]
    exact hS.f.env t q s' hq hl hc
  ·intro g hg
   obtain ⟨h1, h2, h3⟩ := hS.f.rho g hg
   exact ⟨h1, h2, by rw [put_other _ (hitG_slot hit g hg)]; exact h3⟩
  ·intro e he
   rcases List.mem_cons.1 he with rfl | he
   ·exact hs
   ·exact hS.ids e he
theorem Sat.note (hS : Sat C n st a V D w) (hp : wfP st.rho p) {b : Bool} {d : Nat} (hi : ∀ g ∈ st.rho, g.i ≠ i) (ht : a.tmps[d]? = some (if condP st.rho p = true then .bool b else undef)) :
  Sat C n ⟨st.env, ⟨i, d, p, .sym b⟩ :: st.rho, st.bx, st.vc, st.nid, st.m⟩ a V D w := by
 have hc : ∀ {q : Pth}, wfP st.rho q → condP (⟨i, d, p, .sym b⟩ :: st.rho) q = condP st.rho q := fun hq => condP_cons (wfP_lt hi hq)
 refine ⟨⟨hS.f.defers, hS.f.size, fun e he => wfP_cons (hS.f.pth e he), ?_, ?_⟩, hS.ids, hS.w⟩
 ·intro t q s hq hl hcq
  obtain ⟨e, he, hsf, hl'⟩ := lkE_pth hl
  have hwe := hS.f.pth e he
  exact hS.f.env t e.p s hwe hl' (by rw [← hc hwe]; exact condP_sfx hsf hcq)
 ·intro g hg
  rcases List.mem_cons.1 hg with rfl | hg
  ·exact ⟨lkG_cons_eq, wfP_cons hp, by rw [hc hp]; exact ht⟩
  ·obtain ⟨h1, h2, h3⟩ := hS.f.rho g hg
   have := hi g hg
   exact ⟨by rw [lkG_cons_ne (fun e => this e.symm)]; exact h1, wfP_cons h2, by rw [hc h2]; exact h3⟩
/-! Forks. -/
structure Fk (st st' : LS) : Prop where
 eqs : st'.bx = st.bx ∧ st'.vc = st.vc ∧ st'.nid = st.nid ∧ st'.m = st.m
 cond : ∀ q, condP st'.rho q = condP st.rho q
 wf : ∀ q, wfP st.rho q → wfP st'.rho q
 hit : ∀ d, hitG st'.rho d = hitG st.rho d
 inv : ∀ ops (L : Nat → Prop), RInv ops L st.rho → RInv ops L st'.rho
theorem Fk.refl (st : LS) : Fk st st := ⟨⟨rfl, rfl, rfl, rfl⟩, fun _ => rfl, fun _ h => h, fun _ => rfl, fun _ _ h => h⟩
theorem Fk.trans {st st' st'' : LS} (h : Fk st st') (h' : Fk st' st'') : Fk st st'' :=
 ⟨⟨h'.eqs.1.trans h.eqs.1, h'.eqs.2.1.trans h.eqs.2.1, h'.eqs.2.2.1.trans h.eqs.2.2.1, h'.eqs.2.2.2.trans h.eqs.2.2.2⟩, fun q => (h'.cond q).trans (h.cond q), fun q x => h'.wf q (h.wf q x),
  fun d => (h'.hit d).trans (h.hit d), fun o i x => h'.inv o i (h.inv o i x)⟩
theorem Step.same {nid nid' : Nat} {vc vc' : List Vc} (h1 : nid' = nid) (h2 : vc' = vc) (V : Vl) : Step nid vc nid' vc' V V := by
 subst h1 h2; exact ⟨Agree.refl _ _ _, Nnr _, fun _ _ _ h => h⟩
theorem Step.trans {nid nid' nid'' : Nat} {vc vc' vc'' : List Vc} {V V' V'' : Vl} (h : Step nid vc nid' vc' V V') (h' : Step nid' vc' nid'' vc'' V' V'') : Step nid vc nid'' vc'' V V'' :=
 ⟨fun k hk => ⟨((h'.agr k (Nat.lt_of_lt_of_le hk h.up)).1).trans (h.agr k hk).1, fun u hu => ((h'.agr k (Nat.lt_of_lt_of_le hk h.up)).2 u (h.ver k u hk hu)).trans ((h.agr k hk).2 u hu)⟩, Nat.le_trans h.up h'.up,
  fun k u hk hu => h'.ver k u (Nat.lt_of_lt_of_le hk h.up) (h.ver k u hk hu)⟩
theorem Fk.step {st st' : LS} (h : Fk st st') (V : Vl) : Step st.nid st.vc st'.nid st'.vc V V := Step.same h.eqs.2.2.1 h.eqs.2.1 V
def fix1 (j : Nat) (x : Bool) (g : Gd) : Gd := if g.i = j then ⟨g.i, g.slot, g.p, .lit x⟩ else g
theorem fix_map {j : Nat} {x : Bool} : ∀ {rho : List Gd}, fixG rho j x = rho.map (fix1 j x)
 | [] => rfl
 | ⟨i, t, p, b⟩ :: r => by
  simp only [fixG, List.map_cons, fix1]
  split
  ·rw [fix_map]
  ·rw [fix_map]
theorem fix1_i {j : Nat} {x : Bool} (g : Gd) : (fix1 j x g).i = g.i ∧ (fix1 j x g).slot = g.slot ∧ (fix1 j x g).p = g.p := by
 unfold fix1; split <;> exact ⟨rfl, rfl, rfl⟩
theorem lk_map {f : Gd → Gd} (hf : ∀ g, (f g).i = g.i) : ∀ {rho : List Gd} (k : Nat), lkG (rho.map f) k = (lkG rho k).map f
 | [], _ => rfl
 | g :: r, k => by
  by_cases e : g.i = k
  ·subst e
   rw [lkG_cons_eq, List.map_cons, ← hf g, lkG_cons_eq]; rfl
  ·rw [lkG_cons_ne e, List.map_cons, lkG_cons_ne (by rw [hf]; exact e), lk_map hf]
theorem fix_lk {rho : List Gd} {j : Nat} {x : Bool} (k : Nat) : lkG (fixG rho j x) k = (lkG rho k).map (fix1 j x) := by
 rw [fix_map]; exact lk_map (fun g => (fix1_i g).1) k
theorem fix_mem {rho : List Gd} {j : Nat} {x : Bool} {g : Gd} (h : g ∈ fixG rho j x) : ∃ g' ∈ rho, g = fix1 j x g' := by
 rw [fix_map] at h
 obtain ⟨g', h1, h2⟩ := List.mem_map.1 h
 exact ⟨g', h1, h2.symm⟩
theorem hit_map {f : Gd → Gd} (hf : ∀ g, (f g).slot = g.slot) {d : Option Nat} : ∀ {rho : List Gd}, hitG (rho.map f) d = hitG rho d
 | [] => rfl
 | g :: r => by
  cases d with
  | none => rfl
  | some d =>
   have h1 : ∀ (g : Gd) (r : List Gd), hitG (g :: r) (some d) = if g.slot = d then true else hitG r (some d) := fun g r => by cases g; rfl
   rw [List.map_cons, h1, h1, hf, hit_map hf]
theorem fix_hit {j : Nat} {x : Bool} {d : Option Nat} {rho : List Gd} : hitG (fixG rho j x) d = hitG rho d := by
 rw [fix_map]; exact hit_map fun g => (fix1_i g).2.1
theorem fix_val {rho : List Gd} {j k : Nat} {x : Bool} {g g' : Gd} (hg : lkG rho j = some g) (hb : g.b.val = x) (hk : lkG rho k = some g') : (fix1 j x g').b.val = g'.b.val := by
 unfold fix1
 split
 ·rename_i e
  have := (lkG_i hk).1
  rw [this] at e
  subst e
  rw [hg] at hk
  cases hk
  exact hb.symm
 ·rfl
theorem fix_gval {rho : List Gd} {j k : Nat} {x u : Bool} {g : Gd} (hg : lkG rho j = some g) (hb : g.b.val = x) : gval (fixG rho j x) k u = gval rho k u := by
 unfold gval
 rw [fix_lk]
 cases hk : lkG rho k with
 | none => rfl
 | some g' => simp only [Option.map_some, fix_val hg hb hk]
theorem fix_cond {rho : List Gd} {j : Nat} {x : Bool} {g : Gd} (hg : lkG rho j = some g) (hb : g.b.val = x) : ∀ q : Pth, condP (fixG rho j x) q = condP rho q
 | [] => rfl
 | (k, u) :: q => by simp only [condP]; rw [fix_gval hg hb, fix_cond hg hb q]
theorem fix_wf {rho : List Gd} {j : Nat} {x : Bool} {q : Pth} : wfP (fixG rho j x) q ↔ wfP rho q := by
 constructor
 ·intro h y hy
  obtain ⟨g, hg⟩ := h y hy
  rw [fix_lk] at hg
  obtain ⟨g', hg', _⟩ := Option.map_eq_some_iff.1 hg
  exact ⟨g', hg'⟩
 ·intro h y hy
  obtain ⟨g, hg⟩ := h y hy
  exact ⟨_, by rw [fix_lk, hg]; rfl⟩
theorem fork_one (hS : Sat C n st a V D w) {j t : Nat} {q : Pth} {b : GB} {i' : Nat} {x : Bool} (hg : lkG st.rho j = some ⟨i', t, q, b⟩) (hb : b.val = x) :
  Sat C n ⟨⟨t, q, .v (.bool x)⟩ :: st.env, fixG st.rho j x, st.bx, st.vc, st.nid, st.m⟩ a V D w ∧ Fk st ⟨⟨t, q, .v (.bool x)⟩ :: st.env, fixG st.rho j x, st.bx, st.vc, st.nid, st.m⟩ := by
 have hc := fix_cond hg hb
 obtain ⟨hgi, hgm⟩ := lkG_i hg
 obtain ⟨h1, h2, h3⟩ := hS.f.rho _ hgm
 refine ⟨⟨⟨hS.f.defers, hS.f.size, ?_, ?_, ?_⟩, ?_, hS.w⟩, ⟨rfl, rfl, rfl, rfl⟩, hc, fun q => fix_wf.2, fun _ => fix_hit, ?_⟩
 ·intro e he
  rcases List.mem_cons.1 he with rfl | he
  ·exact fix_wf.2 h2
  ·exact fix_wf.2 (hS.f.pth e he)
 ·intro t' q' s hq hl hcq
  simp only at hq hcq
  rw [hc] at hcq
  have hq := fix_wf.1 hq
  simp only [lkE] at hl
  split at hl
  ·rename_i ht
   subst ht
   split at hl
   ·rename_i hsf
    cases hl
    simp only at h3
    rw [h3, if_pos (condP_sfx hsf hcq), hb]
    rfl
   ·cases hl
  ·exact hS.f.env t' q' s hq hl hcq
 ·intro g hg'
  obtain ⟨g0, hg0, rfl⟩ := fix_mem hg'
  obtain ⟨e1, e2, e3⟩ := hS.f.rho g0 hg0
  obtain ⟨f1, f2, f3⟩ := fix1_i (j := j) (x := x) g0
  refine ⟨by rw [f1, fix_lk, e1]; rfl, by rw [f3]; exact fix_wf.2 e2, ?_⟩
  simp only
  rw [f2, f3, hc, fix_val hg hb e1]
  exact e3
 ·intro e he
  rcases List.mem_cons.1 he with rfl | he
  ·trivial
  ·exact hS.ids e he
 ·intro ops i hR g hg
  obtain ⟨g', h1, rfl⟩ := fix_mem hg
  obtain ⟨f1, f2, f3⟩ := fix1_i (j := j) (x := x) g'
  rw [f1, f2]
  exact hR g' h1
theorem forkG_sound (hS : Sat C n st a V D w) {j : Nat} {u : Bool} {g : Gd} (hg : lkG st.rho j = some g) {dead live : LS → Prop} (h : forkG (.mk (k := (j, u, dead, live)) (st, g))) :
  ∃ st', Sat C n st' a V D w ∧ Fk st st' ∧ (gval st.rho j u = true → live st') ∧ (gval st.rho j u = false → dead st') := by
 have hv := gval_of hg (w := u)
 obtain ⟨i', t, q, b⟩ := g
 cases b with
 | lit b =>
  refine ⟨st, hS, Fk.refl st, ?_⟩
  rw [hv]
  cases u <;> cases b <;> simp_all [forkG, GB.val]
 | sym b =>
  obtain ⟨h1, h2⟩ := fork_one hS hg (x := b) rfl
  refine ⟨_, h1, h2, ?_⟩
  rw [hv]
  cases u <;> cases b <;> simp_all [forkG, GB.val]
theorem forkP_sound (hS : Sat C n st a V D w) : ∀ {p : Pth} {dead live : LS → Prop}, forkPx p dead live st → ∃ st', Sat C n st' a V D w ∧ Fk st st' ∧ (condP st.rho p = true → live st') ∧ (condP st.rho p = false → dead st')
 | [], dead, live, h => ⟨st, hS, Fk.refl st, fun _ => h, fun e => by cases e⟩
 | (j, u) :: p, dead, live, h => by
  simp only [forkPx] at h
  obtain ⟨st1, s1, f1, l1, d1⟩ := forkP_sound hS h
  cases hc : condP st.rho p with
  | false => exact ⟨st1, s1, f1, fun e => by simp [condP, hc] at e, fun _ => d1 hc⟩
  | true =>
   obtain ⟨g, hg, h'⟩ := withO_some (l1 hc)
   obtain ⟨st2, s2, f2, l2, d2⟩ := forkG_sound s1 hg h'
   have : gval st1.rho j u = gval st.rho j u := by
    have := f1.cond [(j, u)]
    simpa [condP] using this
   rw [this] at l2 d2
   exact ⟨st2, s2, f1.trans f2, fun e => l2 (by simpa [condP, hc] using e), fun e => d2 (by simpa [condP, hc] using e)⟩
/-! The guard of an operation. -/
theorem path_sound (hS : Sat C n st a V D w) (hR : RInv ops L st.rho) (h : pathOf st o.guard = some p) : wfP st.rho p ∧ Region.wanted o (yielded ops a.tmps) = condP st.rho p := by
 unfold Region.wanted
 cases hg : o.guard with
 | none => rw [hg] at h; simp only [pathOf, Option.some.injEq] at h; subst h; exact ⟨wfP_nil, rfl⟩
 | some x =>
  obtain ⟨j, u⟩ := x
  rw [hg] at h
  simp only [pathOf, Option.map_eq_some_iff] at h
  obtain ⟨g, hj, rfl⟩ := h
  obtain ⟨hi, hm⟩ := lkG_i hj
  obtain ⟨h1, h2, h3⟩ := hS.f.rho g hm
  have hslot := (hR g hm).2
  rw [hi] at hslot
  refine ⟨fun y hy => ?_, ?_⟩
  ·rcases List.mem_cons.1 hy with rfl | hy
   ·exact ⟨g, hj⟩
   ·exact h2 y hy
  ·simp only [condP, gval_of hj, yielded, hslot, Option.bind_some, h3]
   cases hc : condP st.rho g.p with
   | false => simp [undef]
   | true => cases u <;> cases g.b.val <;> simp
theorem RInv.mono {rho : List Gd} {L' : Nat → Prop} (h : RInv ops L rho) (hL : ∀ k, L k → L' k) : RInv ops L' rho := fun g hg => ⟨hL _ (h g hg).1, (h g hg).2⟩
theorem RInv.note {rho : List Gd} (h : RInv ops L rho) (hoi : ops[i]? = some o) {d : Nat} (hd : o.dst = some d) {b : GB} : RInv ops (fun k => L k ∨ k = i) (⟨i, d, p, b⟩ :: rho) := fun g hg => by
 rcases List.mem_cons.1 hg with rfl | hg
 ·exact ⟨.inr rfl, by simp only [hoi, Option.bind_some]; exact hd⟩
 ·exact ⟨.inl (h g hg).1, (h g hg).2⟩
theorem put_rho {d : Option Nat} {s : SV} : (E.put st d p s).rho = st.rho ∧ (E.put st d p s).nid = st.nid ∧ (E.put st d p s).vc = st.vc := by
 cases d <;> exact ⟨rfl, rfl, rfl⟩
theorem plainS_den {s : SV} {x : Value} (h : plainS s = some x) : den V s = x := by
 cases s with
 | v y => simp only [plainS, Option.some.injEq] at h; subst h; rfl
 | agg cs =>
  simp only [plainS, Option.map_eq_some_iff] at h
  obtain ⟨l, hl, rfl⟩ := h
  rw [den_agg, plains_den hl]
 | _ => simp [plainS] at h
theorem plainSs_den : ∀ {ss : List SV} {l : List Value}, plainSs ss = some l → ss.map (den V) = l
 | [], l, h => by simp only [plainSs, Option.some.injEq] at h; subst h; rfl
 | s :: r, l, h => by
  simp only [plainSs, Option.bind_eq_some_iff, Option.map_eq_some_iff] at h
  obtain ⟨x, hx, l', hl, rfl⟩ := h
  simp only [List.map_cons]
  rw [plainS_den hx, plainSs_den hl]
theorem SatW.quiet {bx : List Bx} {vc : List Vc} {nid : Nat} {m : Mem} (h : SatW C bx vc nid m V D w) {w2 : World} {D2 : Nat → Nat} {V1 : Vl} (wf2 : Wf w2 D2) (hfr : Frm (· ∈ blks V1 ⟨[], []⟩) w D w2 D2) (hle : Mem.le ⟨w, D⟩ ⟨w2, D2⟩) :
  SatW C bx vc nid m V D2 w2 :=
 have hb := blks_lt h.heap
 ⟨h.heap.frame (fun _ _ => ⟨rfl, rfl⟩) (fun _ _ => rfl) (fun g hg => hfr.same g (hb g hg) (by simp [blks])), wf2, h.frm.trans hfr (fun b hx => by simp [blks] at hx), h.own, h.baseB, h.baseV, h.ids,
  Mem.le_trans h.le0 hle, h.m0, Mem.le_trans h.mle hle⟩
theorem opK_pure {op : Op} {F : List Value → Option (Prop × Value)} (h : opK c op = .pu F) : ∃ f args ts, op = .call { callee := .value (.func f), args, argTypes := ts } ∧ c.pure f = some F := by
 unfold opK at h
 split at h
 all_goals first | cases h | skip
 refine ⟨_, _, _, rfl, ?_⟩
 cases hf : c.pure _ with
 | none => rw [hf] at h; cases h
 | some G => rw [hf] at h; cases h; rfl
theorem pure_sound (hS : Sat C n st a V D w) (hpu : PureOk c P) (hp : wfP st.rho p) (hc : condP st.rho p = true) {F : List Value → Option (Prop × Value)} (hk : opK c o.op = .pu F) {K : SV → Prop} (h : qCall (.mk (k := (F, und st p, K)) (rdOs st p (callArgs o.op))))
  {next : Act → World → Prop} {Q : Exit → Act → World → Prop} (hn : ∀ y D' w', K (.v y) → Sat C n st a V D' w' → next (a.put o.dst y) w') : o.wp P a w next Q := by
 obtain ⟨f, args, ts, ho, hf⟩ := opK_pure hk
 obtain ⟨hok, hF⟩ := hpu f F hf
 obtain ⟨y, hy, hB, hK⟩ := withO_some h
 rw [ho] at hy
 simp only [callArgs, Option.bind_eq_some_iff] at hy
 obtain ⟨vals, ⟨ss, hss, hvals⟩, hy⟩ := hy
 have hrun := run_call (w := w) (a := a) ho rfl hok
 unfold Oper.wp
 rw [hrun]
 have hargs : args.map a.eval = ⟨(vals.map SV.v).map (den V)⟩ := by
  apply Array.ext'
  rw [Array.toList_map, rdOs_sound hS hp hc hss, plainSs_den hvals]
  simp only [List.map_map]
  exact (List.map_id'' (fun x => rfl) vals).symm
 rw [hargs]
 refine (hF vals y hy (hB hc) st.m V w D hS.w.wf hS.w.mle ⟨fun b hb => (by cases hb), fun b hb => (by cases hb), by simp [blks], by simp⟩).mono fun e w2 ⟨r, V2, D2, H', m', he, h1, h2, h3, h4, h5, h6, h7, h8, h9, hr, hH⟩ => ?_
 subst he
 subst hr
 exact hn y.2 D2 w2 hK ⟨hS.f, hS.ids, hS.w.quiet h1 h5 h7⟩
/-! One operation. -/
theorem noteG_cases (st : LS) (i : Nat) (d : Option Nat) (p : Pth) (mv : Bool) (s : SV) : noteG st i d p mv s = st ∨ ∃ d' b, d = some d' ∧ s = .v (.bool b) ∧ noteG st i d p mv s = ⟨st.env, ⟨i, d', p, .sym b⟩ :: st.rho, st.bx, st.vc, st.nid, st.m⟩ := by
 unfold noteG
 split
 ·exact .inr ⟨_, _, rfl, rfl, rfl⟩
 ·exact .inl rfl
theorem noteD_cases (st : LS) (i : Nat) (d : Option Nat) (p : Pth) (mv : Bool) : noteD st i d p mv = st ∨ ∃ d', d = some d' ∧ noteD st i d p mv = ⟨st.env, ⟨i, d', p, .sym false⟩ :: st.rho, st.bx, st.vc, st.nid, st.m⟩ := by
 unfold noteD
 split
 ·exact .inr ⟨_, rfl, rfl⟩
 ·exact .inl rfl
theorem noteG_same {st : LS} {i : Nat} {d : Option Nat} {p : Pth} {mv : Bool} {s : SV} : (noteG (E.put st d p s) i d p mv s).nid = st.nid ∧ (noteG (E.put st d p s) i d p mv s).vc = st.vc := by
 rcases noteG_cases (E.put st d p s) i d p mv s with e | ⟨_, _, _, _, e⟩ <;> rw [e] <;> cases d <;> exact ⟨rfl, rfl⟩
theorem noteD_same {st : LS} {i : Nat} {d : Option Nat} {p : Pth} {mv : Bool} {s : SV} : (noteD (E.put st d p s) i d p mv).nid = st.nid ∧ (noteD (E.put st d p s) i d p mv).vc = st.vc := by
 rcases noteD_cases (E.put st d p s) i d p mv with e | ⟨_, _, e⟩ <;> rw [e] <;> cases d <;> exact ⟨rfl, rfl⟩
theorem dst_lt (hd : dstOk n o = true) : ∀ x, o.dst = some x → x < n := fun x hx => by
 simp only [dstOk, hx] at hd
 exact of_decide_eq_true hd
theorem doneG (hS : Sat C n st a V D w) (hR : RInv ops L st.rho) (hLi : ¬ L i) (hoi : ops[i]? = some o) (hd : dstOk n o = true) (hit : hitG st.rho o.dst = false) (hp : wfP st.rho p) {s : SV} (hs : okS st.nid st.vc s) {v : Value}
  (hv : v = if condP st.rho p = true then den V s else undef) (mv : Bool) :
  Sat C n (noteG (E.put st o.dst p s) i o.dst p mv s) (a.put o.dst v) V D w ∧ RInv ops (fun k => L k ∨ k = i) (noteG (E.put st o.dst p s) i o.dst p mv s).rho := by
 have hd' := dst_lt hd
 have h1 := Sat.put hS (V := V) hd' hit hp hs (v := v) (fun hc => by rw [hv, if_pos hc])
 rcases noteG_cases (E.put st o.dst p s) i o.dst p mv s with e | ⟨d, b, e1, e2, e⟩
 ·rw [e]; exact ⟨h1, by rw [put_rho.1]; exact hR.mono fun _ => .inl⟩
 ·rw [e]
  refine ⟨h1.note (by rw [put_rho.1]; exact hp) (by rw [put_rho.1]; exact fun g hg e => hLi (e ▸ (hR g hg).1)) ?_, by
   simp only [put_rho.1]; exact hR.note hoi e1⟩
  rw [e1, put_tmp hS (hd' _ e1), put_rho.1, hv, e2]
  rfl
theorem doneD (hS : Sat C n st a V D w) (hR : RInv ops L st.rho) (hLi : ¬ L i) (hoi : ops[i]? = some o) (hd : dstOk n o = true) (hit : hitG st.rho o.dst = false) (hp : wfP st.rho p) (hc : condP st.rho p = false) (mv : Bool) :
  Sat C n (noteD (E.put st o.dst p (.v undef)) i o.dst p mv) (a.put o.dst undef) V D w ∧ RInv ops (fun k => L k ∨ k = i) (noteD (E.put st o.dst p (.v undef)) i o.dst p mv).rho := by
 have hd' := dst_lt hd
 have h1 := Sat.put hS (V := V) hd' hit hp (s := .v undef) trivial (v := undef) (fun _ => rfl)
 rcases noteD_cases (E.put st o.dst p (.v undef)) i o.dst p mv with e | ⟨d, e1, e⟩
 ·rw [e]; exact ⟨h1, by rw [put_rho.1]; exact hR.mono fun _ => .inl⟩
 ·rw [e]
  refine ⟨h1.note (by rw [put_rho.1]; exact hp) (by rw [put_rho.1]; exact fun g hg e => hLi (e ▸ (hR g hg).1)) ?_, by
   simp only [put_rho.1]; exact hR.note hoi e1⟩
  rw [e1, put_tmp hS (hd' _ e1), put_rho.1, hc]
  rfl
theorem doneP (hS : Sat C n st a V D w) (hR : RInv ops L st.rho) (hd : dstOk n o = true) (hit : hitG st.rho o.dst = false) (hp : wfP st.rho p) {s : SV} (hs : okS st.nid st.vc s) {v : Value} (hv : condP st.rho p = true → v = den V s) :
  Sat C n (E.put st o.dst p s) (a.put o.dst v) V D w ∧ RInv ops (fun k => L k ∨ k = i) (E.put st o.dst p s).rho :=
 ⟨Sat.put hS (dst_lt hd) hit hp hs hv, by rw [put_rho.1]; exact hR.mono fun _ => .inl⟩
theorem one_sound (hS : Sat C n st a V D w) (hpu : PureOk c P) (hR : RInv ops L st.rho) (hLi : ¬ L i) (hoi : ops[i]? = some o) (hd : dstOk n o = true) (hpath : pathOf st o.guard = some p) {K : LS → Prop} (h : one (.mk (k := (c, P, i, o, K)) (st, p)))
  {next : Act → World → Prop} {Q : Exit → Act → World → Prop} (hn : ∀ st' a' V' D' w', K st' → Sat C n st' a' V' D' w' → RInv ops (fun k => L k ∨ k = i) st'.rho → Step st.nid st.vc st'.nid st'.vc V V' → next a' w') :
  if Region.wanted o (yielded ops a.tmps) then o.wp P a w next Q ∨ (o.asks P a w ∧ LetsOut Q) else next (a.put o.dst undef) w := by
 obtain ⟨hp, hw⟩ := path_sound hS hR hpath
 have stepP : ∀ (d : Option Nat) (p : Pth) (s : SV), Step st.nid st.vc (E.put st d p s).nid (E.put st d p s).vc V V := fun d p s => Step.same put_rho.2.1 put_rho.2.2 V
 have stepG : ∀ (d : Option Nat) (p : Pth) (s : SV) (mv : Bool), Step st.nid st.vc (noteG (E.put st d p s) i d p mv s).nid (noteG (E.put st d p s) i d p mv s).vc V V := fun d p s mv => Step.same noteG_same.1 noteG_same.2 V
 have stepD : ∀ (d : Option Nat) (p : Pth) (s : SV) (mv : Bool), Step st.nid st.vc (noteD (E.put st d p s) i d p mv).nid (noteD (E.put st d p s) i d p mv).vc V V := fun d p s mv => Step.same noteD_same.1 noteD_same.2 V
 rw [hw]
 simp only [one] at h
 unfold one2 at h
 split at h
 ·rename_i q dead he
  simp only [A.mk.injEq, Prod.mk.injEq] at he
  obtain ⟨hq, hdead, hit⟩ := he
  unfold one3 at h
  split at h
  ·rename_i st' p' q'
   cases q'
   have hc := deadP_not hdead
   rw [hc]
   simp only [Bool.false_eq_true, if_false]
   obtain ⟨h1, h2⟩ := doneD hS hR hLi hoi hd hit hp hc (isMove o.op)
   exact hn _ _ _ _ _ h h1 h2 (stepD _ _ _ _)
  ·rename_i st' p' q'
   cases q'
   obtain ⟨s, ⟨hs, hK⟩, hrun⟩ := qOp_sound hS hp (o := o) rfl h
   cases hc : condP st.rho p with
   | true =>
    simp only [if_true]
    obtain ⟨h1, h2⟩ := doneG hS hR hLi hoi hd hit hp hs (v := den V s) (by rw [hc]; rfl) (isMove o.op)
    exact .inl (wp_ok (hrun hc) (hn _ _ _ _ _ hK h1 h2 (stepG _ _ _ _)))
   | false =>
    simp only [Bool.false_eq_true, if_false]
    obtain ⟨h1, h2⟩ := doneG hS hR hLi hoi hd hit hp hs (v := undef) (by rw [hc]; rfl) (isMove o.op)
    exact hn _ _ _ _ _ hK h1 h2 (stepG _ _ _ _)
  ·rename_i F st' p' q'
   cases q'
   cases hc : condP st.rho p with
   | true =>
    simp only [if_true]
    refine .inl (pure_sound hS hpu hp hc hq h fun y D' w' hK hS' => ?_)
    obtain ⟨h1, h2⟩ := doneP (i := i) hS' hR hd hit hp (s := .v y) trivial (v := y) (fun _ => rfl)
    exact hn _ _ _ _ _ hK h1 h2 (stepP _ _ _)
   | false =>
    simp only [Bool.false_eq_true, if_false]
    obtain ⟨y, hy, hB, hK⟩ := withO_some h
    obtain ⟨h1, h2⟩ := doneP (i := i) hS hR hd hit hp (s := .v y.2) trivial (v := undef) (fun e => by rw [hc] at e; cases e)
    exact hn _ _ _ _ _ hK h1 h2 (stepP _ _ _)
  ·rename_i st' p' q'
   cases q'
   obtain ⟨st1, s1, f1, l1, d1⟩ := forkP_sound hS h
   have hp1 := f1.wf _ hp
   have hit1 : hitG st1.rho o.dst = false := by rw [f1.hit]; exact hit
   have hR1 := f1.inv _ _ hR
   cases hc : condP st.rho p with
   | true =>
    simp only [if_true]
    have hc1 : condP st1.rho p = true := by rw [f1.cond]; exact hc
    refine .inl (lOp_sound s1 hp1 hc1 rfl (l1 hc) fun s st' V' D' w' ⟨hs, hK⟩ hrho hS' hst => ?_)
    rw [← hrho] at hp1 hit1 hR1
    obtain ⟨h1, h2⟩ := doneP (i := i) hS' hR1 hd hit1 hp1 hs (v := den V' s) (fun _ => rfl)
    exact hn _ _ _ _ _ hK h1 h2 (by rw [put_rho.2.1, put_rho.2.2]; exact (f1.step V).trans hst)
   | false =>
    simp only [Bool.false_eq_true, if_false]
    obtain ⟨h1, h2⟩ := doneP (i := i) s1 hR1 hd hit1 hp1 (s := .v undef) trivial (v := undef) (fun _ => rfl)
    exact hn _ _ _ _ _ (d1 hc) h1 h2 (by rw [put_rho.2.1, put_rho.2.2]; exact f1.step V)
 ·cases h
/-! The whole region. -/
theorem memN_cons {y x : Nat} {l : List Nat} (h : memN (y :: l) x = false) : y ≠ x ∧ memN l x = false := by
 simp only [memN] at h
 split at h
 ·cases h
 ·rename_i e; exact ⟨e, h⟩
theorem clean_lk : ∀ {env : List Ev} {dead : List Nat} {t : Nat} {s : SV}, lkE (cleanE dead env) t [] = some s → memN dead t = false ∧ lkE env t [] = some s
 | [], dead, t, s, h => by simp [cleanE, lkE] at h
 | ⟨t', [], s'⟩ :: r, dead, t, s, h => by
  simp only [cleanE] at h
  split at h
  ·rename_i hm
   obtain ⟨h1, h2⟩ := clean_lk h
   refine ⟨h1, ?_⟩
   simp only [lkE]
   rw [if_neg (fun e => by rw [e, h1] at hm; cases hm)]
   exact h2
  ·rename_i hm
   simp only [lkE] at h ⊢
   split at h
   ·rename_i e
    subst e
    rw [if_pos rfl]
    exact ⟨by simpa using hm, h⟩
   ·rename_i e
    rw [if_neg e]
    exact clean_lk h
 | ⟨t', x :: q, s'⟩ :: r, dead, t, s, h => by
  simp only [cleanE] at h
  obtain ⟨h1, h2⟩ := clean_lk h
  obtain ⟨h3, h4⟩ := memN_cons h1
  refine ⟨h4, ?_⟩
  simp only [lkE]
  rw [if_neg h3]
  exact h2
theorem clean_mem : ∀ {env : List Ev} {dead : List Nat} {e : Ev}, e ∈ cleanE dead env → e ∈ env ∧ e.p = []
 | [], dead, e, h => by simp [cleanE] at h
 | ⟨t', [], s'⟩ :: r, dead, e, h => by
  simp only [cleanE] at h
  split at h
  ·obtain ⟨h1, h2⟩ := clean_mem h; exact ⟨List.mem_cons_of_mem _ h1, h2⟩
  ·rcases List.mem_cons.1 h with rfl | h
   ·exact ⟨List.mem_cons_self .., rfl⟩
   ·obtain ⟨h1, h2⟩ := clean_mem h; exact ⟨List.mem_cons_of_mem _ h1, h2⟩
 | ⟨t', x :: q, s'⟩ :: r, dead, e, h => by
  simp only [cleanE] at h
  obtain ⟨h1, h2⟩ := clean_mem h
  exact ⟨List.mem_cons_of_mem _ h1, h2⟩
theorem clean_sound (hS : Sat C n st a V D w) : SatE C n (clean st) a w := by
 refine ⟨rfl, V, D, ⟨hS.f.defers, hS.f.size, fun e he => ?_, fun t q s hq hl _ => ?_, fun g hg => by cases hg⟩, fun e he => hS.ids e (clean_mem he).1, hS.w⟩
 ·rw [(clean_mem he).2]; exact wfP_nil
 ·have : q = [] := by
   cases q with
   | nil => rfl
   | cons x q => obtain ⟨g, hg⟩ := hq x (List.mem_cons_self ..); cases hg
  subst this
  exact hS.f.env t [] s wfP_nil (clean_lk hl).2 rfl
end
section
variable {C : Ctx} {n : Nat} {P : Program} {c : Cfg} {ops : Array Oper}
theorem vcLx_sound (hpu : PureOk c P) {K : LS → Prop} {Q : Exit → Act → World → Prop} (hQ : ∀ st' a' w', K st' → SatE C n st' a' w' → Q .normal a' w') :
  ∀ (l : List Oper) (i : Nat) (st : LS) (a : Act) (V : Vl) (D : Nat → Nat) (w : World), vcLx c P l i K st → Sat C n st a V D w → RInv ops (· < i) st.rho → (∀ j, l[j]? = ops[i + j]?) → (∀ o ∈ l, dstOk n o = true) → wpList P ops Q l a w
 | [], i, st, a, V, D, w, h, hS, hR, hl, hd => hQ _ _ _ h (clean_sound hS)
 | o :: r, i, st, a, V, D, w, h, hS, hR, hl, hd => by
  obtain ⟨p, hp, h⟩ := withO_some h
  have hoi : ops[i]? = some o := by have := hl 0; simpa using this.symm
  unfold wpList
  refine one_sound hS hpu hR (Nat.lt_irrefl _) hoi (hd o (List.mem_cons_self ..)) hp h fun st' a' V' D' w' hK hS' hR' _ => ?_
  exact vcLx_sound hpu hQ r (i + 1) st' a' V' D' w' hK hS' (hR'.mono fun k hk => by omega) (fun j => by have := hl (j + 1); simpa [Nat.add_assoc, Nat.add_comm 1 j] using this) (fun o ho => hd o (List.mem_cons_of_mem _ ho))
end
def dstOkC (n : Nat) : Code → Bool
 | .region _ ops _ => ops.toList.all (dstOk n)
 | .seq a b => dstOkC n a && dstOkC n b
 | .cond _ a b => dstOkC n a && dstOkC n b
 | .block _ a => dstOkC n a
 | .loop a => dstOkC n a
 | .scope a => dstOkC n a
 | .rangeFunc .. => false
 | _ => true
theorem svBool_den {V : Vl} {s : SV} {b : Bool} (h : svBool s = some b) : den V s = .bool b := by
 cases s with
 | v x => cases x <;> simp only [svBool, Option.some.injEq, reduceCtorEq] at h; subst h; rfl
 | _ => simp [svBool] at h
section
variable {P : Program} {n : Nat} {c : Cfg}
theorem WP_seq {a b : Code} {K : LS → Prop} {Q : Exit → LS → Prop} {st : LS} (ha : WP P n a (thenQ K Q) st) (hb : ∀ st, K st → WP P n b Q st) : WP P n (.seq a b) Q st := by
 intro C a' w hE
 refine wp_seq (wp_mono (ha C a' w hE) ?_)
 rintro e a2 w2 ⟨st2, hE2, hq⟩
 cases e with
 | normal => exact hb st2 hq C a2 w2 hE2
 | exit id => exact ⟨st2, hE2, hq⟩
 | goto l => exact ⟨st2, hE2, hq⟩
 | ret => exact ⟨st2, hE2, hq⟩
 | panic ch => exact ⟨st2, hE2, hq⟩
 | outgrown => exact ⟨st2, hE2, hq⟩
theorem WP_cond {x : Operand} {a b : Code} {Q : Exit → LS → Prop} {st : LS} {s : SV} {t : Bool} (hr : rdO st [] x = some s) (hs : svBool s = some t) (ha : t = true → WP P n a Q st) (hb : t = false → WP P n b Q st) : WP P n (.cond x a b) Q st := by
 intro C a' w hE
 obtain ⟨_, V, D, hS⟩ := id hE
 have := rdO_sound hS wfP_nil rfl hr
 rw [svBool_den hs] at this
 exact wp_cond_split this (fun h => ha h C a' w hE) (fun h => hb h C a' w hE)
theorem WP_block {id : Nat} {a : Code} {Q : Exit → LS → Prop} {st : LS} (ha : WP P n a (blockQ id Q) st) : WP P n (.block id a) Q st := by
 intro C a' w hE
 refine wp_block (wp_mono (ha C a' w hE) ?_)
 rintro e a2 w2 ⟨st2, hE2, hq⟩
 cases e with
 | exit id' =>
  simp only [blockQ] at hq
  simp only [Exit.inBlock]
  split at hq
  ·rename_i h; rw [if_pos h]; exact ⟨st2, hE2, hq⟩
  ·rename_i h; rw [if_neg h]; exact ⟨st2, hE2, hq⟩
 | normal => exact ⟨st2, hE2, hq⟩
 | goto l => exact ⟨st2, hE2, hq⟩
 | ret => exact ⟨st2, hE2, hq⟩
 | panic ch => exact ⟨st2, hE2, hq⟩
 | outgrown => exact ⟨st2, hE2, hq⟩
theorem WP_region (hpu : PureOk c P) {id : Nat} {l : List Oper} {Q : Exit → LS → Prop} {st : LS} (hd : l.all (dstOk n) = true) (h : vcLx c P l 0 (Q .normal) st) : WP P n (.region id ⟨l⟩ false) Q st := by
 rintro C a' w ⟨hrho, V, D, hS⟩
 refine wp_region_list ?_
 refine vcLx_sound (ops := ⟨l⟩) hpu (fun st' a' w' hq hE => ⟨st', hE, hq⟩) l 0 st a' V D w h hS ?_ (fun j => by simp) (fun o ho => ?_)
 ·rw [hrho]; intro g hg; cases hg
 ·exact List.all_eq_true.1 hd o ho
theorem vcCx_sound (hpu : PureOk c P) : ∀ (x : Code) (Q : Exit → LS → Prop) (st : LS), dstOkC n x = true → vcCx c P n x Q st → WP P n x Q st := by
 intro x
 induction x with
 | skip => exact fun Q st _ h C a w hE => wp_skip ⟨st, hE, h⟩
 | region id ops draw =>
  intro Q st hd h
  obtain ⟨l⟩ := ops
  cases draw with
  | false => exact WP_region hpu hd h
  | true => exact h
 | seq a b iha ihb =>
  intro Q st hd h
  simp only [dstOkC, Bbt] at hd
  have gen : vcCx c P n a (thenQ (vcCx c P n b Q) Q) st → WP P n (.seq a b) Q st := fun h => WP_seq (iha _ st hd.1 h) fun st' h' => ihb Q st' hd.2 h'
  cases a with
  | cond x t e =>
   simp only [vcCx] at h
   split at h
   ·exact h
   ·exact gen h
  | _ => exact gen h
 | cond x a b iha ihb =>
  intro Q st hd h
  simp only [dstOkC, Bbt] at hd
  obtain ⟨t, ht, h1, h2⟩ := withO_some h
  obtain ⟨s, hs, ht⟩ := bnd ht
  exact WP_cond hs ht (fun e => iha Q st hd.1 (h1 e)) (fun e => ihb Q st hd.2 (h2 e))
 | block id a ih =>
  intro Q st hd h
  exact WP_block (ih _ st hd h)
 | exit id => exact fun Q st _ h C a w hE => wp_exit ⟨st, hE, h⟩
 | ret => exact fun Q st _ h C a w hE => wp_ret ⟨st, hE, h⟩
 | loop a ih => exact fun Q st _ h => h
 | scope a ih => exact fun Q st _ h => h
 | rangeFunc f ps a b _ _ => exact fun Q st _ h => h
 | label l => exact fun Q st _ h C a w hE => wp_label ⟨st, hE, h⟩
 | refuse _ => exact fun Q st _ h => h
 | goto l => exact fun Q st _ h C a w hE => wp_goto ⟨st, hE, h⟩
theorem vcC_sound (hpu : PureOk c P) {x : Code} {Q : Exit → LS → Prop} {st : LS} (hd : dstOkC n x = true) (h : vcC (.mk (k := (c, P, n, x, Q)) st)) : WP P n x Q st := vcCx_sound hpu x Q st hd h
end
/-! A function. -/
section
variable {C : Ctx} {n : Nat} {st : LS} {a : Act} {V : Vl} {D : Nat → Nat} {w : World} {P : Program} {c : Cfg}
theorem asAddr_run (ad : Addr) : (asAddr (.pointer (some ad))).run P w = .ok ad w := rfl
def resOne (tmps : Array Value) : ResultVar → Sem Value
 | .tmp t => pure (tmps.getD t undef)
 | .cell b t => do loadVar t (← asAddr (tmps.getD b undef))
theorem ret_mapM (hS : Sat C n st a V D w) : ∀ {res : List ResultVar} {l : List SV}, retV P st res = some l →
  (res.mapM (resOne a.tmps)).run P w = .ok (l.map (denB V)) w ∧ ∀ s ∈ l, den V s = denB V s
 | [], l, h => by
  simp only [retV, Option.some.injEq] at h
  subst h
  exact ⟨rfl, fun s hs => by cases hs⟩
 | .tmp t :: r, l, h => by
  simp only [retV, Option.bind_eq_some_iff, Option.map_eq_some_iff] at h
  obtain ⟨s, ⟨s0, hs0, hs⟩, l', hl', rfl⟩ := h
  obtain ⟨h1, h2⟩ := ret_mapM hS hl'
  have hnt := noTup_den (V := V) hs
  have hss : s = s0 := by cases s0 <;> simp_all [noTup]
  subst hss
  have ht := hS.env t [] s wfP_nil hs0 rfl
  refine ⟨?_, fun x hx => ?_⟩
  ·simp only [List.mapM_cons, resOne, Sem.run_bind, Sem.run_pure, Result.andThen_ok, h1, List.map_cons]
   simp [Array.getD_eq_getD_getElem?, ht, hnt]
  ·rcases List.mem_cons.1 hx with rfl | hx
   ·exact hnt
   ·exact h2 x hx
 | .cell b t :: r, l, h => by
  simp only [retV, Option.bind_eq_some_iff, Option.map_eq_some_iff] at h
  obtain ⟨s, ⟨s0, hs0, hs⟩, l', hl', rfl⟩ := h
  obtain ⟨h1, h2⟩ := ret_mapM hS hl'
  have hnt := noTup_den (V := V) hs
  have hss : s = s0 := by cases s0 <;> simp_all [noTup]
  subst hss
  unfold retC at hs0
  split at hs0
  ·rename_i k o hk
   have ht := hS.env b [] _ wfP_nil hk rfl
   simp only [Option.bind_eq_some_iff] at hs0
   obtain ⟨bx, hbx, hs0⟩ := hs0
   split at hs0
   case isFalse => cases hs0
   rename_i hty
   simp only [Option.bind_eq_some_iff] at hs0
   obtain ⟨ag, hag, htk⟩ := hs0
   have hload : qLoad (.mk (k := (P, t, U true, fun s' => s' = s)) (st, .box k o)) := by
    simp only [qLoad, hbx, withO, hag, htk, hty, true_and]
   obtain ⟨r', rfl, hy⟩ := qLoad_sound hS hload
   have hy := hy rfl
   simp only [den_box, Instr.loadAt, Instr.sureAddr, Sem.run_bind, Sem.run_pure, Result.andThen_ok] at hy
   refine ⟨?_, fun x hx => ?_⟩
   ·simp only [List.mapM_cons, resOne, Sem.run_bind, Sem.run_pure, Result.andThen_ok, List.map_cons]
    have : a.tmps.getD b undef = .pointer (some ⟨V.β k, o, none⟩) := by simp [Array.getD_eq_getD_getElem?, ht, den_box]
    rw [this, asAddr_run]
    simp only [Result.andThen_ok, hy, h1, hnt]
   ·rcases List.mem_cons.1 hx with rfl | hx
    ·exact hnt
    ·exact h2 x hx
  ·cases hs0
theorem results_sound (hS : Sat C n st a V D w) {fn : Func} {res : List ResultVar} (hr : fn.results = ⟨res⟩) {l : List SV} (h : retV P st res = some l) : (results fn a.tmps).run P w = .ok (den V (ret1 l)) w := by
 obtain ⟨h1, h2⟩ := ret_mapM hS h
 have hf : results fn a.tmps = (do
   let vs ← fn.results.mapM (resOne a.tmps)
   pure (if h : vs.size = 1 then vs[0] else .tuple vs)) := by
  unfold results
  congr 1
 rw [hf, hr]
 simp only [List.mapM_toArray, Sem.run_bind, Sem.run_map, h1, Result.andThen_ok, Sem.run_pure, List.size_toArray, List.length_map]
 cases l with
 | nil => rfl
 | cons s r =>
  cases r with
  | nil =>
   simp only [Llc, Lln, Nat.zero_add, dite_true, List.map_cons, List.map_nil, ret1]
   simp [h2 s (List.mem_cons_self ..)]
  | cons s' r =>
   have : ¬ ((s :: s' :: r).length = 1) := by simp
   simp only [dif_neg this]
   rfl
end
theorem env0_lk : ∀ {l : List SV} {i t : Nat} {q : Pth} {s : SV}, lkE (env0 i l) t q = some s → i ≤ t ∧ l[t - i]? = some s
 | [], i, t, q, s, h => by simp [env0, lkE] at h
 | x :: r, i, t, q, s, h => by
  simp only [env0, lkE] at h
  split at h
  ·rename_i e
   subst e
   split at h
   ·cases h; exact ⟨Nnr _, by simp⟩
   ·cases h
  ·rename_i e
   obtain ⟨h1, h2⟩ := env0_lk h
   refine ⟨by omega, ?_⟩
   have : t - i = (t - (i + 1)) + 1 := by omega
   rw [this, List.getElem?_cons_succ]
   exact h2
theorem env0_mem : ∀ {l : List SV} {i : Nat} {e : Ev}, e ∈ env0 i l → e.p = [] ∧ e.s ∈ l
 | [], i, e, h => by simp [env0] at h
 | x :: r, i, e, h => by
  rcases List.mem_cons.1 h with rfl | h
  ·exact ⟨rfl, List.mem_cons_self ..⟩
  ·obtain ⟨h1, h2⟩ := env0_mem h; exact ⟨h1, List.mem_cons_of_mem _ h2⟩
theorem okSs_mem {nid : Nat} {vc : List Vc} : ∀ {l : List SV}, okSs nid vc l → ∀ s ∈ l, okS nid vc s
 | x :: r, h, s, hs => by
  rcases List.mem_cons.1 hs with rfl | hs
  ·exact h.1
  ·exact okSs_mem h.2 s hs
theorem topB_lt : ∀ {bx : List Bx} {b : Bx}, b ∈ bx → b.id < topB bx
 | ⟨k, t, cs⟩ :: r, b, h => by
  simp only [topB]
  rcases List.mem_cons.1 h with rfl | h
  ·simp only; omega
  ·have := topB_lt h; omega
theorem topV_lt : ∀ {vc : List Vc} {b : Vc}, b ∈ vc → b.id < topV vc
 | ⟨k, u, e, z, n, xs⟩ :: r, b, h => by
  simp only [topV]
  rcases List.mem_cons.1 h with rfl | h
  ·simp only; omega
  ·have := topV_lt h; omega
section
variable {P : Program} {c : Cfg}
theorem blks_sub {V : Vl} {bx bx' : List Bx} {vc vc' : List Vc} (hb : ∀ b ∈ bx', b ∈ bx) (hv : ∀ b ∈ vc', b ∈ vc) : ∀ g ∈ blks V ⟨bx', vc'⟩, g ∈ blks V ⟨bx, vc⟩ := fun g hg => by
 simp only [blks, List.mem_append, List.mem_map, List.mem_filterMap] at hg ⊢
 rcases hg with ⟨x, hx, e⟩ | ⟨x, hx, e⟩
 ·exact .inl ⟨x, hb x hx, e⟩
 ·exact .inr ⟨x, hv x hx, e⟩
theorem pickBx_mem {L : List Nat} {bx : List Bx} {b : Bx} (h : b ∈ pickBx L bx) : b ∈ bx := by
 rw [pickBx_eq, List.mem_filter] at h; exact h.1
theorem enterW {f : FuncId} {fn : Func} {code : Code} {res : List ResultVar} {args : List SV} {H : Hp} {m : Mem} {R : SV → Hp → Mem → Prop}
  (hf : P.funcs[f]? = some fn) (hb : fn.body = some code) (hr : fn.results = ⟨res⟩) (hl : args.length ≤ fn.ntmps) (hok : okArgs args H)
  (h : WP P fn.ntmps code (endQ P res (ids0 H) R) (st0 args H m)) : FnH P f args H m R := by
 intro V w D hwf hm hH
 refine calls_of_wp hf hb ?_
 have hsz : ((⟨args.map (den V)⟩ : Array Value) ++ Array.replicate (fn.ntmps - (⟨args.map (den V)⟩ : Array Value).size) undef).size = fn.ntmps := by
  simp only [Array.size_append, List.size_toArray, List.length_map, Array.size_replicate]; omega
 have hS : Sat ⟨w, D, (· ∈ blks V H), H, V, m⟩ fn.ntmps (st0 args H m) { tmps := (⟨args.map (den V)⟩ : Array Value) ++ Array.replicate (fn.ntmps - (⟨args.map (den V)⟩ : Array Value).size) undef, defers := [] } V D w := by
  refine ⟨⟨rfl, hsz, fun e he => ?_, fun t q s hq hlk _ => ?_, fun g hg => by cases hg⟩, fun e he => okSs_mem hok.1 _ (env0_mem he).2, ?_⟩
  ·rw [(env0_mem he).1]; exact wfP_nil
  ·obtain ⟨_, h2⟩ := env0_lk hlk
   have hlt : t < args.length := (List.getElem?_eq_some_iff.1 h2).1
   simp only [Nat.sub_zero] at h2
   rw [Array.getElem?_append_left (by simpa using hlt)]
   simp [h2]
  ·refine ⟨hH, hwf, Frm.refl _ _ _, fun b hb => .inl hb, fun b hb => ⟨rfl, ?_⟩, fun b hb => ⟨fun _ _ => rfl, ?_, verLe_self hH.uniq hb⟩, ⟨fun b hb => ⟨?_, okBxs_mem hok.2 b hb⟩, fun b hb => ?_⟩, Mem.le_refl _ hwf,
    fun b => ⟨Nnr _, fun h0 => ⟨((hm b).2 h0).1, keepObj_same rfl⟩⟩, hm⟩
   ·exact Nat.lt_of_lt_of_le (topB_lt hb) (Nat.le_max_left _ _)
   ·exact Nat.lt_of_lt_of_le (topV_lt hb) (Nat.le_max_right _ _)
   ·exact Nat.lt_of_lt_of_le (topB_lt hb) (Nat.le_max_left _ _)
   ·exact Nat.lt_of_lt_of_le (topV_lt hb) (Nat.le_max_right _ _)
 refine wp_mono (h _ _ _ ⟨rfl, V, D, hS⟩) ?_
 rintro e a2 w2 ⟨st2, ⟨hrho, V2, D2, hS2⟩, hq⟩
 have fin : ∀ l : List SV, retV P st2 res = some l → R (ret1 l) ⟨pickBx (closeIds st2.bx (idsS (ids0 H) l)) st2.bx, pickVc (closeIds st2.bx (idsS (ids0 H) l)) st2.vc⟩ st2.m →
   a2.defers = [] ∧ ∃ v, (results fn a2.tmps).run P w2 = .ok v w2 ∧ ∃ (r : SV) (V' : Vl) (D' : Nat → Nat) (H' : Hp) (m' : Mem),
   Ending.returned v = .returned (den V' r) ∧ Wf w2 D' ∧ HSat V' D' w2 H' ∧ (∀ b ∈ H.bx, V'.β b.id = V.β b.id) ∧ (∀ b ∈ H.vc, ∀ u, u ≤ b.ver → V'.γ b.id u = V.γ b.id u) ∧
   Frm (· ∈ blks V H) w D w2 D' ∧ (∀ b ∈ blks V' H', b ∈ blks V H ∨ w.heap.size ≤ b) ∧
   Mem.le ⟨w, D⟩ ⟨w2, D'⟩ ∧ m.le m' ∧ m'.le ⟨w2, D'⟩ ∧ R r H' m' := by
  intro l hl hR
  have hW := hS2.w
  refine ⟨hS2.f.defers, _, results_sound hS2 hr hl, ret1 l, V2, D2, _, st2.m, rfl, hW.wf, (split_heap _ hW.heap).app.1, fun b hb => (hW.baseB b hb).1, fun b hb => (hW.baseV b hb).1, hW.frm, fun b hb => ?_, hW.le0, hW.m0, hW.mle, hR⟩
  exact hW.own b (blks_sub (fun x hx => pickBx_mem hx) (fun x hx => (pick_mem hx).1) b hb)
 cases e with
 | normal => obtain ⟨l, hl, hR⟩ := withO_some hq; exact fin l hl hR
 | ret => obtain ⟨l, hl, hR⟩ := withO_some hq; exact fin l hl hR
 | exit id => exact hq.elim
 | goto l => exact hq.elim
 | panic ch => exact hq.elim
 | outgrown => exact hq.elim
theorem enter (cf : Cfg) (hpu : PureOk cf P) {f : FuncId} {fn : Func} {code : Code} {res : List ResultVar} {args : List SV} {H : Hp} {m : Mem} {R : SV → Hp → Mem → Prop}
  (hf : P.funcs[f]? = some fn) (hb : fn.body = some code) (hr : fn.results = ⟨res⟩) (hd : dstOkC fn.ntmps code = true) (hl : Nat.ble args.length fn.ntmps = true) (hok : okArgs args H)
  (h : vcC (.mk (k := (cf, P, fn.ntmps, code, endQ P res (ids0 H) R)) (st0 args H m))) : FnH P f args H m R :=
 enterW hf hb hr (nbl hl) hok (vcC_sound hpu hd h)
theorem FnH.mono {f : FuncId} {args : List SV} {H : Hp} {m : Mem} {R R' : SV → Hp → Mem → Prop} (h : FnH P f args H m R) (hR : ∀ r H' m', m.le m' → R r H' m' → R' r H' m') : FnH P f args H m R' :=
 fun V w D h1 h2 h3 => (h V w D h1 h2 h3).mono fun e w2 ⟨r, V', D', H', m', e1, e2, e3, e4, e5, e6, e7, e8, e9, e10, e11⟩ => ⟨r, V', D', H', m', e1, e2, e3, e4, e5, e6, e7, e8, e9, e10, hR r H' m' e9 e11⟩
theorem tfi (p : Prop) : (true = false → p) = True := eq_true fun h => by cases h
theorem fti (p : Prop) : (false = true → p) = True := eq_true fun h => by cases h
theorem FnV_of {f : FuncId} {args : List SV} {H : Hp} {m : Mem} {R : SV → Hp → Mem → Prop} (h : FnH P f args H m R) : FnV (.mk (k := (P, f, R)) (args, H, m)) := h
theorem WP.mono {n : Nat} {x : Code} {Q Q' : Exit → LS → Prop} {st : LS} (h : WP P n x Q st) (hQ : ∀ e st', Q e st' → Q' e st') : WP P n x Q' st :=
 fun C a w hE => wp_mono (h C a w hE) fun e _ _ ⟨st', h1, h2⟩ => ⟨st', h1, hQ e st' h2⟩
end
theorem cvl {P : Program} {f : FuncId} {args : List SV} {H : Hp} {m : Mem} {R : SV → Hp → Mem → Prop} (h : FnH P f args H m R) (hk : fnOk P f = true := by kernel_rfl) : fnOk P f = true ∧ FnV (.mk (k := (P, f, R)) (args, H, m)) := ⟨hk, FnV_of h⟩
/-! The head of a loop. -/
theorem mEnv_mem {st : LS} : ∀ {l : List Ev}, mEnv st l → ∀ e ∈ l, lkE st.env e.t [] = some e.s ∧ e.p = []
 | ⟨t, p, s⟩ :: r, h, e, he => by
  rcases List.mem_cons.1 he with rfl | he
  ·exact ⟨h.1, h.2.1⟩
  ·exact mEnv_mem h.2.2 e he
theorem mEnv_lk {st : LS} : ∀ {l : List Ev}, mEnv st l → ∀ {t : Nat} {s : SV}, lkE l t [] = some s → lkE st.env t [] = some s
 | ⟨t', p', s'⟩ :: r, h, t, s, hl => by
  simp only [lkE] at hl
  split at hl
  ·rename_i e
   subst e
   split at hl
   ·cases hl; exact h.1
   ·cases hl
  ·exact mEnv_lk h.2.2 hl
theorem lkB_none {l : List Bx} {k : Nat} (h : lkB l k = none) : ∀ b ∈ l, b.id ≠ k := by
 induction l with
 | nil => intro b hb; cases hb
 | cons x r ih =>
  obtain ⟨i', t', p'⟩ := x
  simp only [lkB] at h
  split at h
  ·cases h
  ·rename_i e
   intro b hb
   rcases List.mem_cons.1 hb with rfl | hb
   ·exact e
   ·exact ih h b hb
theorem mBx_mem {st : LS} : ∀ {l : List Bx}, mBx st l → (∀ b ∈ l, b ∈ st.bx) ∧ (l.map (·.id)).Nodup
 | [], _ => ⟨fun b hb => (by cases hb), List.nodup_nil⟩
 | ⟨k, t, cs⟩ :: r, h => by
  obtain ⟨h1, h2, h3⟩ := h
  obtain ⟨i1, i2⟩ := mBx_mem h3
  refine ⟨fun b hb => ?_, ?_⟩
  ·rcases List.mem_cons.1 hb with rfl | hb
   ·exact (lkB_mem h1).2
   ·exact i1 b hb
  ·simp only [List.map_cons, List.nodup_cons]
   refine ⟨fun hm => ?_, i2⟩
   obtain ⟨b, hb, e⟩ := List.mem_map.1 hm
   exact lkB_none h2 b hb e
theorem lkVi_mem {l : List Vc} {k : Nat} {b : Vc} (h : lkVi l k = some b) : b.id = k ∧ b ∈ l := by
 induction l with
 | nil => cases h
 | cons x r ih =>
  obtain ⟨i', u', e', z', n', x'⟩ := x
  simp only [lkVi] at h
  split at h
  ·rename_i e; cases h; exact ⟨e, List.mem_cons_self ..⟩
  ·exact ⟨(ih h).1, List.mem_cons_of_mem _ (ih h).2⟩
theorem lkVi_none {l : List Vc} {k : Nat} (h : lkVi l k = none) : ∀ b ∈ l, b.id ≠ k := by
 induction l with
 | nil => intro b hb; cases hb
 | cons x r ih =>
  obtain ⟨i', u', e', z', n', x'⟩ := x
  simp only [lkVi] at h
  split at h
  ·cases h
  ·rename_i e
   intro b hb
   rcases List.mem_cons.1 hb with rfl | hb
   ·exact e
   ·exact ih h b hb
theorem mVc_mem {st : LS} : ∀ {l : List Vc}, mVc st l → (∀ b ∈ l, b ∈ st.vc) ∧ (l.map (·.id)).Nodup
 | [], _ => ⟨fun b hb => (by cases hb), List.nodup_nil⟩
 | ⟨k, u, e, z, n, xs⟩ :: r, h => by
  obtain ⟨h1, h2, h3⟩ := h
  obtain ⟨i1, i2⟩ := mVc_mem h3
  refine ⟨fun b hb => ?_, ?_⟩
  ·rcases List.mem_cons.1 hb with rfl | hb
   ·exact (lkVi_mem h1).2
   ·exact i1 b hb
  ·simp only [List.map_cons, List.nodup_cons]
   refine ⟨fun hm => ?_, i2⟩
   obtain ⟨b, hb, e⟩ := List.mem_map.1 hm
   exact lkVi_none h2 b hb e
theorem verLe_iff {vc : List Vc} (hu : (vc.map (·.id)).Nodup) {k u : Nat} : verLe vc k u ↔ ∀ b ∈ vc, b.id = k → u ≤ b.ver := by
 induction vc with
 | nil => simp [verLe]
 | cons x r ih =>
  obtain ⟨i', u', e', z', n', x'⟩ := x
  simp only [List.map_cons, List.nodup_cons] at hu
  simp only [verLe]
  split
  ·rename_i e
   subst e
   constructor
   ·intro h b hb e
    rcases List.mem_cons.1 hb with rfl | hb
    ·exact h
    ·exact absurd (List.mem_map.2 ⟨b, hb, e⟩) hu.1
   ·exact fun h => h _ (List.mem_cons_self ..) rfl
  ·rename_i e
   rw [ih hu.2]
   constructor
   ·intro h b hb e'
    rcases List.mem_cons.1 hb with rfl | hb
    ·exact absurd e' e
    ·exact h b hb e'
   ·exact fun h b hb => h b (List.mem_cons_of_mem _ hb)
theorem nodup_inj {α β : Type} {f : α → β} : ∀ {l : List α}, (l.map f).Nodup → ∀ x ∈ l, ∀ y ∈ l, f x = f y → x = y
 | a :: r, h, x, hx, y, hy, e => by
  simp only [List.map_cons, List.nodup_cons] at h
  rcases List.mem_cons.1 hx with rfl | hx'
  ·rcases List.mem_cons.1 hy with rfl | hy'
   ·rfl
   ·exact absurd (List.mem_map.2 ⟨y, hy', e.symm⟩) h.1
  ·rcases List.mem_cons.1 hy with rfl | hy'
   ·exact absurd (List.mem_map.2 ⟨x, hx', e⟩) h.1
   ·exact nodup_inj h.2 x hx' y hy' e
theorem map_nodup {α β γ : Type} {f : α → β} {g : α → γ} : ∀ {l : List α}, (l.map g).Nodup → (∀ x ∈ l, ∀ y ∈ l, f x = f y → x = y) → (l.map f).Nodup
 | [], _, _ => List.nodup_nil
 | a :: r, h, hi => by
  simp only [List.map_cons, List.nodup_cons] at h ⊢
  refine ⟨fun hm => ?_, map_nodup h.2 fun x hx y hy => hi x (List.mem_cons_of_mem _ hx) y (List.mem_cons_of_mem _ hy)⟩
  obtain ⟨b, hb, e⟩ := List.mem_map.1 hm
  have := hi b (List.mem_cons_of_mem _ hb) a (List.mem_cons_self ..) e
  subst this
  exact h.1 (List.mem_map.2 ⟨b, hb, rfl⟩)
theorem filterMap_nodup {α β γ : Type} {f : α → Option β} {g : α → γ} : ∀ {l : List α}, (l.map g).Nodup → (∀ x ∈ l, ∀ y ∈ l, ∀ b, f x = some b → f y = some b → x = y) → (l.filterMap f).Nodup
 | [], _, _ => List.nodup_nil
 | a :: r, h, hi => by
  simp only [List.map_cons, List.nodup_cons] at h
  have ih := filterMap_nodup (f := f) h.2 fun x hx y hy => hi x (List.mem_cons_of_mem _ hx) y (List.mem_cons_of_mem _ hy)
  rw [List.filterMap_cons]
  split
  ·exact ih
  ·rename_i b hb
   refine List.nodup_cons.2 ⟨fun hm => ?_, ih⟩
   obtain ⟨x, hx, e⟩ := List.mem_filterMap.1 hm
   have := hi x (List.mem_cons_of_mem _ hx) a (List.mem_cons_self ..) b e hb
   subst this
   exact h.1 (List.mem_map.2 ⟨x, hx, rfl⟩)
theorem okEs_mem {nid : Nat} {vc : List Vc} : ∀ {l : List Ev}, okEs nid vc l → ∀ e ∈ l, okS nid vc e.s
 | ⟨t, p, s⟩ :: r, h, e, he => by
  rcases List.mem_cons.1 he with rfl | he
  ·exact h.1
  ·exact okEs_mem h.2 e he
theorem okHB_mem {nid : Nat} {vc : List Vc} : ∀ {l : List Bx}, okHB nid vc l → ∀ b ∈ l, b.id < nid ∧ okL nid vc b.cs
 | ⟨k, t, cs⟩ :: r, h, b, hb => by
  rcases List.mem_cons.1 hb with rfl | hb
  ·exact ⟨h.1, h.2.1⟩
  ·exact okHB_mem h.2.2 b hb
theorem okHV_mem {nid : Nat} : ∀ {l : List Vc}, okHV nid l → ∀ b ∈ l, b.id < nid
 | ⟨k, _, _, _, _, _⟩ :: r, h, b, hb => by
  rcases List.mem_cons.1 hb with rfl | hb
  ·exact h.1
  ·exact okHV_mem h.2 b hb
section
variable {C : Ctx} {n : Nat} {st st' : LS} {a : Act} {V : Vl} {D : Nat → Nat} {w : World} {P : Program} {c : Cfg}
theorem leM_le {m m' m'' : Mem} (h : leM m m') (h' : m'.le m'') : m.le m'' := by
 rcases h with rfl | h
 ·exact h'
 ·exact Mem.le_trans h h'
theorem Sat.weaken (hS : Sat C n st a V D w) (hM : Match st st') (hok : okHd st') (hB : ∀ b ∈ C.H0.bx, b.id < st'.nid) (hV : ∀ b ∈ C.H0.vc, b.id < st'.nid) (hm : C.m0.le st'.m) : Sat C n st' a V D w := by
 obtain ⟨h1, h2, h3, h4, h5⟩ := hM
 obtain ⟨hbs, hbu⟩ := mBx_mem h3
 obtain ⟨hvs, hvu⟩ := mVc_mem h4
 have hW := hS.w
 have hap := hW.heap.apart
 have hap' := List.nodup_append.1 hap
 refine ⟨⟨hS.f.defers, hS.f.size, fun e he => ?_, fun t q s hq hl _ => ?_, fun g hg => by rw [h2] at hg; cases hg⟩, okEs_mem hok.1, ?_⟩
 ·rw [(mEnv_mem h1 e he).2]; exact wfP_nil
 ·have : q = [] := by
   cases q with
   | nil => rfl
   | cons x q => obtain ⟨g, hg⟩ := hq x (List.mem_cons_self ..); rw [h2] at hg; cases hg
  subst this
  exact hS.env t [] s wfP_nil (mEnv_lk h1 hl) rfl
 ·refine ⟨⟨fun b hb => hW.heap.bx b (hbs b hb), fun b hb => hW.heap.vc b (hvs b hb), ?_, hvu⟩, hW.wf, hW.frm, fun g hg => hW.own g (blks_sub hbs hvs g hg), fun b hb => ⟨(hW.baseB b hb).1, hB b hb⟩,
   fun b hb => ⟨(hW.baseV b hb).1, hV b hb, ?_⟩, ⟨okHB_mem hok.2.1, okHV_mem hok.2.2⟩, hW.le0, hm, leM_le h5 hW.mle⟩
  ·refine List.nodup_append.2 ⟨?_, ?_, fun x hx y hy => ?_⟩
   ·exact map_nodup hbu fun x hx y hy e => nodup_inj hap'.1 x (hbs x hx) y (hbs y hy) e
   ·exact filterMap_nodup hvu fun x hx y hy b e1 e2 => blk_uniq (hvs x hx) (hvs y hy) e1 e2 hap'.2.1
   ·refine hap'.2.2 x ?_ y ?_
    ·obtain ⟨z, hz, e⟩ := List.mem_map.1 hx; exact List.mem_map.2 ⟨z, hbs z hz, e⟩
    ·obtain ⟨z, hz, e⟩ := List.mem_filterMap.1 hy; exact List.mem_filterMap.2 ⟨z, hvs z hz, e⟩
  ·refine (verLe_iff hvu).2 fun x hx e => ?_
   exact (verLe_iff hW.heap.uniq).1 (hW.baseV b hb).2.2 x (hvs x hx) e
theorem WP_loop (hpu : PureOk c P) {body : Code} {Q : Exit → LS → Prop} {X : Type} (S : X → LS) (I : X → Prop) (μ : X → Nat) (x0 : X)
  (hd : dstOkC n body = true) (hn : ∀ x, I x → st.nid ≤ (S x).nid) (hm : ∀ x, I x → leM st.m (S x).m) (hok : ∀ x, okHd (S x)) (h0 : Match st (S x0)) (hI : I x0)
  (round : ∀ x, I x → vcC (.mk (k := (c, P, n, body, thenQ (fun st' => ∃ x', Match st' (S x') ∧ I x' ∧ μ x' < μ x) Q)) (S x))) : WPv (.mk (k := (P, n, .loop body, Q)) st) := by
 rintro C a w ⟨hrho, V, D, hS⟩
 have hB : ∀ b ∈ C.H0.bx, b.id < st.nid := fun b hb => (hS.w.baseB b hb).2
 have hV : ∀ b ∈ C.H0.vc, b.id < st.nid := fun b hb => (hS.w.baseV b hb).2.1
 have hm0 : ∀ x, I x → C.m0.le (S x).m := fun x hx => by
  rcases hm x hx with e | h
  ·rw [← e]; exact hS.w.m0
  ·exact Mem.le_trans hS.w.m0 h
 have weak : ∀ (st1 : LS) (a1 : Act) (w1 : World) (x : X), SatE C n st1 a1 w1 → Match st1 (S x) → I x → SatE C n (S x) a1 w1 := by
  rintro st1 a1 w1 x ⟨_, V1, D1, hS1⟩ hM hx
  exact ⟨hM.2.1, V1, D1, hS1.weaken hM (hok x) (fun b hb => Nat.lt_of_lt_of_le (hB b hb) (hn x hx)) (fun b hb => Nat.lt_of_lt_of_le (hV b hb) (hn x hx)) (hm0 x hx)⟩
 refine wp_loop_ghost (fun k a w => ∃ x, I x ∧ μ x = k ∧ SatE C n (S x) a w) (μ x0) ⟨x0, hI, rfl, weak _ _ _ _ ⟨hrho, V, D, hS⟩ h0 hI⟩ ?_
 rintro k a1 w1 ⟨x, hx, rfl, hE⟩
 refine wp_mono (vcC_sound hpu hd (round x hx) C a1 w1 hE) ?_
 rintro e a2 w2 ⟨st2, hE2, hq⟩
 cases e with
 | normal =>
  obtain ⟨x', hM, hx', hlt⟩ := hq
  exact ⟨μ x', hlt, x', hx', rfl, weak _ _ _ _ hE2 hM hx'⟩
 | exit id => exact ⟨st2, hE2, hq⟩
 | goto l => exact ⟨st2, hE2, hq⟩
 | ret => exact ⟨st2, hE2, hq⟩
 | panic ch => exact ⟨st2, hE2, hq⟩
 | outgrown => exact ⟨st2, hE2, hq⟩
end
def A.re {γ δ α : Type} {k : γ} (k' : δ) : A k α → A k' α
 | .mk a => .mk a
section
variable {P : Program} {op : BinOp} {t : TypeId} {k : IntKind} {u : Prop → Prop} {K : SV → Prop}
theorem withO_det {o : Option SV} (h : withO (.mk (k := K) o)) : ∃ s, K s ∧ withO (.mk (k := (· = s)) o) := by
 obtain ⟨s, rfl, h⟩ := withO_some h
 exact Exists.intro s (And.intro h rfl)
theorem arith_det : ∀ (x : A (k, u, K) Int), arith x → ∃ s, K s ∧ arith (x.re (k, u, (· = s))) := by
 rintro ⟨n⟩ h
 cases k <;> first
  | exact Exists.intro _ (And.intro h.2 (And.intro h.1 rfl))
  | exact Exists.intro _ (And.intro h rfl)
theorem binI_det : ∀ (x : A (op, k, u, K) (Int × Int)), binI x → ∃ s, K s ∧ binI (x.re (op, k, u, (· = s))) := by
 rintro ⟨a, b⟩ h
 cases op
 case add => obtain ⟨s, h1, h2⟩ := arith_det _ h; exact Exists.intro s (And.intro h1 h2)
 case sub => obtain ⟨s, h1, h2⟩ := arith_det _ h; exact Exists.intro s (And.intro h1 h2)
 case mul => obtain ⟨s, h1, h2⟩ := arith_det _ h; exact Exists.intro s (And.intro h1 h2)
 case quo => obtain ⟨s, h1, h2⟩ := arith_det _ h.2; exact Exists.intro s (And.intro h1 (And.intro h.1 h2))
 all_goals first
  | exact Exists.intro _ (And.intro h rfl)
  | exact Exists.intro _ (And.intro h.2 (And.intro h.1 rfl))
theorem binS_det : ∀ (x : A (op, u, K) (List UInt8 × List UInt8)), binS x → ∃ s, K s ∧ binS (x.re (op, u, (· = s))) := by
 rintro ⟨a, b⟩ h
 cases op
 all_goals first
  | exact h.elim
  | exact Exists.intro _ (And.intro h rfl)
  | exact Exists.intro _ (And.intro h.2 (And.intro h.1 rfl))
theorem binB_det : ∀ (x : A (op, K) Bool), binB x → ∃ s, K s ∧ binB (x.re (op, (fun s0 : SV => s0 = s))) := by
 rintro ⟨a⟩ h
 cases op
 all_goals first
  | exact h.elim
  | exact Exists.intro _ (And.intro h rfl)
theorem binQ_det : ∀ (x : A (P, op, t, u, K) (SV × SV)), binQ x → ∃ s, K s ∧ binQ (x.re (P, op, t, u, (· = s))) := by
 intro x h
 unfold binQ at h
 split at h
 ·obtain ⟨s, h1, h2⟩ := binI_det _ h.2; exact Exists.intro s (And.intro h1 (And.intro h.1 h2))
 ·obtain ⟨s, h1, h2⟩ := binS_det _ h; exact Exists.intro s (And.intro h1 h2)
 ·obtain ⟨s, h1, h2⟩ := binB_det _ h.2; exact Exists.intro s (And.intro h1 (And.intro h.1 h2))
 ·obtain ⟨h1, h2, h3⟩ := h
  obtain ⟨b, hb, h3⟩ := withO_some h3
  obtain ⟨s, h4, h5⟩ := binB_det _ h3
  exact Exists.intro s (And.intro h4 (And.intro h1 (And.intro h2 (by rw [hb]; exact h5))))
 ·obtain ⟨h1, h2, h3⟩ := h
  obtain ⟨b, hb, h3⟩ := withO_some h3
  obtain ⟨s, h4, h5⟩ := binB_det _ h3
  exact Exists.intro s (And.intro h4 (And.intro h1 (And.intro h2 (by rw [hb]; exact h5))))
 ·exact h.elim
theorem qNilI_det : ∀ (x : A (P, op, t, u, K) SV), qNilI x → ∃ s, K s ∧ qNilI (x.re (P, op, t, u, (· = s))) := by
 intro x h
 unfold qNilI at h
 split at h
 ·obtain ⟨s, h1, h2⟩ := binB_det _ h.2.2; exact Exists.intro s (And.intro h1 (And.intro h.1 (And.intro h.2.1 h2)))
 ·exact h.elim
theorem pickB_det {md : PM} : ∀ (x : A (md, K) (Bool × SV × SV)), pickB x → ∃ s, K s ∧ pickB (x.re (md, (fun s0 : SV => s0 = s))) := by
 intro x h
 unfold pickB at h
 split at h
 all_goals first
  | exact h.elim
  | exact Exists.intro _ (And.intro h rfl)
theorem qNil_det : ∀ (x : A (u, K) SV), qNil x → ∃ s, K s ∧ qNil (x.re (u, (fun s0 : SV => s0 = s))) := by
 intro x h
 unfold qNil at h
 split at h
 all_goals first
  | exact h.elim
  | exact Exists.intro _ (And.intro h rfl)
  | exact Exists.intro _ (And.intro h.2 (And.intro h.1 rfl))
theorem qUn_det {op : UnOp} : ∀ (x : A (op, u, K) SV), qUn x → ∃ s, K s ∧ qUn (x.re (op, u, (fun s0 : SV => s0 = s))) := by
 intro x h
 unfold qUn at h
 split at h
 ·exact Exists.intro _ (And.intro h rfl)
 ·obtain ⟨s, h1, h2⟩ := arith_det _ h; exact Exists.intro s (And.intro h1 h2)
 ·exact h.elim
theorem qConv_det : ∀ (x : A (u, K) (LS × CvK × SV)), qConv x → ∃ s, K s ∧ qConv (x.re (u, (fun s0 : SV => s0 = s))) := by
 intro x h
 unfold qConv at h
 split at h
 ·exact Exists.intro _ (And.intro h rfl)
 ·exact Exists.intro _ (And.intro h rfl)
 ·obtain ⟨b, hb, l, h1, h2⟩ := withO_some h
  refine Exists.intro _ (And.intro h2 ?_)
  show withO _
  rw [hb]
  exact ⟨l, h1, rfl⟩
 ·obtain ⟨l, h1, h2⟩ := h
  exact Exists.intro _ (And.intro h2 (Exists.intro l (And.intro h1 rfl)))
 ·exact h.elim
theorem qFld_det : ∀ (x : A (u, K) (LS × SV × Nat)), qFld x → ∃ s, K s ∧ qFld (x.re (u, (fun s0 : SV => s0 = s))) := by
 intro x h
 unfold qFld at h
 split at h
 ·exact Exists.intro _ (And.intro h rfl)
 ·obtain ⟨b, hb, h1, h2⟩ := withO_some h
  refine Exists.intro _ (And.intro h2 ?_)
  show withO _
  rw [hb]
  exact ⟨h1, rfl⟩
 ·exact Exists.intro _ (And.intro h.2 (And.intro h.1 rfl))
 ·exact h.elim
theorem qIxA_det : ∀ (x : A (P, u, K) (LS × TypeId × SV × SV)), qIxA x → ∃ s, K s ∧ qIxA (x.re (P, u, (fun s0 : SV => s0 = s))) := by
 intro x h
 unfold qIxA at h
 split at h
 ·exact Exists.intro _ (And.intro h.2.2 (And.intro h.1 (And.intro h.2.1 rfl)))
 ·obtain ⟨b, hb, h0, h1, h2⟩ := withO_some h
  refine Exists.intro _ (And.intro h2 ?_)
  show withO _
  rw [hb]
  exact ⟨h0, h1, rfl⟩
 ·exact h.elim
theorem qIx_det : ∀ (x : A (P, t, u, K) (SV × SV)), qIx x → ∃ s, K s ∧ qIx (x.re (P, t, u, (fun s0 : SV => s0 = s))) := by
 intro x h
 unfold qIx at h
 split at h
 ·exact Exists.intro _ (And.intro h.2.2 (And.intro h.1 (And.intro h.2.1 rfl)))
 ·exact h.elim
theorem qSl_det : ∀ (x : A (P, t, u, K) (SV × Option SV × Option SV)), qSl x → ∃ s, K s ∧ qSl (x.re (P, t, u, (fun s0 : SV => s0 = s))) := by
 intro x h
 unfold qSl at h
 split at h
 ·obtain ⟨h0, h⟩ := h
  obtain ⟨l, hl, h⟩ := withO_some h
  obtain ⟨m, hm, h⟩ := withO_some h
  refine Exists.intro _ (And.intro h.2 ?_)
  refine And.intro h0 ?_
  show withO _
  rw [hl]
  show withO _
  rw [hm]
  exact And.intro h.1 rfl
 ·obtain ⟨l, hl, h⟩ := withO_some h
  obtain ⟨m, hm, h⟩ := withO_some h
  obtain ⟨e, he, h0, h1, h2⟩ := withO_some h
  refine Exists.intro _ (And.intro h2 ?_)
  show withO _
  rw [hl]
  show withO _
  rw [hm]
  show withO _
  rw [he]
  exact And.intro h0 (And.intro h1 rfl)
 ·exact h.elim
theorem qRd_det {m : Mem} {y : Value} : ∀ (x : A (m, y, u, K) (Option Nat)), qRd x → ∃ s, K s ∧ qRd (x.re (m, y, u, (fun s0 : SV => s0 = s))) := by
 rintro ⟨x⟩ h
 cases x with
 | none => obtain ⟨c, h1, h2⟩ := h; exact Exists.intro _ (And.intro h2 (Exists.intro c (And.intro h1 rfl)))
 | some n => obtain ⟨c, h1, h2⟩ := h; exact Exists.intro _ (And.intro h2 (Exists.intro c (And.intro h1 rfl)))
theorem qRdV_det {b : Vc} {o : Nat} : ∀ (x : A (b, o, u, K) (Option Nat)), qRdV x → ∃ s, K s ∧ qRdV (x.re (b, o, u, (fun s0 : SV => s0 = s))) := by
 rintro ⟨x⟩ h
 cases x with
 | none => exact Exists.intro _ (And.intro h.2 (And.intro h.1 rfl))
 | some n => exact Exists.intro _ (And.intro h.2.2 (And.intro h.1 (And.intro h.2.1 rfl)))
theorem qLkC_det {l : List Value} {key : Value} : ∀ (x : A (l, key, K) (Bool × Option Value)), qLkC x → ∃ s, K s ∧ qLkC (x.re (l, key, (fun s0 : SV => s0 = s))) := by
 intro x h
 unfold qLkC at h
 split at h
 ·exact Exists.intro _ (And.intro h rfl)
 ·rename_i z
  cases hf : findE l key with
  | none => exact Exists.intro _ (And.intro (h.2 hf) (And.intro (fun v hv => by rw [hf] at hv; cases hv) (fun _ => rfl)))
  | some v => exact Exists.intro _ (And.intro (h.1 v hf) (And.intro (fun v' hv => by rw [hf] at hv; cases hv; rfl) (fun hv => by rw [hf] at hv; cases hv)))
 ·rename_i z
  cases hf : findE l key with
  | none => exact Exists.intro _ (And.intro (h.2 hf) (And.intro (fun v hv => by rw [hf] at hv; cases hv) (fun _ => rfl)))
  | some v => exact Exists.intro _ (And.intro (h.1 v hf) (And.intro (fun v' hv => by rw [hf] at hv; cases hv; rfl) (fun hv => by rw [hf] at hv; cases hv)))
 ·cases h
theorem qLkp_det {c : Bool} : ∀ (x : A (P, t, c, K) (LS × SV × Option Value)), qLkp x → ∃ s, K s ∧ qLkp (x.re (P, t, c, (fun s0 : SV => s0 = s))) := by
 intro x h
 unfold qLkp at h
 split at h
 ·obtain ⟨b, hb, hty, ht, hk, h⟩ := withO_some h
  obtain ⟨l, hl, h⟩ := withO_some h
  obtain ⟨s, h1, h2⟩ := qLkC_det _ h
  refine Exists.intro s (And.intro h1 ?_)
  simp only [A.re, qLkp, withO, hb, hl, hty, true_and]
  exact ⟨ht, hk, h2⟩
 ·cases h
theorem qLoad_det : ∀ (x : A (P, t, u, K) (LS × SV)), qLoad x → ∃ s, K s ∧ qLoad (x.re (P, t, u, (fun s0 : SV => s0 = s))) := by
 intro x h
 unfold qLoad at h
 split at h
 ·obtain ⟨b, hb, hty, h⟩ := withO_some h
  obtain ⟨ag, hag, h⟩ := withO_some h
  obtain ⟨r, hr, h⟩ := withO_some h
  refine Exists.intro _ (And.intro h ?_)
  simp only [A.re, qLoad, withO, hb, hag, hr, hty, and_self]
 ·obtain ⟨b, hb, h⟩ := withO_some h
  obtain ⟨ag, hag, h⟩ := withO_some h
  obtain ⟨s, h1, h2⟩ := qRdV_det _ h
  refine Exists.intro _ (And.intro h1 ?_)
  show withO _
  rw [hb]
  show withO _
  rw [hag]
  exact h2
 ·obtain ⟨ag, hag, h⟩ := withO_some h
  obtain ⟨s, h1, h2⟩ := qRd_det _ h
  refine Exists.intro _ (And.intro h1 ?_)
  show withO _
  rw [hag]
  exact h2
 ·exact h.elim
theorem qExt_det : ∀ (x : A K (SV × Nat)), qExt x → ∃ s, K s ∧ qExt (x.re (fun s0 : SV => s0 = s)) := by
 intro x h
 unfold qExt at h
 split at h
 ·exact withO_det h
 ·exact withO_det h
 ·exact h.elim
theorem qLen_det : ∀ (x : A (P, t, K) (LS × SV)), qLen x → ∃ s, K s ∧ qLen (x.re (P, t, (fun s0 : SV => s0 = s))) := by
 intro x h
 unfold qLen at h
 split at h
 ·exact Exists.intro _ (And.intro h.2 (And.intro h.1 rfl))
 ·obtain ⟨e, he, h⟩ := withO_some h
  refine Exists.intro _ (And.intro h ?_)
  show withO _
  rw [he]
  rfl
 ·obtain ⟨e, he, h⟩ := withO_some h
  obtain ⟨b, hb, h⟩ := withO_some h
  refine Exists.intro _ (And.intro h ?_)
  show withO _
  rw [he]
  show withO _
  rw [hb]
  rfl
 ·exact h.elim
theorem qMin_det : ∀ (x : A K (SV × SV)), qMin x → ∃ s, K s ∧ qMin (x.re (fun s0 : SV => s0 = s)) := by
 intro x h
 unfold qMin at h
 split at h
 ·exact Exists.intro _ (And.intro h rfl)
 ·exact h.elim
theorem qMax_det : ∀ (x : A K (SV × SV)), qMax x → ∃ s, K s ∧ qMax (x.re (fun s0 : SV => s0 = s)) := by
 intro x h
 unfold qMax at h
 split at h
 ·exact Exists.intro _ (And.intro h rfl)
 ·exact h.elim
theorem qMax4_det : ∀ (x : A K (SV × SV × SV × SV)), qMax4 x → ∃ s, K s ∧ qMax4 (x.re (fun s0 : SV => s0 = s)) := by
 intro x h
 unfold qMax4 at h
 split at h
 ·exact Exists.intro _ (And.intro h rfl)
 ·exact h.elim
theorem qPick_det {p : Pth} {a b : Operand} {st : LS} {g : Gd} : ∀ (x : A (p, a, b, st, g, K) PM), qPick x → ∃ s, K s ∧ qPick (x.re (p, a, b, st, g, (fun s0 : SV => s0 = s))) := by
 rintro ⟨md⟩ h
 unfold qPick at h
 split at h
 ·obtain ⟨s, h1, h2⟩ := withO_det h.2; exact Exists.intro s (And.intro h1 (And.intro h.1 h2))
 ·obtain ⟨s, h1, h2⟩ := withO_det h.2; exact Exists.intro s (And.intro h1 (And.intro h.1 h2))
 ·rename_i q
  cases q
  obtain ⟨h0, h⟩ := h
  obtain ⟨x, hx, h⟩ := withO_some h
  obtain ⟨y, hy, h⟩ := withO_some h
  obtain ⟨s, h1, h2⟩ := pickB_det _ h
  refine Exists.intro s (And.intro h1 (And.intro h0 ?_))
  rw [hx]
  show withO _
  rw [hy]
  exact h2
theorem qOp_det {op : Op} : ∀ (x : A (P, op, K) (LS × Pth)), qOp x → ∃ s, K s ∧ qOp (x.re (P, op, (fun s0 : SV => s0 = s))) := by
 intro x h
 unfold qOp at h
 split at h
 ·exact withO_det h
 ·exact withO_det h
 ·obtain ⟨g, hg, h⟩ := withO_some h
  obtain ⟨s, h1, h2⟩ := qPick_det _ h
  exact Exists.intro s (And.intro h1 (by simp only [A.re, qOp, withO, hg]; exact h2))
 ·obtain ⟨x, hx, h⟩ := withO_some h
  obtain ⟨s, h1, h2⟩ := qNil_det _ h
  exact Exists.intro s (And.intro h1 (by simp only [A.re, qOp, withO, hx]; exact h2))
 ·obtain ⟨x, hx, h⟩ := withO_some h
  obtain ⟨s, h1, h2⟩ := qNilI_det _ h
  exact Exists.intro s (And.intro h1 (by simp only [A.re, qOp, withO, hx]; exact h2))
 ·rename_i bop t x' y' ty st' p' hne
  obtain ⟨x, hx, h⟩ := withO_some h
  obtain ⟨y, hy, h⟩ := withO_some h
  obtain ⟨s, h1, h2⟩ := binQ_det _ h
  have hy' : ¬ y' = .const .nilIface := fun e => by subst e; exact hne _ _ rfl HEq.rfl
  exact Exists.intro s (And.intro h1 (by simp only [A.re, qOp, withO, hx, hy, hy', false_implies, implies_true]; exact h2))
 ·obtain ⟨x, hx, h⟩ := withO_some h
  obtain ⟨s, h1, h2⟩ := qUn_det _ h
  exact Exists.intro s (And.intro h1 (by simp only [A.re, qOp, withO, hx]; exact h2))
 ·obtain ⟨x, hx, h⟩ := withO_some h
  obtain ⟨s, h1, h2⟩ := qConv_det _ h
  exact Exists.intro s (And.intro h1 (by simp only [A.re, qOp, withO, hx]; exact h2))
 ·obtain ⟨x, hx, h⟩ := withO_some h
  obtain ⟨y, hy, h⟩ := withO_some h
  obtain ⟨s, h1, h2⟩ := qFld_det _ h
  exact Exists.intro s (And.intro h1 (by simp only [A.re, qOp, withO, hx, hy]; exact h2))
 ·obtain ⟨x, hx, h⟩ := withO_some h
  obtain ⟨y, hy, h⟩ := withO_some h
  obtain ⟨s, h1, h2⟩ := withO_det h
  exact Exists.intro s (And.intro h1 (by simp only [A.re, qOp, withO, hx, hy]; exact h2))
 ·obtain ⟨x, hx, h⟩ := withO_some h
  obtain ⟨y, hy, h⟩ := withO_some h
  obtain ⟨z, hz, h⟩ := withO_some h
  obtain ⟨s, h1, h2⟩ := qIxA_det _ h
  exact Exists.intro s (And.intro h1 (by simp only [A.re, qOp, withO, hx, hy, hz]; exact h2))
 ·obtain ⟨x, hx, h⟩ := withO_some h
  obtain ⟨y, hy, h⟩ := withO_some h
  obtain ⟨s, h1, h2⟩ := qIx_det _ h
  exact Exists.intro s (And.intro h1 (by simp only [A.re, qOp, withO, hx, hy]; exact h2))
 ·obtain ⟨x, hx, h⟩ := withO_some h
  obtain ⟨y, hy, h⟩ := withO_some h
  obtain ⟨z, hz, h⟩ := withO_some h
  obtain ⟨s, h1, h2⟩ := qSl_det _ h
  exact Exists.intro s (And.intro h1 (by simp only [A.re, qOp, withO, hx, hy, hz]; exact h2))
 ·obtain ⟨x, hx, h⟩ := withO_some h
  obtain ⟨s, h1, h2⟩ := qLoad_det _ h
  exact Exists.intro s (And.intro h1 (by simp only [A.re, qOp, withO, hx]; exact h2))
 ·obtain ⟨x, hx, h⟩ := withO_some h
  obtain ⟨s, h1, h2⟩ := qExt_det _ h
  exact Exists.intro s (And.intro h1 (by simp only [A.re, qOp, withO, hx]; exact h2))
 ·obtain ⟨h0, h⟩ := h
  obtain ⟨z, hz, h⟩ := withO_some h
  obtain ⟨cs, hcs, h⟩ := withO_some h
  exact Exists.intro _ (And.intro h (by simp only [A.re, qOp, withO, hz, hcs]; exact And.intro h0 trivial))
 ·obtain ⟨x, hx, h⟩ := withO_some h
  obtain ⟨s, h1, h2⟩ := qLen_det _ h
  exact Exists.intro s (And.intro h1 (by simp only [A.re, qOp, withO, hx]; exact h2))
 ·obtain ⟨x, hx, h⟩ := withO_some h
  obtain ⟨y, hy, h⟩ := withO_some h
  obtain ⟨s, h1, h2⟩ := qMin_det _ h
  exact Exists.intro s (And.intro h1 (by simp only [A.re, qOp, withO, hx, hy]; exact h2))
 ·obtain ⟨x, hx, h⟩ := withO_some h
  obtain ⟨y, hy, h⟩ := withO_some h
  obtain ⟨s, h1, h2⟩ := qLkp_det _ h
  exact Exists.intro s (And.intro h1 (by simp only [A.re, qOp, withO, hx, hy]; exact h2))
 ·obtain ⟨x, hx, h⟩ := withO_some h
  obtain ⟨y, hy, h⟩ := withO_some h
  obtain ⟨s, h1, h2⟩ := qMax_det _ h
  exact Exists.intro s (And.intro h1 (by simp only [A.re, qOp, withO, hx, hy]; exact h2))
 ·obtain ⟨x, hx, h⟩ := withO_some h
  obtain ⟨y, hy, h⟩ := withO_some h
  obtain ⟨z, hz, h⟩ := withO_some h
  obtain ⟨u, hu, h⟩ := withO_some h
  obtain ⟨s, h1, h2⟩ := qMax4_det _ h
  exact Exists.intro s (And.intro h1 (by simp only [A.re, qOp, withO, hx, hy, hz, hu]; exact h2))
 ·exact h.elim
end
section
variable {n : Nat} {st : LS} {P : Program} {c : Cfg}
end
/-! Regions that draw their order, of quiet operations and pure calls. -/
def notAc : OpK → Bool
 | .ac => false
 | _ => true
section
variable {C : Ctx} {n : Nat} {st : LS} {a : Act} {V : Vl} {D : Nat → Nat} {w : World} {P : Program} {p : Pth} {c : Cfg} {ops : Array Oper} {L : Nat → Prop} {i : Nat} {o : Oper}
def Cl (C : Ctx) (bx : List Bx) (vc : List Vc) (nid : Nat) (m : Mem) (V : Vl) (w : World) : Prop := ∃ V' D', Agree nid vc V V' ∧ SatW C bx vc nid m V' D' w
theorem SatW.drew {bx : List Bx} {vc : List Vc} {nid : Nat} {m : Mem} (h : SatW C bx vc nid m V D w) (k : Nat) : SatW C bx vc nid m V D { w with drawn := k } :=
 ⟨⟨h.heap.bx, h.heap.vc, h.heap.apart, h.heap.uniq⟩, h.wf, ⟨h.frm.os, h.frm.tape, h.frm.output, h.frm.size, h.frm.same⟩, h.own, h.baseB, h.baseV, h.ids, h.le0, h.m0, h.mle⟩
theorem one_quiet (hF : SatF n st.env st.rho a V) (hids : ∀ e ∈ st.env, okS st.nid st.vc e.s) {w0 : World} (hcl0 : Cl C st.bx st.vc st.nid st.m V w0)
  (hpu : PureOk c P) (hR : RInv ops L st.rho) (hLi : ¬ L i) (hoi : ops[i]? = some o) (hd : dstOk n o = true) (hna : notAc (opK c o.op) = true) (hpath : pathOf st o.guard = some p) {K : LS → Prop} (h : one (.mk (k := (c, P, i, o, K)) (st, p)))
  {next : Act → Prop} (hn : ∀ st' a', K st' → SatF n st'.env st'.rho a' V → (∀ e ∈ st'.env, okS st.nid st.vc e.s) → st'.bx = st.bx ∧ st'.vc = st.vc ∧ st'.nid = st.nid ∧ st'.m = st.m → RInv ops (fun k => L k ∨ k = i) st'.rho → next a') :
  if Region.wanted o (yielded ops a.tmps) then o.quiet P a (Cl C st.bx st.vc st.nid st.m V) next else next (a.put o.dst undef) := by
 obtain ⟨V0, D0, ha0, hW0⟩ := hcl0
 have satOf : ∀ {V' : Vl} {D' : Nat → Nat} {w' : World}, Agree st.nid st.vc V V' → SatW C st.bx st.vc st.nid st.m V' D' w' → Sat C n st a V' D' w' := fun ha hW => ⟨hF.agree hids ha, hids, hW⟩
 have hS0 := satOf ha0 hW0
 obtain ⟨hp, hw⟩ := path_sound hS0 hR hpath
 rw [hw]
 have back : ∀ {st' : LS} {a' : Act}, Sat C n st' a' V0 D0 w0 → st'.bx = st.bx ∧ st'.vc = st.vc ∧ st'.nid = st.nid ∧ st'.m = st.m → SatF n st'.env st'.rho a' V ∧ ∀ e ∈ st'.env, okS st.nid st.vc e.s := by
  intro st' a' hS' he
  have hid : ∀ e ∈ st'.env, okS st.nid st.vc e.s := by rw [← he.2.1, ← he.2.2.1]; exact hS'.ids
  exact ⟨hS'.f.agree hid (fun k hk => ⟨((ha0 k hk).1).symm, fun u hu => ((ha0 k hk).2 u hu).symm⟩), hid⟩
 simp only [one] at h
 unfold one2 at h
 split at h
 ·rename_i q dead he
  simp only [A.mk.injEq, Prod.mk.injEq] at he
  obtain ⟨hq, hdead, hit⟩ := he
  have heqs : ∀ (d : Option Nat) (p : Pth) (s : SV), (E.put st d p s).bx = st.bx ∧ (E.put st d p s).vc = st.vc ∧ (E.put st d p s).nid = st.nid ∧ (E.put st d p s).m = st.m := fun d p s => by cases d <;> exact ⟨rfl, rfl, rfl, rfl⟩
  have heqG : ∀ (d : Option Nat) (p : Pth) (s : SV) (mv : Bool), (noteG (E.put st d p s) i d p mv s).bx = st.bx ∧ (noteG (E.put st d p s) i d p mv s).vc = st.vc ∧ (noteG (E.put st d p s) i d p mv s).nid = st.nid ∧ (noteG (E.put st d p s) i d p mv s).m = st.m := fun d p s mv => by
   rcases noteG_cases (E.put st d p s) i d p mv s with e | ⟨_, _, _, _, e⟩
   ·rw [e]; exact heqs d p s
   ·rw [e]; exact heqs d p s
  have heqD : ∀ (d : Option Nat) (p : Pth) (s : SV) (mv : Bool), (noteD (E.put st d p s) i d p mv).bx = st.bx ∧ (noteD (E.put st d p s) i d p mv).vc = st.vc ∧ (noteD (E.put st d p s) i d p mv).nid = st.nid ∧ (noteD (E.put st d p s) i d p mv).m = st.m := fun d p s mv => by
   rcases noteD_cases (E.put st d p s) i d p mv with e | ⟨_, _, e⟩
   ·rw [e]; exact heqs d p s
   ·rw [e]; exact heqs d p s
  unfold one3 at h
  split at h
  ·rename_i st' p' q'
   cases q'
   have hc := deadP_not hdead
   rw [hc]
   simp only [Bool.false_eq_true, if_false]
   obtain ⟨h1, h2⟩ := doneD hS0 hR hLi hoi hd hit hp hc (isMove o.op)
   obtain ⟨h3, h4⟩ := back h1 (heqD _ _ _ _)
   exact hn _ _ h h3 h4 (heqD _ _ _ _) h2
  ·rename_i st' p' q'
   cases q'
   obtain ⟨s, ⟨hs, hK⟩, hdet⟩ := qOp_det _ h
   have hrun : ∀ w', Cl C st.bx st.vc st.nid st.m V w' → condP st.rho p = true → (execOp a.eval o).run P w' = .ok (.value (den V s)) w' := by
    rintro w' ⟨V', D', ha, hW⟩ hc
    obtain ⟨s', e, hr⟩ := qOp_sound (satOf ha hW) hp (o := o) rfl hdet
    subst e
    rw [hr hc, den_agree ha hs]
   cases hc : condP st.rho p with
   | true =>
    simp only [if_true]
    refine ⟨den V s, fun w' hw' => ?_, ?_⟩
    ·unfold Oper.quietAt
     rw [hrun w' hw' hc]
     exact ⟨rfl, rfl⟩
    ·have e0 : den V s = den V0 s := (den_agree ha0 hs).symm
     obtain ⟨h1, h2⟩ := doneG hS0 hR hLi hoi hd hit hp hs (v := den V s) (by rw [hc, e0]; rfl) (isMove o.op)
     obtain ⟨h3, h4⟩ := back h1 (heqG _ _ _ _)
     exact hn _ _ hK h3 h4 (heqG _ _ _ _) h2
   | false =>
    simp only [Bool.false_eq_true, if_false]
    obtain ⟨h1, h2⟩ := doneG hS0 hR hLi hoi hd hit hp hs (v := undef) (by rw [hc]; rfl) (isMove o.op)
    obtain ⟨h3, h4⟩ := back h1 (heqG _ _ _ _)
    exact hn _ _ hK h3 h4 (heqG _ _ _ _) h2
  ·rename_i F st' p' q'
   cases q'
   obtain ⟨y, hy, hB, hK⟩ := withO_some h
   cases hc : condP st.rho p with
   | true =>
    simp only [if_true]
    obtain ⟨f, args, ts, ho, hf⟩ := opK_pure hq
    obtain ⟨hok, hFF⟩ := hpu f F hf
    rw [ho] at hy
    simp only [callArgs, Option.bind_eq_some_iff] at hy
    obtain ⟨vals, ⟨ss, hss, hvals⟩, hy⟩ := hy
    refine ⟨y.2, ?_, ?_⟩
    ·rintro w' ⟨V', D', ha, hW⟩
     have hS' := satOf ha hW
     have hrun := run_call (w := w') (a := a) ho rfl hok
     unfold Oper.quietAt
     rw [hrun]
     refine ⟨rfl, ?_⟩
     have hargs : args.map a.eval = ⟨(vals.map SV.v).map (den V')⟩ := by
      apply Array.ext'
      rw [Array.toList_map, rdOs_sound hS' hp hc hss, plainSs_den hvals]
      simp only [List.map_map]
      exact (List.map_id'' (fun x => rfl) vals).symm
     rw [hargs]
     refine (hFF vals y hy (hB hc) st.m V' w' D' hW.wf hW.mle ⟨fun b hb => (by cases hb), fun b hb => (by cases hb), by simp [blks], by simp⟩).mono fun e w2 ⟨r, V2, D2, H', m', he, h1, h2, h3, h4, h5, h6, h7, h8, h9, hr, hH⟩ => ?_
     subst he
     subst hr
     exact ⟨rfl, V', D2, ha, hW.quiet h1 h5 h7⟩
    ·obtain ⟨h1, h2⟩ := doneP (i := i) hS0 hR hd hit hp (s := .v y.2) trivial (v := y.2) (fun _ => rfl)
     obtain ⟨h3, h4⟩ := back h1 (heqs _ _ _)
     exact hn _ _ hK h3 h4 (heqs _ _ _) h2
   | false =>
    simp only [Bool.false_eq_true, if_false]
    obtain ⟨h1, h2⟩ := doneP (i := i) hS0 hR hd hit hp (s := .v y.2) trivial (v := undef) (fun e => by rw [hc] at e; cases e)
    obtain ⟨h3, h4⟩ := back h1 (heqs _ _ _)
    exact hn _ _ hK h3 h4 (heqs _ _ _) h2
  ·rw [hq] at hna; cases hna
 ·cases h
theorem vcQ_sound (hpu : PureOk c P) {C : Ctx} {V : Vl} {w0 : World} {bx : List Bx} {vc : List Vc} {nid : Nat} {m : Mem} (hcl0 : Cl C bx vc nid m V w0) {K : LS → Prop} {Q : Act → Prop}
  (hQ : ∀ st' a', K (clean st') → SatF n st'.env st'.rho a' V → (∀ e ∈ st'.env, okS nid vc e.s) → st'.bx = bx ∧ st'.vc = vc ∧ st'.nid = nid ∧ st'.m = m → Q a') :
  ∀ (l : List Oper) (i : Nat) (st : LS) (a : Act), vcLx c P l i K st → SatF n st.env st.rho a V → (∀ e ∈ st.env, okS nid vc e.s) → st.bx = bx ∧ st.vc = vc ∧ st.nid = nid ∧ st.m = m → RInv ops (· < i) st.rho →
   (∀ j, l[j]? = ops[i + j]?) → (∀ o ∈ l, dstOk n o = true ∧ notAc (opK c o.op) = true) → wpQuiet P ops (Cl C bx vc nid m V) Q l a
 | [], i, st, a, h, hF, hids, he, hR, hl, hd => hQ _ _ h hF hids he
 | o :: r, i, st, a, h, hF, hids, he, hR, hl, hd => by
  obtain ⟨p, hp, h⟩ := withO_some h
  have hoi : ops[i]? = some o := by have := hl 0; simpa using this.symm
  obtain ⟨rfl, rfl, rfl, rfl⟩ := he
  unfold wpQuiet
  refine one_quiet hF hids hcl0 hpu hR (Nat.lt_irrefl _) hoi (hd o (List.mem_cons_self ..)).1 (hd o (List.mem_cons_self ..)).2 hp h fun st' a' hK hF' hids' he' hR' => ?_
  exact vcQ_sound hpu hcl0 hQ r (i + 1) st' a' hK hF' hids' he' (hR'.mono fun k hk => by omega) (fun j => by have := hl (j + 1); simpa [Nat.add_assoc, Nat.add_comm 1 j] using this) (fun o ho => hd o (List.mem_cons_of_mem _ ho))
theorem WP_drawQ (hpu : PureOk c P) {id : Nat} {l : List Oper} {Q : Exit → LS → Prop} {st : LS} (hm : P.follows .mixedOrders = true) (hB : Region.lexB .any ⟨l⟩ = true) (hd : l.all (fun o => dstOk n o && notAc (opK c o.op)) = true)
  (h : vcL (.mk (k := (c, P, 0, l, Q .normal)) st)) : WPv (.mk (k := (P, n, .region id ⟨l⟩ true, Q)) st) := by
 rintro C a w ⟨hrho, V, D, hS⟩
 have hcl : Cl C st.bx st.vc st.nid st.m V { w with drawn := w.drawn + 1 } := ⟨V, D, Agree.refl _ _ _, hS.w.drew _⟩
 refine wp_region_quiet (C := Cl C st.bx st.vc st.nid st.m V) hm hB hcl ?_
 refine vcQ_sound (ops := ⟨l⟩) hpu hcl (K := Q .normal) ?_ l 0 st a h hS.f hS.ids ⟨rfl, rfl, rfl, rfl⟩ ?_ (fun j => by simp) (fun o ho => ?_)
 ·rintro st' a' hK hF' hids' ⟨e1, e2, e3, e4⟩ w' ⟨V', D', ha, hW⟩
  refine ⟨clean st', ?_, hK⟩
  have hS' : Sat C n st' a' V' D' w' := ⟨hF'.agree hids' ha, by rw [e2, e3]; exact hids', by rw [e1, e2, e3, e4]; exact hW⟩
  exact clean_sound hS'
 ·rw [hrho]; intro g hg; cases hg
 ·have := List.all_eq_true.1 hd o ho
  simpa using this
end
/-! Functions of values, listed. -/
def lkF : List (FuncId × (List Value → Option (Prop × Value))) → FuncId → Option (List Value → Option (Prop × Value))
 | [], _ => none
 | (g, F) :: r, f => if g = f then some F else lkF r f
def mkCf (own : FuncId → Bool) (L : List (FuncId × (List Value → Option (Prop × Value)))) : Cfg := ⟨own, lkF L⟩
attribute [go_sem] lkF.eq_1 lkF.eq_2 mkCf.eq_1
theorem pure_nil {P : Program} {own : FuncId → Bool} : PureOk (mkCf own []) P := fun f F h => by cases h
theorem pure_cons {P : Program} {own : FuncId → Bool} {L : List (FuncId × (List Value → Option (Prop × Value)))} {g : FuncId} {F : List Value → Option (Prop × Value)} (hok : fnOk P g = true)
  (h : ∀ vals y, F vals = some y → y.1 → ∀ m, FnH P g (vals.map SV.v) ⟨[], []⟩ m (fun r H' _ => r = .v y.2 ∧ H' = ⟨[], []⟩)) (hL : PureOk (mkCf own L) P) : PureOk (mkCf own ((g, F) :: L)) P := by
 intro f G hf
 simp only [mkCf, lkF] at hf
 split at hf
 ·rename_i e
  subst e
  cases hf
  exact ⟨hok, h⟩
 ·exact hL f G hf
def depF (ops : Array Oper) : Nat → Nat → Nat → Bool
 | 0, _, _ => false
 | f + 1, j, i => match ops[j]? with
  | some o => o.after.toList.any fun e => Region.binds .any e && (e.on == i || depF ops f e.on i)
  | none => false
def Dep (ops : Array Oper) (j i : Nat) : Prop := ∃ f, depF ops f j i = true
def Closed (ops : Array Oper) (listed : Array Bool) (i : Nat) : Prop := ∀ k, listed.getD k false = true → Dep ops k i → listed.getD i false = true
section
variable {P : Program} {ops : Array Oper} {Q : Exit → Act → World → Prop} {Cw : World → Prop}
theorem unlisted {listed : Array Bool} {i : Nat} (h : listed.getD i true = false) : listed.getD i false = false := by
 rcases Nat.lt_or_ge i listed.size with h' | h'
 ·simp only [Array.getD, h', dite_true] at h ⊢; exact h
 ·simp [Array.getElem?_eq_none h'] at h
theorem ready_nodep {listed : Array Bool} {i j : Nat} (hc : Closed ops listed i) (hi : listed.getD i false = false) (hj : j ∈ Region.ready .any ops listed) : ¬ Dep ops j i := by
 rintro ⟨f, hf⟩
 obtain ⟨_, o, ho, hall⟩ := mem_ready.1 hj
 cases f with
 | zero => cases hf
 | succ f =>
  simp only [depF, ho] at hf
  obtain ⟨e, he, h⟩ := List.any_eq_true.1 hf
  simp only [Bbt, Bool.or_eq_true, beq_iff_eq] at h
  have hl := hall e (by simpa using he) h.1
  rcases h.2 with h2 | h2
  ·rw [h2, hi] at hl; cases hl
  ·have := hc _ hl ⟨f, h2⟩
   rw [hi] at this; cases this
theorem Closed.set {listed : Array Bool} {i j : Nat} (hc : Closed ops listed i) (hj : ¬ Dep ops j i) : Closed ops (listed.setIfInBounds j true) i := fun k hk hd => by
 by_cases e : j = k
 ·subst e; exact absurd hd hj
 ·rw [getD_set_ne false e] at hk
  exact getD_set_true (hc k hk hd)
theorem Closed.done {listed : Array Bool} {i : Nat} (h : listed.getD i false = true) : Closed ops listed i := fun _ _ _ => h
def YW (P : Program) (ops : Array Oper) (Cw : World → Prop) (o : Oper) (v : Value) (a : Act) : Prop :=
 (Region.wanted o (yielded ops a.tmps) = true ∧ ∀ w, Cw w → (execOp a.eval o).run P w = .ok (.value v) w) ∨ (Region.wanted o (yielded ops a.tmps) = false ∧ v = undef)
theorem YW.same {o : Oper} {v : Value} {a a' : Act} (hy : YW P ops Cw o v a) (he : execOp a'.eval o = execOp a.eval o) (hw : Region.wanted o (yielded ops a'.tmps) = Region.wanted o (yielded ops a.tmps)) : YW P ops Cw o v a' := by
 unfold YW at *
 rw [he, hw]
 exact hy
theorem YW.wpOp {i : Nat} {o : Oper} {v : Value} {a : Act} (hi : ops[i]? = some o) (hy : YW P ops Cw o v a) {K : Act → World → Prop} {w : World} (hw : Cw w) (h : K (a.put o.dst v) w) : wpOp P ops Q i K a w := by
 unfold Go.wpOp
 simp only [hi]
 rcases hy with ⟨hwd, hv⟩ | ⟨hwd, rfl⟩
 ·simp only [hwd, if_true, Oper.wp, hv w hw, Oper.upon]; exact .inl h
 ·simp only [hwd, Bool.false_eq_true, if_false]; exact h
theorem wpOp_putW {j : Nat} {oi oj : Oper} {v : Value} (hj : ops[j]? = some oj) (hap : oi.apart ops oj = true) (hsi : ∀ cs b, oi.op ≠ .select cs b) (hsj : ∀ cs b, oj.op ≠ .select cs b)
  (hQ : ∀ c a w, ¬ Q (.panic c) a w) {K : Act → World → Prop} {a : Act} {w : World} (hy : YW P ops Cw oi v a) (h : wpOp P ops Q j K (a.put oi.dst v) w) :
  wpOp P ops Q j (fun a' w' => YW P ops Cw oi v a' ∧ K (a'.put oi.dst v) w') a w := by
 obtain ⟨h1, h2, h3⟩ := Oper.apart_spec hap
 have keep : ∀ (a : Act), YW P ops Cw oi v a → ∀ u, YW P ops Cw oi v (a.put oj.dst u) := fun a hy u =>
  hy.same (execOp_put oi hsi a oj.dst u h3) (wanted_put oi a oj.dst u h3)
 have keepD : ∀ d, YW P ops Cw oi v { a with defers := d :: a.defers } := fun d => hy.same rfl rfl
 unfold wpOp at *
 simp only [hj] at *
 rw [wanted_put oj a oi.dst v h1] at h
 split
 ·rename_i hw
  simp only [hw, if_true] at h
  rcases h with h | ⟨hasks, hlets⟩
  case inr => exact .inr ⟨by unfold Oper.asks at *; rw [execOp_put oj hsj a oi.dst v h1] at hasks; exact hasks, hlets⟩
  refine .inl ?_
  unfold Oper.wp at *
  rw [execOp_put oj hsj a oi.dst v h1] at h
  generalize (execOp a.eval oj).run P w = r at *
  cases r with
  | ok n w' =>
   cases n <;> simp only [Oper.upon] at h ⊢
   case value u => exact ⟨keep a hy u, by rw [← Act.put_comm a v u h2]; exact h⟩
   case skip => exact ⟨keep a hy _, by rw [← Act.put_comm a v undef h2]; exact h⟩
   case defer d =>
    refine ⟨keep _ (keepD d) _, ?_⟩
    rw [← Act.put_comm _ v undef h2, ← Act.put_defers]
    exact h
   case enter f args =>
    refine Calls.mono h fun e w'' he => ?_
    cases e with
    | returned u => exact ⟨keep a hy u, by rw [← Act.put_comm a v u h2]; exact he⟩
    | panicked c => exact absurd he (hQ _ _ _)
    | outgrown => exact he
   case row row args => exact Rows.mono h fun u w'' he => ⟨keep a hy u, by rw [← Act.put_comm a v u h2]; exact he⟩
  | halt x w' =>
   cases x <;> simp only [Oper.upon] at h ⊢
   case panic u => exact absurd h (hQ _ _ _)
 ·rename_i hw
  simp only [hw] at h
  exact ⟨keep a hy _, by rw [← Act.put_comm a v undef h2]; exact h⟩
def wpAnyC (P : Program) (ops : Array Oper) (Q : Exit → Act → World → Prop) : Nat → (Nat × (World → Prop) → Prop) → Array Bool → Act → World → Prop
 | 0, _, listed, a, w => Region.ready .any ops listed = [] ∧ Q .normal a w
 | fuel + 1, I, listed, a, w =>
  (Region.ready .any ops listed = [] → Q .normal a w) ∧
  ∀ j ∈ Region.ready .any ops listed, wpOp P ops Q j (fun a' w' => (∀ x, I x → ¬ Dep ops j x.1 → x.2 w') ∧ wpAnyC P ops Q fuel (fun x => I x ∧ ¬ Dep ops j x.1) (listed.setIfInBounds j true) a' w') a w
theorem wpAnyC_any : ∀ (fuel : Nat) (I : Nat × (World → Prop) → Prop) (listed : Array Bool) (a : Act) (w : World), wpAnyC P ops Q fuel I listed a w → wpAny P .any ops Q fuel listed a w
 | 0, _, _, _, _, h => h
 | fuel + 1, _, _, _, _, h => ⟨h.1, fun j hj => wpOp_mono (fun a' w' h' => wpAnyC_any fuel _ _ a' w' h'.2) (h.2 j hj)⟩
theorem wpAnyC_less : ∀ (fuel : Nat) (I J : Nat × (World → Prop) → Prop) (_ : ∀ i, J i → I i) (listed : Array Bool) (a : Act) (w : World), wpAnyC P ops Q fuel I listed a w → wpAnyC P ops Q fuel J listed a w
 | 0, _, _, _, _, _, _, h => h
 | fuel + 1, I, J, hI, _, _, _, h => ⟨h.1, fun j hj => wpOp_mono (fun a' w' h' => ⟨fun x h1 h2 => h'.1 x (hI x h1) h2, wpAnyC_less fuel _ _ (fun x hx => ⟨hI x hx.1, hx.2⟩) _ a' w' h'.2⟩) (h.2 j hj)⟩
theorem hoist {i : Nat} {oi : Oper} {v : Value} (hi : ops[i]? = some oi) (hsel : ∀ (j : Nat) (o : Oper) cs b, ops[j]? = some o → o.op ≠ .select cs b) (hQ : ∀ c a w, ¬ Q (.panic c) a w) :
  ∀ (fuel : Nat) (I : Nat × (World → Prop) → Prop) (listed : Array Bool) (a : Act) (w : World),
   (∀ j oj, ops[j]? = some oj → j ≠ i → listed.getD j true = false → (∀ e ∈ oj.after, Region.binds .any e = true → e.on ≠ i) → oi.apart ops oj = true) →
   Closed ops listed i → i ∈ Region.ready .any ops listed → YW P ops Cw oi v a → Cw w → (∀ x, I x → x.2 w) →
   wpAnyC P ops Q fuel (fun x => x = (i, Cw) ∨ I x) (listed.setIfInBounds i true) (a.put oi.dst v) w → wpAnyC P ops Q (fuel + 1) I listed a w := by
 intro fuel
 induction fuel with
 | zero =>
  intro I listed a w _ _ hr hy hC hI H
  refine ⟨fun h => (by rw [h] at hr; cases hr), fun j hj => ?_⟩
  by_cases hji : j = i
  ·subst hji; exact hy.wpOp hi hC ⟨fun x h1 _ => hI x h1, H⟩
  ·have := ready_mono hj hji
   rw [H.1] at this
   cases this
 | succ fuel ih =>
  intro I listed a w hfree hcl hr hy hC hI H
  refine ⟨fun h => (by rw [h] at hr; cases hr), fun j hj => ?_⟩
  by_cases hji : j = i
  ·subst hji; exact hy.wpOp hi hC ⟨fun x h1 _ => hI x h1, wpAnyC_less _ _ _ (fun x hx => .inr hx.1) _ _ _ H⟩
  ·have h1 := H.2 j (ready_mono hj hji)
   obtain ⟨hjun, oj, hoj, hall⟩ := mem_ready.1 hj
   have hiun := unlisted (mem_ready.1 hr).1
   have hnd := ready_nodep hcl hiun hj
   have hnot : ∀ e ∈ oj.after, Region.binds .any e = true → e.on ≠ i := fun e he hb heq => by
    have h1 := hall e he hb
    rw [heq, hiun] at h1
    cases h1
   have h2 := wpOp_putW hoj (hfree j oj hoj hji hjun hnot) (fun cs b => hsel i oi cs b hi) (fun cs b => hsel j oj cs b hoj) hQ hy h1
   have hfree' : ∀ k ok, ops[k]? = some ok → k ≠ i → (listed.setIfInBounds j true).getD k true = false →
     (∀ e ∈ ok.after, Region.binds .any e = true → e.on ≠ i) → oi.apart ops ok = true := fun k ok hk hki hun hno => by
    refine hfree k ok hk hki ?_ hno
    by_cases hjk : j = k
    ·subst hjk; exact hjun
    ·rw [getD_set_ne true hjk] at hun; exact hun
   refine wpOp_mono (fun a' w' h3 => ?_) h2
   obtain ⟨hy', hC', h3⟩ := h3
   have hC'' := hC' (i, Cw) (.inl rfl) hnd
   have hI' : ∀ x, I x ∧ ¬ Dep ops j x.1 → x.2 w' := fun x hx => hC' x (.inr hx.1) hx.2
   refine ⟨fun x h1 h2 => hI' x ⟨h1, h2⟩, ih _ (listed.setIfInBounds j true) a' w' hfree' (hcl.set hnd) (ready_mono hr (Ne.symm hji)) hy' hC'' hI' ?_⟩
   rw [Array.setIfInBounds_comm _ _ hji]
   refine wpAnyC_less _ _ _ (fun x hx => ?_) _ _ _ h3
   rcases hx with rfl | hx
   ·exact ⟨.inl rfl, hnd⟩
   ·exact ⟨.inr hx.1, hx.2⟩
end
inductive Plan where
 | done
 | stop
 | hoist (i : Nat) (r : Plan)
 | alt (j : Nat) (ow : List Nat) (r next : Plan)
structure HX where
 i : Nat
 bx : List Bx
 vc : List Vc
 m : Mem
def lkO : List Oper → Nat → Option Oper
 | [], _ => none
 | o :: _, 0 => some o
 | _ :: r, n + 1 => lkO r n
def rdIds (st : LS) (p : Pth) : List Operand → List Nat → List Nat
 | [], acc => acc
 | x :: r, acc => rdIds1 st p r acc (rdO st p x)
where rdIds1 (st : LS) (p : Pth) (r : List Operand) (acc : List Nat) : Option SV → List Nat
 | some s => rdIds st p r (idsS acc [s])
 | none => rdIds st p r acc
def ownOf : Op → List Operand
 | .load _ a => [a]
 | .convert _ _ a => [a]
 | .fieldAddr _ a _ => [a]
 | .indexAddr _ a _ => [a]
 | .call { args := ⟨[x]⟩, .. } => [x]
 | .move _ => []
 | .assign _ => []
 | .pick _ _ _ => []
 | .nilCheck _ => []
 | .binOp _ _ _ _ _ => []
 | .unOp _ _ _ => []
 | .field _ _ _ => []
 | .index _ _ _ => []
 | .slice _ _ _ _ _ => []
 | .extract _ _ => []
 | .build _ _ => []
 | _ => []
def keepX (ow : List Nat) : List HX → List HX
 | [] => []
 | ⟨i, bx, vc, m⟩ :: r => if memN ow i = true then ⟨i, bx, vc, m⟩ :: keepX ow r else keepX ow r
def owe (st : LS) : List HX → Prop
 | [] => True
 | ⟨_, bx, vc, m⟩ :: r => mBx st bx ∧ mVc st vc ∧ leM m st.m ∧ owe st r
def hst2 {P : Program} {o : Oper} {p : Pth} {st : LS} {i : Nat} {K : LS → HX → Prop} (x : A (P, o, p, st, i, K) (OpK × Bool × Bool × List Nat)) : Prop :=
 match x with
 | .mk (_, true, false, _) => K (noteD (put st o.dst p (.v undef)) i o.dst p (isMove o.op)) ⟨i, [], [], st.m⟩
 | .mk (.qt, false, false, ks) => qOp (.mk (k := (P, o.op, fun s => okS st.nid st.vc s ∧ K (noteG (put st o.dst p s) i o.dst p (isMove o.op) s) ⟨i, pickBx ks st.bx, pickVc ks st.vc, st.m⟩)) (⟨st.env, st.rho, pickBx ks st.bx, pickVc ks st.vc, st.nid, st.m⟩, p))
 | _ => False
def hst {c : Cfg} {P : Program} {o : Oper} {i : Nat} {K : LS → HX → Prop} (x : A (c, P, o, i, K) (LS × Pth)) : Prop :=
 match x with
 | .mk (st, p) => hst2 (.mk (k := (P, o, p, st, i, K)) (opK c o.op, deadP st.rho p, hitG st.rho o.dst, rdIds st p (ownOf o.op) []))
def vcPx (c : Cfg) (P : Program) (l : List Oper) (K : LS → Prop) : Plan → List HX → LS → Prop
 | .done, _, st => K (clean st)
 | .stop, _, _ => True
 | .hoist i r, I, st => withO (.mk (k := fun o : Oper => withO (.mk (k := fun p : Pth => hst (.mk (k := (c, P, o, i, fun st' X => vcPx c P l K r (X :: I) st')) (st, p))) (pathOf st o.guard))) (lkO l i))
 | .alt j ow r nx, I, st => withO (.mk (k := fun o : Oper => withO (.mk (k := fun p : Pth => one (.mk (k := (c, P, j, o, fun st' => owe st' (keepX ow I) ∧ vcPx c P l K r (keepX ow I) st')) (st, p))) (pathOf st o.guard))) (lkO l j)) ∧ vcPx c P l K nx I st
def vcP {c : Cfg} {P : Program} {l : List Oper} {K : LS → Prop} {pl : Plan} {I : List HX} (x : A (c, P, l, K, pl, I) LS) : Prop := match x with | .mk st => vcPx c P l K pl I st
/-! Does the plan fit the region? -/
def chk (ops : Array Oper) : Plan → Nat → List Nat → Array Bool → Option (List Nat) → Bool
 | .done, _, _, listed, none => (Region.ready .any ops listed).isEmpty
 | .hoist i r, f + 1, H, listed, none => Region.free .any ops listed i && (Region.ready .any ops listed).contains i && chk ops r f (i :: H) (listed.setIfInBounds i true) none
 | .alt j ow r nx, f + 1, H, listed, none => (Region.ready .any ops listed).contains j && H.all (fun i => memN ow i || depF ops ops.size j i) &&
   chk ops r f (H.filter (memN ow)) (listed.setIfInBounds j true) none && chk ops nx (f + 1) H listed (some ((Region.ready .any ops listed).filter (· != j)))
 | .alt j ow r nx, f + 1, H, listed, some R => R.contains j && (Region.ready .any ops listed).contains j && H.all (fun i => memN ow i || depF ops ops.size j i) &&
   chk ops r f (H.filter (memN ow)) (listed.setIfInBounds j true) none && chk ops nx (f + 1) H listed (some (R.filter (· != j)))
 | .stop, _, _, _, some R => R.isEmpty
 | _, _, _, _, _ => false
section
variable {ops : Array Oper}
def AllClosed (ops : Array Oper) (listed : Array Bool) : Prop := ∀ i, Closed ops listed i
theorem ready_lt {listed : Array Bool} {j : Nat} (hj : j ∈ Region.ready .any ops listed) : j < listed.size := by
 have h := (mem_ready.1 hj).1
 rcases Nat.lt_or_ge j listed.size with h' | h'
 ·exact h'
 ·simp [Array.getElem?_eq_none h'] at h
theorem set_get {listed : Array Bool} {j : Nat} (hj : j < listed.size) : (listed.setIfInBounds j true).getD j false = true := by simp [hj]
theorem set_cases {listed : Array Bool} {j k : Nat} (h : (listed.setIfInBounds j true).getD k false = true) : k = j ∨ listed.getD k false = true := by
 by_cases e : j = k
 ·exact .inl e.symm
 ·rw [getD_set_ne false e] at h; exact .inr h
theorem AllClosed.set {listed : Array Bool} {j : Nat} (hc : AllClosed ops listed) (hj : j ∈ Region.ready .any ops listed) : AllClosed ops (listed.setIfInBounds j true) := by
 intro i k hk hd
 refine getD_set_true ?_
 rcases set_cases hk with rfl | hk
 ·obtain ⟨_, o, ho, hall⟩ := mem_ready.1 hj
  obtain ⟨f, hf⟩ := hd
  cases f with
  | zero => cases hf
  | succ f =>
   simp only [depF, ho] at hf
   obtain ⟨e, he, h⟩ := List.any_eq_true.1 hf
   simp only [Bbt, Bool.or_eq_true, beq_iff_eq] at h
   have hl := hall e (by simpa using he) h.1
   rcases h.2 with h2 | h2
   ·rw [← h2]; exact hl
   ·exact hc i _ hl ⟨f, h2⟩
 ·exact hc i k hk hd
theorem lkO_get : ∀ {l : List Oper} {i : Nat} {o : Oper}, lkO l i = some o → l[i]? = some o
 | [], _, _, h => by cases h
 | o :: r, 0, o', h => h
 | o :: r, n + 1, o', h => by
  simp only [lkO] at h
  simpa using lkO_get h
end
section
variable {C : Ctx} {n : Nat} {st : LS} {a : Act} {V : Vl} {D : Nat → Nat} {w : World} {P : Program} {p : Pth} {c : Cfg} {ops : Array Oper} {L : Nat → Prop} {i : Nat} {o : Oper}
structure SX where
 h : HX
 nid : Nat
 vc : List Vc
 V : Vl
def SX.cl (C : Ctx) (x : SX) (w : World) : Prop := ∃ V' D', Agree x.nid x.vc x.V V' ∧ SatW C x.h.bx x.h.vc x.nid x.h.m V' D' w
structure SX.ok (C : Ctx) (st : LS) (V : Vl) (x : SX) : Prop where
 step : Step x.nid x.vc st.nid st.vc x.V V
 hd : okHd ⟨[], [], x.h.bx, x.h.vc, x.nid, x.h.m⟩
 b : ∀ b ∈ C.H0.bx, b.id < x.nid
 v : ∀ b ∈ C.H0.vc, b.id < x.nid
 m : C.m0.le x.h.m
theorem pickBx_sub {L : List Nat} : ∀ {bx : List Bx}, ∀ b ∈ pickBx L bx, b ∈ bx
 | [], _, h => h
 | ⟨k, t, cs⟩ :: r, b, h => by
  simp only [pickBx] at h
  split at h
  ·rcases List.mem_cons.1 h with rfl | h
   ·exact List.mem_cons_self ..
   ·exact List.mem_cons_of_mem _ (pickBx_sub b h)
  ·exact List.mem_cons_of_mem _ (pickBx_sub b h)
theorem SatW.pickW (h : SatW C st.bx st.vc st.nid st.m V D w) (ks : List Nat) : SatW C (pickBx ks st.bx) (pickVc ks st.vc) st.nid st.m V D w := by
 have hsp := (split_heap ks h.heap).app.1
 have hv : ∀ b ∈ pickVc ks st.vc, b ∈ st.vc := fun b hb => (pick_mem hb).1
 have hb : ∀ b ∈ pickBx ks st.bx, b ∈ st.bx := fun b hb => pickBx_sub b hb
 have hvl : ∀ {k u : Nat}, verLe st.vc k u → verLe (pickVc ks st.vc) k u := fun {k u} hh => (verLe_iff hsp.uniq).2 fun x hx e => (verLe_iff h.heap.uniq).1 hh x (hv x hx) e
 have hokA : ∀ s : SV, okA st.nid st.vc s → okA st.nid (pickVc ks st.vc) s := fun s hs => by
  cases s <;> first | exact hs | exact ⟨hs.1, hvl hs.2⟩
 have hokL : ∀ l : List SV, okL st.nid st.vc l → okL st.nid (pickVc ks st.vc) l := fun l => by
  induction l with
  | nil => exact id
  | cons s r ih => exact fun hs => ⟨hokA s hs.1, ih hs.2⟩
 exact ⟨hsp, h.wf, h.frm, fun g hg => h.own g (blks_sub hb hv g hg), h.baseB, fun b hbm => ⟨(h.baseV b hbm).1, (h.baseV b hbm).2.1, hvl (h.baseV b hbm).2.2⟩,
  ⟨fun b hbm => ⟨(h.ids.1 b (hb b hbm)).1, hokL _ (h.ids.1 b (hb b hbm)).2⟩, fun b hbm => h.ids.2 b (hv b hbm)⟩, h.le0, h.m0, h.mle⟩
theorem okHB_of {nid : Nat} {vc : List Vc} : ∀ {bx : List Bx}, (∀ b ∈ bx, b.id < nid ∧ okL nid vc b.cs) → okHB nid vc bx
 | [], _ => trivial
 | ⟨k, t, cs⟩ :: r, h => ⟨(h ⟨k, t, cs⟩ (List.mem_cons_self ..)).1, (h ⟨k, t, cs⟩ (List.mem_cons_self ..)).2, okHB_of fun b hb => h b (List.mem_cons_of_mem _ hb)⟩
theorem okHV_of {nid : Nat} : ∀ {vc : List Vc}, (∀ b ∈ vc, b.id < nid) → okHV nid vc
 | [], _ => trivial
 | ⟨k, _, _, _, _, _⟩ :: r, h => ⟨h _ (List.mem_cons_self ..), okHV_of fun b hb => h b (List.mem_cons_of_mem _ hb)⟩
theorem hst_sound (hS : Sat C n st a V D w) (hR : RInv ops L st.rho) (hLi : ¬ L i) (hoi : ops[i]? = some o) (hd : dstOk n o = true) (hpath : pathOf st o.guard = some p) {K : LS → HX → Prop} (h : hst (.mk (k := (c, P, o, i, K)) (st, p))) :
  ∃ (v : Value) (x : SX) (st' : LS), x.h.i = i ∧ YW P ops (x.cl C) o v a ∧ x.cl C w ∧ x.ok C st' V ∧ st'.nid = st.nid ∧ st'.vc = st.vc ∧ K st' x.h ∧ Sat C n st' (a.put o.dst v) V D w ∧ RInv ops (fun k => L k ∨ k = i) st'.rho := by
 obtain ⟨hp, hw⟩ := path_sound hS hR hpath
 have hokx : ∀ ks, okHd ⟨[], [], pickBx ks st.bx, pickVc ks st.vc, st.nid, st.m⟩ := fun ks => by
  have := (hS.w.pickW ks).ids
  exact ⟨trivial, okHB_of this.1, okHV_of this.2⟩
 have hB : ∀ b ∈ C.H0.bx, b.id < st.nid := fun b hb => (hS.w.baseB b hb).2
 have hV : ∀ b ∈ C.H0.vc, b.id < st.nid := fun b hb => (hS.w.baseV b hb).2.1
 simp only [hst] at h
 unfold hst2 at h
 split at h
 ·rename_i ks q
  simp only [A.mk.injEq, Prod.mk.injEq] at q
  obtain ⟨hq, hdead, hit, _⟩ := q
  have hc := deadP_not hdead
  obtain ⟨h1, h2⟩ := doneD hS hR hLi hoi hd hit hp hc (isMove o.op)
  have hcl := hS.w.pickW []
  have e1 : pickBx [] st.bx = [] := by
   generalize st.bx = l
   induction l with
   | nil => rfl
   | cons x r ih => obtain ⟨_, _, _⟩ := x; simp only [pickBx, List.contains_nil, Bool.false_eq_true, if_false]; exact ih
  have e2 : pickVc [] st.vc = [] := by
   generalize st.vc = l
   induction l with
   | nil => rfl
   | cons x r ih => obtain ⟨_, _, _, _, _, _⟩ := x; simp only [pickVc, List.contains_nil, Bool.false_eq_true, if_false]; exact ih
  rw [e1, e2] at hcl
  have hh := hokx []
  rw [e1, e2] at hh
  refine ⟨undef, ⟨⟨i, [], [], st.m⟩, st.nid, st.vc, V⟩, _, rfl, .inr ⟨by rw [hw]; exact hc, rfl⟩, ⟨V, D, Agree.refl _ _ _, hcl⟩, ⟨Step.same noteD_same.1 noteD_same.2 V, hh, hB, hV, hS.w.m0⟩, noteD_same.1, noteD_same.2, h, h1, h2⟩
 ·rename_i ks q
  simp only [A.mk.injEq, Prod.mk.injEq] at q
  obtain ⟨hq, hdead, hit, hks⟩ := q
  obtain ⟨s, ⟨hs, hK⟩, hdet⟩ := qOp_det _ h
  have hids : ∀ e ∈ st.env, okS st.nid st.vc e.s := hS.ids
  have hvl : ∀ {k u : Nat}, verLe st.vc k u → verLe (pickVc ks st.vc) k u := fun {k u} hh =>
   (verLe_iff (hS.w.pickW ks).heap.uniq).2 fun x hx e => (verLe_iff hS.w.heap.uniq).1 hh x (pick_mem hx).1 e
  have satOf : ∀ {V' : Vl} {D' : Nat → Nat} {w' : World}, Agree st.nid st.vc V V' → SatW C (pickBx ks st.bx) (pickVc ks st.vc) st.nid st.m V' D' w' →
    Sat C n ⟨st.env, st.rho, pickBx ks st.bx, pickVc ks st.vc, st.nid, st.m⟩ a V' D' w' := fun ha hW =>
   ⟨hS.f.agree hids ha, fun e he => okS_mono (Nnr _) (fun k u _ hh => hvl hh) (hids e he), hW⟩
  have hrun : ∀ w', (SX.cl C ⟨⟨i, pickBx ks st.bx, pickVc ks st.vc, st.m⟩, st.nid, st.vc, V⟩ w') → condP st.rho p = true → (execOp a.eval o).run P w' = .ok (.value (den V s)) w' := by
   rintro w' ⟨V', D', ha, hW⟩ hc
   obtain ⟨s', e, hr⟩ := qOp_sound (satOf ha hW) hp (o := o) rfl hdet
   subst e
   rw [hr hc, den_agree ha hs]
  refine ⟨if condP st.rho p = true then den V s else undef, ⟨⟨i, pickBx ks st.bx, pickVc ks st.vc, st.m⟩, st.nid, st.vc, V⟩, _, rfl, ?_, ⟨V, D, Agree.refl _ _ _, hS.w.pickW ks⟩, ⟨Step.same noteG_same.1 noteG_same.2 V, hokx ks, hB, hV, hS.w.m0⟩, noteG_same.1, noteG_same.2, hK, doneG hS hR hLi hoi hd hit hp hs rfl (isMove o.op)⟩
  cases hc : condP st.rho p with
  | true => exact .inl ⟨by rw [hw]; exact hc, fun w' hw' => by simpa using hrun w' hw' hc⟩
  | false => exact .inr ⟨by rw [hw]; exact hc, by simp⟩
 ·cases h
theorem owe_mem {st : LS} : ∀ {I : List HX}, owe st I → ∀ x ∈ I, mBx st x.bx ∧ mVc st x.vc ∧ leM x.m st.m
 | [], _, _, h => by cases h
 | ⟨_, _, _, _⟩ :: r, h, x, hx => by
  rcases List.mem_cons.1 hx with rfl | hx
  ·exact ⟨h.1, h.2.1, h.2.2.1⟩
  ·exact owe_mem h.2.2.2 x hx
theorem keepX_map {ow : List Nat} : ∀ {S : List SX}, keepX ow (S.map (·.h)) = (S.filter fun x => memN ow x.h.i).map (·.h)
 | [] => rfl
 | x :: r => by
  obtain ⟨⟨i, bx, vc, m⟩, nid, vc', V⟩ := x
  simp only [List.map_cons, keepX, List.filter_cons]
  split
  ·rw [keepX_map]; rfl
  ·exact keepX_map
theorem filt_map {ow : List Nat} {S : List SX} : (S.filter fun x => memN ow x.h.i).map (·.h.i) = (S.map (·.h.i)).filter (memN ow) := by
 rw [List.filter_map]; rfl
theorem mBx_st {st st' : LS} (e : st'.bx = st.bx) : ∀ {l : List Bx}, mBx st l → mBx st' l
 | [], _ => trivial
 | ⟨_, _, _⟩ :: _, h => ⟨by rw [e]; exact h.1, h.2.1, mBx_st e h.2.2⟩
theorem mVc_st {st st' : LS} (e : st'.vc = st.vc) : ∀ {l : List Vc}, mVc st l → mVc st' l
 | [], _ => trivial
 | ⟨_, _, _, _, _, _⟩ :: _, h => ⟨by rw [e]; exact h.1, h.2.1, mVc_st e h.2.2⟩
theorem SX.still {x : SX} (hx : x.ok C st V) (hS : Sat C n st a V D w) (h1 : mBx st x.h.bx) (h2 : mVc st x.h.vc) (h3 : leM x.h.m st.m) : x.cl C w := by
 have hF : Sat C n ⟨[], [], st.bx, st.vc, st.nid, st.m⟩ a V D w :=
  ⟨⟨hS.f.defers, hS.f.size, fun e he => (by cases he), fun t q s _ hl _ => (by cases hl), fun g hg => (by cases hg)⟩, fun e he => (by cases he), hS.w⟩
 have hM : Match ⟨[], [], st.bx, st.vc, st.nid, st.m⟩ ⟨[], [], x.h.bx, x.h.vc, x.nid, x.h.m⟩ := by
  refine ⟨trivial, rfl, ?_, ?_, h3⟩
  ·exact mBx_st (st := st) (st' := ⟨[], [], st.bx, st.vc, st.nid, st.m⟩) rfl h1
  ·exact mVc_st (st := st) (st' := ⟨[], [], st.bx, st.vc, st.nid, st.m⟩) rfl h2
 exact ⟨V, D, hx.step.agr, (hF.weaken hM hx.hd hx.b hx.v hx.m).w⟩
theorem alt_one (hpu : PureOk c P) {l : List Oper} {K : LS → Prop} {Q : Exit → Act → World → Prop} {listed : Array Bool} {S : List SX} {j f : Nat} {ow : List Nat} {r : Plan} (hdst : ∀ o ∈ l, dstOk n o = true)
  (hj : j ∈ Region.ready .any ⟨l⟩ listed) (hH : (S.map (·.h.i)).all (fun i => memN ow i || depF ⟨l⟩ l.length j i) = true)
  (h : withO (.mk (k := fun o : Oper => withO (.mk (k := fun p : Pth => one (.mk (k := (c, P, j, o, fun st' => owe st' (keepX ow (S.map (·.h))) ∧ vcPx c P l K r (keepX ow (S.map (·.h))) st')) (st, p))) (pathOf st o.guard))) (lkO l j)))
  (hS : Sat C n st a V D w) (hR : RInv ⟨l⟩ (fun k => listed.getD k false = true) st.rho) (hX : ∀ x ∈ S, x.ok C st V ∧ x.cl C w)
  (ih : ∀ st' a' V' D' w', vcPx c P l K r ((S.filter fun x => memN ow x.h.i).map (·.h)) st' → Sat C n st' a' V' D' w' → RInv ⟨l⟩ (fun k => (listed.setIfInBounds j true).getD k false = true) st'.rho →
   (∀ x ∈ S.filter (fun x => memN ow x.h.i), x.ok C st' V' ∧ x.cl C w') → wpAnyC P ⟨l⟩ Q f (fun y => ∃ x ∈ S.filter (fun x => memN ow x.h.i), y = (x.h.i, x.cl C)) (listed.setIfInBounds j true) a' w') :
  wpOp P ⟨l⟩ Q j (fun a' w' => (∀ y, (∃ x ∈ S, y = (x.h.i, x.cl C)) → ¬ Dep ⟨l⟩ j y.1 → y.2 w') ∧ wpAnyC P ⟨l⟩ Q f (fun y => (∃ x ∈ S, y = (x.h.i, x.cl C)) ∧ ¬ Dep ⟨l⟩ j y.1) (listed.setIfInBounds j true) a' w') a w := by
 obtain ⟨o, ho, h⟩ := withO_some h
 obtain ⟨p, hp, h⟩ := withO_some h
 have hol : l[j]? = some o := lkO_get ho
 have hoi : (⟨l⟩ : Array Oper)[j]? = some o := by simpa using hol
 have hun := unlisted (mem_ready.1 hj).1
 have hnot : ∀ x ∈ S, ¬ Dep ⟨l⟩ j x.h.i → memN ow x.h.i = true := fun x hx hnd => by
  have := List.all_eq_true.1 hH x.h.i (List.mem_map.2 ⟨x, hx, rfl⟩)
  rcases Bool.or_eq_true_iff.1 this with h | h
  ·exact h
  ·exact absurd ⟨_, h⟩ hnd
 unfold wpOp
 simp only [hoi]
 refine one_sound hS hpu hR (by rw [hun]; exact Bool.false_ne_true) hoi (hdst o (List.mem_of_getElem? hol)) hp h fun st' a' V' D' w' ⟨how, hK⟩ hS' hR' hst => ?_
 rw [keepX_map] at how hK
 have hX' : ∀ x ∈ S.filter (fun x => memN ow x.h.i), x.ok C st' V' ∧ x.cl C w' := fun x hx => by
  have hxo := (hX x (List.mem_filter.1 hx).1).1
  have hok : x.ok C st' V' := ⟨hxo.step.trans hst, hxo.hd, hxo.b, hxo.v, hxo.m⟩
  obtain ⟨h1, h2, h3⟩ := owe_mem how x.h (List.mem_map.2 ⟨x, hx, rfl⟩)
  exact ⟨hok, SX.still hok hS' h1 h2 h3⟩
 refine ⟨?_, wpAnyC_less _ _ _ ?_ _ _ _ (ih st' a' V' D' w' hK hS' (hR'.mono fun k hk => ?_) hX')⟩
 ·rintro y ⟨x, hx, rfl⟩ hnd
  exact (hX' x (List.mem_filter.2 ⟨hx, hnot x hx hnd⟩)).2
 ·rintro y ⟨⟨x, hx, rfl⟩, hnd⟩
  exact ⟨x, List.mem_filter.2 ⟨hx, hnot x hx hnd⟩, rfl⟩
 ·rcases hk with hk | rfl
  ·exact getD_set_true hk
  ·exact set_get (ready_lt hj)
theorem plan_sound (hpu : PureOk c P) {l : List Oper} {K : LS → Prop} {Q : Exit → Act → World → Prop} (hQ0 : ∀ c a w, ¬ Q (.panic c) a w) (hQ : ∀ st' a' w', K st' → SatE C n st' a' w' → Q .normal a' w')
  (hsel : Region.noSelect ⟨l⟩ = true) (hdst : ∀ o ∈ l, dstOk n o = true) :
  ∀ (pl : Plan) (fuel : Nat) (listed : Array Bool) (rem : Option (List Nat)) (st : LS) (a : Act) (V : Vl) (D : Nat → Nat) (w : World) (S : List SX),
   chk ⟨l⟩ pl fuel (S.map (·.h.i)) listed rem = true → AllClosed ⟨l⟩ listed → vcPx c P l K pl (S.map (·.h)) st → Sat C n st a V D w → RInv ⟨l⟩ (fun k => listed.getD k false = true) st.rho → (∀ x ∈ S, x.ok C st V ∧ x.cl C w) →
   match rem with
   | none => wpAnyC P ⟨l⟩ Q fuel (fun y => ∃ x ∈ S, y = (x.h.i, x.cl C)) listed a w
   | some R => ∀ f, fuel = f + 1 → ∀ j ∈ R, wpOp P ⟨l⟩ Q j (fun a' w' => (∀ y, (∃ x ∈ S, y = (x.h.i, x.cl C)) → ¬ Dep ⟨l⟩ j y.1 → y.2 w') ∧ wpAnyC P ⟨l⟩ Q f (fun y => (∃ x ∈ S, y = (x.h.i, x.cl C)) ∧ ¬ Dep ⟨l⟩ j y.1) (listed.setIfInBounds j true) a' w') a w := by
 intro pl
 induction pl with
 | done =>
  intro fuel listed rem st a V D w S hc hcl h hS hR hX
  cases rem with
  | some R => simp [chk] at hc
  | none =>
   simp only [chk, List.isEmpty_iff] at hc
   have hq := hQ _ _ _ h (clean_sound hS)
   cases fuel with
   | zero => exact ⟨hc, hq⟩
   | succ f => exact ⟨fun _ => hq, by rw [hc]; intro j hj; cases hj⟩
 | stop =>
  intro fuel listed rem st a V D w S hc hcl h hS hR hX
  cases rem with
  | none => simp [chk] at hc
  | some R =>
   simp only [chk, List.isEmpty_iff] at hc
   subst hc
   intro f _ j hj
   cases hj
 | hoist i r ih =>
  intro fuel listed rem st a V D w S hc hcl h hS hR hX
  cases rem with
  | some R => cases fuel <;> simp [chk] at hc
  | none =>
   cases fuel with
   | zero => simp [chk] at hc
   | succ f =>
    simp only [chk, Bbt] at hc
    obtain ⟨⟨hfree, hrd⟩, hc⟩ := hc
    have hrd : i ∈ Region.ready .any ⟨l⟩ listed := by simpa using hrd
    obtain ⟨o, ho, h⟩ := withO_some h
    obtain ⟨p, hp, h⟩ := withO_some h
    have hol : l[i]? = some o := lkO_get ho
    have hoi : (⟨l⟩ : Array Oper)[i]? = some o := by simpa using hol
    have hun := unlisted (mem_ready.1 hrd).1
    obtain ⟨v, x, st', hxi, hy, hclw, hok, hn, hv, hK, hS', hR'⟩ := hst_sound hS hR (by rw [hun]; exact Bool.false_ne_true) hoi (hdst o (List.mem_of_getElem? hol)) hp h
    refine hoist hoi (Region.noSelect_spec hsel) hQ0 f _ listed a w (Region.free_spec hoi hfree) (hcl i) hrd hy hclw ?_ ?_
    ·rintro y ⟨z, hz, rfl⟩
     exact (hX z hz).2
    ·have := ih f (listed.setIfInBounds i true) none st' (a.put o.dst v) V D w (x :: S) (by simp only [List.map_cons, hxi]; exact hc) (hcl.set hrd) hK hS' (hR'.mono fun k hk => by
      rcases hk with hk | rfl
      ·exact getD_set_true hk
      ·exact set_get (ready_lt hrd)) (fun z hz => by
      rcases List.mem_cons.1 hz with rfl | hz
      ·exact ⟨hok, hclw⟩
      ·obtain ⟨h1, h2⟩ := hX z hz
       exact ⟨⟨by rw [hn, hv]; exact h1.step, h1.hd, h1.b, h1.v, h1.m⟩, h2⟩)
     refine wpAnyC_less _ _ _ ?_ _ _ _ this
     rintro y (rfl | ⟨z, hz, rfl⟩)
     ·exact ⟨x, List.mem_cons_self .., by rw [hxi]⟩
     ·exact ⟨z, List.mem_cons_of_mem _ hz, rfl⟩
 | alt j ow r nx ihr ihn =>
  intro fuel listed rem st a V D w S hc hcl h hS hR hX
  cases fuel with
  | zero => cases rem <;> simp [chk] at hc
  | succ f =>
   obtain ⟨h, hnx⟩ := h
   have key : ∀ (hj : j ∈ Region.ready .any ⟨l⟩ listed) (hH : (S.map (·.h.i)).all (fun i => memN ow i || depF ⟨l⟩ l.length j i) = true) (hcr : chk ⟨l⟩ r f ((S.map (·.h.i)).filter (memN ow)) (listed.setIfInBounds j true) none = true),
     wpOp P ⟨l⟩ Q j (fun a' w' => (∀ y, (∃ x ∈ S, y = (x.h.i, x.cl C)) → ¬ Dep ⟨l⟩ j y.1 → y.2 w') ∧ wpAnyC P ⟨l⟩ Q f (fun y => (∃ x ∈ S, y = (x.h.i, x.cl C)) ∧ ¬ Dep ⟨l⟩ j y.1) (listed.setIfInBounds j true) a' w') a w := by
    intro hj hH hcr
    refine alt_one hpu hdst hj hH h hS hR hX fun st' a' V' D' w' hK hS' hR' hX' => ?_
    exact ihr f (listed.setIfInBounds j true) none st' a' V' D' w' (S.filter fun x => memN ow x.h.i) (by rw [filt_map]; exact hcr) (hcl.set hj) hK hS' hR' hX'
   cases rem with
   | none =>
    simp only [chk, Bbt] at hc
    obtain ⟨⟨⟨h1, h2⟩, h3⟩, h4⟩ := hc
    have hj : j ∈ Region.ready .any ⟨l⟩ listed := by simpa using h1
    have hrest := ihn (f + 1) listed (some _) st a V D w S h4 hcl hnx hS hR hX f rfl
    refine ⟨fun h0 => (by rw [h0] at hj; cases hj), fun k hk => ?_⟩
    by_cases e : k = j
    ·subst e; exact key hj h2 h3
    ·exact hrest k (List.mem_filter.2 ⟨hk, by simpa using e⟩)
   | some R =>
    simp only [chk, Bbt] at hc
    obtain ⟨⟨⟨⟨h0, h1⟩, h2⟩, h3⟩, h4⟩ := hc
    have hj : j ∈ Region.ready .any ⟨l⟩ listed := by simpa using h1
    have hrest := ihn (f + 1) listed (some _) st a V D w S h4 hcl hnx hS hR hX f rfl
    rintro f' e k hk
    obtain rfl : f = f' := Nat.succ.inj e
    by_cases e : k = j
    ·subst e; exact key hj h2 h3
    ·exact hrest k (List.mem_filter.2 ⟨hk, by simpa using e⟩)
theorem WP_draw (pl : Plan) (hpu : PureOk c P) {id : Nat} {l : List Oper} {Q : Exit → LS → Prop} {st : LS} (hm : P.follows .mixedOrders = true)
  (hc : (chk ⟨l⟩ pl l.length [] (Array.replicate l.length false) none && Region.noSelect ⟨l⟩ && l.all (dstOk n)) = true)
  (h : vcP (.mk (k := (c, P, l, Q .normal, pl, [])) st)) : WPv (.mk (k := (P, n, .region id ⟨l⟩ true, Q)) st) := by
 simp only [Bbt] at hc
 obtain ⟨⟨hc, hns⟩, hd⟩ := hc
 rintro C a w ⟨hrho, V, D, hS⟩
 refine wp_mono (Q := fun e a' w' => match e with | .normal => ∃ st', SatE C n st' a' w' ∧ Q .normal st' | _ => False) (wp_region_any hm (wpAnyC_any _ (fun y => ∃ x ∈ ([] : List SX), y = (x.h.i, x.cl C)) _ _ _ ?_)) ?_
 ·refine plan_sound hpu (K := Q .normal) (fun _ _ _ h => h) (fun st' a' w' hq hE => ⟨st', hE, hq⟩) hns (fun o ho => List.all_eq_true.1 hd o ho) pl l.length (Array.replicate l.length false) none st a V D _ [] hc ?_ h
   ⟨hS.f, hS.ids, hS.w.drew _⟩ ?_ (fun x hx => by cases hx)
  ·intro i k hk
   exfalso
   rcases Nat.lt_or_ge k l.length with h' | h'
   ·simp [h'] at hk
   ·simp [Nat.not_lt.2 h'] at hk
  ·rw [hrho]; intro g hg; cases hg
 ·intro e a' w' hq
  cases e with
  | normal => exact hq
  | _ => exact False.elim hq
end
section
variable {c : Cfg} {P : Program} {l : List Oper} {K : LS → Prop} {I : List HX} {st : LS}
theorem vcP_done : vcP (.mk (k := (c, P, l, K, Plan.done, I)) st) = K (clean st) := rfl
theorem vcP_stop : vcP (.mk (k := (c, P, l, K, Plan.stop, I)) st) = True := rfl
theorem vcP_hoist {i : Nat} {r : Plan} : vcP (.mk (k := (c, P, l, K, Plan.hoist i r, I)) st) =
  withO (.mk (k := fun o : Oper => withO (.mk (k := fun p : Pth => hst (.mk (k := (c, P, o, i, fun st' X => vcP (.mk (k := (c, P, l, K, r, X :: I)) st'))) (st, p))) (pathOf st o.guard))) (lkO l i)) := rfl
theorem vcP_alt {j : Nat} {ow : List Nat} {r nx : Plan} : vcP (.mk (k := (c, P, l, K, Plan.alt j ow r nx, I)) st) =
  (withO (.mk (k := fun o : Oper => withO (.mk (k := fun p : Pth => one (.mk (k := (c, P, j, o, fun st' => owe st' (keepX ow I) ∧ vcP (.mk (k := (c, P, l, K, r, keepX ow I)) st'))) (st, p))) (pathOf st o.guard))) (lkO l j)) ∧
   vcP (.mk (k := (c, P, l, K, nx, I)) st)) := rfl
end
theorem oc_str {x : ByteArray} : (Value.string x).oneCell' = true := rfl
theorem oc_int {k : IntKind} {x : Int} : (Value.int k x).oneCell' = true := rfl
theorem oc_bool {x : Bool} : (Value.bool x).oneCell' = true := rfl
theorem oc_ptr {x : Option Addr} : (Value.pointer x).oneCell' = true := rfl
theorem oc_sl {x : Option Addr} {n c : Nat} : (Value.slice x n c).oneCell' = true := rfl
attribute [go_sem] oc_str oc_int oc_bool oc_ptr oc_sl
attribute [go_sem] hst.eq_1 hst2.eq_1 hst2.eq_2 rdIds.eq_1 rdIds.eq_2 rdIds.rdIds1.eq_1 rdIds.rdIds1.eq_2 ownOf.eq_1 ownOf.eq_2 ownOf.eq_3 ownOf.eq_4 ownOf.eq_5 ownOf.eq_6 ownOf.eq_7 ownOf.eq_8 ownOf.eq_9 ownOf.eq_10 ownOf.eq_11 ownOf.eq_12 ownOf.eq_13 ownOf.eq_14 ownOf.eq_15 ownOf.eq_16 vcP_done vcP_stop vcP_hoist vcP_alt lkO.eq_1 lkO.eq_2 lkO.eq_3 keepX.eq_1 keepX.eq_2 owe.eq_1 owe.eq_2
theorem least {J : Nat → Prop} : ∀ n, J n → ∃ k, J k ∧ ∀ j, j < k → ¬ J j := by
 intro n
 induction n using Nat.strongRecOn with
 | _ n ih =>
  intro h
  by_cases hj : ∃ j, j < n ∧ J j
  ·obtain ⟨j, hlt, hJ⟩ := hj
   exact ih j hlt hJ
  ·exact ⟨n, h, fun j hlt hJ => hj ⟨j, hlt, hJ⟩⟩
section
variable {P : Program} {a : Act} {w : World} {Q : Exit → Act → World → Prop}
theorem wp_scope_ghost {c rest : Code} (l : Nat) (J : Nat → Act → World → Prop) (hf : findLabel c l = some rest) (first : c.wp P (Exit.jump l (fun a' w' => ∃ k, J k a' w') Q) a w)
  (pass : ∀ k a w, J k a w → rest.wp P (Exit.jump l (fun a' w' => ∃ k', k' < k ∧ J k' a' w') Q) a w) : (Code.scope c).wp P Q a w := by
 classical
 refine wp_scope_jumps l (fun a w => ∃ k, J k a w) (fun a w => if h : ∃ k, J k a w ∧ ∀ j, j < k → ¬ J j a w then Classical.choose h else 0) hf first ?_
 rintro a w ⟨k0, h0⟩
 have hex : ∃ k, J k a w ∧ ∀ j, j < k → ¬ J j a w := least k0 h0
 obtain ⟨h1, h2⟩ := Classical.choose_spec hex
 refine wp_mono (pass _ a w h1) ?_
 intro e a' w' hq
 cases e with
 | goto l' =>
  obtain ⟨rfl, k', hlt, hk⟩ := hq
  refine ⟨rfl, ⟨k', hk⟩, ?_⟩
  have hex' : ∃ k, J k a' w' ∧ ∀ j, j < k → ¬ J j a' w' := least k' hk
  simp only [dif_pos hex, dif_pos hex']
  rcases Nat.lt_or_ge (Classical.choose hex') (Classical.choose hex) with h | h
  ·exact h
  ·exact absurd hk ((Classical.choose_spec hex').2 k' (Nat.lt_of_lt_of_le hlt h))
 | _ => exact hq
end
section
variable {P : Program} {n : Nat} {c : Cfg} {st : LS}
theorem WP_scope (hpu : PureOk c P) {body rest : Code} {l : Nat} {Q : Exit → LS → Prop} {X : Type} (S : X → LS) (I : X → Prop) (μ : X → Nat) (hf : findLabel body l = some rest)
  (hd' : dstOkC n rest = true) (hn : ∀ x, I x → st.nid ≤ (S x).nid) (hm : ∀ x, I x → leM st.m (S x).m) (hok : ∀ x, okHd (S x))
  (first : WP P n body (jumpQ l (fun st' => ∃ x', Match st' (S x') ∧ I x') Q) st)
  (pass : ∀ x, I x → vcC (.mk (k := (c, P, n, rest, jumpQ l (fun st' => ∃ x', Match st' (S x') ∧ I x' ∧ μ x' < μ x) Q)) (S x))) : WPv (.mk (k := (P, n, .scope body, Q)) st) := by
 rintro C a w ⟨hrho, V, D, hS⟩
 have hB : ∀ b ∈ C.H0.bx, b.id < st.nid := fun b hb => (hS.w.baseB b hb).2
 have hV : ∀ b ∈ C.H0.vc, b.id < st.nid := fun b hb => (hS.w.baseV b hb).2.1
 have hm0 : ∀ x, I x → C.m0.le (S x).m := fun x hx => by
  rcases hm x hx with e | h
  ·rw [← e]; exact hS.w.m0
  ·exact Mem.le_trans hS.w.m0 h
 have weak : ∀ (st1 : LS) (a1 : Act) (w1 : World) (x : X), SatE C n st1 a1 w1 → Match st1 (S x) → I x → SatE C n (S x) a1 w1 := by
  rintro st1 a1 w1 x ⟨_, V1, D1, hS1⟩ hM hx
  exact ⟨hM.2.1, V1, D1, hS1.weaken hM (hok x) (fun b hb => Nat.lt_of_lt_of_le (hB b hb) (hn x hx)) (fun b hb => Nat.lt_of_lt_of_le (hV b hb) (hn x hx)) (hm0 x hx)⟩
 refine wp_scope_ghost l (fun k a w => ∃ x, I x ∧ μ x = k ∧ SatE C n (S x) a w) hf ?_ ?_
 ·refine wp_mono (first C a w ⟨hrho, V, D, hS⟩) ?_
  rintro e a2 w2 ⟨st2, hE2, hq⟩
  cases e with
  | goto l' =>
   obtain ⟨rfl, x', hM, hx'⟩ := hq
   exact ⟨rfl, μ x', x', hx', rfl, weak _ _ _ _ hE2 hM hx'⟩
  | normal => exact ⟨st2, hE2, hq⟩
  | exit id => exact ⟨st2, hE2, hq⟩
  | ret => exact ⟨st2, hE2, hq⟩
  | panic ch => exact ⟨st2, hE2, hq⟩
  | outgrown => exact ⟨st2, hE2, hq⟩
 ·rintro k a1 w1 ⟨x, hx, rfl, hE⟩
  refine wp_mono (vcC_sound hpu hd' (pass x hx) C a1 w1 hE) ?_
  rintro e a2 w2 ⟨st2, hE2, hq⟩
  cases e with
  | goto l' =>
   obtain ⟨rfl, x', hM, hx', hlt⟩ := hq
   exact ⟨rfl, μ x', hlt, x', hx', rfl, weak _ _ _ _ hE2 hM hx'⟩
  | normal => exact ⟨st2, hE2, hq⟩
  | exit id => exact ⟨st2, hE2, hq⟩
  | ret => exact ⟨st2, hE2, hq⟩
  | panic ch => exact ⟨st2, hE2, hq⟩
  | outgrown => exact ⟨st2, hE2, hq⟩
def noG (Q : Exit → LS → Prop) : Exit → LS → Prop
 | .goto _, _ => False
 | e, st => Q e st
theorem WP_scope0 (hpu : PureOk c P) {body : Code} {Q : Exit → LS → Prop} (hd : dstOkC n body = true) (h : vcC (.mk (k := (c, P, n, body, noG Q)) st)) : WPv (.mk (k := (P, n, .scope body, Q)) st) := by
 intro C a w hE
 refine wp_scope_straight (wp_mono (vcC_sound hpu hd h C a w hE) ?_)
 rintro e a2 w2 ⟨st2, hE2, hq⟩
 cases e with
 | goto l => exact hq.elim
 | normal => exact ⟨st2, hE2, hq⟩
 | exit id => exact ⟨st2, hE2, hq⟩
 | ret => exact ⟨st2, hE2, hq⟩
 | panic ch => exact ⟨st2, hE2, hq⟩
 | outgrown => exact ⟨st2, hE2, hq⟩
theorem WP_scope1 (hpu : PureOk c P) {rest : Code} {l : Nat} {Q : Exit → LS → Prop} {X : Type} (S : X → LS) (I : X → Prop) (μ : X → Nat) (x0 : X)
  (hd : dstOkC n rest = true) (hn : ∀ x, I x → st.nid ≤ (S x).nid) (hm : ∀ x, I x → leM st.m (S x).m) (hok : ∀ x, okHd (S x)) (h0 : Match st (S x0)) (hI : I x0)
  (pass : ∀ x, I x → vcC (.mk (k := (c, P, n, rest, jumpQ l (fun st' => ∃ x', Match st' (S x') ∧ I x' ∧ μ x' < μ x) Q)) (S x))) : WPv (.mk (k := (P, n, .scope (.seq (.label l) rest), Q)) st) := by
 have hd2 : dstOkC n (.seq .skip rest) = true := by simp only [dstOkC, Bool.true_and]; exact hd
 have hd3 : dstOkC n (.seq (.label l) rest) = true := by simp only [dstOkC, Bool.true_and]; exact hd
 refine WP_scope hpu S I μ (rest := .seq .skip rest) (by simp [findLabel]) hd2 hn hm hok ?_ pass
 rintro C a w ⟨hrho, V, D, hS⟩
 have hE : SatE C n (S x0) a w := ⟨h0.2.1, V, D, hS.weaken h0 (hok x0) (fun b hb => Nat.lt_of_lt_of_le (hS.w.baseB b hb).2 (hn x0 hI)) (fun b hb => Nat.lt_of_lt_of_le (hS.w.baseV b hb).2.1 (hn x0 hI)) (by
  rcases hm x0 hI with e | h
  ·rw [← e]; exact hS.w.m0
  ·exact Mem.le_trans hS.w.m0 h)⟩
 have hw : WP P n (.seq (.label l) rest) _ (S x0) := vcC_sound hpu hd3 (pass x0 hI)
 refine (WP.mono hw ?_) C a w hE
 intro e st' hq
 cases e with
 | goto l' =>
  obtain ⟨rfl, x', hM, hx', _⟩ := hq
  exact ⟨rfl, x', hM, hx'⟩
 | _ => exact hq
theorem WP_loopX (hpu : PureOk c P) {id : Nat} {body : Code} {K : LS → Prop} {Q : Exit → LS → Prop} {X Y : Type} (S : X → LS) (I : X → Prop) (μ : X → Nat) (x0 : X) (E : Y → LS) (J : Y → Prop)
  (hd : dstOkC n body = true) (hn : ∀ x, I x → st.nid ≤ (S x).nid) (hm : ∀ x, I x → leM st.m (S x).m) (hok : ∀ x, okHd (S x)) (h0 : Match st (S x0)) (hI : I x0)
  (hnE : ∀ y, J y → st.nid ≤ (E y).nid) (hmE : ∀ y, J y → leM st.m (E y).m) (hokE : ∀ y, okHd (E y)) (out : ∀ y, J y → K (E y))
  (round : ∀ x, I x → vcC (.mk (k := (c, P, n, body, thenQ (fun st' => ∃ x', Match st' (S x') ∧ I x' ∧ μ x' < μ x) (blockQ id (thenQ (fun st' => ∃ y, Match st' (E y) ∧ J y) Q)))) (S x))) :
  WPv (.mk (k := (P, n, .loop body, blockQ id (thenQ K Q))) st) := by
 have hW : WP P n (.loop body) (blockQ id (thenQ (fun st' => ∃ y, Match st' (E y) ∧ J y) Q)) st := WP_loop hpu S I μ x0 hd hn hm hok h0 hI round
 rintro C a w ⟨hrho, V, D, hS⟩
 have hK : ∀ st2 a2 w2, SatE C n st2 a2 w2 → (∃ y, Match st2 (E y) ∧ J y) → ∃ st', SatE C n st' a2 w2 ∧ K st' := by
  rintro st2 a2 w2 ⟨_, V2, D2, hS2⟩ ⟨y, hM, hy⟩
  refine ⟨E y, ⟨hM.2.1, V2, D2, hS2.weaken hM (hokE y) (fun b hb => Nat.lt_of_lt_of_le (hS.w.baseB b hb).2 (hnE y hy)) (fun b hb => Nat.lt_of_lt_of_le (hS.w.baseV b hb).2.1 (hnE y hy)) ?_⟩, out y hy⟩
  rcases hmE y hy with e | h
  ·rw [← e]; exact hS.w.m0
  ·exact Mem.le_trans hS.w.m0 h
 refine wp_mono (hW C a w ⟨hrho, V, D, hS⟩) ?_
 rintro e a2 w2 ⟨st2, hE2, hq⟩
 cases e with
 | normal =>
  obtain ⟨st3, h1, h2⟩ := hK st2 a2 w2 hE2 hq
  exact ⟨st3, h1, h2⟩
 | exit id' =>
  simp only [blockQ] at hq
  split at hq
  ·rename_i e
   obtain ⟨st3, h1, h2⟩ := hK st2 a2 w2 hE2 hq
   exact ⟨st3, h1, by simp only [blockQ]; rw [if_pos e]; exact h2⟩
  ·rename_i e
   exact ⟨st2, hE2, by simp only [blockQ]; rw [if_neg e]; exact hq⟩
 | goto l => exact ⟨st2, hE2, hq⟩
 | ret => exact ⟨st2, hE2, hq⟩
 | panic ch => exact ⟨st2, hE2, hq⟩
 | outgrown => exact ⟨st2, hE2, hq⟩
theorem WP_adopt {x : Code} {Q : Exit → LS → Prop} (t : Nat) (e : TypeId) (sz : Nat) (h0 : 0 < sz) (hl : lkE st.env t [] = some (.v (.slice none 0 0)))
  (h : WPv (.mk (k := (P, n, x, Q)) ⟨⟨t, [], .vec st.nid 0⟩ :: st.env, st.rho, st.bx, ⟨st.nid, 0, e, sz, 0, []⟩ :: st.vc, st.nid + 1, st.m⟩)) : WPv (.mk (k := (P, n, x, Q)) st) := by
 rintro C a w ⟨hrho, V, D, hS⟩
 obtain ⟨V', ha, hγ, hW⟩ := hS.w.addVc (w' := w) (hd := ⟨none, 0, 0⟩) (e := e) (sz := sz) (n := 0) (xs := []) rfl rfl rfl (Nnr _) (fun _ _ => rfl) (World.ownsRow_nil w 0 e sz) (fun g hg => by cases hg) h0 (fun u hu => by cases hu)
 have hS' : Sat C n _ a V' D w := hS.to ha (Nat.le_succ _) (fun k u hk hv => verLe_cons rfl k u hk hv) hW
 refine h C a w ⟨hrho, V', D, ⟨hS'.f.defers, hS'.f.size, fun e' he' => ?_, fun t' q s' hq hl' hc => ?_, hS'.f.rho⟩, fun e' he' => ?_, hW⟩
 ·rcases List.mem_cons.1 he' with rfl | he'
  ·exact wfP_nil
  ·exact hS'.f.pth e' he'
 ·simp only [lkE] at hl'
  split at hl'
  ·rename_i ht
   subst ht
   split at hl'
   ·cases hl'
    have := hS.f.env t [] _ wfP_nil hl rfl
    rw [this]
    show some (Value.slice none 0 0) = some (Hd.val (V'.γ st.nid 0))
    rw [hγ]; rfl
   ·cases hl'
  ·exact hS'.f.env t' q s' hq hl' hc
 ·rcases List.mem_cons.1 he' with rfl | he'
  ·exact ⟨Nat.lt_succ_self _, by simp [verLe]⟩
  ·exact hS'.ids e' he'
end
attribute [go_sem] noG.eq_1 noG.eq_2
end Go.Proofs.YtimddhkipjedcaaGreatDoor.E
namespace Go.Proofs
open Go.Shelf
def Tryz.lays137_ren : Go.Shelf.Ren := ⟨fun | 137 => 183 | 217 => 222 | 266 => 244 | n => n, fun | 9 => 9 | 5 => 5 | 3 => 3 | n => n, fun | n => n⟩
theorem Tryz.lays137 : Go.Proofs.Lays.n137 Tryz.prog Tryz.lays137_ren := {
 mixed := by kernel_rfl
 f137 := Tryz.func183.trans (congrArg some (by kernel_rfl))
 f217 := Tryz.func222.trans (congrArg some (by kernel_rfl))
 f266 := Tryz.func244.trans (congrArg some (by kernel_rfl))
 t3 := Tryz.underlying3
 a3 := Tryz.isAgg3
 z3 := Tryz.sizeOf3
 v3 := Tryz.zeroValue3
 t5 := Tryz.underlying5
 a5 := Tryz.isAgg5
 z5 := Tryz.sizeOf5
 v5 := Tryz.zeroValue5
 t9 := Tryz.underlying9
 a9 := Tryz.isAgg9
 z9 := Tryz.sizeOf9
 v9 := Tryz.zeroValue9 }
open Go.RowKit in
theorem Tryz.strings_IndexByte (s : ByteArray) (c : Int) (w : World) :
  Calls Tryz.prog 183 #[.string s, .int .u8 c] w fun e w' => e = .returned (.int .i64 (Lib.indexByte s.data.toList c.toNat.toUInt8)) ∧ w' = w := Any.strings_IndexByte Tryz.lays137 s c w
def Tryz.lays155_ren : Go.Shelf.Ren := ⟨fun | 155 => 224 | 154 => 245 | 138 => 254 | 165 => 255 | 143 => 248 | 166 => 256 | 197 => 257 | 169 => 258 | 195 => 267 | 218 => 268 | 240 => 269 | 241 => 270 | 219 => 264 | 260 => 271 | 276 => 280 | 277 => 281 | 217 => 222 | 225 => 277 | 224 => 278 | 267 => 279 | 266 => 244 | 314 => 283 | n => n, fun | 9 => 9 | 3 => 3 | 4 => 4 | 72 => 210 | 0 => 0 | 76 => 212 | 105 => 214 | 21 => 21 | 5 => 5 | 70 => 208 | 20 => 20 | 37 => 83 | 75 => 195 | 127 => 225 | 164 => 230 | 46 => 220 | 119 => 233 | 139 => 236 | 138 => 235 | 146 => 241 | 51 => 240 | 80 => 85 | n => n, fun | 1 => 1 | 3 => 4 | 4 => 5 | n => n⟩
theorem Tryz.lays155 : Go.Proofs.Lays.n155 Tryz.prog Tryz.lays155_ren := {
 mixed := by kernel_rfl
 f138 := Tryz.func254.trans (congrArg some (by kernel_rfl))
 f143 := Tryz.func248.trans (congrArg some (by kernel_rfl))
 f154 := Tryz.func245.trans (congrArg some (by kernel_rfl))
 f155 := Tryz.func224.trans (congrArg some (by kernel_rfl))
 f165 := Tryz.func255.trans (congrArg some (by kernel_rfl))
 f166 := Tryz.func256.trans (congrArg some (by kernel_rfl))
 f169 := Tryz.func258.trans (congrArg some (by kernel_rfl))
 f195 := Tryz.func267.trans (congrArg some (by kernel_rfl))
 f197 := Tryz.func257.trans (congrArg some (by kernel_rfl))
 f217 := Tryz.func222.trans (congrArg some (by kernel_rfl))
 f218 := Tryz.func268.trans (congrArg some (by kernel_rfl))
 f219 := Tryz.func264.trans (congrArg some (by kernel_rfl))
 f224 := Tryz.func278.trans (congrArg some (by kernel_rfl))
 f225 := Tryz.func277.trans (congrArg some (by kernel_rfl))
 f240 := Tryz.func269.trans (congrArg some (by kernel_rfl))
 f241 := Tryz.func270.trans (congrArg some (by kernel_rfl))
 f260 := Tryz.func271.trans (congrArg some (by kernel_rfl))
 f266 := Tryz.func244.trans (congrArg some (by kernel_rfl))
 f267 := Tryz.func279.trans (congrArg some (by kernel_rfl))
 f276 := Tryz.func280.trans (congrArg some (by kernel_rfl))
 f277 := Tryz.func281.trans (congrArg some (by kernel_rfl))
 f314 := Tryz.func283.trans (congrArg some (by kernel_rfl))
 t0 := Tryz.underlying0
 a0 := Tryz.isAgg0
 z0 := Tryz.sizeOf0
 v0 := Tryz.zeroValue0
 t3 := Tryz.underlying3
 a3 := Tryz.isAgg3
 z3 := Tryz.sizeOf3
 v3 := Tryz.zeroValue3
 t4 := Tryz.underlying4
 a4 := Tryz.isAgg4
 z4 := Tryz.sizeOf4
 v4 := Tryz.zeroValue4
 t5 := Tryz.underlying5
 a5 := Tryz.isAgg5
 z5 := Tryz.sizeOf5
 v5 := Tryz.zeroValue5
 t9 := Tryz.underlying9
 a9 := Tryz.isAgg9
 z9 := Tryz.sizeOf9
 v9 := Tryz.zeroValue9
 t20 := Tryz.underlying20
 a20 := Tryz.isAgg20
 z20 := Tryz.sizeOf20
 v20 := Tryz.zeroValue20
 t21 := Tryz.underlying21
 a21 := Tryz.isAgg21
 z21 := Tryz.sizeOf21
 v21 := Tryz.zeroValue21
 t37 := Tryz.underlying83
 a37 := Tryz.isAgg83
 z37 := Tryz.sizeOf83
 v37 := Tryz.zeroValue83
 t46 := Tryz.underlying220
 a46 := Tryz.isAgg220
 z46 := Tryz.sizeOf220
 v46 := Tryz.zeroValue220
 t51 := Tryz.underlying240
 a51 := Tryz.isAgg240
 z51 := Tryz.sizeOf240
 v51 := Tryz.zeroValue240
 t70 := Tryz.underlying208
 a70 := Tryz.isAgg208
 z70 := Tryz.sizeOf208
 v70 := Tryz.zeroValue208
 t72 := Tryz.underlying210
 a72 := Tryz.isAgg210
 z72 := Tryz.sizeOf210
 v72 := Tryz.zeroValue210
 t75 := Tryz.underlying195
 a75 := Tryz.isAgg195
 z75 := Tryz.sizeOf195
 v75 := Tryz.zeroValue195
 t76 := Tryz.underlying212
 a76 := Tryz.isAgg212
 z76 := Tryz.sizeOf212
 v76 := Tryz.zeroValue212
 t105 := Tryz.underlying214
 a105 := Tryz.isAgg214
 z105 := Tryz.sizeOf214
 v105 := Tryz.zeroValue214
 t119 := Tryz.underlying233
 a119 := Tryz.isAgg233
 z119 := Tryz.sizeOf233
 t127 := Tryz.underlying225
 a127 := Tryz.isAgg225
 z127 := Tryz.sizeOf225
 v127 := Tryz.zeroValue225
 t138 := Tryz.underlying235
 a138 := Tryz.isAgg235
 z138 := Tryz.sizeOf235
 v138 := Tryz.zeroValue235
 t139 := Tryz.underlying236
 a139 := Tryz.isAgg236
 z139 := Tryz.sizeOf236
 v139 := Tryz.zeroValue236
 t146 := Tryz.underlying241
 a146 := Tryz.isAgg241
 z146 := Tryz.sizeOf241
 v146 := Tryz.zeroValue241
 t164 := Tryz.underlying230
 a164 := Tryz.isAgg230
 z164 := Tryz.sizeOf230
 v164 := Tryz.zeroValue230
 g1 := by kernel_rfl
 g3 := by kernel_rfl
 g4 := by kernel_rfl }
theorem Tryz.Builder_Extra_155 : Builder.Extra Tryz.prog Tryz.lays155_ren := {
 sizeBuilder := by kernel_rfl
 liesBuilder := by kernel_rfl
 t5 := Tryz.underlying5
 a5 := Tryz.isAgg5
 z5 := Tryz.sizeOf5
 v5 := Tryz.zeroValue5
 infoByte := by kernel_rfl
 cellsByte := by kernel_rfl
 sizeByte := by kernel_rfl
 neB5 := by decide }
open Go.RowKit Go.Lib in
theorem Tryz.strings_ReplaceAll (s old new : ByteArray) (m : Int) (w : World) (hs : s.size < 4294967281) (hm : w.cell? ⟨1, 0, none⟩ = some (.int .i64 m)) (h1 : 1 ≤ old.size) (hlen : s.size + Lib.countB s old * new.size ≤ 140737488355328) :
  Calls Tryz.prog 224 #[.string s, .string old, .string new] w fun e w' =>
   e = .returned (.string ⟨(Lib.replaceAll s.data.toList old.data.toList new.data.toList).toArray⟩) ∧ Below w.heap.size w w' := Any.strings_ReplaceAll Tryz.lays155 Tryz.Builder_Extra_155 s old new m w hs hm h1 hlen
def Tryz.lays144_ren : Go.Shelf.Ren := ⟨fun | 144 => 228 | 143 => 248 | 219 => 264 | 217 => 222 | 225 => 277 | 224 => 278 | 267 => 279 | 266 => 244 | 314 => 283 | n => n, fun | 9 => 9 | 4 => 4 | 3 => 3 | 5 => 5 | 46 => 220 | 146 => 241 | 51 => 240 | n => n, fun | 1 => 1 | n => n⟩
theorem Tryz.lays144 : Go.Proofs.Lays.n144 Tryz.prog Tryz.lays144_ren := {
 mixed := by kernel_rfl
 f143 := Tryz.func248.trans (congrArg some (by kernel_rfl))
 f144 := Tryz.func228.trans (congrArg some (by kernel_rfl))
 f217 := Tryz.func222.trans (congrArg some (by kernel_rfl))
 f219 := Tryz.func264.trans (congrArg some (by kernel_rfl))
 f224 := Tryz.func278.trans (congrArg some (by kernel_rfl))
 f225 := Tryz.func277.trans (congrArg some (by kernel_rfl))
 f266 := Tryz.func244.trans (congrArg some (by kernel_rfl))
 f267 := Tryz.func279.trans (congrArg some (by kernel_rfl))
 f314 := Tryz.func283.trans (congrArg some (by kernel_rfl))
 t3 := Tryz.underlying3
 a3 := Tryz.isAgg3
 z3 := Tryz.sizeOf3
 v3 := Tryz.zeroValue3
 t4 := Tryz.underlying4
 a4 := Tryz.isAgg4
 z4 := Tryz.sizeOf4
 v4 := Tryz.zeroValue4
 t5 := Tryz.underlying5
 a5 := Tryz.isAgg5
 z5 := Tryz.sizeOf5
 v5 := Tryz.zeroValue5
 t9 := Tryz.underlying9
 a9 := Tryz.isAgg9
 z9 := Tryz.sizeOf9
 v9 := Tryz.zeroValue9
 t46 := Tryz.underlying220
 a46 := Tryz.isAgg220
 z46 := Tryz.sizeOf220
 v46 := Tryz.zeroValue220
 t51 := Tryz.underlying240
 a51 := Tryz.isAgg240
 z51 := Tryz.sizeOf240
 v51 := Tryz.zeroValue240
 t146 := Tryz.underlying241
 a146 := Tryz.isAgg241
 z146 := Tryz.sizeOf241
 v146 := Tryz.zeroValue241
 g1 := by kernel_rfl }
theorem Tryz.strings_Contains_one (s : ByteArray) (c : UInt8) (w : World) :
  Calls Tryz.prog 228 #[.string s, .string ⟨#[c]⟩] w fun e w' => e = .returned (.bool (decide (0 ≤ Lib.indexByte s.data.toList c))) ∧ w' = w := Any.strings_Contains_one Tryz.lays144 s c w
end Go.Proofs
namespace Go.Proofs.YtimddhkipjedcaaGreatDoor.E
open Go Go.RowKit
attribute [go_sem] or_true or_false true_or false_or Option.some.injEq exists_eq_left exists_eq_left' true_implies true_and and_true Bool.and_true Bool.true_and Bool.or_false Bool.false_or Bool.not_true Bool.not_false Bool.and_false Bool.false_and List.cons_append List.nil_append List.append_nil mk_eq_bs tl_bs List.getElem?_cons_zero List.getElem?_cons_succ eq_self implies_true false_implies decide_eq_true_eq decide_eq_false_iff_not Bbt Bool.or_eq_true Bool.not_eq_true' Bool.and_eq_false_iff Bool.or_eq_false_iff Bool.not_eq_false' SV.v.injEq Value.int.injEq Value.bool.injEq Value.string.injEq List.contains_cons List.contains_nil beq_self_eq_true Nat.max_def Int.toNat_natCast Nat.mul_one Int.toNat_zero List.drop_zero Bx.mk.injEq Vc.mk.injEq List.cons.injEq List.take_length List.getElem?_nil List.getD_cons_zero List.getD_cons_succ not_false_eq_true Nnr Nat.reduceBEq Nat.reduceAdd Nat.reduceMul Nat.reduceSub Nat.reduceEqDiff Nat.reduceLT Nat.reduceLeDiff Option.map Option.bind List.map List.length reduceCtorEq Option.toList Option.getD List.set List.drop List.take Int.reduceToNat
def cf0 : Cfg := ⟨fun _ => false, fun _ => none⟩
theorem pu0 {P : Program} : PureOk cf0 P := fun f F h => by cases h
def isStartB (c : Int) : Bool := decide (97 ≤ c) && decide (c ≤ 122) || decide (65 ≤ c) && decide (c ≤ 90) || decide (c = 95) || decide (c = 36)
def isDigitB (c : Int) : Bool := decide (48 ≤ c) && decide (c ≤ 57)
def pf1 (F : Int → Bool) : List Value → Option (Prop × Value)
 | [.int .u8 c] => some (True, .bool (F c))
 | _ => none
theorem pf1_some {F : Int → Bool} {l : List Value} {y : Prop × Value} (h : pf1 F l = some y) : ∃ c, l = [.int .u8 c] ∧ y = (True, .bool (F c)) := by
 unfold pf1 at h
 split at h
 ·cases h; exact ⟨_, rfl, rfl⟩
 ·cases h
theorem agg9 : aggN Tryz.prog 9 = some none := by kernel_rfl
theorem agg3 : aggN Tryz.prog 3 = some none := by kernel_rfl
theorem und9 : Tryz.prog.underlying 9 = some .string := by kernel_rfl
attribute [go_sem] agg9 agg3 und9 pf1.eq_1
theorem elT36 : elT Tryz.prog 55 = some 9 := by kernel_rfl
theorem sz9 : szT Tryz.prog 9 = 1 := by kernel_rfl
theorem by9 : byT Tryz.prog 9 = 16 := by kernel_rfl
theorem zero9 : zeroO Tryz.prog 9 = some [.v (.string (bs []))] := by kernel_rfl
theorem sz3 : szT Tryz.prog 3 = 1 := by kernel_rfl
attribute [go_sem] elT36 sz9 by9 zero9 sz3
abbrev cfN : Cfg := mkCf (fun _ => false) []
theorem puN : PureOk cfN Tryz.prog := pure_nil
def strs (l : List (List UInt8)) : List Value := l.map fun b => .string (bs b)
theorem Rds_one {m : Mem} {a : Option Addr} {n : Nat} {xs : List Value} (h : Rds m a n 1 xs) {i : Nat} (hi : i < n) : ∃ hx : i < xs.length, Rd m (ptrAt a i) [xs[i]] ∧ a ≠ none := by
 have hl : xs.length = n := by rw [h.1, Nat.mul_one]
 refine ⟨by omega, ?_, ?_⟩
 ·obtain ⟨ad, rfl, hs, hc⟩ := h.2 (by omega)
  obtain ⟨e1, e2, e3⟩ := add_parts ad i hs
  refine ⟨ad.add i, rfl, e3, fun j hj => ?_⟩
  obtain rfl : j = 0 := by simp at hj; omega
  obtain ⟨h1, h2⟩ := hc i (by omega)
  refine ⟨?_, by rw [e1, e2]; exact h2⟩
  rw [show (ad.add i).add 0 = ad.add i from rfl, h1]
  simp [hl, hi]
 ·obtain ⟨ad, rfl, _⟩ := h.2 (by omega)
  simp
theorem take_has {l : List (List UInt8)} {s : List UInt8} {k : Nat} (h : k < l.length) : (l.take (k + 1)).contains s = ((l.take k).contains s || decide (s = l[k])) := by
 rw [List.take_succ_eq_append_getElem h, Bool.eq_iff_iff]
 simp only [List.contains_iff_mem, List.mem_append, List.mem_singleton, Bool.or_eq_true, decide_eq_true_eq]
theorem index_spec (l : List (List UInt8)) (s : List UInt8) (a : Option Addr) (n c : Nat) (m : Mem) (h : Rds m a n 1 (strs l)) (hn : n ≤ 4611686018427387904) :
  FnH Tryz.prog 202 [.v (.slice a n c), .v (.string (bs s))] ⟨[], []⟩ m fun r H' _ => (∃ i : Int, r = .v (.int .i64 i) ∧ (decide (0 ≤ i) = l.contains s)) ∧ H' = ⟨[], []⟩ := by
 have hl : l.length = n := by have := h.1; simpa [strs] using this
 refine enter cf0 pu0 Tryz.func202 rfl rfl (by kernel_rfl) rfl ?_ ?_
 ·simp only [go_sem, ↓tfi, ↓fti, ↓reduceIte]
 ·simp only [go_sem, ↓tfi, ↓fti, ↓reduceIte]
  refine WP_loop pu0 (fun k : Nat => ⟨[⟨0, [], .v (.slice a n c)⟩, ⟨1, [], .v (.string (bs s))⟩, ⟨7, [], .v (.int .i64 n)⟩, ⟨8, [], .v (.int .i64 k)⟩], [], [], [], 0, m⟩)
   (fun k => k ≤ n ∧ (l.take k).contains s = false) (fun k => n - k) 0 (by kernel_rfl) (fun _ _ => Nnr _) (fun _ _ => .inl rfl) (fun _ => ?_) ?_ ?_ ?_
  ·simp only [go_sem, ↓tfi, ↓fti, ↓reduceIte]
  ·simp only [go_sem, ↓tfi, ↓fti, ↓reduceIte]
   rfl
  ·simp
  ·rintro k ⟨hk, hp⟩
   simp only [go_sem, ↓tfi, ↓fti, ↓reduceIte]
   refine ⟨fun hlt => ?_, fun hge => ?_⟩
   ·have hkn : k < n := by omega
    obtain ⟨hx, hr, hne⟩ := Rds_one h hkn
    refine ⟨⟨by omega, hlt, hne⟩, _, by simpa using hr, ?_⟩
    have hkl : k < l.length := by omega
    have e : (strs l)[k] = .string (bs l[k]) := by simp [strs]
    have ec := take_has (s := s) hkl
    simp only [e]
    simp only [go_sem, ↓tfi, ↓fti, ↓reduceIte]
    refine ⟨fun he => ?_, fun he => ⟨by unfold I64; omega, k + 1, by omega, ⟨by omega, ?_⟩, by omega⟩⟩
    ·have : s ∈ l := by rw [he]; exact List.getElem_mem hkl
     simp [this]
    ·rw [ec, hp]; simp [he]
   ·have : l.take k = l := List.take_of_length_le (by omega)
    rw [this] at hp
    rw [hp]
    rfl
theorem contains_spec (l : List (List UInt8)) (s : List UInt8) (a : Option Addr) (n c : Nat) (m : Mem) (h : Rds m a n 1 (strs l)) (hn : n ≤ 4611686018427387904) :
  FnH Tryz.prog 144 [.v (.slice a n c), .v (.string (bs s))] ⟨[], []⟩ m fun r H' _ => r = .v (.bool (l.contains s)) ∧ H' = ⟨[], []⟩ := by
 refine enter cfN puN Tryz.func144 rfl rfl (by kernel_rfl) rfl ?_ ?_
 ·simp only [go_sem, ↓tfi, ↓fti, ↓reduceIte]
 ·simp only [go_sem, ↓tfi, ↓fti, ↓reduceIte]
  refine cvl ((index_spec l s a n c m h hn).mono ?_)
  rintro r H' m' hm ⟨⟨i, rfl, hi⟩, rfl⟩
  simp only [go_sem, ↓tfi, ↓fti, ↓reduceIte]
  exact hi
def keywordsL : List (List UInt8) := [[97, 98, 115, 116, 114, 97, 99, 116], [97, 115], [99, 97, 116, 99, 104], [99, 108, 97, 115, 115], [101, 108, 115, 101], [101, 120, 116, 101, 110, 100, 115], [102, 105, 110, 97, 108], [105, 102], [105, 109, 112, 108, 101, 109, 101, 110, 116, 115], [105, 110, 116], [105, 110, 116, 101, 114, 102, 97, 99, 101], [105, 115], [108, 101, 110], [108, 111, 110, 103], [110, 101, 119], [110, 117, 108, 108], [112, 114, 105, 118, 97, 116, 101], [112, 114, 111, 116, 101, 99, 116, 101, 100], [112, 117, 98, 108, 105, 99], [114, 101, 116, 117, 114, 110], [115, 116, 97, 116, 105, 99], [115, 117, 112, 101, 114], [115, 121, 110, 99], [116, 104, 105, 115], [116, 104, 114, 111, 119], [116, 114, 121], [118, 111, 105, 100], [119, 104, 105, 108, 101]]
def signsL : List (List UInt8) := [[62, 62, 62], [60, 60], [62, 62], [61, 61], [33, 61], [60, 61], [62, 61], [38, 38], [124, 124], [123], [125], [40], [41], [91], [93], [59], [44], [46], [61], [43], [45], [42], [47], [37], [38], [124], [94], [33], [60], [62]]
theorem keywords_spec (m : Mem) : FnH Tryz.prog 209 [] ⟨[], []⟩ m fun r H' m' => r = .vec 0 0 ∧ H' = ⟨[], [⟨0, 0, 9, 1, 28, strs keywordsL⟩]⟩ ∧ m' = m := by
 refine enter cfN puN Tryz.func209 rfl rfl (by kernel_rfl) rfl ?_ ?_
 ·simp only [go_sem, ↓tfi, ↓fti, ↓reduceIte]
 ·simp only [go_sem, ↓tfi, ↓fti, ↓reduceIte]
  rfl
theorem operators_spec (m : Mem) : FnH Tryz.prog 227 [] ⟨[], []⟩ m fun r H' m' => r = .vec 0 0 ∧ H' = ⟨[], [⟨0, 0, 9, 1, 30, strs signsL⟩]⟩ ∧ m' = m := by
 refine enter cfN puN Tryz.func227 rfl rfl (by kernel_rfl) rfl ?_ ?_
 ·simp only [go_sem, ↓tfi, ↓fti, ↓reduceIte]
 ·simp only [go_sem, ↓tfi, ↓fti, ↓reduceIte]
  rfl
def pS1 (B : List UInt8 → Prop) (F : List UInt8 → Value) : List Value → Option (Prop × Value)
 | [.string a] => some (B (tl a), F (tl a))
 | _ => none
attribute [go_sem] pS1.eq_1
def Pure0 (P : Program) (f : FuncId) (G : List Value → Option (Prop × Value)) : Prop := ∀ vals y, G vals = some y → y.1 → ∀ m, FnH P f (vals.map SV.v) ⟨[], []⟩ m (fun r H' _ => r = .v y.2 ∧ H' = ⟨[], []⟩)
theorem pure1 {P : Program} {f : FuncId} {F : Int → Bool} (h : ∀ c m, FnH P f [.v (.int .u8 c)] ⟨[], []⟩ m fun r H' _ => r = .v (.bool (F c)) ∧ H' = ⟨[], []⟩) : Pure0 P f (pf1 F) := fun vals y hy _ m => by
 obtain ⟨c, rfl, rfl⟩ := pf1_some hy
 exact h c m
theorem pureS {P : Program} {f : FuncId} {B : List UInt8 → Prop} {F : List UInt8 → Value} (h : ∀ a m, B a → FnH P f [.v (.string (bs a))] ⟨[], []⟩ m fun r H' _ => r = .v (F a) ∧ H' = ⟨[], []⟩) : Pure0 P f (pS1 B F) := fun vals y hy hB m => by
 unfold pS1 at hy
 split at hy
 ·rename_i a
  cases hy
  have := h (tl a) m hB
  rwa [bs_tl] at this
 ·cases hy
def classI (c : Int) : Int := if isStartB c then 1 else if isDigitB c then 2 else 0
theorem classI_eq (c : Int) : classI c = if 97 ≤ c ∧ c ≤ 122 ∨ 65 ≤ c ∧ c ≤ 90 ∨ c = 95 ∨ c = 36 then 1 else if 48 ≤ c ∧ c ≤ 57 then 2 else 0 := by
 simp [classI, isStartB, isDigitB, or_assoc]
theorem class_spec (c : Int) (m : Mem) : FnH Tryz.prog 229 [.v (.int .u8 c)] ⟨[], []⟩ m fun r H' _ => r = .v (.int .i64 (classI c)) ∧ H' = ⟨[], []⟩ := by
 refine enter cfN puN Tryz.func229 rfl rfl (by kernel_rfl) rfl ?_ ?_
 ·simp only [go_sem, ↓tfi, ↓fti, ↓reduceIte]
 ·simp only [go_sem, ↓tfi, ↓fti, ↓reduceIte]
  rw [classI_eq]
  split
  ·omega
  ·split <;> omega
def pI8 (F : Int → Value) : List Value → Option (Prop × Value)
 | [.int .u8 c] => some (True, F c)
 | _ => none
attribute [go_sem] pI8.eq_1
theorem pureI8 {P : Program} {f : FuncId} {F : Int → Value} (h : ∀ c m, FnH P f [.v (.int .u8 c)] ⟨[], []⟩ m fun r H' _ => r = .v (F c) ∧ H' = ⟨[], []⟩) : Pure0 P f (pI8 F) := fun vals y hy _ m => by
 unfold pI8 at hy
 split at hy
 ·cases hy; exact h _ m
 ·cases hy
theorem class_one (c : Int) : classI c = 1 ↔ isStartB c = true := by
 unfold classI; split
 ·simp_all
 ·split <;> simp_all
theorem class_two (c : Int) : classI c = 2 ↔ ¬ isStartB c = true ∧ isDigitB c = true := by
 unfold classI; split
 ·simp_all
 ·split <;> simp_all
def nmScan : Bool → List UInt8 → Bool
 | start, [] => !start
 | start, c :: r => if c.toNat = 47 ∧ start = false then nmScan true r else if isStartB c.toNat = true ∨ (isDigitB c.toNat = true ∧ start = false) then nmScan false r else false
def isName (s : List UInt8) : Bool := decide (s.length ≤ 64) && nmScan true s
abbrev cf3 : Cfg := mkCf (fun _ => false) [(229, pI8 fun c => .int .i64 (classI c))]
theorem pu3 : PureOk cf3 Tryz.prog := pure_cons (by kernel_rfl) (pureI8 class_spec) pure_nil
theorem drop_at {s : List UInt8} {k : Nat} (h : k < s.length) : s.drop k = s.getD k 0 :: s.drop (k + 1) := by
 rw [List.drop_eq_getElem_cons h, List.getD_eq_getElem?_getD, List.getElem?_eq_getElem h]
 rfl
theorem isName_spec (s : List UInt8) (m : Mem) (hs : s.length ≤ 4611686018427387904) : FnH Tryz.prog 192 [.v (.string (bs s))] ⟨[], []⟩ m fun r H' _ => r = .v (.bool (isName s)) ∧ H' = ⟨[], []⟩ := by
  refine enter cf3 pu3 Tryz.func192 rfl rfl (by kernel_rfl) rfl ?_ ?_
  · simp only [go_sem, ↓tfi, ↓fti, ↓reduceIte]
  · simp only [go_sem, ↓tfi, ↓fti, ↓reduceIte]
    refine ⟨fun h => ?_, fun h => ?_⟩
    · rcases h with rfl | h
      · rfl
      · have : ¬ s.length ≤ 64 := by omega
        simp [isName, this]
    · refine WP_loop pu3 (fun x : Nat × Bool => ⟨[⟨0, [], .v (.string (bs s))⟩, ⟨3, [], .v (.bool x.2)⟩, ⟨14, [], .v (.int .i64 s.length)⟩, ⟨15, [], .v (.int .i64 x.1)⟩], [], [], [], 0, m⟩)
        (fun x => x.1 ≤ s.length ∧ nmScan true s = nmScan x.2 (s.drop x.1)) (fun x => s.length - x.1) (0, true) (by kernel_rfl) (fun _ _ => Nnr _) (fun _ _ => .inl rfl) (fun _ => ?_) ?_ ?_ ?_
      · simp only [go_sem, ↓tfi, ↓fti, ↓reduceIte]
      · simp only [go_sem, ↓tfi, ↓fti, ↓reduceIte]
        rfl
      · simp
      · rintro ⟨k, st⟩ ⟨hk, hp⟩
        simp only at hk hp
        simp only [go_sem, ↓tfi, ↓fti, ↓reduceIte]
        have hN : isName s = nmScan true s := by
          have : s.length ≤ 64 := by omega
          simp [isName, this]
        rw [hN]
        refine ⟨fun hlt => ?_, fun hge => ?_⟩
        · have hkl : k < s.length := by omega
          rw [drop_at hkl] at hp
          simp only [nmScan] at hp
          have hI : I64 (k + 1) := by unfold I64; omega
          refine ⟨⟨by omega, hlt⟩, ⟨by omega, hlt⟩, fun h1 => ⟨hI, (k + 1, true), ⟨rfl, rfl⟩, ⟨hkl, ?_⟩, by simp only; omega⟩, fun h1 => ⟨fun h2 => ⟨fun _ => ⟨hI, (k + 1, false), ⟨rfl, rfl⟩, ⟨hkl, ?_⟩, by simp only; omega⟩, fun h3 => absurd h2 h3⟩,
            fun h2 => ⟨fun h3 => ⟨hI, (k + 1, false), ⟨rfl, rfl⟩, ⟨hkl, ?_⟩, by simp only; omega⟩, fun h3 => ?_⟩⟩⟩
          · rw [hp, if_pos ⟨by omega, h1.2⟩]
          · rw [hp, if_neg (by rintro ⟨e, e'⟩; rcases h1 with h1 | h1; · omega
                               · rw [e'] at h1; cases h1), if_pos (.inl ((class_one _).1 h2))]
          · rw [hp, if_neg (by rintro ⟨e, e'⟩; rcases h1 with h1 | h1; · omega
                               · rw [e'] at h1; cases h1), if_pos (.inr ⟨((class_two _).1 h3.1).2, h3.2⟩)]
          · rw [hp, if_neg (by rintro ⟨e, e'⟩; rcases h1 with h1 | h1; · omega
                               · rw [e'] at h1; cases h1), if_neg]
            rintro (e | ⟨e, e'⟩)
            · exact h2 ((class_one _).2 e)
            · rcases h3 with h3 | h3
              · exact h3 ((class_two _).2 ⟨fun x => h2 ((class_one _).2 x), e⟩)
              · rw [e'] at h3; cases h3
        · rw [hp, List.drop_of_length_le (by omega)]
          rfl
theorem letter3_spec (c : Int) (m : Mem) : FnH Tryz.prog 242 [.v (.int .u8 c)] ⟨[], []⟩ m fun r H' _ => r = .v (.bool (isStartB c)) ∧ H' = ⟨[], []⟩ := by
 refine enter cfN puN Tryz.func242 rfl rfl (by kernel_rfl) rfl ?_ ?_
 ·simp only [go_sem, ↓tfi, ↓fti, ↓reduceIte]
 ·simp only [go_sem, ↓tfi, ↓fti, ↓reduceIte]
  rfl
def isMid (c : UInt8) : Bool := isStartB c.toNat || isDigitB c.toNat
def isPart : List UInt8 → Bool
 | [] => false
 | c :: r => isStartB c.toNat && r.all isMid
theorem nm_mid : ∀ (p r : List UInt8), (∀ c ∈ p, c.toNat ≠ 47) → nmScan false (p ++ r) = (p.all isMid && nmScan false r)
 | [], r, _ => by simp
 | c :: p, r, h => by
  have h1 := h c (List.mem_cons_self ..)
  have ih := nm_mid p r fun x hx => h x (List.mem_cons_of_mem _ hx)
  simp only [List.cons_append, nmScan, List.all_cons, isMid]
  rw [if_neg (fun e => h1 e.1)]
  cases e1 : isStartB c.toNat <;> cases e2 : isDigitB c.toNat <;> simp [ih]
theorem nm_part (p r : List UInt8) (h : ∀ c ∈ p, c.toNat ≠ 47) : nmScan true (p ++ 47 :: r) = (isPart p && nmScan true r) := by
 cases p with
 | nil => simp [nmScan, isPart, isStartB, isDigitB]
 | cons c p =>
  have h1 := h c (List.mem_cons_self ..)
  have ih := nm_mid p (47 :: r) fun x hx => h x (List.mem_cons_of_mem _ hx)
  simp only [List.cons_append, nmScan, isPart]
  rw [if_neg (fun e => h1 e.1), ih]
  cases e1 : isStartB c.toNat <;> simp [nmScan]
theorem nm_last (p : List UInt8) (h : ∀ c ∈ p, c.toNat ≠ 47) : nmScan true p = isPart p := by
 cases p with
 | nil => rfl
 | cons c p =>
  have h1 := h c (List.mem_cons_self ..)
  have ih := nm_mid p [] fun x hx => h x (List.mem_cons_of_mem _ hx)
  rw [List.append_nil] at ih
  simp only [nmScan, isPart]
  rw [if_neg (fun e => h1 e.1), ih]
  cases e1 : isStartB c.toNat <;> simp [nmScan]
abbrev cf4 : Cfg := mkCf (fun _ => false) [(242, pf1 isStartB)]
theorem pu4 : PureOk cf4 Tryz.prog := pure_cons (by kernel_rfl) (pure1 letter3_spec) pure_nil
theorem part3_spec (s : List UInt8) (m : Mem) (hs : s.length ≤ 4611686018427387904) : FnH Tryz.prog 216 [.v (.string (bs s))] ⟨[], []⟩ m fun r H' _ => r = .v (.bool (isPart s)) ∧ H' = ⟨[], []⟩ := by
 refine enter cf4 pu4 Tryz.func216 rfl rfl (by kernel_rfl) rfl ?_ ?_
 ·simp only [go_sem, ↓tfi, ↓fti, ↓reduceIte]
 ·simp only [go_sem, ↓tfi, ↓fti, ↓reduceIte]
  refine WP_loop pu4 (fun k : Nat => ⟨[⟨0, [], .v (.string (bs s))⟩, ⟨3, [], .v (.int .i64 k)⟩], [], [], [], 0, m⟩)
    (fun k => k ≤ s.length ∧ (k = 0 ∨ isPart s = (s.drop k).all isMid)) (fun k => s.length - k) 0 (by kernel_rfl) (fun _ _ => Nnr _) (fun _ _ => .inl rfl) (fun _ => ?_) ?_ ?_ ?_
  ·simp only [go_sem, ↓tfi, ↓fti, ↓reduceIte]
  ·simp only [go_sem, ↓tfi, ↓fti, ↓reduceIte]
   rfl
  ·simp
  ·rintro k ⟨hk, hp⟩
   simp only [go_sem, ↓tfi, ↓fti, ↓reduceIte]
   have hok : ∀ x : UInt8, isMid x = true ↔ isStartB x.toNat = true ∨ ¬ (x.toNat : Int) < 48 ∧ ¬ 57 < (x.toNat : Int) := fun x => by
    simp [isMid, isDigitB]
   have hs0 : k = 0 → k < s.length → isPart s = (isStartB (s.getD k 0).toNat && (s.drop (k + 1)).all isMid) := by
    rintro rfl hlt
    have := drop_at hlt
    rw [List.drop_zero] at this
    rw [this]
    rfl
   refine ⟨fun hlt => ⟨⟨by omega, hlt⟩, fun _ => ⟨by omega, hlt⟩, fun _ => ⟨by omega, hlt⟩, fun h => ?_, fun h => ⟨by unfold I64; omega, k + 1, by omega, ⟨by omega, .inr ?_⟩, by omega⟩⟩, fun hge => ?_⟩
   ·have hkl : k < s.length := by omega
    rcases Nat.eq_zero_or_pos k with h0 | h0
    ·rw [hs0 h0 hkl, h.1]; rfl
    ·rcases hp with hp | hp
     ·omega
     ·rw [hp, drop_at hkl, List.all_cons]
      have : isMid (s.getD k 0) = false := by
       rw [Bool.eq_false_iff]
       intro e
       rcases (hok _).1 e with e | e
       ·rw [e] at h; cases h.1
       ·omega
      rw [this]; rfl
   ·have hkl : k < s.length := by omega
    rcases Nat.eq_zero_or_pos k with h0 | h0
    ·rw [hs0 h0 hkl]
     have : isStartB (s.getD k 0).toNat = true := by
      rcases h with h | h
      ·exact h
      ·omega
     rw [this]; rfl
    ·rcases hp with hp | hp
     ·omega
     ·rw [hp, drop_at hkl, List.all_cons]
      have : isMid (s.getD k 0) = true := (hok _).2 (by
       rcases h with h | h
       ·exact .inl h
       ·exact .inr ⟨h.1.2, h.2⟩)
      rw [this]; rfl
   ·rcases Nat.eq_zero_or_pos s.length with h0 | h0
    ·rw [List.eq_nil_of_length_eq_zero h0]; rfl
    ·rcases hp with hp | hp
     ·omega
     ·rw [hp, List.drop_of_length_le (by omega)]
      simpa using h0
def lastAt (s : List UInt8) (c : Int) : Nat → Int
 | 0 => -1
 | k + 1 => if ((s.getD k 0).toNat : Int) = c then k else lastAt s c k
theorem lastIdx_spec (s : List UInt8) (c : Int) (m : Mem) (hs : s.length ≤ 4611686018427387904) : FnH Tryz.prog 265 [.v (.string (bs s)), .v (.int .u8 c)] ⟨[], []⟩ m fun r H' _ => r = .v (.int .i64 (lastAt s c s.length)) ∧ H' = ⟨[], []⟩ := by
 refine enter cfN puN Tryz.func265 rfl rfl (by kernel_rfl) rfl ?_ ?_
 ·simp only [go_sem, ↓tfi, ↓fti, ↓reduceIte]
 ·simp only [go_sem, ↓tfi, ↓fti, ↓reduceIte]
  refine ⟨by unfold I64; omega, ?_⟩
  refine WP_loop puN (fun k : Nat => ⟨[⟨0, [], .v (.string (bs s))⟩, ⟨1, [], .v (.int .u8 c)⟩, ⟨5, [], .v (.int .i64 (k - 1))⟩], [], [], [], 0, m⟩)
    (fun k => k ≤ s.length ∧ lastAt s c s.length = lastAt s c k) (fun k => k) s.length (by kernel_rfl) (fun _ _ => Nnr _) (fun _ _ => .inl rfl) (fun _ => ?_) ?_ ?_ ?_
  ·simp only [go_sem, ↓tfi, ↓fti, ↓reduceIte]
  ·simp only [go_sem, ↓tfi, ↓fti, ↓reduceIte]
  ·simp
  ·rintro k ⟨hk, hp⟩
   simp only [go_sem, ↓tfi, ↓fti, ↓reduceIte]
   refine ⟨fun h0 => ⟨⟨h0, by omega⟩, fun h => ?_, fun h => ⟨by unfold I64; omega, k - 1, by omega, ⟨by omega, ?_⟩, by omega⟩⟩, fun h => ?_⟩
   ·obtain ⟨k, rfl⟩ : ∃ j, k = j + 1 := ⟨k - 1, by omega⟩
    have e : ((k + 1 : Nat) : Int) - 1 = k := by omega
    rw [e, Int.toNat_natCast] at h
    rw [e]
    rw [hp]
    simp only [lastAt]
    rw [if_pos h]
   ·obtain ⟨k, rfl⟩ : ∃ j, k = j + 1 := ⟨k - 1, by omega⟩
    have e : ((k + 1 : Nat) : Int) - 1 = k := by omega
    rw [e, Int.toNat_natCast] at h
    rw [hp]
    simp only [lastAt]
    rw [if_neg h]
    rfl
   ·obtain rfl : k = 0 := by omega
    rw [hp]; rfl
theorem slash3_spec (s : List UInt8) (m : Mem) (hs : s.length ≤ 4611686018427387904) : FnH Tryz.prog 217 [.v (.string (bs s))] ⟨[], []⟩ m fun r H' _ => r = .v (.int .i64 (lastAt s 47 s.length)) ∧ H' = ⟨[], []⟩ := by
 refine enter cfN puN Tryz.func217 rfl rfl (by kernel_rfl) rfl ?_ ?_
 ·simp only [go_sem, ↓tfi, ↓fti, ↓reduceIte]
 ·simp only [go_sem, ↓tfi, ↓fti, ↓reduceIte]
  refine ⟨by unfold I64; omega, ?_⟩
  refine WP_loop puN (fun k : Nat => ⟨[⟨0, [], .v (.string (bs s))⟩, ⟨3, [], .v (.int .i64 (k - 1))⟩], [], [], [], 0, m⟩)
    (fun k => k ≤ s.length ∧ lastAt s 47 s.length = lastAt s 47 k) (fun k => k) s.length (by kernel_rfl) (fun _ _ => Nnr _) (fun _ _ => .inl rfl) (fun _ => ?_) ?_ ?_ ?_
  ·simp only [go_sem, ↓tfi, ↓fti, ↓reduceIte]
  ·simp only [go_sem, ↓tfi, ↓fti, ↓reduceIte]
  ·simp
  ·rintro k ⟨hk, hp⟩
   simp only [go_sem, ↓tfi, ↓fti, ↓reduceIte]
   refine ⟨fun h0 => ⟨⟨h0, by omega⟩, fun h => ?_, fun h => ⟨by unfold I64; omega, k - 1, by omega, ⟨by omega, ?_⟩, by omega⟩⟩, fun h => ?_⟩
   ·obtain ⟨k, rfl⟩ : ∃ j, k = j + 1 := ⟨k - 1, by omega⟩
    have e : ((k + 1 : Nat) : Int) - 1 = k := by omega
    rw [e, Int.toNat_natCast] at h
    rw [e]
    rw [hp]
    simp only [lastAt]
    rw [if_pos h]
   ·obtain ⟨k, rfl⟩ : ∃ j, k = j + 1 := ⟨k - 1, by omega⟩
    have e : ((k + 1 : Nat) : Int) - 1 = k := by omega
    rw [e, Int.toNat_natCast] at h
    rw [hp]
    simp only [lastAt]
    rw [if_neg h]
    rfl
   ·obtain rfl : k = 0 := by omega
    rw [hp]; rfl
theorem lastIdx0_spec (s : List UInt8) (c : Int) (m : Mem) (hs : s.length ≤ 4611686018427387904) : FnH Tryz.prog 249 [.v (.string (bs s)), .v (.int .u8 c)] ⟨[], []⟩ m fun r H' _ => r = .v (.int .i64 (lastAt s c s.length)) ∧ H' = ⟨[], []⟩ := by
 refine enter cfN puN Tryz.func249 rfl rfl (by kernel_rfl) rfl ?_ ?_
 ·simp only [go_sem, ↓tfi, ↓fti, ↓reduceIte]
 ·simp only [go_sem, ↓tfi, ↓fti, ↓reduceIte]
  refine cvl ((lastIdx_spec s c m hs).mono ?_)
  rintro r H' m' hm ⟨rfl, rfl⟩
  simp only [go_sem, ↓tfi, ↓fti, ↓reduceIte]
theorem split_spec (s : List UInt8) (m : Mem) (hs : s.length ≤ 4611686018427387904) : FnH Tryz.prog 230 [.v (.string (bs s))] ⟨[], []⟩ m fun r H' _ => r = .v (.int .i64 (lastAt s 47 s.length)) ∧ H' = ⟨[], []⟩ := by
 refine enter cfN puN Tryz.func230 rfl rfl (by kernel_rfl) rfl ?_ ?_
 ·simp only [go_sem, ↓tfi, ↓fti, ↓reduceIte]
 ·simp only [go_sem, ↓tfi, ↓fti, ↓reduceIte]
  refine cvl ((lastIdx0_spec s 47 m hs).mono ?_)
  rintro r H' m' hm ⟨rfl, rfl⟩
  simp only [go_sem, ↓tfi, ↓fti, ↓reduceIte]
theorem lastAt_bd (s : List UInt8) (c : Int) : ∀ k, -1 ≤ lastAt s c k ∧ lastAt s c k < k
 | 0 => ⟨by simp [lastAt], by simp [lastAt]⟩
 | k + 1 => by
  obtain ⟨h1, h2⟩ := lastAt_bd s c k
  simp only [lastAt]
  split <;> omega
def simpleL (s : List UInt8) : List UInt8 := s.drop (lastAt s 47 s.length + 1).toNat
theorem simple_spec (s : List UInt8) (m : Mem) (hs : s.length ≤ 4611686018427387904) : FnH Tryz.prog 193 [.v (.string (bs s))] ⟨[], []⟩ m fun r H' _ => r = .v (.string (bs (simpleL s))) ∧ H' = ⟨[], []⟩ := by
 refine enter cfN puN Tryz.func193 rfl rfl (by kernel_rfl) rfl ?_ ?_
 ·simp only [go_sem, ↓tfi, ↓fti, ↓reduceIte]
 ·simp only [go_sem, ↓tfi, ↓fti, ↓reduceIte]
  refine cvl ((split_spec s m hs).mono ?_)
  rintro r H' m' hm ⟨rfl, rfl⟩
  simp only [go_sem, ↓tfi, ↓fti, ↓reduceIte]
  obtain ⟨h1, h2⟩ := lastAt_bd s 47 s.length
  refine ⟨by unfold I64; omega, ⟨by omega, by omega, by omega⟩, ?_⟩
  rfl
theorem rsimple_spec (s : List UInt8) (m : Mem) (hs : s.length ≤ 4611686018427387904) : FnH Tryz.prog 171 [.v (.string (bs s))] ⟨[], []⟩ m fun r H' _ => r = .v (.string (bs (simpleL s))) ∧ H' = ⟨[], []⟩ := by
 refine enter cfN puN Tryz.func171 rfl rfl (by kernel_rfl) rfl ?_ ?_
 ·simp only [go_sem, ↓tfi, ↓fti, ↓reduceIte]
 ·simp only [go_sem, ↓tfi, ↓fti, ↓reduceIte]
  refine cvl ((slash3_spec s m hs).mono ?_)
  rintro r H' m' hm ⟨rfl, rfl⟩
  simp only [go_sem, ↓tfi, ↓fti, ↓reduceIte]
  obtain ⟨h1, h2⟩ := lastAt_bd s 47 s.length
  refine ⟨by unfold I64; omega, ⟨by omega, by omega, by omega⟩, ?_⟩
  rfl
theorem drop_seg {s : List UInt8} {f k : Nat} (hf : f ≤ k) (hk : k ≤ s.length) : s.drop f = (s.take k).drop f ++ s.drop k := by
 conv => lhs; rw [← List.take_append_drop k s]
 rw [List.drop_append_of_le_length (by rw [List.length_take]; omega)]
theorem seg_succ {s : List UInt8} {f k : Nat} (hf : f ≤ k) (hk : k < s.length) : (s.take (k + 1)).drop f = (s.take k).drop f ++ [s.getD k 0] := by
 rw [List.take_succ_eq_append_getElem hk, List.drop_append_of_le_length (by rw [List.length_take]; omega), List.getD_eq_getElem?_getD, List.getElem?_eq_getElem hk]
 rfl
abbrev cf5 : Cfg := mkCf (fun _ => false) [(216, pS1 (fun s => s.length ≤ 4611686018427387904) fun s => .bool (isPart s))]
theorem pu5 : PureOk cf5 Tryz.prog := pure_cons (by kernel_rfl) (pureS fun s m h => part3_spec s m h) pure_nil
theorem risName_spec (s : List UInt8) (m : Mem) (hs : s.length ≤ 4611686018427387904) : FnH Tryz.prog 170 [.v (.string (bs s))] ⟨[], []⟩ m fun r H' _ => r = .v (.bool (isName s)) ∧ H' = ⟨[], []⟩ := by
 refine enter cf5 pu5 Tryz.func170 rfl rfl (by kernel_rfl) rfl ?_ ?_
 ·simp only [go_sem, ↓tfi, ↓fti, ↓reduceIte]
 ·simp only [go_sem, ↓tfi, ↓fti, ↓reduceIte]
  refine ⟨fun h => ?_, fun h => ?_⟩
  ·have : ¬ s.length ≤ 64 := by omega
   simp [isName, this]
  ·refine WP_loop pu5 (fun x : Nat × Nat => ⟨[⟨0, [], .v (.string (bs s))⟩, ⟨3, [], .v (.int .i64 x.1)⟩, ⟨4, [], .v (.int .i64 x.2)⟩], [], [], [], 0, m⟩)
    (fun x => x.1 ≤ x.2 ∧ x.2 ≤ s.length ∧ (∀ c ∈ (s.take x.2).drop x.1, c.toNat ≠ 47) ∧ isName s = nmScan true (s.drop x.1)) (fun x => s.length - x.2) (0, 0) (by kernel_rfl) (fun _ _ => Nnr _) (fun _ _ => .inl rfl) (fun _ => ?_) ?_ ?_ ?_
   ·simp only [go_sem, ↓tfi, ↓fti, ↓reduceIte]
   ·simp only [go_sem, ↓tfi, ↓fti, ↓reduceIte]
    exact ⟨rfl, rfl⟩
   ·have : s.length ≤ 64 := by omega
    simp [isName, this]
   ·rintro ⟨f, k⟩ ⟨hf, hk, hno, hp⟩
    simp only at hf hk hno hp
    simp only [go_sem, ↓tfi, ↓fti, ↓reduceIte]
    have hlen : ∀ l : List UInt8, (l.take k).length ≤ k := fun l => by rw [List.length_take]; omega
    refine ⟨fun hlt => ?_, fun hge => ?_⟩
    ·have hkl : k < s.length := by omega
     have hI : I64 (k + 1) := by unfold I64; omega
     refine ⟨⟨by omega, hlt⟩, fun h47 => ?_, fun h47 => ⟨hI, (f, k + 1), ⟨rfl, rfl⟩, ⟨by simp only; omega, hkl, ?_, hp⟩, by simp only; omega⟩⟩
     ·have e47 : s.getD k 0 = 47 := by
       have : (s.getD k 0).toNat = 47 := by omega
       exact UInt8.toNat_inj.1 this
      have hsp : isName s = (isPart ((s.take k).drop f) && nmScan true (s.drop (k + 1))) := by
       rw [hp, drop_seg hf hk, drop_at hkl, e47]
       exact nm_part _ _ hno
      refine ⟨⟨by omega, by omega, by omega⟩, by simp only [List.length_drop, List.length_take]; omega, fun h => ?_, fun h => ⟨hI, hI, (k + 1, k + 1), ⟨rfl, rfl⟩, ⟨Nnr _, hkl, ?_, ?_⟩, by simp only; omega⟩⟩
      ·rw [hsp, h]; rfl
      ·rw [List.drop_of_length_le (by simp; omega)]
       intro c hc; cases hc
      ·rw [hsp, h]; rfl
     ·simp only
      rw [seg_succ hf hkl]
      intro c hc
      rcases List.mem_append.1 hc with hc | hc
      ·exact hno c hc
      ·rw [List.mem_singleton.1 hc]
       omega
    ·obtain rfl : k = s.length := by omega
     refine ⟨⟨by omega, by omega, by omega⟩, by simp only [List.length_drop, List.length_take]; omega, ?_⟩
     rw [hp]
     have := nm_last _ hno
     rw [List.take_length] at this
     exact this.symm
theorem nm_end : ∀ (s : List UInt8) (b : Bool), nmScan b s = true → s = [] ∨ ((s.getD (s.length - 1) 0).toNat ≠ 47 ∧ nmScan b s = true)
 | [], _, _ => .inl rfl
 | c :: r, b, h => by
  refine .inr ⟨?_, h⟩
  simp only [nmScan] at h
  cases r with
  | nil =>
   intro e
   have e : c.toNat = 47 := e
   rw [e] at h
   cases b <;> simp [nmScan, isStartB, isDigitB] at h
  | cons d r =>
   have go : ∀ b', nmScan b' (d :: r) = true → ((c :: d :: r).getD ((c :: d :: r).length - 1) 0).toNat ≠ 47 := fun b' hb => by
    rcases nm_end (d :: r) b' hb with e | e
    ·cases e
    ·simpa using e.1
   split at h
   ·exact go _ h
   ·split at h
    ·exact go _ h
    ·cases h
theorem simple_ne {s : List UInt8} (h : isName s = true) : 0 < (simpleL s).length := by
 simp only [isName, Bbt] at h
 rcases nm_end s true h.2 with rfl | ⟨e, _⟩
 ·simp [nmScan] at h
 ·have hl : 0 < s.length := by
   cases s with
   | nil => simp [nmScan] at h
   | cons c r => simp
  unfold simpleL
  rw [List.length_drop]
  obtain ⟨n, hn⟩ : ∃ n, s.length = n + 1 := ⟨s.length - 1, by omega⟩
  rw [hn] at e ⊢
  simp only [Nat.add_sub_cancel] at e
  have h2 := lastAt_bd s 47 n
  have : lastAt s 47 (n + 1) = lastAt s 47 n := by
   simp only [lastAt]
   rw [if_neg (by omega)]
  rw [this]
  omega
def isCls (s : List UInt8) : Bool := isName s && decide (65 ≤ ((simpleL s).getD 0 0).toNat) && decide (((simpleL s).getD 0 0).toNat ≤ 90)
abbrev BL (s : List UInt8) : Prop := s.length ≤ 4611686018427387904
abbrev cf6 : Cfg := mkCf (fun _ => false) [(192, pS1 BL fun s => .bool (isName s)), (170, pS1 BL fun s => .bool (isName s)), (193, pS1 BL fun s => .string (bs (simpleL s))), (171, pS1 BL fun s => .string (bs (simpleL s)))]
theorem pu6 : PureOk cf6 Tryz.prog := pure_cons (by kernel_rfl) (pureS isName_spec) (pure_cons (by kernel_rfl) (pureS risName_spec) (pure_cons (by kernel_rfl) (pureS simple_spec) (pure_cons (by kernel_rfl) (pureS rsimple_spec) pure_nil)))
theorem isCls_spec (s : List UInt8) (m : Mem) (hs : BL s) : FnH Tryz.prog 134 [.v (.string (bs s))] ⟨[], []⟩ m fun r H' _ => r = .v (.bool (isCls s)) ∧ H' = ⟨[], []⟩ := by
 refine enter cf6 pu6 Tryz.func134 rfl rfl (by kernel_rfl) rfl ?_ ?_
 ·simp only [go_sem, ↓tfi, ↓fti, ↓reduceIte]
 ·simp only [go_sem, ↓tfi, ↓fti, ↓reduceIte]
  refine ⟨hs, fun h => by simp [isCls, h], fun h => ⟨hs, ⟨by omega, by have := simple_ne h; omega⟩, ?_⟩⟩
  rw [isCls, h, Bool.true_and]
  have e1 : ∀ n : Nat, decide ((65 : Int) ≤ n) = decide (65 ≤ n) := fun n => by rw [decide_eq_decide]; omega
  have e2 : ∀ n : Nat, decide ((n : Int) ≤ 90) = decide (n ≤ 90) := fun n => by rw [decide_eq_decide]; omega
  rw [e1, e2]
theorem FnH_of {P : Program} {f : FuncId} {args : List Value} {m : Mem} {R : Value → Prop} (h : ∀ w D, Wf w D → m.le ⟨w, D⟩ → Calls P f ⟨args⟩ w fun e w' => ∃ y, e = .returned y ∧ R y ∧ Below w.heap.size w w') :
  FnH P f (args.map SV.v) ⟨[], []⟩ m fun r H' m' => (∃ y, r = .v y ∧ R y) ∧ H' = ⟨[], []⟩ ∧ m' = m := by
 intro V w D hwf hle hH
 have ha : (args.map SV.v).map (den V) = args := by rw [List.map_map]; exact List.map_id'' (fun _ => rfl) args
 rw [ha]
 refine (h w D hwf hle).mono ?_
 rintro e w' ⟨y, rfl, hy, hb⟩
 have hlt : ∀ b, 0 < D b → b < w.heap.size := fun b hb => by
  rcases Nat.lt_or_ge b w.heap.size with h | h
  ·exact h
  ·have := hwf b h; omega
 have hle' : Mem.le ⟨w, D⟩ ⟨w', D⟩ := fun b => ⟨Nnr _, fun h0 => ⟨hlt b h0, keepObj_same (hb.block b (hlt b h0))⟩⟩
 exact ⟨.v y, V, D, ⟨[], []⟩, m, rfl, fun b hb' => hwf b (Nat.le_trans hb.size hb'), ⟨fun b hb => (by cases hb), fun b hb => (by cases hb), by simp [blks], by simp⟩, fun b hb => (by cases hb), fun b hb => (by cases hb),
  ⟨hb.os, hb.tape, hb.output, hb.size, fun b hb' _ => ⟨hb.block b hb', rfl⟩⟩, fun b hb => (by simp [blks] at hb), hle', fun b => ⟨Nnr _, fun h => ⟨((hle b).2 h).1, keepObj_same rfl⟩⟩, Mem.le_trans hle hle', ⟨y, rfl, hy⟩, rfl, rfl⟩
theorem Rds_up {m m' : Mem} {a : Option Addr} {n sz : Nat} {xs : List Value} (hle : m.le m') (h : Rds m a n sz xs) : Rds m' a n sz xs := by
 refine ⟨h.1, fun h0 => ?_⟩
 obtain ⟨ad, rfl, hs, hc⟩ := h.2 h0
 refine ⟨ad, rfl, hs, fun j hj => ?_⟩
 obtain ⟨h1, h2⟩ := hc j hj
 obtain ⟨e1, e2, e3⟩ := add_parts ad j hs
 have hx : xs[j]? = some (xs[j]'(by rw [h.1]; exact hj)) := List.getElem?_eq_getElem _
 exact ⟨(cell_of_le hle e3 (by rw [e1, e2]; exact h2) (h1.trans hx)).trans hx.symm, Nat.lt_of_lt_of_le h2 (hle _).1⟩
theorem Rd_up {m m' : Mem} {x : Value} {cs : List Value} (hle : m.le m') (h : Rd m x cs) : Rd m' x cs := by
 obtain ⟨ad, rfl, hs, hc⟩ := h
 refine ⟨ad, rfl, hs, fun j hj => ?_⟩
 obtain ⟨h1, h2⟩ := hc j hj
 obtain ⟨e1, e2, e3⟩ := add_parts ad j hs
 have hx : cs[j]? = some (cs[j]'hj) := List.getElem?_eq_getElem _
 exact ⟨(cell_of_le hle e3 (by rw [e1, e2]; exact h2) (h1.trans hx)).trans hx.symm, Nat.lt_of_lt_of_le h2 (hle _).1⟩
def opsL : List (List UInt8) := [[124, 124], [38, 38], [124], [94], [38], [61, 61], [33, 61], [60], [60, 61], [62], [62, 61], [60, 60], [62, 62], [62, 62, 62], [43], [45], [42], [47], [37]]
def Glob (m : Mem) : Prop := (∀ w D, m.le ⟨w, D⟩ → (∃ k, w.cell? ⟨1, 0, none⟩ = some (.int .i64 k)) ∧ Lib.TabIs Tryz.prog w "internal/strconv.uint64pow10" .u64 Lib.pow10Tab) ∧
 ∃ ad c, Rd m (.pointer (some ⟨0, 0, none⟩)) [.slice (some ad) 19 c] ∧ 19 ≤ c ∧ Rds m (some ad) 19 1 (strs opsL)
theorem Glob.up {m m' : Mem} (h : Glob m) (hm : m.le m') : Glob m' :=
 ⟨fun w D hw => h.1 w D (Mem.le_trans hm hw), h.2.elim fun ad h => h.elim fun c h => ⟨ad, c, Rd_up hm h.1, h.2.1, Rds_up hm h.2.2⟩⟩
theorem tl_size (b : ByteArray) : (tl b).length = b.size := by simp [tl]
theorem bs_size (l : List UInt8) : (bs l).size = l.length := by rw [← tl_size, tl_bs]
theorem replace_spec (s old new : List UInt8) (m : Mem) (hg : Glob m) (hs : s.length ≤ 2147483648) (ho : 1 ≤ old.length) (hn : new.length ≤ 16) :
  FnH Tryz.prog 224 [.v (.string (bs s)), .v (.string (bs old)), .v (.string (bs new))] ⟨[], []⟩ m fun r H' m' => (r = .v (.string (bs (Lib.replaceAll s old new)))) ∧ H' = ⟨[], []⟩ ∧ m' = m := by
 refine (FnH_of (args := [.string (bs s), .string (bs old), .string (bs new)]) (R := fun y => y = .string (bs (Lib.replaceAll s old new))) fun w D hwf hle => ?_).mono ?_
 ·obtain ⟨k, hk⟩ := (hg.1 w D hle).1
  have hc := Lib.countB_mul_le (bs old) (by rw [bs_size]; exact ho) s.length (bs s) (by rw [bs_size]; omega)
  have h1 : Lib.countB (bs s) (bs old) ≤ s.length := by
   rw [bs_size] at hc
   exact Nat.le_trans (Nat.le_mul_of_pos_right _ ho) hc
  have h2 : Lib.countB (bs s) (bs old) * (bs new).size ≤ s.length * 16 := by rw [bs_size]; exact Nat.mul_le_mul h1 hn
  refine (Tryz.strings_ReplaceAll (bs s) (bs old) (bs new) k w (by rw [bs_size]; omega) hk (by rw [bs_size]; exact ho) (by rw [bs_size s]; omega)).mono ?_
  rintro e w' ⟨rfl, hb⟩
  exact ⟨_, rfl, by rw [← mk_eq_bs]; rfl, hb⟩
 ·rintro r H' m' hm ⟨⟨y, rfl, rfl⟩, h1, h2⟩
  exact ⟨rfl, h1, h2⟩
theorem indexByte_spec (s : List UInt8) (c : Int) (m : Mem) : FnH Tryz.prog 183 [.v (.string (bs s)), .v (.int .u8 c)] ⟨[], []⟩ m fun r H' _ => r = .v (.int .i64 (Lib.indexByte s c.toNat.toUInt8)) ∧ H' = ⟨[], []⟩ := by
 refine (FnH_of (args := [.string (bs s), .int .u8 c]) (R := fun y => y = .int .i64 (Lib.indexByte s c.toNat.toUInt8)) fun w D hwf hle => ?_).mono ?_
 ·refine (Tryz.strings_IndexByte (bs s) c w).mono ?_
  rintro e w' ⟨rfl, rfl⟩
  exact ⟨_, rfl, rfl, Below.refl _ _⟩
 ·rintro r H' m' hm ⟨⟨y, rfl, rfl⟩, h1, h2⟩
  exact ⟨rfl, h1⟩
theorem zero27 : zeroO Tryz.prog 50 = some [.v (.int .i64 0), .v (.string (bs [])), .v (.int .i64 0), .v (.int .i64 0)] := by kernel_rfl
theorem agg27 : aggN Tryz.prog 50 = some (some 4) := by kernel_rfl
theorem sz27 : szT Tryz.prog 50 = 4 := by kernel_rfl
theorem by27 : byT Tryz.prog 50 = 40 := by kernel_rfl
theorem fld27_0 : fldO Tryz.prog 50 0 = some (0, none, 1) := by kernel_rfl
theorem fld27_1 : fldO Tryz.prog 50 1 = some (1, none, 1) := by kernel_rfl
theorem fld27_2 : fldO Tryz.prog 50 2 = some (2, none, 1) := by kernel_rfl
theorem fld27_3 : fldO Tryz.prog 50 3 = some (3, none, 1) := by kernel_rfl
theorem bld27 : bldOk Tryz.prog 50 = true := by kernel_rfl
theorem cv35 : cvK Tryz.prog 3 5 = .int .u8 := by kernel_rfl
theorem cv539 : cvK Tryz.prog 83 9 = .b2s := by kernel_rfl
attribute [go_sem] cv35 cv539 zero27 agg27 sz27 by27 fld27_0 fld27_1 fld27_2 fld27_3 bld27
structure Tk where
 k : Int
 s : List UInt8
 n : Int
 at_ : Int
abbrev Tk.cells (t : Tk) : List SV := [.v (.int .i64 t.k), .v (.string (bs t.s)), .v (.int .i64 t.n), .v (.int .i64 t.at_)]
abbrev Tk.sv (t : Tk) : SV := .agg t.cells
def hexL : List UInt8 := [48, 49, 50, 51, 52, 53, 54, 55, 56, 57, 97, 98, 99, 100, 101, 102]
theorem elT53 : elT Tryz.prog 83 = some 5 := by kernel_rfl
theorem sz5 : szT Tryz.prog 5 = 1 := by kernel_rfl
theorem by5 : byT Tryz.prog 5 = 1 := by kernel_rfl
theorem zero5 : zeroO Tryz.prog 5 = some [.v (.int .u8 0)] := by kernel_rfl
theorem agg5 : aggN Tryz.prog 5 = some none := by kernel_rfl
attribute [go_sem] elT53 sz5 by5 zero5 agg5
theorem u8s_app (a b : List UInt8) : u8s (a ++ b) = u8s a ++ u8s b := by simp [u8s]
theorem repK_len (old new : List UInt8) : ∀ (k : Nat) (s : List UInt8), (Lib.replaceK old new k s).length ≤ s.length + k * new.length
 | 0, s => by simp [Lib.replaceK]
 | k + 1, s => by
  rw [Lib.replaceK]
  split
  ·exact Nat.le_add_right _ _
  ·have ih := repK_len old new k (s.drop ((Lib.index s old).toNat + old.length))
   simp only [Lla, List.length_take, List.length_drop] at ih ⊢
   rw [Nat.add_mul]
   omega
theorem rep_len (s old new : List UInt8) (ho : 1 ≤ old.length) (hs : s.length ≤ 1000000000) : (Lib.replaceAll s old new).length ≤ s.length + s.length * new.length := by
 unfold Lib.replaceAll Lib.replace
 split
 ·exact Nat.le_add_right _ _
 ·refine Nat.le_trans (repK_len _ _ _ _) ?_
  have hn : Lib.replaceNum s old (-1) = Lib.count s old := by simp [Lib.replaceNum]
  have hc := Lib.countB_mul_le (bs old) (by rw [bs_size]; exact ho) s.length (bs s) (by rw [bs_size]; exact Nnr _)
  have hcc : Lib.countB (bs s) (bs old) = Lib.count s old := rfl
  rw [hcc, bs_size, bs_size] at hc
  have : Lib.count s old ≤ s.length := Nat.le_trans (Nat.le_mul_of_pos_right _ ho) hc
  rw [hn]
  exact Nat.add_le_add_left (Nat.mul_le_mul_right _ this) _
theorem elT22 : elT Tryz.prog 45 = some 50 := by kernel_rfl
attribute [go_sem] elT22
def tkCells (ts : List Tk) : List Value := (ts.map fun t => [Value.int .i64 t.k, .string (bs t.s), .int .i64 t.n, .int .i64 t.at_]).flatten
theorem leM_trans {a b c : Mem} (h : leM a b) (h' : b.le c) : leM a c := by
 rcases h with rfl | h
 ·exact .inr h'
 ·exact .inr (Mem.le_trans h h')
theorem cv53 : cvK Tryz.prog 5 3 = .int .i64 := by kernel_rfl
attribute [go_sem] cv53
def escB (c : UInt8) : List UInt8 :=
 if c.toNat = 34 ∨ c.toNat = 92 then [92, c] else if c.toNat = 10 then [92, 110] else if c.toNat < 32 ∨ 126 < c.toNat then [92, 120, hexL.getD (c.toNat / 16) 0, hexL.getD (c.toNat % 16) 0] else [c]
def escapedL (s : List UInt8) : List UInt8 := 34 :: (s.map escB).flatten ++ [34]
def fmtL (t : Tk) : Option (List UInt8) :=
 if t.k = 1 then (if t.n = 0 ∧ isName t.s = true ∧ keywordsL.contains t.s = false then some (Lib.replaceAll t.s [47] [58, 58]) else none)
 else if t.k = 2 then (if t.n = 0 ∧ keywordsL.contains t.s = true then some t.s else none)
 else if t.k = 3 then (if (t.s = [] ∧ 0 ≤ t.n) ∧ t.n < 2147483648 then some (Lib.itoa t.n) else none)
 else if t.k = 4 then (if t.s = [] ∧ 0 ≤ t.n then some (Lib.itoa t.n ++ [76]) else none)
 else if t.k = 5 then (if t.n = 0 ∧ t.s.length ≤ 1024 then some (escapedL t.s) else none)
 else if t.k = 6 then (if t.n = 0 ∧ signsL.contains t.s = true then some t.s else none)
 else none
def TkOk (t : Tk) : Prop := t.s.length ≤ 2000000 ∧ I64 t.n
theorem tk_len (ts : List Tk) : (tkCells ts).length = ts.length * 4 := by
 induction ts with
 | nil => rfl
 | cons t r ih => simp only [tkCells, List.map_cons, List.flatten_cons, Lla, Llc, Lln] at ih ⊢; omega
theorem Rds_cells {m : Mem} {a : Option Addr} {n sz : Nat} {xs : List Value} (h : Rds m a n sz xs) {i : Nat} (hi : i < n) : Rd m (ptrAt a (i * sz)) ((xs.drop (i * sz)).take sz) ∧ a ≠ none := by
 have hl := h.1
 have hm : (i + 1) * sz ≤ n * sz := Nat.mul_le_mul_right _ hi
 rw [Nat.succ_mul] at hm
 obtain ⟨ad, rfl, hs, hc⟩ := h.2 (by omega)
 refine ⟨?_, by simp⟩
 obtain ⟨e1, e2, e3⟩ := add_parts ad (i * sz) hs
 refine ⟨ad.add (i * sz), rfl, e3, fun j hj => ?_⟩
 rw [List.length_take, List.length_drop] at hj
 obtain ⟨h1, h2⟩ := hc (i * sz + j) (by omega)
 obtain ⟨f1, f2, f3⟩ := add_parts (ad.add (i * sz)) j e3
 obtain ⟨g1, g2, g3⟩ := add_parts ad (i * sz + j) hs
 have hee : (ad.add (i * sz)).add j = ad.add (i * sz + j) := by
  cases hA : (ad.add (i * sz)).add j
  cases hB : ad.add (i * sz + j)
  rw [hA] at f1 f2 f3
  rw [hB] at g1 g2 g3
  simp only at f1 f2 f3 g1 g2 g3
  rw [f1, f2, f3, g1, g2, g3, e1, e2, Nat.add_assoc]
 refine ⟨?_, by rw [e1, e2, Nat.add_assoc]; exact h2⟩
 rw [hee, h1, List.getElem?_take_of_lt (by omega), List.getElem?_drop]
def tkC (t : Tk) : List Value := [Value.int .i64 t.k, .string (bs t.s), .int .i64 t.n, .int .i64 t.at_]
end Go.Proofs.YtimddhkipjedcaaGreatDoor.E
namespace Go.Proofs.YtimddhkipjedcaaGreatDoor.E
open Go Go.ChangeShapes Go.WideShapes Go.ChangeAt Go.RowKit
def DoW (W : World) (b : Nat) : Nat := match W.heap[b]? with | some (.cells c _ _) => c.size + 1 | _ => 0
theorem DoW_wf (W : World) : Wf W (DoW W) := fun b hb => by
 have : W.heap[b]? = none := Array.getElem?_eq_none hb
 simp [DoW, this]
theorem DoW_at {W : World} {b : Nat} {c : Array Value} {t : TypeId} {f : Nat × Nat} (h : W.heap[b]? = some (.cells c t f)) : DoW W b = c.size + 1 := by
 simp [DoW, h]
theorem DoW_same {W w : World} {D : Nat → Nat} {b : Nat} {c : Array Value} {t : TypeId} {f : Nat × Nat} (hle : Mem.le ⟨W, DoW W⟩ ⟨w, D⟩) (h : W.heap[b]? = some (.cells c t f)) : ∃ t' f', w.heap[b]? = some (.cells c t' f') := by
 obtain ⟨_, hk⟩ := hle b
 have hd : DoW W b = c.size + 1 := DoW_at h
 obtain ⟨_, hk⟩ := hk (by show 0 < DoW W b; omega)
 obtain ⟨c', t', f', ho, hj⟩ := keep_cell hk h
 simp only [hd] at ho hj
 have e : c' = c := by
  apply Array.ext_getElem?
  intro i
  rcases Nat.lt_or_ge i (c.size + 1) with hi | hi
  ·exact hj i hi
  ·have h1 := hj c.size (by omega)
   rw [Array.getElem?_eq_none (Nnr c.size)] at h1
   have h2 : c'.size ≤ c.size := by
    rcases Nat.lt_or_ge c.size c'.size with h | h
    ·rw [Array.getElem?_eq_getElem h] at h1; cases h1
    ·exact h
   rw [Array.getElem?_eq_none (by omega), Array.getElem?_eq_none (by omega)]
 subst e
 exact ⟨t', f', ho⟩
theorem DoW_cell {W w : World} {D : Nat → Nat} {g i : Nat} {v : Value} (hle : Mem.le ⟨W, DoW W⟩ ⟨w, D⟩) (h : W.cell? ⟨g, i, none⟩ = some v) : w.cell? ⟨g, i, none⟩ = some v := by
 unfold World.cell? at h ⊢
 split at h
 ·rename_i c t f hc
  obtain ⟨t', f', ho⟩ := DoW_same hle hc
  dsimp only at ho
  rw [ho]
  simpa using h
 ·cases h
theorem DoW_var {W w : World} {D : Nat → Nat} {P : Program} {n : String} {c : Array Value} (hle : Mem.le ⟨W, DoW W⟩ ⟨w, D⟩) (h : W.var? P n = some c) : w.var? P n = some c := by
 unfold World.var? at h ⊢
 obtain ⟨g, hg, h⟩ := Option.bind_eq_some_iff.1 h
 rw [hg]
 split at h
 ·rename_i c' t f hc
  obtain ⟨t', f', ho⟩ := DoW_same hle hc
  cases h
  simp [ho]
 ·cases h
theorem cell_spot {W : World} {a : Addr} {v : Value} (h : W.cell? a = some v) : a.spot = none ∧ a.off < DoW W a.block := by
 unfold World.cell? at h
 split at h
 ·rename_i c t f hc
  cases hs : a.spot with
  | some x => rw [hs] at h; simp at h
  | none =>
   rw [hs] at h
   simp only [Option.isSome_none, Bool.false_eq_true, if_false] at h
   refine ⟨rfl, ?_⟩
   rw [DoW_at hc]
   have := (Array.getElem?_eq_some_iff.1 h).1
   omega
 ·cases h
theorem calls_sv {P : Program} {f : FuncId} {args : List SV} {vals : List Value} {W : World} {x : Value} (hden : ∀ V, args.map (den V) = vals) (h : FnH P f args ⟨[], []⟩ ⟨W, DoW W⟩ fun r H' m' => leM ⟨W, DoW W⟩ m' ∧ H' = ⟨[], []⟩ ∧ r = .v x) :
  Calls P f ⟨vals⟩ W fun e W' => e = .returned x ∧ Below W.heap.size W W' := by
 have := h ⟨fun _ => 0, fun _ _ => ⟨none, 0, 0⟩⟩ W (DoW W) (DoW_wf W) (Mem.le_refl ⟨W, DoW W⟩ (DoW_wf W)) ⟨fun b hb => (by cases hb), fun b hb => (by cases hb), by simp [blks], by simp⟩
 rw [hden] at this
 refine this.mono ?_
 rintro e w' ⟨r, V', D', H', m', rfl, _, _, _, _, hf, _, _, _, _, _, rfl, rfl⟩
 exact ⟨rfl, hf.os, hf.tape, hf.output, hf.size, fun b hb => (hf.same b hb (by simp [blks])).1⟩
theorem own : ownKnob Tryz.prog.godebug = none := by kernel_rfl
def laidZ : List (String × DataW Unit) := Rows.parseProgramRow.laid
theorem g1 (W : World) (h : W.ShapedOpen Tryz.prog) : ∃ k, W.cell? ⟨1, 0, none⟩ = some (.int .i64 k) :=
 cell_of_shapedOpen_int (P := Tryz.prog) (g := 1) (t := 3) (zero := #[.int .i64 0]) h (of_decide_eq_true (by kernel_rfl)) (by kernel_rfl) rfl (by kernel_rfl) (by kernel_rfl) (by kernel_rfl)
theorem ops_of {W : World} {rest : List (String × DataW Unit)} (h : laidMet Tryz.prog (("armature/ast.operators", Rows.laid_armature_ast_operators) :: rest) W) :
  ∃ ad c, Rd ⟨W, DoW W⟩ (.pointer (some ⟨0, 0, none⟩)) [.slice (some ad) 19 c] ∧ 19 ≤ c ∧ Rds ⟨W, DoW W⟩ (some ad) 19 1 (strs opsL) := by
 obtain ⟨ps, ⟨g', t', cs, fuel, p, q, hg', ht', hvar, hd, _, _⟩, _⟩ := h
 obtain rfl := Option.some.inj ((show Tryz.prog.globalNamed "armature/ast.operators" = some 0 by kernel_rfl).symm.trans hg')
 obtain rfl := Option.some.inj ((show (Tryz.prog.globals[0]?).map (·.type) = some 55 by kernel_rfl).symm.trans ht')
 have hl : (Rows.laid_armature_ast_operators : DataW Unit) = .slice (opsL.map fun l => .lit (.string l)) [] := rfl
 rw [hl] at hd
 obtain ⟨a, cap, hcs, hcap, hel⟩ := open_row (P := Tryz.prog) (e := 9) (by kernel_rfl) (by kernel_rfl) hd
 have hlen : (opsL.map fun l => (DataW.lit (.string l) : DataW Unit)).length = 19 := rfl
 rw [hlen] at hcs hcap
 have hcell : W.cell? ⟨0, 0, none⟩ = some (.slice (some a) 19 cap) := by
  have := World.var?_cell hg' hvar 0
  rw [Array.eq_one_of_toList hcs] at this
  simpa using this
 have hat : ∀ i (hi : i < 19), W.cell? (a.add i) = some (.string (bs (opsL[i]'hi))) := fun i hi => by
  obtain ⟨v, n, q', hc, hr⟩ := hel i (.lit (.string (opsL[i]'hi))) (by rw [List.getElem?_map, List.getElem?_eq_getElem (by exact hi)]; rfl)
  obtain ⟨s, e1, e2, _⟩ := DataW.trod_string (show Tryz.prog.underlying 9 = some .string by kernel_rfl) hr
  have e3 : v = .string s := by simpa using e1
  have e4 : s.data.toList = opsL[i]'hi := by simpa using (congrArg Prod.fst e2).symm
  rw [hc, e3, ← e4]
  rfl
 have hspot : a.spot = none := by
  have := (cell_spot (hat 0 (by decide))).1
  simpa [Addr.add] using this
 refine ⟨a, cap, ⟨⟨0, 0, none⟩, rfl, rfl, fun j hj => ?_⟩, hcap, rfl, fun _ => ⟨a, rfl, hspot, fun j hj => ?_⟩⟩
 ·have : j = 0 := by simpa using hj
  subst this
  exact ⟨hcell, (cell_spot hcell).2⟩
 ·have hj : j < 19 := by omega
  have h1 := hat j hj
  obtain ⟨p1, p2, _⟩ := add_parts a j hspot
  have h2 := (cell_spot h1).2
  rw [p1, p2] at h2
  refine ⟨?_, h2⟩
  rw [strs, List.getElem?_map, List.getElem?_eq_getElem (by exact hj)]
  exact h1
theorem glob_of {W : World} (hL : laidMetH Tryz.prog laidZ W) (hs : W.ShapedOpen Tryz.prog) : Glob ⟨W, DoW W⟩ := by
 rw [MakeChecks.laidMetH_plain _ _ _ (by kernel_rfl)] at hL
 have h3 := hL.tail.tail
 have ht := Lib.tabIs_of_head (P := Tryz.prog) (zs := Lib.pow10Tab) (g := 6) (t := 250) (e := 217) (n := 20) (by kernel_rfl) (by kernel_rfl) (by kernel_rfl) (by kernel_rfl) (by kernel_rfl) (by kernel_rfl) h3
 obtain ⟨k, hk⟩ := g1 W hs
 exact ⟨fun w D hle => ⟨⟨k, DoW_cell hle hk⟩, DoW_var hle ht⟩, ops_of h3.tail.tail.tail.tail⟩
end Go.Proofs.YtimddhkipjedcaaGreatDoor.E
namespace Go.Proofs.YtimddhkipjedcaaGreatDoor.E
open Go Go.RowKit
def hasPre (a b : List UInt8) : Bool := decide ((b.length : Int) ≤ a.length) && decide (a.take b.length = b)
theorem has_spec (l : List (List UInt8)) (s : List UInt8) (a : Option Addr) (n c : Nat) (m : Mem) (h : Rds m a n 1 (strs l)) (hn : n ≤ 4611686018427387904) :
  FnH Tryz.prog 178 [.v (.slice a n c), .v (.string (bs s))] ⟨[], []⟩ m fun r H' _ => r = .v (.bool (l.contains s)) ∧ H' = ⟨[], []⟩ := by
 have hl : l.length = n := by have := h.1; simpa [strs] using this
 refine enter cf0 pu0 Tryz.func178 rfl rfl (by kernel_rfl) rfl ?_ ?_
 ·simp only [go_sem, ↓tfi, ↓fti, ↓reduceIte]
 ·simp only [go_sem, ↓tfi, ↓fti, ↓reduceIte]
  refine WP_loop pu0 (fun k : Nat => ⟨[⟨0, [], .v (.slice a n c)⟩, ⟨1, [], .v (.string (bs s))⟩, ⟨5, [], .v (.int .i64 k)⟩], [], [], [], 0, m⟩)
   (fun k => k ≤ n ∧ (l.take k).contains s = false) (fun k => n - k) 0 (by kernel_rfl) (fun _ _ => Nnr _) (fun _ _ => .inl rfl) (fun _ => ?_) ?_ ?_ ?_
  ·simp only [go_sem, ↓tfi, ↓fti, ↓reduceIte]
  ·simp only [go_sem, ↓tfi, ↓fti, ↓reduceIte]
   rfl
  ·simp
  ·rintro k ⟨hk, hp⟩
   simp only [go_sem, ↓tfi, ↓fti, ↓reduceIte]
   refine ⟨fun hlt => ?_, fun hge => ?_⟩
   ·have hkn : k < n := by omega
    obtain ⟨hx, hr, hne⟩ := Rds_one h hkn
    refine ⟨⟨by omega, hlt, hne⟩, _, by simpa using hr, ?_⟩
    have hkl : k < l.length := by omega
    have e : (strs l)[k] = .string (bs l[k]) := by simp [strs]
    have ec := take_has (s := s) hkl
    simp only [e]
    simp only [go_sem, ↓tfi, ↓fti, ↓reduceIte]
    refine ⟨fun he => ?_, fun he => ⟨by unfold I64; omega, k + 1, by omega, ⟨by omega, ?_⟩, by omega⟩⟩
    ·have : s ∈ l := by rw [← he]; exact List.getElem_mem hkl
     simp [this]
    ·rw [ec, hp]; simp; exact fun h => he h.symm
   ·have : l.take k = l := List.take_of_length_le (by omega)
    rw [← hp, this]
theorem rkeywords_spec (m : Mem) : FnH Tryz.prog 179 [] ⟨[], []⟩ m fun r H' m' => r = .vec 0 0 ∧ H' = ⟨[], [⟨0, 0, 9, 1, 28, strs keywordsL⟩]⟩ ∧ m' = m := by
 refine enter cfN puN Tryz.func179 rfl rfl (by kernel_rfl) rfl ?_ ?_
 ·simp only [go_sem, ↓tfi, ↓fti, ↓reduceIte]
 ·simp only [go_sem, ↓tfi, ↓fti, ↓reduceIte]
  rfl
theorem rsigns_spec (m : Mem) : FnH Tryz.prog 181 [] ⟨[], []⟩ m fun r H' m' => r = .vec 0 0 ∧ H' = ⟨[], [⟨0, 0, 9, 1, 30, strs signsL⟩]⟩ ∧ m' = m := by
 refine enter cfN puN Tryz.func181 rfl rfl (by kernel_rfl) rfl ?_ ?_
 ·simp only [go_sem, ↓tfi, ↓fti, ↓reduceIte]
 ·simp only [go_sem, ↓tfi, ↓fti, ↓reduceIte]
  rfl
theorem hasPre_nil (l : List UInt8) : hasPre l [] = true := by simp [hasPre]
theorem hasPre_nil' (x : UInt8) (o : List UInt8) : hasPre [] (x :: o) = false := by simp [hasPre]
theorem hasPre_cons (y x : UInt8) (l o : List UInt8) : hasPre (y :: l) (x :: o) = (decide (y = x) && hasPre l o) := by
 unfold hasPre
 simp only [Llc, List.take_succ_cons, List.cons.injEq]
 have e : decide (((o.length + 1 : Nat) : Int) ≤ ((l.length + 1 : Nat) : Int)) = decide ((o.length : Int) ≤ l.length) := by rw [decide_eq_decide]; omega
 rw [e, Bool.decide_and]
 cases decide (y = x) <;> simp
theorem colons (l : List UInt8) (h : hasPre l [58, 58] = true) : ∃ r, l = 58 :: 58 :: r := by
 cases l with
 | nil => rw [hasPre_nil'] at h; cases h
 | cons a l =>
  rw [hasPre_cons] at h
  cases l with
  | nil => rw [hasPre_nil'] at h; simp at h
  | cons b l =>
   rw [hasPre_cons, hasPre_nil] at h
   simp only [Bool.and_true, Bbt, decide_eq_true_eq] at h
   exact ⟨l, by rw [h.1, h.2]⟩
def spell : List UInt8 → List UInt8
 | [] => []
 | c :: r => if c.toNat = 47 then 58 :: 58 :: spell r else c :: spell r
end Go.Proofs.YtimddhkipjedcaaGreatDoor.E

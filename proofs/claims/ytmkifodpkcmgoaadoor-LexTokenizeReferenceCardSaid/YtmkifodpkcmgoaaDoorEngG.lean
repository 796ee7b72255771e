/- The engine, part G: every quiet operation, together. -/
import Derived.Test.YtmkifodpkcmgoaaDoorEngF
import Derived.Laws.Slices
import Derived.Laws.DeepStrings4
import Derived.Laws.IdiomStrings
namespace Go.Proofs.YtmkifodpkcmgoaaDoor.E
open Go

theorem lkGs_mem {rho : List Gd} {t : Nat} {g : Gd} (h : lkGs rho t = some g) : g.slot = t ∧ g ∈ rho := by
  induction rho with
  | nil => cases h
  | cons x r ih =>
    obtain ⟨i', t', p', b'⟩ := x
    simp only [lkGs] at h
    split at h
    · rename_i e; cases h; exact ⟨e, List.mem_cons_self ..⟩
    · exact ⟨(ih h).1, List.mem_cons_of_mem _ (ih h).2⟩
theorem bnd {α β : Type} {o : Option α} {f : α → Option β} {y : β} (h : o.bind f = some y) : ∃ x, o = some x ∧ f x = some y := Option.bind_eq_some_iff.1 h

/-- What is asked of an operation's run. -/
def Run (P : Program) (c : Bool) (x : Sem Next) (w : World) (v : Value) : Prop := c = true → x.run P w = .ok (.value v) w
theorem Yl.run {P : Program} {c : Bool} {x : Sem Value} {w : World} {v : Value} (h : Yl c P x w v) : Run P c (do pure (.value (← x))) w v := fun hc => exec_v (h hc)

section
variable {C : Ctx} {n : Nat} {st : LS} {a : Act} {V : Vl} {D : Nat → Nat} {w : World} {P : Program} {p : Pth} {K : SV → Prop} {c : Bool}

theorem qNil_sound {s : SV} (h : qNil (.mk (k := (U c, K)) s)) : ∃ r, K r ∧ den V r = den V s ∧ (c = true → nnil (den V s) = true) := by
  unfold qNil at h
  split at h
  · rename_i x e; cases e; exact ⟨_, h.2, rfl, fun hc => h.1 hc⟩
  · rename_i k o e; cases e; exact ⟨_, h, rfl, fun _ => rfl⟩
  · cases h
theorem exec_nil {o : Oper} {x : Operand} (ho : o.op = .nilCheck x) (h : nnil (a.eval x) = true) : (execOp a.eval o).run P w = .ok (.value (a.eval x)) w := by
  unfold execOp
  simp only [ho]
  revert h
  generalize a.eval x = v
  intro h
  cases v with
  | pointer q => cases q with
    | none => cases h
    | some q => rfl
  | nilIface => cases h
  | nilFunc => cases h
  | func f b d => cases f <;> first | rfl | cases h
  | _ => rfl
theorem qUn_sound {op : UnOp} {s : SV} (h : qUn (.mk (k := (op, U c, K)) s)) : ∃ r, K r ∧ Yl c P (Op.unary op (den V s)) w (den V r) := by
  unfold qUn at h
  split at h
  · rename_i b e; cases e; exact ⟨_, h, fun _ => rfl⟩
  · rename_i k m e; cases e
    obtain ⟨r, h1, h2⟩ := arith_sound (V := V) h
    exact ⟨r, h1, fun hc => by rw [h2 hc]; rfl⟩
  · cases h
theorem u8s_get {l : List UInt8} {j : Nat} {u : Value} (h : (u8s l)[j]? = some u) : ∃ b : UInt8, l[j]? = some b ∧ u = .int .u8 b.toNat := by
  simp only [u8s, List.getElem?_map, Option.map_eq_some_iff] at h
  obtain ⟨b, hb, rfl⟩ := h
  exact ⟨b, hb, rfl⟩

theorem cvK_int {P : Program} {src dst : TypeId} {k : IntKind} {m : Int} {k' : IntKind} (h : cvK P src dst = .int k) : (convert src dst (.int k' m)).run P w = .ok (.int k (k.wrap m)) w := by
  unfold cvK at h
  split at h
  · rename_i k1 k2 h1 h2; cases h; simp [convert, run_underlying h1, run_underlying h2, Conv.intToInt]
  · cases h
  · split at h <;> cases h
  · cases h
theorem cvK_same {P : Program} {src dst : TypeId} {s : ByteArray} (h : cvK P src dst = .same) : (convert src dst (.string s)).run P w = .ok (.string s) w := by
  unfold cvK at h
  split at h
  · cases h
  · rename_i h1 h2; simp [convert, run_underlying h1, run_underlying h2]
  · split at h <;> cases h
  · cases h
theorem cvK_b2s {P : Program} {src dst : TypeId} (h : cvK P src dst = .b2s) : ∃ e, P.underlying src = some (.slice e) ∧ P.underlying e = some (.int .u8) ∧ P.underlying dst = some .string := by
  unfold cvK at h
  split at h
  · cases h
  · cases h
  · rename_i e h1 h2
    split at h
    · rename_i h3; exact ⟨e, h1, h3, h2⟩
    · cases h
  · cases h
theorem run_b2s {P : Program} {src dst : TypeId} {l : List UInt8} {x : Option Addr} {n cp : Nat} (h : cvK P src dst = .b2s) (hn : l.length = n) (hx : 0 < n → ∃ ad, x = some ad ∧ ∀ j u, (u8s l)[j]? = some u → w.cell? (ad.add j) = some u) :
    (convert src dst (.slice x n cp)).run P w = .ok (.string (bs l)) w := by
  obtain ⟨e, h1, h2, h3⟩ := cvK_b2s h
  rcases Nat.eq_zero_or_pos n with h0 | h0
  · subst h0
    have : l = [] := List.eq_nil_of_length_eq_zero hn
    subst this
    cases x with
    | none => rw [run_convert_bytes_string w src dst e none _ cp h1 h2 h3]; simp [Conv.bytesToString]; rfl
    | some ad => exact run_convert_bytes_back w src dst e ad cp [] h1 h2 h3 (fun j hj => absurd hj (by simp))
  · obtain ⟨ad, rfl, hc⟩ := hx h0
    subst hn
    exact run_convert_bytes_back w src dst e ad cp l h1 h2 h3 (fun j hj => hc j _ (by simp [u8s, List.getElem?_eq_getElem hj]))

theorem own_at {e : TypeId} {sz : Nat} {h : Hd} {m : Nat} {xs : List Value} (ho : w.ownsRow 0 e sz h.val m xs) : h.n = m ∧ xs.length = m * sz ∧ (0 < m → ∃ g, h.a = some ⟨g, 0, none⟩ ∧ ∀ j u, xs[j]? = some u → w.cell? ⟨g, j, none⟩ = some u) := by
  obtain ⟨hl, hv⟩ := ho
  rcases hv with ⟨hv, rfl⟩ | ⟨g, cap, cur, hv, _, hh, hnc, _, hsz, htk⟩
  · simp only [Hd.val, Value.slice.injEq] at hv
    exact ⟨hv.2.1, hl, fun h0 => absurd h0 (by omega)⟩
  · simp only [Hd.val, Value.slice.injEq] at hv
    refine ⟨hv.2.1, hl, fun _ => ⟨g, hv.1, fun j u hu => ?_⟩⟩
    have hj : j < m * sz := by have := (List.getElem?_eq_some_iff.1 hu).1; omega
    rw [← htk, List.getElem?_take, if_pos hj] at hu
    simp only [World.cell?, hh, Option.isSome_none, Bool.false_eq_true, if_false]
    rw [← hu, Array.getElem?_toList]
theorem add_zero_off (g j : Nat) : (Addr.add ⟨g, 0, none⟩ j) = ⟨g, j, none⟩ := by
  unfold Addr.add; split
  · rename_i h; subst h; rfl
  · simp
theorem vc_of (hS : Sat C n st a V D w) {k u : Nat} {b : Vc} (h : lkV st.vc k u = some b) : HVc V D w b ∧ b.id = k ∧ b.ver = u :=
  ⟨hS.heap.vc b (lkV_mem h).2.2, (lkV_mem h).1, (lkV_mem h).2.1⟩

theorem qConv_sound (hS : Sat C n st a V D w) {src dst : TypeId} {s : SV} (h : qConv (.mk (k := (U c, K)) (st, cvK P src dst, s))) :
    ∃ r, K r ∧ Yl c P (convert src dst (den V s)) w (den V r) := by
  unfold qConv at h
  split at h
  · rename_i k k' m e
    simp only [A.mk.injEq, Prod.mk.injEq] at e
    obtain ⟨rfl, e2, rfl⟩ := e
    exact ⟨_, h, fun _ => cvK_int e2⟩
  · rename_i s' e
    simp only [A.mk.injEq, Prod.mk.injEq] at e
    obtain ⟨rfl, e2, rfl⟩ := e
    exact ⟨_, h, fun _ => cvK_same e2⟩
  · rename_i st' k v e
    simp only [A.mk.injEq, Prod.mk.injEq] at e
    obtain ⟨rfl, e2, rfl⟩ := e
    obtain ⟨b, hb, l, h1, h2⟩ := withO_some h
    refine ⟨_, h2, fun hc => ?_⟩
    obtain ⟨e1, e3⟩ := h1 hc
    obtain ⟨hv, rfl, rfl⟩ := vc_of hS hb
    obtain ⟨hn, hl, hx⟩ := own_at hv.1
    have hbn : l.length = b.n := by rw [e1, Nat.mul_one, e3] at hl; simpa [u8s] using hl
    refine run_b2s e2 (by rw [hbn, hn]) (fun h0 => ?_)
    obtain ⟨g, hg, hcell⟩ := hx (by omega)
    refine ⟨_, hg, fun j y hy => ?_⟩
    rw [add_zero_off]
    exact hcell j y (by rw [e3]; exact hy)
  · rename_i st' x m cp e
    simp only [A.mk.injEq, Prod.mk.injEq] at e
    obtain ⟨rfl, e2, rfl⟩ := e
    obtain ⟨l, h1, h2⟩ := h
    refine ⟨_, h2, fun hc => ?_⟩
    have hr := h1 hc
    refine run_b2s e2 (by have := hr.1; simpa [u8s] using this) (fun h0 => Rds_at hS.mle hr h0)
  · cases h

theorem fld_spec {P : Program} {s : TypeId} {f off sz : Nat} {ag : Option Nat} (h : fldO P s f = some (off, ag, sz)) : ∃ fs x, P.underlying s = some (.struct fs) ∧ fs[f]? = some x ∧ x.offset = off ∧ aggN P x.type = some ag ∧ 0 < szT P x.type ∧ szT P x.type = sz := by
  unfold fldO at h
  split at h
  · rename_i fs hs
    obtain ⟨x, hx, h⟩ := bnd h
    split at h
    · rename_i h0
      simp only [Option.map_eq_some_iff, Prod.mk.injEq] at h
      obtain ⟨g, hg, rfl, rfl, rfl⟩ := h
      exact ⟨fs, x, hs, hx, rfl, hg, h0, rfl⟩
    · cases h
  · cases h
theorem run_fieldAt {P : Program} {s : TypeId} {f off sz : Nat} {ag : Option Nat} {ad : Addr} (h : fldO P s f = some (off, ag, sz)) : (Instr.fieldAt s (.pointer (some ad)) f).run P w = .ok (.pointer (some (ad.add off))) w := by
  obtain ⟨fs, x, hs, hx, rfl, _, h0, _⟩ := fld_spec h
  have : szT P x.type ≠ 0 := by omega
  simp [Instr.fieldAt, run_underlying hs, hx, Instr.sureAddr, fieldPlace, run_szT h0, this]
theorem add_off (b o f : Nat) : (Addr.add ⟨b, o, none⟩ f) = ⟨b, o + f, none⟩ := by
  unfold Addr.add; split
  · rename_i h; subst h; rfl
  · rfl
theorem map_add_add (x : Option Addr) (o f : Nat) (hx : ∀ ad, x = some ad → ad.spot = none) : (x.map (·.add o)).map (·.add f) = x.map (·.add (o + f)) := by
  cases x with
  | none => rfl
  | some ad =>
    obtain ⟨b, q, sp⟩ := ad
    have := hx _ rfl
    dsimp only at this
    subst this
    simp only [Option.map_some, add_off, Nat.add_assoc]
theorem qFld_sound (hS : Sat C n st a V D w) {s : TypeId} {x : SV} {f off sz : Nat} {ag : Option Nat} (hf : fldO P s f = some (off, ag, sz))
    (h : qFld (.mk (k := (U c, K)) (st, x, off))) : ∃ r, K r ∧ Yl c P (Instr.fieldAt s (den V x) f) w (den V r) := by
  unfold qFld at h
  split at h
  · rename_i st' k o f' e
    simp only [A.mk.injEq, Prod.mk.injEq] at e
    obtain ⟨rfl, rfl, rfl⟩ := e
    exact ⟨_, h, fun _ => by rw [den_box, run_fieldAt hf, add_off]; rfl⟩
  · rename_i st' k v o f' e
    simp only [A.mk.injEq, Prod.mk.injEq] at e
    obtain ⟨rfl, rfl, rfl⟩ := e
    obtain ⟨b, hb, h1, h2⟩ := withO_some h
    refine ⟨_, h2, fun hc => ?_⟩
    obtain ⟨hv, rfl, rfl⟩ := vc_of hS hb
    obtain ⟨_, hl, hx⟩ := own_at hv.1
    have ho := h1 hc
    have hn : 0 < b.n := by
      rcases Nat.eq_zero_or_pos b.n with h0 | h0
      · rw [h0, Nat.zero_mul] at hl; omega
      · exact h0
    obtain ⟨g, hg, _⟩ := hx hn
    show (Instr.fieldAt s (.pointer ((V.γ b.id b.ver).a.map (·.add o))) f).run P w = .ok (.pointer ((V.γ b.id b.ver).a.map (·.add (o + off)))) w
    rw [hg]
    simp only [Option.map_some, add_off, run_fieldAt hf, Nat.zero_add]
  · rename_i st' y f' e
    simp only [A.mk.injEq, Prod.mk.injEq] at e
    obtain ⟨rfl, rfl, rfl⟩ := e
    refine ⟨_, h.2, fun hc => ?_⟩
    obtain ⟨ad, rfl⟩ := h.1 hc
    exact run_fieldAt hf
  · cases h
theorem run_part {P : Program} {t : TypeId} {ag : Option Nat} {cs : List Value} {off : Nat} {v : Value} (h : aggN P t = some ag)
    (hv : match ag with | none => cs[off]? = some v | some k => v = .agg ⟨(cs.drop off).take k⟩ ∧ off + k ≤ cs.length) : (part t ⟨cs⟩ off).run P w = .ok v w := by
  cases ag with
  | none =>
    simp only [part, Sem.run_bind, run_agg_none h, Result.andThen_ok, Bool.false_eq_true, if_false]
    dsimp only at hv
    have : (⟨cs⟩ : Array Value)[off]? = some v := by rw [← hv, ← Array.getElem?_toList]
    rw [this]
    rfl
  | some k =>
    obtain ⟨rfl, hl⟩ := hv
    simp only [part, Sem.run_bind, (run_agg_some h).1, (run_agg_some h).2, Result.andThen_ok, if_true, Sem.run_pure]
    have : (Array.mk cs).extract off (off + k) = ⟨(cs.drop off).take k⟩ := by
      apply Array.ext'
      simp [List.extract, Nat.add_sub_cancel_left]
    rw [this]
theorem qField_sound {s : TypeId} {x : SV} {f off sz : Nat} {ag : Option Nat} {cs : List SV} {r : SV} (hf : fldO P s f = some (off, ag, sz)) (hx : aggCells x = some cs) (h : takeC cs off ag = some r) :
    (Instr.field s (den V x) f).run P w = .ok (den V r) w := by
  obtain ⟨fs, y, hs, hy, rfl, hg, _, _⟩ := fld_spec hf
  have hd : den V x = .agg ⟨cs.map (denA V)⟩ := aggCells_den hx
  simp only [Instr.field, Sem.run_bind, run_underlying hs, Result.andThen_ok, hy, hd, asAgg, Sem.run_pure]
  refine run_part hg ?_
  have ht := takeC_den (V := V) h
  cases ag with
  | none =>
    exact ht
  | some k => exact ⟨ht.1, by rw [List.length_map]; exact ht.2⟩
end
end Go.Proofs.YtmkifodpkcmgoaaDoor.E

/- 'LexIgnoresComments' holds for every input: the tied card of this statement is proved. Conditions: none beyond the row's own (the listed library variables hold what their text lays). -/
import Derived.Test.YtmkifodpkcmgoaaDoorMrgG
import Derived.Test.YtmkifodpkcmgoaaDoorRows
import Derived.Test.YtmkifodpkcmgoaaDoorCards
import Derived.Test.YtmkifodpkcmgoaaDoorTie
import Derived.ProofKit
import Derived.OpenShut
import Derived.LaidMore
import Derived.Lay
import Derived.SevenTiedAt
import Derived.Stop.Joined
import Derived.Stop.LaidErr
import Derived.Lib.LaidTab
import Derived.Shelf.Vars
import Derived.Test.YtmkifodpkcmgoaaDoorMrgH
/- lex: what the rows of this seat share: what the library's variables hold, a world to begin with, the wrap. -/
set_option linter.unusedSimpArgs false
set_option linter.unusedVariables false
namespace Go.Proofs.YtmkifodpkcmgoaaDoor.E
open Go Go.ChangeShapes Go.WideShapes Go.ChangeAt Go.RowKit

/-- The cells that are known when a call begins: all of them. -/
def DoW (W : World) (b : Nat) : Nat := match W.heap[b]? with | some (.cells c _ _) => c.size + 1 | _ => 0
theorem DoW_wf (W : World) : Wf W (DoW W) := fun b hb => by
  have : W.heap[b]? = none := Array.getElem?_eq_none hb
  simp [DoW, this]
theorem DoW_at {W : World} {b : Nat} {c : Array Value} {t : TypeId} {f : Nat × Nat} (h : W.heap[b]? = some (.cells c t f)) : DoW W b = c.size + 1 := by
  simp [DoW, h]
theorem DoW_same {W w : World} {D : Nat → Nat} {b : Nat} {c : Array Value} {t : TypeId} {f : Nat × Nat} (hle : Mem.le ⟨W, DoW W⟩ ⟨w, D⟩) (h : W.heap[b]? = some (.cells c t f)) : ∃ t' f', w.heap[b]? = some (.cells c t' f') := by
  obtain ⟨_, hk⟩ := hle b
  have hd : DoW W b = c.size + 1 := DoW_at h
  obtain ⟨_, hk⟩ := hk (by show 0 < DoW W b; omega)
  obtain ⟨c', t', f', ho, hj⟩ := keep_cell hk h
  simp only [hd] at ho hj
  have e : c' = c := by
    apply Array.ext_getElem?
    intro i
    rcases Nat.lt_or_ge i (c.size + 1) with hi | hi
    · exact hj i hi
    · have h1 := hj c.size (by omega)
      rw [Array.getElem?_eq_none (Nat.le_refl c.size)] at h1
      have h2 : c'.size ≤ c.size := by
        rcases Nat.lt_or_ge c.size c'.size with h | h
        · rw [Array.getElem?_eq_getElem h] at h1; cases h1
        · exact h
      rw [Array.getElem?_eq_none (by omega), Array.getElem?_eq_none (by omega)]
  subst e
  exact ⟨t', f', ho⟩
theorem DoW_cell {W w : World} {D : Nat → Nat} {g i : Nat} {v : Value} (hle : Mem.le ⟨W, DoW W⟩ ⟨w, D⟩) (h : W.cell? ⟨g, i, none⟩ = some v) : w.cell? ⟨g, i, none⟩ = some v := by
  unfold World.cell? at h ⊢
  split at h
  · rename_i c t f hc
    obtain ⟨t', f', ho⟩ := DoW_same hle hc
    dsimp only at ho
    rw [ho]
    simpa using h
  · cases h
theorem DoW_var {W w : World} {D : Nat → Nat} {P : Program} {n : String} {c : Array Value} (hle : Mem.le ⟨W, DoW W⟩ ⟨w, D⟩) (h : W.var? P n = some c) : w.var? P n = some c := by
  unfold World.var? at h ⊢
  obtain ⟨g, hg, h⟩ := Option.bind_eq_some_iff.1 h
  rw [hg]
  split at h
  · rename_i c' t f hc
    obtain ⟨t', f', ho⟩ := DoW_same hle hc
    cases h
    simp [ho]
  · cases h

/-- A contract, called from outside. -/
theorem calls_lone {P : Program} {f : FuncId} {args : List Value} {W : World} {x : Value} (h : FnH P f (args.map SV.v) ⟨[], []⟩ ⟨W, DoW W⟩ fun r H' _ => r = .v x ∧ H' = ⟨[], []⟩) :
    Calls P f ⟨args⟩ W fun e W' => e = .returned x ∧ Below W.heap.size W W' := by
  have ha : (args.map SV.v).map (den ⟨fun _ => 0, fun _ _ => ⟨none, 0, 0⟩⟩) = args := by rw [List.map_map]; exact List.map_id'' (fun _ => rfl) args
  have := h ⟨fun _ => 0, fun _ _ => ⟨none, 0, 0⟩⟩ W (DoW W) (DoW_wf W) (Mem.le_refl ⟨W, DoW W⟩ (DoW_wf W)) ⟨fun b hb => (by cases hb), fun b hb => (by cases hb), by simp [blks], by simp⟩
  rw [ha] at this
  refine this.mono ?_
  rintro e w' ⟨r, V', D', H', m', rfl, _, _, _, _, hf, _, _, _, _, rfl, rfl⟩
  exact ⟨rfl, hf.os, hf.tape, hf.output, hf.size, fun b hb => (hf.same b hb (by simp [blks])).1⟩

/-- The wrap: the world's shape and what the row lists are kept for the contract. -/
theorem returns_of {H : Type} {enc : TypeId × Value → H} {a : Assume} {C : Checked} {os : Os} {f : FuncId} {fn : Func} {s : ChangeSpec} {conds : List PathCond} {apart fresh handsOn again : Bool} {X : World → Array Value → Prop}
    (hX : ∀ (w w' : World) (args : Array Value), w.heap = w'.heap → X w args → X w' args)
    (own : ownKnob C.prog.godebug = none) (started : os.Started) (noInit : C.prog.inits.idxOf? f = none) (hfn : C.prog.funcs[f]? = some fn)
    (witness : ∃ (w : World) (tape : Tape) (i : Input), w.os = os ∧ (w.forCall tape i).Shaped C.prog ∧ i.vars = [] ∧ Input.okWide C.prog (w.forCall tape i) .any w.heap.size f i ∧
      ((s.pre enc C.prog fn conds apart (w.forCall tape i).memory i.args ∧ X (w.forCall tape i).memory i.args) ∧ sizedMet enc C.prog fn (OpenSpec.ofChange s) apart (w.forCall tape i).memory i.args) ∧ a.holds C.prog (lone (Frame.enter C.prog f i.args .normal) [] (w.forCall tape i)))
    (contract : ∀ (W : World) (base : Nat) (args : Array Value) (ds gs : List (DataW H)) (before : List MemPlace),
      (∀ (j : Nat) t v, fn.params[j]? = some t → args[j]? = some v → Value.okWide C.prog W .any base t v) →
      DataW.Whole enc C.prog fn.params.toList s.vars apart W args.toList ds gs before → X W args → W.ShapedOpen C.prog →
      (DataW.weightsEach C.prog (fn.params.toList ++ s.plain.varTypes C.prog) (ds ++ gs)).all (· ≤ reachBytes) = true →
      Calls C.prog f args W fun e W' => ∃ v, e = .returned v ∧ s.post enc C.prog fn apart fresh handsOn again W args v W') :
    ReturnsInHanded a C os f .any (fun w args => (s.pre enc C.prog fn conds apart w args ∧ X w args) ∧ sizedMet enc C.prog fn (OpenSpec.ofChange s) apart w args) (s.post enc C.prog fn apart fresh handsOn again) := by
  refine returnsInHanded_of_calls own started noInit witness ?_
  intro w tape i _ hsh _ hok hpre hholds
  obtain ⟨_, _, _, fn', hfn', _, _, _, _, hval⟩ := hok
  have e : fn' = fn := Option.some.inj (hfn'.symm.trans hfn)
  subst e
  obtain ⟨⟨⟨ds, gs, before, hw, hc⟩, hx⟩, hz⟩ := hpre
  have hw' := DataW.Whole.of_heap (w' := w.forCall tape i) (by rfl) hw
  refine (contract (w.forCall tape i) w.heap.size i.args ds gs before hval hw' (hX _ _ _ (by rfl) hx) hsh (hz.weights hw)).mono fun e W' ⟨v, he, hp⟩ => ?_
  subst he
  exact ChangeSpec.post_blind hp

theorem own : ownKnob Tryd.prog.godebug = none := by kernel_rfl
/-- What every row of this seat lists. -/
def laidL : List (String × DataW Unit) := Rows.lexTokenizeReferenceRow.laid
theorem g0 (W : World) (h : W.ShapedOpen Tryd.prog) : ∃ k, W.cell? ⟨0, 0, none⟩ = some (.int .i64 k) :=
  cell_of_shapedOpen_int (P := Tryd.prog) (g := 0) (t := 3) (zero := #[.int .i64 0]) h (of_decide_eq_true (by kernel_rfl)) (by kernel_rfl) rfl (by kernel_rfl) (by kernel_rfl) (by kernel_rfl)
theorem starE : "*" ++ "errors.errorString" = "*errors.errorString" := by decide
theorem hrow (u : TypeId) (h : Tryd.prog.typeName? 3 u = some "*errors.errorString") : u = 116 :=
  typeName_ptr_named (nm := "errors.errorString") (by rw [starE]; kernel_rfl) (by kernel_rfl) (by decide) u (by rw [starE]; exact h)
theorem glob_of {W : World} (hL : laidMetH Tryd.prog laidL W) (hs : W.ShapedOpen Tryd.prog) : Glob ⟨W, DoW W⟩ := by
  rw [MakeChecks.laidMetH_plain _ _ _ (by kernel_rfl)] at hL
  have h3 := hL.tail.tail
  have ht := Lib.tabIs_of_head (P := Tryd.prog) (zs := Lib.pow10Tab) (g := 3) (t := 104) (e := 88) (n := 20) (by kernel_rfl) (by kernel_rfl) (by kernel_rfl) (by kernel_rfl) (by kernel_rfl) (by kernel_rfl) h3
  obtain ⟨a5, _, v5, _⟩ := laid_sentinel (P := Tryd.prog) (g := 5) (ti := 62) (tp := 116) (te := 118) (ts := 9) h3.tail.tail (by kernel_rfl) (by kernel_rfl) Tryd.underlying62 hrow Tryd.underlying116 Tryd.underlying118 rfl rfl (by kernel_rfl) (by kernel_rfl) (by kernel_rfl)
  obtain ⟨a4, _, v4, _⟩ := laid_sentinel (P := Tryd.prog) (g := 4) (ti := 62) (tp := 116) (te := 118) (ts := 9) h3.tail.tail.tail (by kernel_rfl) (by kernel_rfl) Tryd.underlying62 hrow Tryd.underlying116 Tryd.underlying118 rfl rfl (by kernel_rfl) (by kernel_rfl) (by kernel_rfl)
  obtain ⟨k, hk⟩ := g0 W hs
  intro w D hle
  exact ⟨⟨k, DoW_cell hle hk⟩, ⟨_, _, DoW_cell hle (by rw [World.var?_cell (by kernel_rfl) v4 0]; rfl)⟩, ⟨_, _, DoW_cell hle (by rw [World.var?_cell (by kernel_rfl) v5 0]; rfl)⟩, DoW_var hle ht⟩
end Go.Proofs.YtmkifodpkcmgoaaDoor.E

set_option linter.unusedSimpArgs false
set_option linter.unusedVariables false
namespace Go.Proofs.YtmkifodpkcmgoaaDoor.law6
open Go Go.ChangeShapes Go.WideShapes Go.ChangeAt Go.RowKit
open Go.ChangeMaps (open_string shut_string)
open Go.Proofs.YtmkifodpkcmgoaaDoor.E

set_option maxRecDepth 100000 in
theorem lifted (os : Os) (started : os.Started) (H : Type) (enc : TypeId × Value → H) :
    ReturnsInHanded {} Tryd.checked os 6 .any (fun w args => (Rows.lexIgnoresCommentsSpec.pre enc Tryd.prog Tryd.f6 Rows.lexIgnoresCommentsRow.domain false w args ∧ laidMetH Tryd.prog laidL w) ∧ sizedMet enc Tryd.prog Tryd.f6 (OpenSpec.ofChange Rows.lexIgnoresCommentsSpec) false w args)
      (Rows.lexIgnoresCommentsSpec.post enc Tryd.prog Tryd.f6 false true false false) := by
  refine returns_of (C := Tryd.checked) (X := fun w _ => laidMetH Tryd.prog laidL w) (fun _ _ _ hh h => h.of_heap hh) E.own started (by kernel_rfl) Tryd.func6
    (ChangeSpec.witness_shaped (enc := enc) (C := Tryd.checked) (os := os) (X := fun w _ => laidMetH Tryd.prog laidL w) false (World.laidAll Tryd.prog os laidL) #[.string .empty, .string .empty] 8 (World.laidAll_os _ _ _)
      (World.shaped_of_ZipB (by kernel_rfl) (by kernel_rfl)) (by kernel_rfl) (by kernel_rfl) (by kernel_rfl)
      (by rw [MakeChecks.laidMetH_plain _ _ _ (by kernel_rfl)]; exact laidMet_laidAll _ (by kernel_rfl) (by kernel_rfl))) ?_
  intro W base args ds gs before hval0 hW hL hsh hwt0
  have hval : ∀ (j : Nat) t v, Tryd.f6.params[j]? = some t → args[j]? = some v → Value.okWide Tryd.prog W .any base t v := hval0
  have hW' := hW
  obtain ⟨p, q, hA0, hV, rfl, _, _⟩ := hW
  have hA : DataW.TrodAll enc Tryd.prog W 0 (fun _ => true) true Tryd.f6.params.toList args.toList ds p := hA0
  rw [Tryd.params6] at hA hval
  obtain ⟨v0, v1, d0, d1, p0, p1, rfl, rfl, rfl, h0, h1⟩ := trodAll_two hA
  obtain ⟨rfl, rfl⟩ := trodVars_none hV
  obtain ⟨s, rfl, rfl, rfl, hmax⟩ := open_string Tryd.underlying9 (hval 0 9 v0 rfl rfl) h0
  obtain ⟨r, rfl, rfl, rfl, hmax'⟩ := open_string Tryd.underlying9 (hval 1 9 v1 rfl rfl) h1
  have hwt : (DataW.weightsEach Tryd.prog [9, 9] [DataW.lit (H := H) (.string s.data.toList), DataW.lit (H := H) (.string r.data.toList)]).all (· ≤ reachBytes) = true := hwt0
  have hlen : s.size ≤ 140737488351232 ∧ r.size ≤ 140737488351232 := by
    have e : (tl s).length = s.size := tl_size s
    have e' : (tl r).length = r.size := tl_size r
    simp only [DataW.weightsEach, DataW.weights, List.append_nil, List.cons_append, List.nil_append, List.all_cons, List.all_nil, Bool.and_true, Bool.and_eq_true, decide_eq_true_eq, reachBytes] at hwt
    unfold tl at e e'
    have h1 := of_decide_eq_true hwt.1
    have h2 := of_decide_eq_true hwt.2
    omega
  clear hA0 hval0 hwt0 hwt
  simp only [List.append_nil] at hW'
  have fin : Calls Tryd.prog 6 #[.string s, .string r] W fun e w' => e = .returned (.bool true) ∧ Below W.heap.size W w' := by
    refine calls_lone (args := [.string s, .string r]) ?_
    have := law6_spec (tl s) (tl r) ⟨W, DoW W⟩ (glob_of hL hsh) (by rw [tl_size]; exact hlen.1) (by rw [tl_size]; exact hlen.2)
    rw [bs_tl, bs_tl] at this
    exact this
  refine fin.mono fun e W' ⟨he, hw⟩ => ?_
  subst he
  exact ⟨_, rfl, _, _, _, [], [], [], hW', trodAll_mk1 (shut_bool Tryd.underlying4 _), trodAll_mk2 (shut_string Tryd.underlying9 hmax) (shut_string Tryd.underlying9 hmax'), rfl, hw.frame _, fun h => by cases h⟩

theorem holds : Rows.LexIgnoresCommentsSaid :=
  OpenClaim.holds_of_wide 6 Tryd.f6 rfl rfl rfl rfl rfl rfl rfl ⟨rfl, rfl, rfl, rfl, rfl⟩ rfl rfl rfl rfl rfl (by kernel_rfl) Tryd.func6 (by kernel_rfl)
    (of_decide_eq_true (by kernel_rfl)) (by unfold Func.isWrapper; first | (rw [if_pos (by decide +kernel)]; kernel_rfl) | (rw [if_neg (by decide +kernel)]; exact ⟨rfl, rfl⟩))
    (fun os started H enc _ => lifted os started H enc)

theorem plain (f : FuncId) (fn : Func) (hf : Tryd.pinned.checked.prog.funcNamed "armature/armaturelaw53.LexIgnoresComments" = some f) (hfn : Tryd.pinned.checked.prog.funcs[f]? = some fn) :
    true = Tryd.pinned.checked.prog.looks [] ∧ ∀ (j : Nat) t, fn.params[j]? = some t → Tryd.pinned.checked.prog.wantsStandIn t = false := by
  obtain rfl : f = 6 := Option.some.inj ((show Tryd.prog.funcNamed "armature/armaturelaw53.LexIgnoresComments" = some 6 by kernel_rfl).symm.trans hf) |>.symm
  obtain rfl : fn = Tryd.f6 := (Option.some.inj (Tryd.func6.symm.trans hfn)).symm
  refine ⟨by kernel_rfl, fun j t ht => ?_⟩
  rw [Tryd.params6] at ht
  have hm : t ∈ [9, 9] := by simpa using Array.mem_of_getElem? ht
  have hall : ([9, 9].all fun u => !Tryd.prog.wantsStandIn u) = true := by kernel_rfl
  exact (show Tryd.prog.wantsStandIn t = false by simpa using List.all_eq_true.1 hall t hm)

/-- THE CARD. -/
theorem card : Rows.LexIgnoresCommentsCardSaid :=
  Claim7.holds_tied_plain_at .later [] _ _ _ _ holds (fun _ h => by cases h) (by kernel_rfl) (fun _ h => by cases h) lexIgnoresComments_row_tie rfl ⟨rfl, rfl⟩ (by kernel_rfl) rfl plain (by kernel_rfl)
#print axioms card
end Go.Proofs.YtmkifodpkcmgoaaDoor.law6

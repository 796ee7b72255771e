/- lex: what the rows of this seat share: what the library's variables hold, a world to begin with, the wrap. -/
import Derived.Test.YtmkifodpkcmgoaaDoorLexX
import Derived.Test.YtmkifodpkcmgoaaDoorRows
import Derived.Test.YtmkifodpkcmgoaaDoorCards
import Derived.Test.YtmkifodpkcmgoaaDoorTie
import Derived.ProofKit
import Derived.OpenShut
import Derived.LaidMore
import Derived.Lay
import Derived.SevenTiedAt
import Derived.Stop.Joined
import Derived.Stop.LaidErr
import Derived.Lib.LaidTab
import Derived.Shelf.Vars
namespace Go.Proofs.YtmkifodpkcmgoaaDoor.E
open Go Go.ChangeShapes Go.WideShapes Go.ChangeAt Go.RowKit

/-- The cells that are known when a call begins: all of them. -/
def DoW (W : World) (b : Nat) : Nat := match W.heap[b]? with | some (.cells c _ _) => c.size + 1 | _ => 0
theorem DoW_wf (W : World) : Wf W (DoW W) := fun b hb => by
  have : W.heap[b]? = none := Array.getElem?_eq_none hb
  simp [DoW, this]
theorem DoW_at {W : World} {b : Nat} {c : Array Value} {t : TypeId} {f : Nat × Nat} (h : W.heap[b]? = some (.cells c t f)) : DoW W b = c.size + 1 := by
  simp [DoW, h]
theorem DoW_same {W w : World} {D : Nat → Nat} {b : Nat} {c : Array Value} {t : TypeId} {f : Nat × Nat} (hle : Mem.le ⟨W, DoW W⟩ ⟨w, D⟩) (h : W.heap[b]? = some (.cells c t f)) : ∃ t' f', w.heap[b]? = some (.cells c t' f') := by
  obtain ⟨_, hk⟩ := hle b
  have hd : DoW W b = c.size + 1 := DoW_at h
  obtain ⟨_, hk⟩ := hk (by show 0 < DoW W b; omega)
  obtain ⟨c', t', f', ho, hj⟩ := keep_cell hk h
  simp only [hd] at ho hj
  have e : c' = c := by
    apply Array.ext_getElem?
    intro i
    rcases Nat.lt_or_ge i (c.size + 1) with hi | hi
    · exact hj i hi
    · have h1 := hj c.size (by omega)
      rw [Array.getElem?_eq_none (Nat.le_refl c.size)] at h1
      have h2 : c'.size ≤ c.size := by
        rcases Nat.lt_or_ge c.size c'.size with h | h
        · rw [Array.getElem?_eq_getElem h] at h1; cases h1
        · exact h
      rw [Array.getElem?_eq_none (by omega), Array.getElem?_eq_none (by omega)]
  subst e
  exact ⟨t', f', ho⟩
theorem DoW_cell {W w : World} {D : Nat → Nat} {g i : Nat} {v : Value} (hle : Mem.le ⟨W, DoW W⟩ ⟨w, D⟩) (h : W.cell? ⟨g, i, none⟩ = some v) : w.cell? ⟨g, i, none⟩ = some v := by
  unfold World.cell? at h ⊢
  split at h
  · rename_i c t f hc
    obtain ⟨t', f', ho⟩ := DoW_same hle hc
    dsimp only at ho
    rw [ho]
    simpa using h
  · cases h
theorem DoW_var {W w : World} {D : Nat → Nat} {P : Program} {n : String} {c : Array Value} (hle : Mem.le ⟨W, DoW W⟩ ⟨w, D⟩) (h : W.var? P n = some c) : w.var? P n = some c := by
  unfold World.var? at h ⊢
  obtain ⟨g, hg, h⟩ := Option.bind_eq_some_iff.1 h
  rw [hg]
  split at h
  · rename_i c' t f hc
    obtain ⟨t', f', ho⟩ := DoW_same hle hc
    cases h
    simp [ho]
  · cases h

/-- A contract, called from outside. -/
theorem calls_lone {P : Program} {f : FuncId} {args : List Value} {W : World} {x : Value} (h : FnH P f (args.map SV.v) ⟨[], []⟩ ⟨W, DoW W⟩ fun r H' _ => r = .v x ∧ H' = ⟨[], []⟩) :
    Calls P f ⟨args⟩ W fun e W' => e = .returned x ∧ Below W.heap.size W W' := by
  have ha : (args.map SV.v).map (den ⟨fun _ => 0, fun _ _ => ⟨none, 0, 0⟩⟩) = args := by rw [List.map_map]; exact List.map_id'' (fun _ => rfl) args
  have := h ⟨fun _ => 0, fun _ _ => ⟨none, 0, 0⟩⟩ W (DoW W) (DoW_wf W) (Mem.le_refl ⟨W, DoW W⟩ (DoW_wf W)) ⟨fun b hb => (by cases hb), fun b hb => (by cases hb), by simp [blks], by simp⟩
  rw [ha] at this
  refine this.mono ?_
  rintro e w' ⟨r, V', D', H', m', rfl, _, _, _, _, hf, _, _, _, _, rfl, rfl⟩
  exact ⟨rfl, hf.os, hf.tape, hf.output, hf.size, fun b hb => (hf.same b hb (by simp [blks])).1⟩

/-- The wrap: the world's shape and what the row lists are kept for the contract. -/
theorem returns_of {H : Type} {enc : TypeId × Value → H} {a : Assume} {C : Checked} {os : Os} {f : FuncId} {fn : Func} {s : ChangeSpec} {conds : List PathCond} {apart fresh handsOn again : Bool} {X : World → Array Value → Prop}
    (hX : ∀ (w w' : World) (args : Array Value), w.heap = w'.heap → X w args → X w' args)
    (own : ownKnob C.prog.godebug = none) (started : os.Started) (noInit : C.prog.inits.idxOf? f = none) (hfn : C.prog.funcs[f]? = some fn)
    (witness : ∃ (w : World) (tape : Tape) (i : Input), w.os = os ∧ (w.forCall tape i).Shaped C.prog ∧ i.vars = [] ∧ Input.okWide C.prog (w.forCall tape i) .any w.heap.size f i ∧
      ((s.pre enc C.prog fn conds apart (w.forCall tape i).memory i.args ∧ X (w.forCall tape i).memory i.args) ∧ sizedMet enc C.prog fn (OpenSpec.ofChange s) apart (w.forCall tape i).memory i.args) ∧ a.holds C.prog (lone (Frame.enter C.prog f i.args .normal) [] (w.forCall tape i)))
    (contract : ∀ (W : World) (base : Nat) (args : Array Value) (ds gs : List (DataW H)) (before : List MemPlace),
      (∀ (j : Nat) t v, fn.params[j]? = some t → args[j]? = some v → Value.okWide C.prog W .any base t v) →
      DataW.Whole enc C.prog fn.params.toList s.vars apart W args.toList ds gs before → X W args → W.ShapedOpen C.prog →
      (DataW.weightsEach C.prog (fn.params.toList ++ s.plain.varTypes C.prog) (ds ++ gs)).all (· ≤ reachBytes) = true →
      Calls C.prog f args W fun e W' => ∃ v, e = .returned v ∧ s.post enc C.prog fn apart fresh handsOn again W args v W') :
    ReturnsInHanded a C os f .any (fun w args => (s.pre enc C.prog fn conds apart w args ∧ X w args) ∧ sizedMet enc C.prog fn (OpenSpec.ofChange s) apart w args) (s.post enc C.prog fn apart fresh handsOn again) := by
  refine returnsInHanded_of_calls own started noInit witness ?_
  intro w tape i _ hsh _ hok hpre hholds
  obtain ⟨_, _, _, fn', hfn', _, _, _, _, hval⟩ := hok
  have e : fn' = fn := Option.some.inj (hfn'.symm.trans hfn)
  subst e
  obtain ⟨⟨⟨ds, gs, before, hw, hc⟩, hx⟩, hz⟩ := hpre
  have hw' := DataW.Whole.of_heap (w' := w.forCall tape i) (by rfl) hw
  refine (contract (w.forCall tape i) w.heap.size i.args ds gs before hval hw' (hX _ _ _ (by rfl) hx) hsh (hz.weights hw)).mono fun e W' ⟨v, he, hp⟩ => ?_
  subst he
  exact ChangeSpec.post_blind hp

theorem own : ownKnob Tryd.prog.godebug = none := by kernel_rfl
/-- What every row of this seat lists. -/
def laidL : List (String × DataW Unit) := Rows.lexTokenizeReferenceRow.laid
theorem g0 (W : World) (h : W.ShapedOpen Tryd.prog) : ∃ k, W.cell? ⟨0, 0, none⟩ = some (.int .i64 k) :=
  cell_of_shapedOpen_int (P := Tryd.prog) (g := 0) (t := 3) (zero := #[.int .i64 0]) h (of_decide_eq_true (by kernel_rfl)) (by kernel_rfl) rfl (by kernel_rfl) (by kernel_rfl) (by kernel_rfl)
theorem starE : "*" ++ "errors.errorString" = "*errors.errorString" := by decide
theorem hrow (u : TypeId) (h : Tryd.prog.typeName? 3 u = some "*errors.errorString") : u = 116 :=
  typeName_ptr_named (nm := "errors.errorString") (by rw [starE]; kernel_rfl) (by kernel_rfl) (by decide) u (by rw [starE]; exact h)
theorem glob_of {W : World} (hL : laidMetH Tryd.prog laidL W) (hs : W.ShapedOpen Tryd.prog) : Glob ⟨W, DoW W⟩ := by
  rw [MakeChecks.laidMetH_plain _ _ _ (by kernel_rfl)] at hL
  have h3 := hL.tail.tail
  have ht := Lib.tabIs_of_head (P := Tryd.prog) (zs := Lib.pow10Tab) (g := 3) (t := 104) (e := 88) (n := 20) (by kernel_rfl) (by kernel_rfl) (by kernel_rfl) (by kernel_rfl) (by kernel_rfl) (by kernel_rfl) h3
  obtain ⟨a5, _, v5, _⟩ := laid_sentinel (P := Tryd.prog) (g := 5) (ti := 62) (tp := 116) (te := 118) (ts := 9) h3.tail.tail (by kernel_rfl) (by kernel_rfl) Tryd.underlying62 hrow Tryd.underlying116 Tryd.underlying118 rfl rfl (by kernel_rfl) (by kernel_rfl) (by kernel_rfl)
  obtain ⟨a4, _, v4, _⟩ := laid_sentinel (P := Tryd.prog) (g := 4) (ti := 62) (tp := 116) (te := 118) (ts := 9) h3.tail.tail.tail (by kernel_rfl) (by kernel_rfl) Tryd.underlying62 hrow Tryd.underlying116 Tryd.underlying118 rfl rfl (by kernel_rfl) (by kernel_rfl) (by kernel_rfl)
  obtain ⟨k, hk⟩ := g0 W hs
  intro w D hle
  exact ⟨⟨k, DoW_cell hle hk⟩, ⟨_, _, DoW_cell hle (by rw [World.var?_cell (by kernel_rfl) v4 0]; rfl)⟩, ⟨_, _, DoW_cell hle (by rw [World.var?_cell (by kernel_rfl) v5 0]; rfl)⟩, DoW_var hle ht⟩
end Go.Proofs.YtmkifodpkcmgoaaDoor.E

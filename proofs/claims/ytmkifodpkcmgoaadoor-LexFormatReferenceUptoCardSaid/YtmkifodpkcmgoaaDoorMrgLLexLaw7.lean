/- 'LexFormatReference' holds for every input of bulk at most 1048576: the tied card of the bounded form of this statement is proved. Conditions: the bound, and the row's own (the listed library variables hold what their text lays). -/
import Derived.Test.YtmkifodpkcmgoaaDoorMrgG
import Derived.Test.YtmkifodpkcmgoaaDoorRows
import Derived.Test.YtmkifodpkcmgoaaDoorCards
import Derived.Test.YtmkifodpkcmgoaaDoorTie
import Derived.ProofKit
import Derived.OpenShut
import Derived.LaidMore
import Derived.Lay
import Derived.SevenTiedAt
import Derived.Stop.Joined
import Derived.Stop.LaidErr
import Derived.Lib.LaidTab
import Derived.Shelf.Vars
import Derived.Test.YtmkifodpkcmgoaaDoorMrgH
import Derived.Deep.Slices
import Derived.Deep.DeepHandedRow
import Derived.Carry
import Derived.Test.YtmkifodpkcmgoaaDoorMrgI
/- lex: what the rows of this seat share: what the library's variables hold, a world to begin with, the wrap. -/
set_option linter.unusedSimpArgs false
set_option linter.unusedVariables false
namespace Go.Proofs.YtmkifodpkcmgoaaDoor.E
open Go Go.ChangeShapes Go.WideShapes Go.ChangeAt Go.RowKit

/-- The cells that are known when a call begins: all of them. -/
def DoW (W : World) (b : Nat) : Nat := match W.heap[b]? with | some (.cells c _ _) => c.size + 1 | _ => 0
theorem DoW_wf (W : World) : Wf W (DoW W) := fun b hb => by
  have : W.heap[b]? = none := Array.getElem?_eq_none hb
  simp [DoW, this]
theorem DoW_at {W : World} {b : Nat} {c : Array Value} {t : TypeId} {f : Nat × Nat} (h : W.heap[b]? = some (.cells c t f)) : DoW W b = c.size + 1 := by
  simp [DoW, h]
theorem DoW_same {W w : World} {D : Nat → Nat} {b : Nat} {c : Array Value} {t : TypeId} {f : Nat × Nat} (hle : Mem.le ⟨W, DoW W⟩ ⟨w, D⟩) (h : W.heap[b]? = some (.cells c t f)) : ∃ t' f', w.heap[b]? = some (.cells c t' f') := by
  obtain ⟨_, hk⟩ := hle b
  have hd : DoW W b = c.size + 1 := DoW_at h
  obtain ⟨_, hk⟩ := hk (by show 0 < DoW W b; omega)
  obtain ⟨c', t', f', ho, hj⟩ := keep_cell hk h
  simp only [hd] at ho hj
  have e : c' = c := by
    apply Array.ext_getElem?
    intro i
    rcases Nat.lt_or_ge i (c.size + 1) with hi | hi
    · exact hj i hi
    · have h1 := hj c.size (by omega)
      rw [Array.getElem?_eq_none (Nat.le_refl c.size)] at h1
      have h2 : c'.size ≤ c.size := by
        rcases Nat.lt_or_ge c.size c'.size with h | h
        · rw [Array.getElem?_eq_getElem h] at h1; cases h1
        · exact h
      rw [Array.getElem?_eq_none (by omega), Array.getElem?_eq_none (by omega)]
  subst e
  exact ⟨t', f', ho⟩
theorem DoW_cell {W w : World} {D : Nat → Nat} {g i : Nat} {v : Value} (hle : Mem.le ⟨W, DoW W⟩ ⟨w, D⟩) (h : W.cell? ⟨g, i, none⟩ = some v) : w.cell? ⟨g, i, none⟩ = some v := by
  unfold World.cell? at h ⊢
  split at h
  · rename_i c t f hc
    obtain ⟨t', f', ho⟩ := DoW_same hle hc
    dsimp only at ho
    rw [ho]
    simpa using h
  · cases h
theorem DoW_var {W w : World} {D : Nat → Nat} {P : Program} {n : String} {c : Array Value} (hle : Mem.le ⟨W, DoW W⟩ ⟨w, D⟩) (h : W.var? P n = some c) : w.var? P n = some c := by
  unfold World.var? at h ⊢
  obtain ⟨g, hg, h⟩ := Option.bind_eq_some_iff.1 h
  rw [hg]
  split at h
  · rename_i c' t f hc
    obtain ⟨t', f', ho⟩ := DoW_same hle hc
    cases h
    simp [ho]
  · cases h

/-- A contract, called from outside. -/
theorem calls_lone {P : Program} {f : FuncId} {args : List Value} {W : World} {x : Value} (h : FnH P f (args.map SV.v) ⟨[], []⟩ ⟨W, DoW W⟩ fun r H' _ => r = .v x ∧ H' = ⟨[], []⟩) :
    Calls P f ⟨args⟩ W fun e W' => e = .returned x ∧ Below W.heap.size W W' := by
  have ha : (args.map SV.v).map (den ⟨fun _ => 0, fun _ _ => ⟨none, 0, 0⟩⟩) = args := by rw [List.map_map]; exact List.map_id'' (fun _ => rfl) args
  have := h ⟨fun _ => 0, fun _ _ => ⟨none, 0, 0⟩⟩ W (DoW W) (DoW_wf W) (Mem.le_refl ⟨W, DoW W⟩ (DoW_wf W)) ⟨fun b hb => (by cases hb), fun b hb => (by cases hb), by simp [blks], by simp⟩
  rw [ha] at this
  refine this.mono ?_
  rintro e w' ⟨r, V', D', H', m', rfl, _, _, _, _, hf, _, _, _, _, rfl, rfl⟩
  exact ⟨rfl, hf.os, hf.tape, hf.output, hf.size, fun b hb => (hf.same b hb (by simp [blks])).1⟩

/-- The wrap: the world's shape and what the row lists are kept for the contract. -/
theorem returns_of {H : Type} {enc : TypeId × Value → H} {a : Assume} {C : Checked} {os : Os} {f : FuncId} {fn : Func} {s : ChangeSpec} {conds : List PathCond} {apart fresh handsOn again : Bool} {X : World → Array Value → Prop}
    (hX : ∀ (w w' : World) (args : Array Value), w.heap = w'.heap → X w args → X w' args)
    (own : ownKnob C.prog.godebug = none) (started : os.Started) (noInit : C.prog.inits.idxOf? f = none) (hfn : C.prog.funcs[f]? = some fn)
    (witness : ∃ (w : World) (tape : Tape) (i : Input), w.os = os ∧ (w.forCall tape i).Shaped C.prog ∧ i.vars = [] ∧ Input.okWide C.prog (w.forCall tape i) .any w.heap.size f i ∧
      ((s.pre enc C.prog fn conds apart (w.forCall tape i).memory i.args ∧ X (w.forCall tape i).memory i.args) ∧ sizedMet enc C.prog fn (OpenSpec.ofChange s) apart (w.forCall tape i).memory i.args) ∧ a.holds C.prog (lone (Frame.enter C.prog f i.args .normal) [] (w.forCall tape i)))
    (contract : ∀ (W : World) (base : Nat) (args : Array Value) (ds gs : List (DataW H)) (before : List MemPlace),
      (∀ (j : Nat) t v, fn.params[j]? = some t → args[j]? = some v → Value.okWide C.prog W .any base t v) →
      DataW.Whole enc C.prog fn.params.toList s.vars apart W args.toList ds gs before → X W args → W.ShapedOpen C.prog →
      (DataW.weightsEach C.prog (fn.params.toList ++ s.plain.varTypes C.prog) (ds ++ gs)).all (· ≤ reachBytes) = true →
      Calls C.prog f args W fun e W' => ∃ v, e = .returned v ∧ s.post enc C.prog fn apart fresh handsOn again W args v W') :
    ReturnsInHanded a C os f .any (fun w args => (s.pre enc C.prog fn conds apart w args ∧ X w args) ∧ sizedMet enc C.prog fn (OpenSpec.ofChange s) apart w args) (s.post enc C.prog fn apart fresh handsOn again) := by
  refine returnsInHanded_of_calls own started noInit witness ?_
  intro w tape i _ hsh _ hok hpre hholds
  obtain ⟨_, _, _, fn', hfn', _, _, _, _, hval⟩ := hok
  have e : fn' = fn := Option.some.inj (hfn'.symm.trans hfn)
  subst e
  obtain ⟨⟨⟨ds, gs, before, hw, hc⟩, hx⟩, hz⟩ := hpre
  have hw' := DataW.Whole.of_heap (w' := w.forCall tape i) (by rfl) hw
  refine (contract (w.forCall tape i) w.heap.size i.args ds gs before hval hw' (hX _ _ _ (by rfl) hx) hsh (hz.weights hw)).mono fun e W' ⟨v, he, hp⟩ => ?_
  subst he
  exact ChangeSpec.post_blind hp

theorem own : ownKnob Tryd.prog.godebug = none := by kernel_rfl
/-- What every row of this seat lists. -/
def laidL : List (String × DataW Unit) := Rows.lexTokenizeReferenceRow.laid
theorem g0 (W : World) (h : W.ShapedOpen Tryd.prog) : ∃ k, W.cell? ⟨0, 0, none⟩ = some (.int .i64 k) :=
  cell_of_shapedOpen_int (P := Tryd.prog) (g := 0) (t := 3) (zero := #[.int .i64 0]) h (of_decide_eq_true (by kernel_rfl)) (by kernel_rfl) rfl (by kernel_rfl) (by kernel_rfl) (by kernel_rfl)
theorem starE : "*" ++ "errors.errorString" = "*errors.errorString" := by decide
theorem hrow (u : TypeId) (h : Tryd.prog.typeName? 3 u = some "*errors.errorString") : u = 116 :=
  typeName_ptr_named (nm := "errors.errorString") (by rw [starE]; kernel_rfl) (by kernel_rfl) (by decide) u (by rw [starE]; exact h)
theorem glob_of {W : World} (hL : laidMetH Tryd.prog laidL W) (hs : W.ShapedOpen Tryd.prog) : Glob ⟨W, DoW W⟩ := by
  rw [MakeChecks.laidMetH_plain _ _ _ (by kernel_rfl)] at hL
  have h3 := hL.tail.tail
  have ht := Lib.tabIs_of_head (P := Tryd.prog) (zs := Lib.pow10Tab) (g := 3) (t := 104) (e := 88) (n := 20) (by kernel_rfl) (by kernel_rfl) (by kernel_rfl) (by kernel_rfl) (by kernel_rfl) (by kernel_rfl) h3
  obtain ⟨a5, _, v5, _⟩ := laid_sentinel (P := Tryd.prog) (g := 5) (ti := 62) (tp := 116) (te := 118) (ts := 9) h3.tail.tail (by kernel_rfl) (by kernel_rfl) Tryd.underlying62 hrow Tryd.underlying116 Tryd.underlying118 rfl rfl (by kernel_rfl) (by kernel_rfl) (by kernel_rfl)
  obtain ⟨a4, _, v4, _⟩ := laid_sentinel (P := Tryd.prog) (g := 4) (ti := 62) (tp := 116) (te := 118) (ts := 9) h3.tail.tail.tail (by kernel_rfl) (by kernel_rfl) Tryd.underlying62 hrow Tryd.underlying116 Tryd.underlying118 rfl rfl (by kernel_rfl) (by kernel_rfl) (by kernel_rfl)
  obtain ⟨k, hk⟩ := g0 W hs
  intro w D hle
  exact ⟨⟨k, DoW_cell hle hk⟩, ⟨_, _, DoW_cell hle (by rw [World.var?_cell (by kernel_rfl) v4 0]; rfl)⟩, ⟨_, _, DoW_cell hle (by rw [World.var?_cell (by kernel_rfl) v5 0]; rfl)⟩, DoW_var hle ht⟩
end Go.Proofs.YtmkifodpkcmgoaaDoor.E

/- lex: what the rows share whose statement is bounded: a slice of tokens that came in. -/
set_option linter.unusedSimpArgs false
set_option linter.unusedVariables false
namespace Go.Proofs.YtmkifodpkcmgoaaDoor.E
open Go Go.ChangeShapes Go.WideShapes Go.ChangeAt Go.RowKit

theorem witness_row {H : Type} {enc : TypeId × Value → H} {C : Checked} {os : Os} {f : FuncId} {fn : Func} {s : OpenSpec} {conds : List PathCond} {apart : Bool} {laid : List (String × DataW Unit)} (modest : Bool) (w0 : World) (args : Array Value) (hos : w0.os = os)
    (hsh : (w0.forCall (fun _ _ => 0) ⟨#[], args, []⟩).Shaped C.prog)
    (hok : Input.okWideB C.prog (w0.forCall (fun _ _ => 0) ⟨#[], args, []⟩) f ⟨#[], args, []⟩ = true)
    (hrow : s.preRow enc C.prog fn conds apart laid (w0.forCall (fun _ _ => 0) ⟨#[], args, []⟩).memory args) :
    ∃ (w : World) (tape : Tape) (i : Input), w.os = os ∧ (w.forCall tape i).Shaped C.prog ∧ i.vars = [] ∧ Input.okWide C.prog (w.forCall tape i) .any w.heap.size f i ∧
      s.preRow enc C.prog fn conds apart laid (w.forCall tape i).memory i.args ∧ ({ modest := modest } : Assume).holds C.prog (lone (Frame.enter C.prog f i.args .normal) [] (w.forCall tape i)) :=
  ⟨w0, fun _ _ => 0, ⟨#[], args, []⟩, hos, hsh, (Input.okWide_of_okWideB (base := 0) hok).1, (Input.okWide_of_okWideB hok).2, hrow, by
    simp only [Assume.holds]
    exact ⟨by simp, by simp, fun _ => Modest.zero, by simp, by simp⟩⟩

theorem list_of {p : Nat → Tk → Prop} : ∀ (n : Nat), (∀ i, i < n → ∃ t, p i t) → ∃ ts : List Tk, ts.length = n ∧ ∀ i (hi : i < ts.length), p i ts[i]
  | 0, _ => ⟨[], rfl, fun i hi => absurd hi (Nat.not_lt_zero _)⟩
  | n + 1, h => by
    obtain ⟨ts, h1, h2⟩ := list_of n fun i hi => h i (by omega)
    obtain ⟨t, ht⟩ := h n (Nat.lt_succ_self _)
    refine ⟨ts ++ [t], by simp [h1], fun i hi => ?_⟩
    rcases Nat.lt_or_ge i ts.length with h3 | h3
    · rw [List.getElem_append_left h3]; exact h2 i h3
    · have : i = n := by rw [List.length_append, List.length_singleton] at hi; omega
      subst this
      rw [List.getElem_append_right h3]
      simpa using ht
theorem cell_spot {W : World} {a : Addr} {v : Value} (h : W.cell? a = some v) : a.spot = none ∧ a.off < DoW W a.block := by
  unfold World.cell? at h
  split at h
  · rename_i c t f hc
    cases hs : a.spot with
    | some x => rw [hs] at h; simp at h
    | none =>
      rw [hs] at h
      simp only [Option.isSome_none, Bool.false_eq_true, if_false] at h
      refine ⟨rfl, ?_⟩
      rw [DoW_at hc]
      have := (Array.getElem?_eq_some_iff.1 h).1
      omega
  · cases h
theorem add_zero' (a : Addr) : a.add 0 = a := rfl
theorem bulk_mem {H : Type} {d : DataW H} : ∀ {l : List (DataW H)}, d ∈ l → Rows.uptoBulk d ≤ Rows.uptoBulkAll l
  | [], h => by cases h
  | x :: l, h => by
    simp only [Rows.uptoBulkAll]
    rcases List.mem_cons.1 h with rfl | h
    · omega
    · have := bulk_mem h; omega
theorem bulk_one {H : Type} (d : DataW H) : 1 ≤ Rows.uptoBulk d := by
  cases d with
  | lit l => cases l <;> simp [Rows.uptoBulk]
  | _ => simp [Rows.uptoBulk]
theorem bulk_len {H : Type} : ∀ (l : List (DataW H)), l.length ≤ Rows.uptoBulkAll l
  | [] => Nat.zero_le _
  | d :: l => by
    have h1 := bulk_one d
    have h2 := bulk_len l
    simp only [Rows.uptoBulkAll, List.length_cons]
    omega
set_option maxRecDepth 100000 in
/-- A slice of tokens that came in. -/
theorem open_tokens {H : Type} {enc : TypeId × Value → H} {W : World} {v : Value} {d : DataW H} {p : List MemPlace} {r : Reach} {b0 : Nat} (hval : Value.okWide Tryd.prog W r b0 22 v) (h : DataW.Trod enc Tryd.prog W 0 (fun _ => true) true 22 v d p) :
    ∃ (ts : List Tk) (a : Option Addr) (n c : Nat), v = .slice a n c ∧ n ≤ Rows.uptoBulk d ∧ Rds ⟨W, DoW W⟩ a n 4 (tkCells ts) ∧ ∀ t ∈ ts, I64 t.n ∧ t.s.length ≤ Rows.uptoBulk d := by
  obtain ⟨va, vl, vc, hv0⟩ := okWide_slice Tryd.underlying22 hval
  have hcv : v.cells.toList = [v] := by rw [hv0]; rfl
  obtain ⟨fuel, h⟩ := h
  rcases Deep.open_slice Tryd.underlying22 h with ⟨hc, hx⟩ | ⟨a, len, cap, m, n, D, Pl, hcs, hb, hl, hm, hmm, hx, hi⟩
  · rw [hcv] at hc
    have hv : v = .slice none 0 0 := by simpa using hc
    exact ⟨[], none, 0, 0, hv, Nat.zero_le _, ⟨rfl, fun h => absurd h (Nat.lt_irrefl _)⟩, fun t ht => by cases ht⟩
  · rw [hcv] at hcs
    have hv : v = .slice (some a) len cap := by simpa using hcs
    have hm2 : m = cap := by simpa using hmm
    have hC : Tryd.prog.cellsOf 27 = 4 := by kernel_rfl
    rw [hC] at hi
    have key : ∀ i, i < len → ∃ t : Tk, (∀ j, j < 4 → W.cell? (a.add (i * 4 + j)) = (tkC t)[j]?) ∧ I64 t.n ∧ t.s.length ≤ Rows.uptoBulk d := by
      intro i hil
      obtain ⟨cs', hc, ht'⟩ := hi i (by omega)
      obtain ⟨ys, n', _, hy, hlen, hyl, hf⟩ := DataW.trod_struct Tryd.underlying27 ht'
      obtain ⟨_, hcl, hat⟩ := World.cells?_some hc
      rw [hC] at hlen
      have k3 : Tryd.prog.cellsOf 3 = 1 := by kernel_rfl
      have k9 : Tryd.prog.cellsOf 9 = 1 := by kernel_rfl
      match cs', hlen with
      | [c0, c1, c2, c3], _ =>
        match ys, hyl with
        | [y0, y1, y2, y3], _ =>
          have f0 : DataW.trod enc Tryd.prog W 0 (fun _ => true) true n' 3 [c0] = some y0 := by have this : DataW.trod enc Tryd.prog W 0 (fun _ => true) true n' 3 (([c0, c1, c2, c3].drop 0).take (Tryd.prog.cellsOf 3)) = some y0 := hf 0 _ rfl; rw [k3] at this; exact this
          have f1 : DataW.trod enc Tryd.prog W 0 (fun _ => true) true n' 9 [c1] = some y1 := by have this : DataW.trod enc Tryd.prog W 0 (fun _ => true) true n' 9 (([c0, c1, c2, c3].drop 1).take (Tryd.prog.cellsOf 9)) = some y1 := hf 1 _ rfl; rw [k9] at this; exact this
          have f2 : DataW.trod enc Tryd.prog W 0 (fun _ => true) true n' 3 [c2] = some y2 := by have this : DataW.trod enc Tryd.prog W 0 (fun _ => true) true n' 3 (([c0, c1, c2, c3].drop 2).take (Tryd.prog.cellsOf 3)) = some y2 := hf 2 _ rfl; rw [k3] at this; exact this
          have f3 : DataW.trod enc Tryd.prog W 0 (fun _ => true) true n' 3 [c3] = some y3 := by have this : DataW.trod enc Tryd.prog W 0 (fun _ => true) true n' 3 (([c0, c1, c2, c3].drop 3).take (Tryd.prog.cellsOf 3)) = some y3 := hf 3 _ rfl; rw [k3] at this; exact this
          obtain ⟨z0, e0, _, _⟩ := DataW.trod_int Tryd.underlying3 f0
          obtain ⟨s, e1, x1, _⟩ := DataW.trod_string Tryd.underlying9 f1
          obtain ⟨z2, e2, _, w2⟩ := DataW.trod_int Tryd.underlying3 f2
          obtain ⟨z3, e3, _, _⟩ := DataW.trod_int Tryd.underlying3 f3
          cases e0; cases e1; cases e2; cases e3
          refine ⟨⟨z0, tl s, z2, z3⟩, fun j hj => ?_, ?_, ?_⟩
          · rw [← Deep.add_add, hat j hj]
            simp only [tkC, bs_tl]
          · have h2 : decide (IntKind.min .i64 ≤ z2) = true ∧ decide (z2 ≤ IntKind.max .i64) = true := Bool.and_eq_true_iff.1 w2
            exact ⟨of_decide_eq_true h2.1, of_decide_eq_true h2.2⟩
          · have hD : D i = .agg [y0.1, y1.1, y2.1, y3.1] := (Prod.mk.inj hy).1
            have hd : d = .slice (List.map D (List.range len)) (List.map (fun j => D (len + j)) (List.range (m - len))) := (Prod.mk.inj hx).1
            have hmem : D i ∈ List.map D (List.range len) := List.mem_map.2 ⟨i, List.mem_range.2 hil, rfl⟩
            have h1 := bulk_mem hmem
            have h2 : Rows.uptoBulk (D i) = Rows.uptoBulk y0.1 + (Rows.uptoBulk y1.1 + (Rows.uptoBulk y2.1 + (Rows.uptoBulk y3.1 + 0))) + 1 := by rw [hD]; rfl
            have h3 : Rows.uptoBulk y1.1 = s.data.toList.length + 1 := by rw [x1]; rfl
            rw [hd]
            simp only [Rows.uptoBulk]
            show (tl s).length ≤ _
            have e : (tl s).length = s.data.toList.length := rfl
            omega
    obtain ⟨ts, hts, hp⟩ := list_of len key
    have hbl : len ≤ Rows.uptoBulk d := by
      have hd : d = .slice (List.map D (List.range len)) (List.map (fun j => D (len + j)) (List.range (m - len))) := (Prod.mk.inj hx).1
      have h1 := bulk_len (List.map D (List.range len))
      rw [List.length_map, List.length_range] at h1
      rw [hd]
      simp only [Rows.uptoBulk]
      omega
    refine ⟨ts, some a, len, cap, hv, hbl, ⟨by rw [tk_len, hts], fun h0 => ⟨a, rfl, ?_, fun j hj => ?_⟩⟩, fun t ht => ?_⟩
    · have := (hp 0 (by omega)).1 0 (by omega)
      exact (cell_spot (W := W) (a := a) (v := .int .i64 (ts[0]'(by omega)).k) this).1
    · have h4 : j / 4 < ts.length := by omega
      have hj4 : j / 4 * 4 + j % 4 = j := by omega
      have h5 := (hp (j / 4) h4).1 (j % 4) (by omega)
      have h6 := tk_cell h4 (j := j % 4) (by omega)
      rw [hj4] at h5 h6
      have hlt : j % 4 < (tkC ts[j / 4]).length := by show j % 4 < 4; omega
      have h7 : W.cell? (a.add j) = some ((tkC ts[j / 4])[j % 4]) := by rw [h5, List.getElem?_eq_getElem hlt]
      have h8 := (cell_spot (W := W) (by have := (hp 0 (by omega)).1 0 (by omega); exact (show W.cell? a = some (.int .i64 (ts[0]'(by omega)).k) from this))).1
      have h9 := (cell_spot h7).2
      obtain ⟨p1, p2, _⟩ := add_parts a j h8
      rw [p1, p2] at h9
      exact ⟨by rw [h6]; exact h5, h9⟩
    · obtain ⟨i, hi', rfl⟩ := List.getElem_of_mem ht
      exact (hp i hi').2
end Go.Proofs.YtmkifodpkcmgoaaDoor.E

set_option linter.unusedSimpArgs false
set_option linter.unusedVariables false
namespace Go.Proofs.YtmkifodpkcmgoaaDoor.law7
open Go Go.ChangeShapes Go.WideShapes Go.ChangeAt Go.RowKit
open Go.Proofs.YtmkifodpkcmgoaaDoor.E

open Go.ChangeMaps (open_string shut_string)

/-- A contract, called from outside, with a struct handed in. -/
theorem calls_sv {P : Program} {f : FuncId} {args : List SV} {vals : List Value} {W : World} {x : Value} (hden : ∀ V, args.map (den V) = vals) (h : FnH P f args ⟨[], []⟩ ⟨W, DoW W⟩ fun r H' _ => r = .v x ∧ H' = ⟨[], []⟩) :
    Calls P f ⟨vals⟩ W fun e W' => e = .returned x ∧ Below W.heap.size W W' := by
  have := h ⟨fun _ => 0, fun _ _ => ⟨none, 0, 0⟩⟩ W (DoW W) (DoW_wf W) (Mem.le_refl ⟨W, DoW W⟩ (DoW_wf W)) ⟨fun b hb => (by cases hb), fun b hb => (by cases hb), by simp [blks], by simp⟩
  rw [hden] at this
  refine this.mono ?_
  rintro e w' ⟨r, V', D', H', m', rfl, _, _, _, _, hf, _, _, _, _, rfl, rfl⟩
  exact ⟨rfl, hf.os, hf.tape, hf.output, hf.size, fun b hb => (hf.same b hb (by simp [blks])).1⟩
set_option maxRecDepth 100000 in
/-- A token that came in. -/
theorem open_token {H : Type} {enc : TypeId × Value → H} {W : World} {v : Value} {d : DataW H} {p : List MemPlace} {r : Reach} {b0 : Nat} (hval : Value.okWide Tryd.prog W r b0 27 v) (h : DataW.Trod enc Tryd.prog W 0 (fun _ => true) true 27 v d p) :
    ∃ t : Tk, v = .agg ⟨tkC t⟩ ∧ I64 t.n ∧ t.s.length ≤ Rows.uptoBulk d := by
  obtain ⟨⟨cs'⟩, rfl, hsz⟩ := okWide_struct Tryd.underlying27 hval
  obtain ⟨fuel, h⟩ := h
  have hC : Tryd.prog.cellsOf 27 = 4 := by kernel_rfl
  have k3 : Tryd.prog.cellsOf 3 = 1 := by kernel_rfl
  have k9 : Tryd.prog.cellsOf 9 = 1 := by kernel_rfl
  obtain ⟨ys, n', _, hy, hlen, hyl, hf⟩ := DataW.trod_struct Tryd.underlying27 h
  rw [hC] at hlen
  replace hlen : cs'.length = 4 := hlen
  match cs', hlen with
  | [c0, c1, c2, c3], _ =>
    match ys, hyl with
    | [y0, y1, y2, y3], _ =>
      have f0 : DataW.trod enc Tryd.prog W 0 (fun _ => true) true n' 3 [c0] = some y0 := by have this : DataW.trod enc Tryd.prog W 0 (fun _ => true) true n' 3 (([c0, c1, c2, c3].drop 0).take (Tryd.prog.cellsOf 3)) = some y0 := hf 0 _ rfl; rw [k3] at this; exact this
      have f1 : DataW.trod enc Tryd.prog W 0 (fun _ => true) true n' 9 [c1] = some y1 := by have this : DataW.trod enc Tryd.prog W 0 (fun _ => true) true n' 9 (([c0, c1, c2, c3].drop 1).take (Tryd.prog.cellsOf 9)) = some y1 := hf 1 _ rfl; rw [k9] at this; exact this
      have f2 : DataW.trod enc Tryd.prog W 0 (fun _ => true) true n' 3 [c2] = some y2 := by have this : DataW.trod enc Tryd.prog W 0 (fun _ => true) true n' 3 (([c0, c1, c2, c3].drop 2).take (Tryd.prog.cellsOf 3)) = some y2 := hf 2 _ rfl; rw [k3] at this; exact this
      have f3 : DataW.trod enc Tryd.prog W 0 (fun _ => true) true n' 3 [c3] = some y3 := by have this : DataW.trod enc Tryd.prog W 0 (fun _ => true) true n' 3 (([c0, c1, c2, c3].drop 3).take (Tryd.prog.cellsOf 3)) = some y3 := hf 3 _ rfl; rw [k3] at this; exact this
      obtain ⟨z0, e0, _, _⟩ := DataW.trod_int Tryd.underlying3 f0
      obtain ⟨s, e1, x1, _⟩ := DataW.trod_string Tryd.underlying9 f1
      obtain ⟨z2, e2, _, w2⟩ := DataW.trod_int Tryd.underlying3 f2
      obtain ⟨z3, e3, _, _⟩ := DataW.trod_int Tryd.underlying3 f3
      cases e0; cases e1; cases e2; cases e3
      refine ⟨⟨z0, tl s, z2, z3⟩, ?_, ?_, ?_⟩
      · simp only [tkC, bs_tl]
      · have h2 : decide (IntKind.min .i64 ≤ z2) = true ∧ decide (z2 ≤ IntKind.max .i64) = true := Bool.and_eq_true_iff.1 w2
        exact ⟨of_decide_eq_true h2.1, of_decide_eq_true h2.2⟩
      · have hD : d = .agg [y0.1, y1.1, y2.1, y3.1] := (Prod.mk.inj hy).1
        have h2 : Rows.uptoBulk d = Rows.uptoBulk y0.1 + (Rows.uptoBulk y1.1 + (Rows.uptoBulk y2.1 + (Rows.uptoBulk y3.1 + 0))) + 1 := by rw [hD]; rfl
        have h3 : Rows.uptoBulk y1.1 = s.data.toList.length + 1 := by rw [x1]; rfl
        show (tl s).length ≤ _
        have e : (tl s).length = s.data.toList.length := rfl
        omega
theorem laidOut : laidOutB Tryd.prog = true := by kernel_rfl
theorem reads (os : Os) {H : Type} (enc : TypeId × Value → H) : ∃ places, DataW.whole enc Tryd.prog ((World.laidAll Tryd.prog os laidL).forCall (fun _ _ => 0) ⟨#[], #[.agg #[.int .i64 0, .string .empty, .int .i64 0, .int .i64 0], .slice none 0 0, .string .empty], []⟩).memory Tryd.f7.params.toList Rows.lexFormatReferenceSpec.vars false #[Value.agg #[.int .i64 0, .string .empty, .int .i64 0, .int .i64 0], .slice none 0 0, .string .empty].toList 8 = some ([.agg [.lit (.int .i64 0), .lit (.string []), .lit (.int .i64 0), .lit (.int .i64 0)], .nil, .lit (.string [])], [], places) :=
  ⟨[], by kernel_rfl⟩
set_option maxRecDepth 100000 in
theorem contract (H : Type) (enc : TypeId × Value → H) (W : World) (base : Nat) (args : Array Value) (ds gs : List (DataW H)) (before : List MemPlace)
    (hval : ∀ (j : Nat) t v, Tryd.f7.params[j]? = some t → args[j]? = some v → Value.okWide Tryd.prog W .any base t v)
    (hW : DataW.Whole enc Tryd.prog Tryd.f7.params.toList Rows.lexFormatReferenceSpec.vars false W args.toList ds gs before) (hk : Rows.uptoSmall H (ds ++ gs) = true)
    (hL : laidMetH Tryd.prog laidL W) (hsh : W.ShapedOpen Tryd.prog) :
    Calls Tryd.prog 7 args W fun e W' => ∃ v, e = .returned v ∧ Rows.lexFormatReferenceSpec.post enc Tryd.prog Tryd.f7 false true false false W args v W' := by
  have hW' := hW
  obtain ⟨p, q, hA0, hV, rfl, _, _⟩ := hW
  have hA : DataW.TrodAll enc Tryd.prog W 0 (fun _ => true) true Tryd.f7.params.toList args.toList ds p := hA0
  rw [Tryd.params7] at hA hval
  obtain ⟨v0, v1, v2, d0, d1, d2, p0, p1, p2, rfl, rfl, rfl, h0, h1, h2⟩ := trodAll_three hA
  obtain ⟨rfl, rfl⟩ := trodVars_none hV
  obtain ⟨t, hv0, ht0⟩ := open_token (hval 0 27 v0 rfl rfl) h0
  obtain ⟨ts, a, n, c, hv, hn, hr, ht⟩ := open_tokens (hval 1 22 v1 rfl rfl) h1
  obtain ⟨s, rfl, rfl, rfl, hmax⟩ := open_string Tryd.underlying9 (hval 2 9 v2 rfl rfl) h2
  clear hA0
  simp only [List.append_nil] at hW' hk
  have hb : Rows.uptoBulk d0 ≤ 1048576 ∧ Rows.uptoBulk d1 ≤ 1048576 ∧ s.data.toList.length ≤ 1048576 := by
    have h : Rows.uptoBulkAll [d0, d1, DataW.lit (H := H) (.string s.data.toList)] ≤ 1048576 := of_decide_eq_true hk
    simp only [Rows.uptoBulkAll, Rows.uptoBulk] at h
    omega
  obtain ⟨hb0, hb1, hb2⟩ := hb
  have hlt : ∀ x ∈ p0 ++ p1, x.block < W.heap.size := fun x hx => hW'.lt x (by simpa using hx)
  subst hv0 hv
  have fin : Calls Tryd.prog 7 #[.agg ⟨tkC t⟩, .slice a n c, .string s] W fun e w' => e = .returned (.bool true) ∧ Below W.heap.size W w' := by
    have := law7_spec t ts (tl s) a n c ⟨W, DoW W⟩ (glob_of hL hsh) hr ⟨by omega, ht0.1⟩ (fun t h => ⟨by have := (ht t h).2; omega, (ht t h).1⟩) (by omega) (by show (tl s).length ≤ _; have e : (tl s).length = s.data.toList.length := rfl; omega)
    rw [bs_tl] at this
    exact calls_sv (vals := [.agg ⟨tkC t⟩, .slice a n c, .string s]) (fun V => rfl) this
  refine fin.mono fun e W' ⟨he, hw⟩ => ?_
  subst he
  refine ⟨_, rfl, _, _, _, [], p0 ++ (p1 ++ []), [], hW', trodAll_mk1 (shut_bool Tryd.underlying4 _), trodAll_mk3 (Below.trod laidOut (by kernel_rfl) (of_decide_eq_true (by kernel_rfl)) h0 hw (fun x hx => hlt x (List.mem_append_left _ hx))) (Below.trod laidOut (by kernel_rfl) (of_decide_eq_true (by kernel_rfl)) h1 hw (fun x hx => hlt x (List.mem_append_right _ hx))) (shut_string Tryd.underlying9 hmax), rfl, hw.frame _, fun h => by cases h⟩
set_option maxRecDepth 100000 in
theorem lifted (os : Os) (started : os.Started) (H : Type) (enc : TypeId × Value → H) (F : Stop.Interp) :
    ReturnsInHanded {} Tryd.checked os 7 .any ((Rows.OpenSpec.upto Rows.lexFormatReferenceSpec).preRow enc Tryd.prog Tryd.f7 Rows.lexFormatReferenceUptoRow.domain false Rows.lexFormatReferenceUptoRow.laid) (((Rows.OpenSpec.upto Rows.lexFormatReferenceSpec).at F).post enc Tryd.prog Tryd.f7 false true false false) := by
  obtain ⟨places, hx⟩ := reads os enc
  refine returnsInHanded_of_row (C := Tryd.checked) (s := Rows.OpenSpec.upto Rows.lexFormatReferenceSpec) E.own started (by kernel_rfl) Tryd.func7
    (witness_row (enc := enc) (C := Tryd.checked) false (World.laidAll Tryd.prog os laidL) #[.agg #[.int .i64 0, .string .empty, .int .i64 0, .int .i64 0], .slice none 0 0, .string .empty] (World.laidAll_os _ _ _) (World.shaped_of_ZipB (by kernel_rfl) (by kernel_rfl)) (by kernel_rfl)
      (OpenSpec.preRow_of_cond 8 hx (by kernel_rfl) (fun k hk => by cases hk; kernel_rfl) (by kernel_rfl) (by rw [MakeChecks.laidMetH_plain _ _ _ (by kernel_rfl)]; exact laidMet_laidAll _ (by kernel_rfl) (by kernel_rfl)))) ?_
  intro W base args ds gs before hval hW _ hcond hwt hL hsh _
  exact contract H enc W base args ds gs before hval hW (hcond _ rfl) hL hsh

theorem said : Rows.LexFormatReferenceUptoSaid :=
  OpenClaim.holds_of_cond 7 Tryd.f7 rfl rfl rfl rfl rfl rfl rfl ⟨rfl, rfl, rfl, rfl, rfl⟩ rfl rfl rfl rfl rfl (by kernel_rfl) Tryd.func7 (by kernel_rfl)
    (of_decide_eq_true (by kernel_rfl)) (by unfold Func.isWrapper; first | (rw [if_pos (by decide +kernel)]; kernel_rfl) | (rw [if_neg (by decide +kernel)]; exact ⟨rfl, rfl⟩))
    (fun os started H enc _ F => by rw [OpenClaim.pre_eq_preRow]; exact lifted os started H enc F)

theorem plain (f : FuncId) (fn : Func) (hf : Tryd.pinned.checked.prog.funcNamed "armature/armaturelaw53.LexFormatReference" = some f) (hfn : Tryd.pinned.checked.prog.funcs[f]? = some fn) :
    true = Tryd.pinned.checked.prog.looks [] ∧ ∀ (j : Nat) t, fn.params[j]? = some t → Tryd.pinned.checked.prog.wantsStandIn t = false := by
  obtain rfl : f = 7 := Option.some.inj ((show Tryd.prog.funcNamed "armature/armaturelaw53.LexFormatReference" = some 7 by kernel_rfl).symm.trans hf) |>.symm
  obtain rfl : fn = Tryd.f7 := (Option.some.inj (Tryd.func7.symm.trans hfn)).symm
  refine ⟨by kernel_rfl, fun j t ht => ?_⟩
  rw [Tryd.params7] at ht
  have hm : t ∈ [27, 22, 9] := by simpa using Array.mem_of_getElem? ht
  have hall : ([27, 22, 9].all fun u => !Tryd.prog.wantsStandIn u) = true := by kernel_rfl
  exact (show Tryd.prog.wantsStandIn t = false by simpa using List.all_eq_true.1 hall t hm)

/-- THE CARD. -/
theorem card : Rows.LexFormatReferenceUptoCardSaid :=
  Claim7.holds_tied_plain_at .later [] _ _ _ _ said (fun _ h => by cases h) (by kernel_rfl) (fun _ h => by cases h) lexFormatReferenceUpto_row_tie rfl ⟨rfl, rfl⟩ (by kernel_rfl) rfl plain (by kernel_rfl)
#print axioms card
end Go.Proofs.YtmkifodpkcmgoaaDoor.law7

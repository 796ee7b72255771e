/- 'AstSame' holds for every input of bulk at most 1048576: the tied card of the bounded form of this statement is proved. Conditions: the bound, and the row's own (the listed variables hold what their text lays). -/
import Derived.Test.YtalalcpefggniaaGreatDoorMrgJ
import Derived.Test.YtalalcpefggniaaGreatDoorRows
import Derived.Test.YtalalcpefggniaaGreatDoorCards
import Derived.Test.YtalalcpefggniaaGreatDoorTie
import Derived.ProofKit
import Derived.OpenShut
import Derived.LaidMore
import Derived.Lay
import Derived.SevenTiedAt
import Derived.Stop.Joined
import Derived.Stop.LaidErr
import Derived.Lib.LaidTab
import Derived.Shelf.Vars
import Derived.Deep.Slices
import Derived.Deep.DeepHandedRow
import Derived.Carry
/- ast: what the rows of this seat share: what the listed variables hold, a world to begin with, the wrap. -/
set_option linter.unusedSimpArgs false
set_option linter.unusedVariables false
namespace Go.Proofs.YtalalcpefggniaaGreatDoor.E
open Go Go.ChangeShapes Go.WideShapes Go.ChangeAt Go.RowKit

/-- The cells that are known when a call begins: all of them. -/
def DoW (W : World) (b : Nat) : Nat := match W.heap[b]? with | some (.cells c _ _) => c.size + 1 | _ => 0
theorem DoW_wf (W : World) : Wf W (DoW W) := fun b hb => by
  have : W.heap[b]? = none := Array.getElem?_eq_none hb
  simp [DoW, this]
theorem DoW_at {W : World} {b : Nat} {c : Array Value} {t : TypeId} {f : Nat × Nat} (h : W.heap[b]? = some (.cells c t f)) : DoW W b = c.size + 1 := by
  simp [DoW, h]
theorem DoW_same {W w : World} {D : Nat → Nat} {b : Nat} {c : Array Value} {t : TypeId} {f : Nat × Nat} (hle : Mem.le ⟨W, DoW W⟩ ⟨w, D⟩) (h : W.heap[b]? = some (.cells c t f)) : ∃ t' f', w.heap[b]? = some (.cells c t' f') := by
  obtain ⟨_, hk⟩ := hle b
  have hd : DoW W b = c.size + 1 := DoW_at h
  obtain ⟨_, hk⟩ := hk (by show 0 < DoW W b; omega)
  obtain ⟨c', t', f', ho, hj⟩ := keep_cell hk h
  simp only [hd] at ho hj
  have e : c' = c := by
    apply Array.ext_getElem?
    intro i
    rcases Nat.lt_or_ge i (c.size + 1) with hi | hi
    · exact hj i hi
    · have h1 := hj c.size (by omega)
      rw [Array.getElem?_eq_none (Nat.le_refl c.size)] at h1
      have h2 : c'.size ≤ c.size := by
        rcases Nat.lt_or_ge c.size c'.size with h | h
        · rw [Array.getElem?_eq_getElem h] at h1; cases h1
        · exact h
      rw [Array.getElem?_eq_none (by omega), Array.getElem?_eq_none (by omega)]
  subst e
  exact ⟨t', f', ho⟩
theorem DoW_cell {W w : World} {D : Nat → Nat} {g i : Nat} {v : Value} (hle : Mem.le ⟨W, DoW W⟩ ⟨w, D⟩) (h : W.cell? ⟨g, i, none⟩ = some v) : w.cell? ⟨g, i, none⟩ = some v := by
  unfold World.cell? at h ⊢
  split at h
  · rename_i c t f hc
    obtain ⟨t', f', ho⟩ := DoW_same hle hc
    dsimp only at ho
    rw [ho]
    simpa using h
  · cases h
theorem DoW_var {W w : World} {D : Nat → Nat} {P : Program} {n : String} {c : Array Value} (hle : Mem.le ⟨W, DoW W⟩ ⟨w, D⟩) (h : W.var? P n = some c) : w.var? P n = some c := by
  unfold World.var? at h ⊢
  obtain ⟨g, hg, h⟩ := Option.bind_eq_some_iff.1 h
  rw [hg]
  split at h
  · rename_i c' t f hc
    obtain ⟨t', f', ho⟩ := DoW_same hle hc
    cases h
    simp [ho]
  · cases h

theorem witness_row {H : Type} {enc : TypeId × Value → H} {C : Checked} {os : Os} {f : FuncId} {fn : Func} {s : OpenSpec} {conds : List PathCond} {apart : Bool} {laid : List (String × DataW Unit)} (modest : Bool) (w0 : World) (args : Array Value) (hos : w0.os = os)
    (hsh : (w0.forCall (fun _ _ => 0) ⟨#[], args, []⟩).Shaped C.prog)
    (hok : Input.okWideB C.prog (w0.forCall (fun _ _ => 0) ⟨#[], args, []⟩) f ⟨#[], args, []⟩ = true)
    (hrow : s.preRow enc C.prog fn conds apart laid (w0.forCall (fun _ _ => 0) ⟨#[], args, []⟩).memory args) :
    ∃ (w : World) (tape : Tape) (i : Input), w.os = os ∧ (w.forCall tape i).Shaped C.prog ∧ i.vars = [] ∧ Input.okWide C.prog (w.forCall tape i) .any w.heap.size f i ∧
      s.preRow enc C.prog fn conds apart laid (w.forCall tape i).memory i.args ∧ ({ modest := modest } : Assume).holds C.prog (lone (Frame.enter C.prog f i.args .normal) [] (w.forCall tape i)) :=
  ⟨w0, fun _ _ => 0, ⟨#[], args, []⟩, hos, hsh, (Input.okWide_of_okWideB (base := 0) hok).1, (Input.okWide_of_okWideB hok).2, hrow, by
    simp only [Assume.holds]
    exact ⟨by simp, by simp, fun _ => Modest.zero, by simp, by simp⟩⟩

theorem cell_spot {W : World} {a : Addr} {v : Value} (h : W.cell? a = some v) : a.spot = none ∧ a.off < DoW W a.block := by
  unfold World.cell? at h
  split at h
  · rename_i c t f hc
    cases hs : a.spot with
    | some x => rw [hs] at h; simp at h
    | none =>
      rw [hs] at h
      simp only [Option.isSome_none, Bool.false_eq_true, if_false] at h
      refine ⟨rfl, ?_⟩
      rw [DoW_at hc]
      have := (Array.getElem?_eq_some_iff.1 h).1
      omega
  · cases h
theorem bulk_mem {H : Type} {d : DataW H} : ∀ {l : List (DataW H)}, d ∈ l → Rows.uptoBulk d ≤ Rows.uptoBulkAll l
  | [], h => by cases h
  | x :: l, h => by
    simp only [Rows.uptoBulkAll]
    rcases List.mem_cons.1 h with rfl | h
    · omega
    · have := bulk_mem h; omega
theorem bulk_one {H : Type} (d : DataW H) : 1 ≤ Rows.uptoBulk d := by
  cases d with
  | lit l => cases l <;> simp [Rows.uptoBulk]
  | _ => simp [Rows.uptoBulk]
theorem bulk_len {H : Type} : ∀ (l : List (DataW H)), l.length ≤ Rows.uptoBulkAll l
  | [] => Nat.zero_le _
  | d :: l => by
    have h1 := bulk_one d
    have h2 := bulk_len l
    simp only [Rows.uptoBulkAll, List.length_cons]
    omega
/-- A contract, called from outside, with a struct handed in. -/
theorem calls_sv {P : Program} {f : FuncId} {args : List SV} {vals : List Value} {W : World} {x : Value} (hden : ∀ V, args.map (den V) = vals) (h : FnH P f args ⟨[], []⟩ ⟨W, DoW W⟩ fun r H' m' => leM ⟨W, DoW W⟩ m' ∧ H' = ⟨[], []⟩ ∧ r = .v x) :
    Calls P f ⟨vals⟩ W fun e W' => e = .returned x ∧ Below W.heap.size W W' := by
  have := h ⟨fun _ => 0, fun _ _ => ⟨none, 0, 0⟩⟩ W (DoW W) (DoW_wf W) (Mem.le_refl ⟨W, DoW W⟩ (DoW_wf W)) ⟨fun b hb => (by cases hb), fun b hb => (by cases hb), by simp [blks], by simp⟩
  rw [hden] at this
  refine this.mono ?_
  rintro e w' ⟨r, V', D', H', m', rfl, _, _, _, _, hf, _, _, _, _, _, rfl, rfl⟩
  exact ⟨rfl, hf.os, hf.tape, hf.output, hf.size, fun b hb => (hf.same b hb (by simp [blks])).1⟩
theorem own : ownKnob Tryz.prog.godebug = none := by kernel_rfl
/-- What every row of this seat lists. -/
def laidZ : List (String × DataW Unit) := Rows.astDeeperRow.laid
theorem g1 (W : World) (h : W.ShapedOpen Tryz.prog) : ∃ k, W.cell? ⟨1, 0, none⟩ = some (.int .i64 k) :=
  cell_of_shapedOpen_int (P := Tryz.prog) (g := 1) (t := 3) (zero := #[.int .i64 0]) h (of_decide_eq_true (by kernel_rfl)) (by kernel_rfl) rfl (by kernel_rfl) (by kernel_rfl) (by kernel_rfl)
theorem ops_of {W : World} {rest : List (String × DataW Unit)} (h : laidMet Tryz.prog (("armature/ast.operators", Rows.laid_armature_ast_operators) :: rest) W) :
    ∃ ad c, Rd ⟨W, DoW W⟩ (.pointer (some ⟨0, 0, none⟩)) [.slice (some ad) 19 c] ∧ 19 ≤ c ∧ Rds ⟨W, DoW W⟩ (some ad) 19 1 (strs opsL) := by
  obtain ⟨ps, ⟨g', t', cs, fuel, p, q, hg', ht', hvar, hd, _, _⟩, _⟩ := h
  obtain rfl := Option.some.inj ((show Tryz.prog.globalNamed "armature/ast.operators" = some 0 by kernel_rfl).symm.trans hg')
  obtain rfl := Option.some.inj ((show (Tryz.prog.globals[0]?).map (·.type) = some 51 by kernel_rfl).symm.trans ht')
  have hl : (Rows.laid_armature_ast_operators : DataW Unit) = .slice (opsL.map fun l => .lit (.string l)) [] := rfl
  rw [hl] at hd
  obtain ⟨a, cap, hcs, hcap, hel⟩ := open_row (P := Tryz.prog) (e := 9) (by kernel_rfl) (by kernel_rfl) hd
  have hlen : (opsL.map fun l => (DataW.lit (.string l) : DataW Unit)).length = 19 := rfl
  rw [hlen] at hcs hcap
  have hcell : W.cell? ⟨0, 0, none⟩ = some (.slice (some a) 19 cap) := by
    have := World.var?_cell hg' hvar 0
    rw [Array.eq_one_of_toList hcs] at this
    simpa using this
  have hat : ∀ i (hi : i < 19), W.cell? (a.add i) = some (.string (bs (opsL[i]'hi))) := fun i hi => by
    obtain ⟨v, n, q', hc, hr⟩ := hel i (.lit (.string (opsL[i]'hi))) (by rw [List.getElem?_map, List.getElem?_eq_getElem (by exact hi)]; rfl)
    obtain ⟨s, e1, e2, _⟩ := DataW.trod_string (show Tryz.prog.underlying 9 = some .string by kernel_rfl) hr
    have e3 : v = .string s := by simpa using e1
    have e4 : s.data.toList = opsL[i]'hi := by simpa using (congrArg Prod.fst e2).symm
    rw [hc, e3, ← e4]
    rfl
  have hspot : a.spot = none := by
    have := (cell_spot (hat 0 (by decide))).1
    simpa [Addr.add] using this
  refine ⟨a, cap, ⟨⟨0, 0, none⟩, rfl, rfl, fun j hj => ?_⟩, hcap, rfl, fun _ => ⟨a, rfl, hspot, fun j hj => ?_⟩⟩
  · have : j = 0 := by simpa using hj
    subst this
    exact ⟨hcell, (cell_spot hcell).2⟩
  · have hj : j < 19 := by omega
    have h1 := hat j hj
    obtain ⟨p1, p2, _⟩ := add_parts a j hspot
    have h2 := (cell_spot h1).2
    rw [p1, p2] at h2
    refine ⟨?_, h2⟩
    rw [strs, List.getElem?_map, List.getElem?_eq_getElem (by exact hj)]
    exact h1
theorem glob_of {W : World} (hL : laidMetH Tryz.prog laidZ W) (hs : W.ShapedOpen Tryz.prog) : Glob ⟨W, DoW W⟩ := by
  rw [MakeChecks.laidMetH_plain _ _ _ (by kernel_rfl)] at hL
  have h3 := hL.tail.tail
  have ht := Lib.tabIs_of_head (P := Tryz.prog) (zs := Lib.pow10Tab) (g := 4) (t := 193) (e := 182) (n := 20) (by kernel_rfl) (by kernel_rfl) (by kernel_rfl) (by kernel_rfl) (by kernel_rfl) (by kernel_rfl) h3
  obtain ⟨k, hk⟩ := g1 W hs
  exact ⟨fun w D hle => ⟨⟨k, DoW_cell hle hk⟩, DoW_var hle ht⟩, ops_of h3.tail.tail⟩
end Go.Proofs.YtalalcpefggniaaGreatDoor.E

/- ast: an expression that came in. -/
set_option linter.unusedSimpArgs false
set_option linter.unusedVariables false
namespace Go.Proofs.YtalalcpefggniaaGreatDoor.E
open Go Go.ChangeShapes Go.WideShapes Go.ChangeAt Go.RowKit

theorem list_ofA {α : Type} {p : Nat → α → Prop} : ∀ (n : Nat), (∀ i, i < n → ∃ t, p i t) → ∃ ts : List α, ts.length = n ∧ ∀ i (hi : i < ts.length), p i ts[i]
  | 0, _ => ⟨[], rfl, fun i hi => absurd hi (Nat.not_lt_zero _)⟩
  | n + 1, h => by
    obtain ⟨ts, h1, h2⟩ := list_ofA n fun i hi => h i (by omega)
    obtain ⟨t, ht⟩ := h n (Nat.lt_succ_self _)
    refine ⟨ts ++ [t], by simp [h1], fun i hi => ?_⟩
    rcases Nat.lt_or_ge i ts.length with h3 | h3
    · rw [List.getElem_append_left h3]; exact h2 i h3
    · have : i = n := by rw [List.length_append, List.length_singleton] at hi; omega
      subst this
      rw [List.getElem_append_right h3]
      simpa using ht
/-- Rows of cells, read one by one. -/
theorem rows_of {α : Type} {W : World} {a : Addr} {len sz : Nat} (hsz : 0 < sz) {p : Nat → α → List Value → Prop} (h : ∀ i, i < len → ∃ (x : α) (cs : List Value), cs.length = sz ∧ (∀ j, j < sz → W.cell? (a.add (i * sz + j)) = cs[j]?) ∧ p i x cs) :
    ∃ (l : List α) (xs : List Value), l.length = len ∧ Rds ⟨W, DoW W⟩ (some a) len sz xs ∧ ∀ i (hi : i < l.length), p i l[i] ((xs.drop (i * sz)).take sz) := by
  obtain ⟨ts, hl, hp⟩ := list_ofA (α := α × { cs : List Value // cs.length = sz }) (p := fun i x => (∀ j, j < sz → W.cell? (a.add (i * sz + j)) = x.2.1[j]?) ∧ p i x.1 x.2.1) len fun i hi => by
    obtain ⟨x, cs, h1, h2, h3⟩ := h i hi
    exact ⟨⟨x, cs, h1⟩, h2, h3⟩
  have hfa : ∀ {i : Nat} (hi : i < ts.length), ((flat (fun x => x.2.1) ts).drop (i * sz)).take sz = ts[i].2.1 := fun hi => flat_at (fun x => x.2.2) hi
  have hfl : ∀ (l : List (α × { cs : List Value // cs.length = sz })), (flat (fun x => x.2.1) l).length = l.length * sz := fun l => by
    induction l with
    | nil => simp [flat]
    | cons x r ih =>
      simp only [flat, List.map_cons, List.flatten_cons, List.length_append, List.length_cons, Nat.succ_mul] at ih ⊢
      rw [ih, x.2.2]; omega
  refine ⟨ts.map (·.1), flat (fun x => x.2.1) ts, by simp [hl], ⟨by rw [hfl, hl], fun h0 => ⟨a, rfl, ?_, fun j hj => ?_⟩⟩, fun i hi => ?_⟩
  · have h1 := (hp 0 (by omega)).1 0 hsz
    have h2 : (ts[0]'(by omega)).2.1[0]? = some ((ts[0]'(by omega)).2.1[0]'(by rw [(ts[0]'(by omega)).2.2]; exact hsz)) := List.getElem?_eq_getElem _
    rw [h2] at h1
    have := (cell_spot h1).1
    simpa [Addr.add] using this
  · have hq : j / sz < ts.length := by rw [hl]; exact Nat.div_lt_of_lt_mul (by rw [Nat.mul_comm]; exact hj)
    have hr : j % sz < sz := Nat.mod_lt _ hsz
    have hj' : j / sz * sz + j % sz = j := Nat.div_add_mod' j sz
    have h1 := (hp (j / sz) hq).1 (j % sz) hr
    rw [hj'] at h1
    have h2 : (flat (fun x => x.2.1) ts)[j]? = (ts[j / sz]'hq).2.1[j % sz]? := by
      rw [← hfa hq, List.getElem?_take, if_pos hr, List.getElem?_drop, hj']
    have h3 : (ts[j / sz]'hq).2.1[j % sz]? = some ((ts[j / sz]'hq).2.1[j % sz]'(by rw [(ts[j / sz]'hq).2.2]; exact hr)) := List.getElem?_eq_getElem _
    refine ⟨by rw [h2]; exact h1, ?_⟩
    rw [h3] at h1
    have h4 := cell_spot h1
    have h0' := (hp 0 (by omega)).1 0 hsz
    have h5 : (ts[0]'(by omega)).2.1[0]? = some ((ts[0]'(by omega)).2.1[0]'(by rw [(ts[0]'(by omega)).2.2]; exact hsz)) := List.getElem?_eq_getElem _
    rw [h5] at h0'
    have hs : a.spot = none := by
      have := (cell_spot h0').1
      simpa [Addr.add] using this
    obtain ⟨p1, p2, _⟩ := add_parts a j hs
    rw [p1, p2] at h4
    exact h4.2
  · have hi' : i < ts.length := by simpa using hi
    rw [hfa hi']
    simpa using (hp i hi').2
theorem exs_of_at {m : Mem} : ∀ (l : List Ex) (xs : List Value), (∀ i (hi : i < l.length), exRep m l[i] ((xs.drop (i * 8)).take 8)) → exsRep m l xs
  | [], _, _ => by simp only [exsRep]
  | e :: r, xs, h => by
    simp only [exsRep]
    have h0 := h 0 (by simp)
    rw [Nat.zero_mul, List.drop_zero, List.getElem_cons_zero] at h0
    refine ⟨h0, exs_of_at r (xs.drop 8) fun i hi => ?_⟩
    have := h (i + 1) (by simpa using hi)
    rw [List.getElem_cons_succ] at this
    rw [List.drop_drop, show 8 + i * 8 = (i + 1) * 8 by omega]
    exact this
theorem size_bulk {H : Type} : ∀ (l : List Ex) (ds : List (DataW H)), l.length = ds.length → (∀ i (h : i < l.length) (h' : i < ds.length), sizeE l[i] ≤ Rows.uptoBulk ds[i]) → sizeL l ≤ Rows.uptoBulkAll ds
  | [], _, _, _ => by simp [sizeL]
  | e :: r, [], h, _ => by simp at h
  | e :: r, d :: ds, h, hp => by
    have h1 := hp 0 (by simp) (by simp)
    have h2 := size_bulk r ds (by simpa using h) fun i h3 h4 => by
      have := hp (i + 1) (by simpa using h3) (by simpa using h4)
      simp only [List.getElem_cons_succ] at this
      exact this
    simp only [sizeL, Rows.uptoBulkAll]
    simp only [List.getElem_cons_zero] at h1
    omega
mutual
theorem depth_size : ∀ (e : Ex), depthE e ≤ sizeE e
  | .mk _ _ _ _ _ args => by
    have := depthL_size args
    simp only [depthE, sizeE]; omega
theorem depthL_size : ∀ (l : List Ex), depthL l ≤ sizeL l
  | [] => by simp [depthL]
  | e :: r => by
    have h1 := depth_size e
    have h2 := depthL_size r
    simp only [depthL, sizeL]; omega
end
theorem len_sizeL : ∀ (l : List Ex), l.length ≤ sizeL l
  | [] => Nat.zero_le _
  | .mk _ _ _ _ _ args :: r => by
    have := len_sizeL r
    simp only [List.length_cons, sizeL, sizeE]; omega
section
variable {H : Type} {enc : TypeId × Value → H} {W : World}
theorem i64_of {z : Int} (w : (Lit.int .i64 z).wf = true) : I64 z := by
  have h : decide (IntKind.min .i64 ≤ z) = true ∧ decide (z ≤ IntKind.max .i64) = true := Bool.and_eq_true_iff.1 w
  exact ⟨of_decide_eq_true h.1, of_decide_eq_true h.2⟩
set_option maxRecDepth 100000 in
theorem open_ty {fuel : Nat} {cs : List Value} {d : DataW H} {p : List MemPlace} (h : DataW.trod enc Tryz.prog W 0 (fun _ => true) true fuel 29 cs = some (d, p)) : ∃ t : Ty, cs = tyC t ∧ I64 t.dim ∧ (0 ≤ t.base ∧ t.base < 256) ∧ t.name.length ≤ Rows.uptoBulk d := by
  obtain ⟨ys, n', _, hy, hlen, hyl, hf⟩ := DataW.trod_struct Tryz.underlying29 h
  have hC : Tryz.prog.cellsOf 29 = 3 := by kernel_rfl
  have k3 : Tryz.prog.cellsOf 3 = 1 := by kernel_rfl
  have k5 : Tryz.prog.cellsOf 5 = 1 := by kernel_rfl
  have k9 : Tryz.prog.cellsOf 9 = 1 := by kernel_rfl
  rw [hC] at hlen
  match cs, hlen with
  | [c0, c1, c2], _ =>
    match ys, hyl with
    | [y0, y1, y2], _ =>
      have f0 : DataW.trod enc Tryz.prog W 0 (fun _ => true) true n' 3 [c0] = some y0 := by have this : DataW.trod enc Tryz.prog W 0 (fun _ => true) true n' 3 (([c0, c1, c2].drop 0).take (Tryz.prog.cellsOf 3)) = some y0 := hf 0 _ rfl; rw [k3] at this; exact this
      have f1 : DataW.trod enc Tryz.prog W 0 (fun _ => true) true n' 5 [c1] = some y1 := by have this : DataW.trod enc Tryz.prog W 0 (fun _ => true) true n' 5 (([c0, c1, c2].drop 1).take (Tryz.prog.cellsOf 5)) = some y1 := hf 1 _ rfl; rw [k5] at this; exact this
      have f2 : DataW.trod enc Tryz.prog W 0 (fun _ => true) true n' 9 [c2] = some y2 := by have this : DataW.trod enc Tryz.prog W 0 (fun _ => true) true n' 9 (([c0, c1, c2].drop 2).take (Tryz.prog.cellsOf 9)) = some y2 := hf 2 _ rfl; rw [k9] at this; exact this
      obtain ⟨z0, e0, _, w0⟩ := DataW.trod_int Tryz.underlying3 f0
      obtain ⟨z1, e1, _, w1⟩ := DataW.trod_int Tryz.underlying5 f1
      obtain ⟨s, e2, x2, _⟩ := DataW.trod_string Tryz.underlying9 f2
      cases e0; cases e1; cases e2
      refine ⟨⟨z0, z1, tl s⟩, by simp only [tyC, bs_tl], i64_of w0, ?_, ?_⟩
      · have h : decide (IntKind.min .u8 ≤ z1) = true ∧ decide (z1 ≤ IntKind.max .u8) = true := Bool.and_eq_true_iff.1 w1
        have h1 : IntKind.min .u8 ≤ z1 := of_decide_eq_true h.1
        have h2 : z1 ≤ IntKind.max .u8 := of_decide_eq_true h.2
        have h3 : IntKind.min .u8 = 0 := by decide
        have h4 : IntKind.max .u8 = 255 := by decide
        simp only
        omega
      · have hD : d = .agg [y0.1, y1.1, y2.1] := (Prod.mk.inj hy).1
        have h2 : Rows.uptoBulk d = Rows.uptoBulk y0.1 + (Rows.uptoBulk y1.1 + (Rows.uptoBulk y2.1 + 0)) + 1 := by rw [hD]; rfl
        have h3 : Rows.uptoBulk y2.1 = s.data.toList.length + 1 := by rw [x2]; rfl
        show (tl s).length ≤ _
        have e : (tl s).length = s.data.toList.length := rfl
        omega
set_option maxHeartbeats 1000000 in
set_option maxRecDepth 100000 in
/-- An expression's cells that came in. -/
theorem open_ex : ∀ (B : Nat) (fuel : Nat) (cs : List Value) (d : DataW H) (p : List MemPlace), DataW.trod enc Tryz.prog W 0 (fun _ => true) true fuel 32 cs = some (d, p) → Rows.uptoBulk d ≤ B → B ≤ 1048576 → ∃ e : Ex, exRep ⟨W, DoW W⟩ e cs ∧ sizeE e ≤ Rows.uptoBulk d := by
  intro B
  induction B with
  | zero => intro fuel cs d p _ hB _; have := bulk_one d; omega
  | succ B ih =>
    intro fuel cs d p h hB hb
    obtain ⟨ys, n', _, hy, hlen, hyl, hf⟩ := DataW.trod_struct Tryz.underlying32 h
    have hC : Tryz.prog.cellsOf 32 = 8 := by kernel_rfl
    have kT : Tryz.prog.cellsOf 29 = 3 := by kernel_rfl
    have kL : Tryz.prog.cellsOf 30 = 1 := by kernel_rfl
    have k3 : Tryz.prog.cellsOf 3 = 1 := by kernel_rfl
    have k9 : Tryz.prog.cellsOf 9 = 1 := by kernel_rfl
    rw [hC] at hlen
    match cs, hlen with
    | [c0, c1, c2, c3, c4, c5, c6, c7], _ =>
      match ys, hyl with
      | [y0, y1, y2, y3, y4, y5], _ =>
        have f0 : DataW.trod enc Tryz.prog W 0 (fun _ => true) true n' 3 [c0] = some y0 := by have this : DataW.trod enc Tryz.prog W 0 (fun _ => true) true n' 3 (([c0, c1, c2, c3, c4, c5, c6, c7].drop 0).take (Tryz.prog.cellsOf 3)) = some y0 := hf 0 _ rfl; rw [k3] at this; exact this
        have f1 : DataW.trod enc Tryz.prog W 0 (fun _ => true) true n' 3 [c1] = some y1 := by have this : DataW.trod enc Tryz.prog W 0 (fun _ => true) true n' 3 (([c0, c1, c2, c3, c4, c5, c6, c7].drop 1).take (Tryz.prog.cellsOf 3)) = some y1 := hf 1 _ rfl; rw [k3] at this; exact this
        have f2 : DataW.trod enc Tryz.prog W 0 (fun _ => true) true n' 9 [c2] = some y2 := by have this : DataW.trod enc Tryz.prog W 0 (fun _ => true) true n' 9 (([c0, c1, c2, c3, c4, c5, c6, c7].drop 2).take (Tryz.prog.cellsOf 9)) = some y2 := hf 2 _ rfl; rw [k9] at this; exact this
        have f3 : DataW.trod enc Tryz.prog W 0 (fun _ => true) true n' 9 [c3] = some y3 := by have this : DataW.trod enc Tryz.prog W 0 (fun _ => true) true n' 9 (([c0, c1, c2, c3, c4, c5, c6, c7].drop 3).take (Tryz.prog.cellsOf 9)) = some y3 := hf 3 _ rfl; rw [k9] at this; exact this
        have f4 : DataW.trod enc Tryz.prog W 0 (fun _ => true) true n' 29 [c4, c5, c6] = some y4 := by have this : DataW.trod enc Tryz.prog W 0 (fun _ => true) true n' 29 (([c0, c1, c2, c3, c4, c5, c6, c7].drop 4).take (Tryz.prog.cellsOf 29)) = some y4 := hf 4 _ rfl; rw [kT] at this; exact this
        have f5 : DataW.trod enc Tryz.prog W 0 (fun _ => true) true n' 30 [c7] = some y5 := by have this : DataW.trod enc Tryz.prog W 0 (fun _ => true) true n' 30 (([c0, c1, c2, c3, c4, c5, c6, c7].drop 7).take (Tryz.prog.cellsOf 30)) = some y5 := hf 5 _ rfl; rw [kL] at this; exact this
        obtain ⟨z0, e0, _, w0⟩ := DataW.trod_int Tryz.underlying3 f0
        obtain ⟨z1, e1, _, w1⟩ := DataW.trod_int Tryz.underlying3 f1
        obtain ⟨s2, e2, x2, _⟩ := DataW.trod_string Tryz.underlying9 f2
        obtain ⟨s3, e3, x3, _⟩ := DataW.trod_string Tryz.underlying9 f3
        obtain ⟨ty, e4, t1, t2, t3⟩ := open_ty (d := y4.1) (p := y4.2) f4
        have hD : d = .agg [y0.1, y1.1, y2.1, y3.1, y4.1, y5.1] := (Prod.mk.inj hy).1
        have hbd : Rows.uptoBulk d = Rows.uptoBulk y0.1 + (Rows.uptoBulk y1.1 + (Rows.uptoBulk y2.1 + (Rows.uptoBulk y3.1 + (Rows.uptoBulk y4.1 + (Rows.uptoBulk y5.1 + 0))))) + 1 := by rw [hD]; rfl
        have b2 : Rows.uptoBulk y2.1 = s2.data.toList.length + 1 := by rw [x2]; rfl
        have b3 : Rows.uptoBulk y3.1 = s3.data.toList.length + 1 := by rw [x3]; rfl
        have l2 : (tl s2).length = s2.data.toList.length := rfl
        have l3 : (tl s3).length = s3.data.toList.length := rfl
        simp only [tyC, List.cons.injEq, and_true] at e4
        obtain ⟨rfl, rfl, rfl⟩ := e4
        cases e0; cases e1; cases e2; cases e3
        have hok : ∀ l : Nat, l ≤ big → ExOk z0 z1 (tl s2) (tl s3) ty l := fun l hl => ⟨i64_of w0, i64_of w1, by simp only [big]; omega, by simp only [big]; omega, ⟨t1, t2, by simp only [big]; omega⟩, hl⟩
        have hcs : ∀ c7, [Value.int .i64 z0, .int .i64 z1, .string s2, .string s3, .int .i64 ty.dim, .int .u8 ty.base, .string (bs ty.name), c7] = exC z0 z1 (tl s2) (tl s3) ty c7 := fun c7 => by simp only [exC, bs_tl]
        rcases Deep.open_slice Tryz.underlying30 f5 with ⟨hc, hx⟩ | ⟨a, len, cap, m, n, D, Pl, hcs7, _, hl, hm, hmm, hx, hi⟩
        · have hc7 : c7 = .slice none 0 0 := by simpa using hc
          subst hc7
          refine ⟨.mk z0 z1 (tl s2) (tl s3) ty [], ?_, by simp only [sizeE, sizeL]; omega⟩
          rw [hcs]
          exact ex_mk (args := []) (Nat.le_refl _) Rds_nil (hok _ (Nat.zero_le _)) exs_nil
        · have hc7 : c7 = .slice (some a) len cap := by simpa using hcs7
          have hm2 : m = cap := by simpa using hmm
          subst hc7
          have hd5 : y5.1 = .slice (List.map D (List.range len)) (List.map (fun j => D (len + j)) (List.range (m - len))) := (Prod.mk.inj hx).1
          have hb5 : Rows.uptoBulk y5.1 = Rows.uptoBulkAll (List.map D (List.range len)) + Rows.uptoBulkAll (List.map (fun j => D (len + j)) (List.range (m - len))) + 1 := by rw [hd5]; rfl
          obtain ⟨l, xs, hll, hr, hp⟩ := rows_of (W := W) (a := a) (len := len) (sz := 8) (by decide) (p := fun i (x : Ex) cs => exRep ⟨W, DoW W⟩ x cs ∧ sizeE x ≤ Rows.uptoBulk (D i)) fun i hil => by
            obtain ⟨cs', hc, ht'⟩ := hi i (by omega)
            rw [hC] at hc
            obtain ⟨_, hcl, hat⟩ := World.cells?_some hc
            have hmem : D i ∈ List.map D (List.range len) := List.mem_map.2 ⟨i, List.mem_range.2 hil, rfl⟩
            have hbi := bulk_mem hmem
            obtain ⟨e, he, hs⟩ := ih n cs' (D i) (Pl i) ht' (by omega) (by omega)
            exact ⟨e, cs', hcl, fun j hj => by rw [← Deep.add_add]; exact hat j hj, he, hs⟩
          have hsz := size_bulk l (List.map D (List.range len)) (by simp [hll]) fun i h1 h2 => by simpa using (hp i h1).2
          have hln := len_sizeL l
          subst hll
          refine ⟨.mk z0 z1 (tl s2) (tl s3) ty l, ?_, by simp only [sizeE]; omega⟩
          rw [hcs]
          exact ex_mk hl hr (hok _ (by simp only [big]; omega)) (exs_of_at l xs fun i hi => (hp i hi).1)
set_option maxRecDepth 100000 in
/-- An expression that came in. -/
theorem open_expr {v : Value} {d : DataW H} {p : List MemPlace} {r : Reach} {b0 : Nat} (hval : Value.okWide Tryz.prog W r b0 32 v) (h : DataW.Trod enc Tryz.prog W 0 (fun _ => true) true 32 v d p) (hb : Rows.uptoBulk d ≤ 1048576) :
    ∃ (e : Ex) (cs : List Value), v = .agg ⟨cs⟩ ∧ exRep ⟨W, DoW W⟩ e cs ∧ sizeE e ≤ 1048576 := by
  obtain ⟨⟨cs'⟩, rfl, hsz⟩ := okWide_struct Tryz.underlying32 hval
  obtain ⟨fuel, h⟩ := h
  obtain ⟨e, h1, h2⟩ := open_ex (Rows.uptoBulk d) fuel cs' d p h (Nat.le_refl _) hb
  exact ⟨e, cs', rfl, h1, Nat.le_trans h2 hb⟩
end
end Go.Proofs.YtalalcpefggniaaGreatDoor.E

/- ast: a program that came in (by genCardP.py). -/
set_option linter.unusedSimpArgs false
set_option linter.unusedVariables false
namespace Go.Proofs.YtalalcpefggniaaGreatDoor.E
open Go Go.ChangeShapes Go.WideShapes Go.ChangeAt Go.RowKit

theorem flat_of {α : Type} {f : α → List Value} {sz : Nat} (hf : ∀ x, (f x).length = sz) : ∀ (l : List α) (xs : List Value), xs.length = l.length * sz → (∀ i (hi : i < l.length), (xs.drop (i * sz)).take sz = f l[i]) → xs = flat f l
  | [], xs, h, _ => by
    have : xs = [] := List.length_eq_zero_iff.1 (by simpa using h)
    subst this; rfl
  | x :: r, xs, h, hp => by
    have h0 := hp 0 (by simp)
    rw [Nat.zero_mul, List.drop_zero, List.getElem_cons_zero] at h0
    have hl : (xs.drop sz).length = r.length * sz := by
      rw [List.length_drop, h, List.length_cons, Nat.succ_mul]; omega
    have hr := flat_of hf r (xs.drop sz) hl fun i hi => by
      have := hp (i + 1) (by simpa using hi)
      rw [List.getElem_cons_succ] at this
      rw [List.drop_drop, ← this, Nat.succ_mul, Nat.add_comm]
    have e : flat f (x :: r) = f x ++ flat f r := rfl
    rw [e, ← h0, ← hr, List.take_append_drop]
theorem flat_strs : ∀ l : List (List UInt8), flat (fun s => [.string (bs s)]) l = strs l
  | [] => rfl
  | a :: r => by
    have h := flat_strs r
    simp only [flat, strs, List.map_cons, List.flatten_cons, List.cons_append, List.nil_append] at h ⊢
    rw [h]
theorem ls_of_at {α : Type} {R : α → List Value → Prop} {sz : Nat} : ∀ (l : List α) (xs : List Value), (∀ i (hi : i < l.length), R l[i] ((xs.drop (i * sz)).take sz)) → lsRep R sz l xs
  | [], _, _ => trivial
  | x :: r, xs, h => by
    have h0 := h 0 (by simp)
    rw [Nat.zero_mul, List.drop_zero, List.getElem_cons_zero] at h0
    refine ⟨h0, ls_of_at r (xs.drop sz) fun i hi => ?_⟩
    have := h (i + 1) (by simpa using hi)
    rw [List.getElem_cons_succ] at this
    rw [List.drop_drop, show sz + i * sz = (i + 1) * sz by rw [Nat.succ_mul, Nat.add_comm]]
    exact this
theorem sts_of_at {m : Mem} : ∀ (l : List St) (xs : List Value), (∀ i (hi : i < l.length), stRep m l[i] ((xs.drop (i * 23)).take 23)) → stsRep m l xs
  | [], _, _ => by simp only [stsRep]
  | x :: r, xs, h => by
    simp only [stsRep]
    have h0 := h 0 (by simp)
    rw [Nat.zero_mul, List.drop_zero, List.getElem_cons_zero] at h0
    refine ⟨h0, sts_of_at r (xs.drop 23) fun i hi => ?_⟩
    have := h (i + 1) (by simpa using hi)
    rw [List.getElem_cons_succ] at this
    rw [List.drop_drop, show 23 + i * 23 = (i + 1) * 23 by omega]
    exact this
theorem sum_bulk {H : Type} {α : Type} {size : α → Nat} : ∀ (l : List α) (ds : List (DataW H)), l.length = ds.length → (∀ i (h : i < l.length) (h' : i < ds.length), size l[i] ≤ Rows.uptoBulk ds[i]) → (l.map size).sum ≤ Rows.uptoBulkAll ds
  | [], _, _, _ => by simp
  | e :: r, [], h, _ => by simp at h
  | e :: r, d :: ds, h, hp => by
    have h1 := hp 0 (by simp) (by simp)
    have h2 := sum_bulk (size := size) r ds (by simpa using h) fun i h3 h4 => by
      have := hp (i + 1) (by simpa using h3) (by simpa using h4)
      simp only [List.getElem_cons_succ] at this
      exact this
    simp only [List.map_cons, List.sum_cons, Rows.uptoBulkAll]
    simp only [List.getElem_cons_zero] at h1
    omega
theorem sum_sizeSs : ∀ (l : List St), (l.map sizeS).sum = sizeSs l
  | [] => rfl
  | e :: r => by simp only [List.map_cons, List.sum_cons, sizeSs, sum_sizeSs r]
section
variable {H : Type} {enc : TypeId × Value → H} {W : World}
/-- A slice that came in, element by element. -/
theorem open_rows {α : Type} {t e : TypeId} {sz : Nat} (ht : Tryz.prog.underlying t = some (.slice e)) (hC : Tryz.prog.cellsOf e = sz) (hsz : 0 < sz) (R : α → List Value → Prop) (size : α → Nat) {fuel : Nat} {c : Value} {d : DataW H} {p : List MemPlace}
    (h : DataW.trod enc Tryz.prog W 0 (fun _ => true) true fuel t [c] = some (d, p)) (ih : ∀ n cs' D Pl, DataW.trod enc Tryz.prog W 0 (fun _ => true) true n e cs' = some (D, Pl) → Rows.uptoBulk D < Rows.uptoBulk d → ∃ x, R x cs' ∧ size x ≤ Rows.uptoBulk D) :
    ∃ (l : List α) (a : Option Addr) (n cp : Nat) (xs : List Value), c = .slice a n cp ∧ n = l.length ∧ n ≤ cp ∧ Rds ⟨W, DoW W⟩ a n sz xs ∧ (∀ i (hi : i < l.length), R l[i] ((xs.drop (i * sz)).take sz)) ∧ (l.map size).sum + 1 ≤ Rows.uptoBulk d ∧ l.length + 1 ≤ Rows.uptoBulk d := by
  rcases Deep.open_slice ht h with ⟨hc, hx⟩ | ⟨a, len, cap, m, n, D, Pl, hcs7, _, hl, hm, hmm, hx, hi⟩
  · have hc7 : c = .slice none 0 0 := by simpa using hc
    have := bulk_one d
    exact ⟨[], none, 0, 0, [], hc7, rfl, Nat.le_refl _, Rds_nil, fun i hi => absurd hi (Nat.not_lt_zero _), by simpa using this, by simpa using this⟩
  · have hc7 : c = .slice (some a) len cap := by simpa using hcs7
    have hm2 : m = cap := by simpa using hmm
    have hd5 : d = .slice (List.map D (List.range len)) (List.map (fun j => D (len + j)) (List.range (m - len))) := (Prod.mk.inj hx).1
    have hb5 : Rows.uptoBulk d = Rows.uptoBulkAll (List.map D (List.range len)) + Rows.uptoBulkAll (List.map (fun j => D (len + j)) (List.range (m - len))) + 1 := by rw [hd5]; rfl
    obtain ⟨l, xs, hll, hr, hp⟩ := rows_of (W := W) (a := a) (len := len) (sz := sz) hsz (p := fun i (x : α) cs => R x cs ∧ size x ≤ Rows.uptoBulk (D i)) fun i hil => by
      obtain ⟨cs', hc, ht'⟩ := hi i (by omega)
      rw [hC] at hc
      obtain ⟨_, hcl, hat⟩ := World.cells?_some hc
      have hmem : D i ∈ List.map D (List.range len) := List.mem_map.2 ⟨i, List.mem_range.2 hil, rfl⟩
      have hbi := bulk_mem hmem
      obtain ⟨e, he, hs⟩ := ih n cs' (D i) (Pl i) ht' (by omega)
      exact ⟨e, cs', hcl, fun j hj => by rw [← Deep.add_add]; exact hat j hj, he, hs⟩
    have hsz2 := sum_bulk (size := size) l (List.map D (List.range len)) (by simp [hll]) fun i h1 h2 => by simpa using (hp i h1).2
    have hlen := bulk_len (List.map D (List.range len))
    rw [List.length_map, List.length_range] at hlen
    exact ⟨l, some a, len, cap, xs, hc7, hll.symm, hl, hr, fun i hi => (hp i hi).1, by omega, by omega⟩

set_option maxRecDepth 100000 in
theorem open_pc {fuel : Nat} {cs : List Value} {d : DataW H} {p : List MemPlace} (h : DataW.trod enc Tryz.prog W 0 (fun _ => true) true fuel 140 cs = some (d, p)) (hb : Rows.uptoBulk d ≤ 1048576) : ∃ f : Pc, cs = f.cs ∧ PcOk f := by
  obtain ⟨ys, n', _, hy, hlen, hyl, hf⟩ := DataW.trod_struct Tryz.underlying140 h
  rw [show Tryz.prog.cellsOf 140 = 4 by kernel_rfl] at hlen
  match cs, hlen with
  | [c0, c1, c2, c3], _ =>
  match ys, hyl with
  | [y0, y1], _ =>
    have f0 : DataW.trod enc Tryz.prog W 0 (fun _ => true) true n' 29 [c0, c1, c2] = some y0 := by have this : DataW.trod enc Tryz.prog W 0 (fun _ => true) true n' 29 (([c0, c1, c2, c3].drop 0).take (Tryz.prog.cellsOf 29)) = some y0 := hf 0 _ rfl; rw [show Tryz.prog.cellsOf 29 = 3 by kernel_rfl] at this; exact this
    have f1 : DataW.trod enc Tryz.prog W 0 (fun _ => true) true n' 9 [c3] = some y1 := by have this : DataW.trod enc Tryz.prog W 0 (fun _ => true) true n' 9 (([c0, c1, c2, c3].drop 3).take (Tryz.prog.cellsOf 9)) = some y1 := hf 1 _ rfl; rw [show Tryz.prog.cellsOf 9 = 1 by kernel_rfl] at this; exact this
    have hD : d = .agg [y0.1, y1.1] := (Prod.mk.inj hy).1
    have hbd : Rows.uptoBulk d = Rows.uptoBulk y0.1 + (Rows.uptoBulk y1.1 + 0) + 1 := by rw [hD]; rfl
    obtain ⟨ty0, e0, t0a, t0b, t0c⟩ := open_ty (d := y0.1) (p := y0.2) f0
    simp only [tyC, List.cons.injEq, and_true] at e0
    obtain ⟨rfl, rfl, rfl⟩ := e0
    obtain ⟨s1, e1, x1, _⟩ := DataW.trod_string Tryz.underlying9 f1
    cases e1
    have b1 : Rows.uptoBulk y1.1 = s1.data.toList.length + 1 := by rw [x1]; rfl
    have l1 : (tl s1).length = s1.data.toList.length := rfl
    exact ⟨⟨ty0, tl s1⟩, by simp only [Pc.cs, bs_tl], ⟨⟨t0a, t0b, by simp only [big]; omega⟩, by simp only [big]; omega⟩⟩
set_option maxRecDepth 100000 in
theorem open_fc {fuel : Nat} {cs : List Value} {d : DataW H} {p : List MemPlace} (h : DataW.trod enc Tryz.prog W 0 (fun _ => true) true fuel 85 cs = some (d, p)) (hb : Rows.uptoBulk d ≤ 1048576) : ∃ f : Fc, cs = f.cs ∧ FcOk f := by
  obtain ⟨ys, n', _, hy, hlen, hyl, hf⟩ := DataW.trod_struct Tryz.underlying85 h
  rw [show Tryz.prog.cellsOf 85 = 5 by kernel_rfl] at hlen
  match cs, hlen with
  | [c0, c1, c2, c3, c4], _ =>
  match ys, hyl with
  | [y0, y1, y2], _ =>
    have f0 : DataW.trod enc Tryz.prog W 0 (fun _ => true) true n' 3 [c0] = some y0 := by have this : DataW.trod enc Tryz.prog W 0 (fun _ => true) true n' 3 (([c0, c1, c2, c3, c4].drop 0).take (Tryz.prog.cellsOf 3)) = some y0 := hf 0 _ rfl; rw [show Tryz.prog.cellsOf 3 = 1 by kernel_rfl] at this; exact this
    have f1 : DataW.trod enc Tryz.prog W 0 (fun _ => true) true n' 29 [c1, c2, c3] = some y1 := by have this : DataW.trod enc Tryz.prog W 0 (fun _ => true) true n' 29 (([c0, c1, c2, c3, c4].drop 1).take (Tryz.prog.cellsOf 29)) = some y1 := hf 1 _ rfl; rw [show Tryz.prog.cellsOf 29 = 3 by kernel_rfl] at this; exact this
    have f2 : DataW.trod enc Tryz.prog W 0 (fun _ => true) true n' 9 [c4] = some y2 := by have this : DataW.trod enc Tryz.prog W 0 (fun _ => true) true n' 9 (([c0, c1, c2, c3, c4].drop 4).take (Tryz.prog.cellsOf 9)) = some y2 := hf 2 _ rfl; rw [show Tryz.prog.cellsOf 9 = 1 by kernel_rfl] at this; exact this
    have hD : d = .agg [y0.1, y1.1, y2.1] := (Prod.mk.inj hy).1
    have hbd : Rows.uptoBulk d = Rows.uptoBulk y0.1 + (Rows.uptoBulk y1.1 + (Rows.uptoBulk y2.1 + 0)) + 1 := by rw [hD]; rfl
    obtain ⟨z0, e0, _, w0⟩ := DataW.trod_int Tryz.underlying3 f0
    cases e0
    obtain ⟨ty1, e1, t1a, t1b, t1c⟩ := open_ty (d := y1.1) (p := y1.2) f1
    simp only [tyC, List.cons.injEq, and_true] at e1
    obtain ⟨rfl, rfl, rfl⟩ := e1
    obtain ⟨s2, e2, x2, _⟩ := DataW.trod_string Tryz.underlying9 f2
    cases e2
    have b2 : Rows.uptoBulk y2.1 = s2.data.toList.length + 1 := by rw [x2]; rfl
    have l2 : (tl s2).length = s2.data.toList.length := rfl
    exact ⟨⟨z0, ty1, tl s2⟩, by simp only [Fc.cs, bs_tl], ⟨i64_of w0, ⟨t1a, t1b, by simp only [big]; omega⟩, by simp only [big]; omega⟩⟩
set_option maxHeartbeats 2000000 in
set_option maxRecDepth 100000 in
theorem open_st : ∀ (B : Nat) (fuel : Nat) (cs : List Value) (d : DataW H) (p : List MemPlace), DataW.trod enc Tryz.prog W 0 (fun _ => true) true fuel 35 cs = some (d, p) → Rows.uptoBulk d ≤ B → B ≤ 1048576 → ∃ e : St, stRep ⟨W, DoW W⟩ e cs ∧ sizeS e ≤ Rows.uptoBulk d := by
  intro B
  induction B with
  | zero => intro fuel cs d p _ hB _; have := bulk_one d; omega
  | succ B ih =>
    intro fuel cs d p h hB hb
    obtain ⟨ys, n', _, hy, hlen, hyl, hf⟩ := DataW.trod_struct Tryz.underlying35 h
    rw [show Tryz.prog.cellsOf 35 = 23 by kernel_rfl] at hlen
    match cs, hlen with
    | [c0, c1, c2, c3, c4, c5, c6, c7, c8, c9, c10, c11, c12, c13, c14, c15, c16, c17, c18, c19, c20, c21, c22], _ =>
    match ys, hyl with
    | [y0, y1, y2, y3, y4, y5, y6], _ =>
      have f0 : DataW.trod enc Tryz.prog W 0 (fun _ => true) true n' 3 [c0] = some y0 := by have this : DataW.trod enc Tryz.prog W 0 (fun _ => true) true n' 3 (([c0, c1, c2, c3, c4, c5, c6, c7, c8, c9, c10, c11, c12, c13, c14, c15, c16, c17, c18, c19, c20, c21, c22].drop 0).take (Tryz.prog.cellsOf 3)) = some y0 := hf 0 _ rfl; rw [show Tryz.prog.cellsOf 3 = 1 by kernel_rfl] at this; exact this
      have f1 : DataW.trod enc Tryz.prog W 0 (fun _ => true) true n' 9 [c1] = some y1 := by have this : DataW.trod enc Tryz.prog W 0 (fun _ => true) true n' 9 (([c0, c1, c2, c3, c4, c5, c6, c7, c8, c9, c10, c11, c12, c13, c14, c15, c16, c17, c18, c19, c20, c21, c22].drop 1).take (Tryz.prog.cellsOf 9)) = some y1 := hf 1 _ rfl; rw [show Tryz.prog.cellsOf 9 = 1 by kernel_rfl] at this; exact this
      have f2 : DataW.trod enc Tryz.prog W 0 (fun _ => true) true n' 29 [c2, c3, c4] = some y2 := by have this : DataW.trod enc Tryz.prog W 0 (fun _ => true) true n' 29 (([c0, c1, c2, c3, c4, c5, c6, c7, c8, c9, c10, c11, c12, c13, c14, c15, c16, c17, c18, c19, c20, c21, c22].drop 2).take (Tryz.prog.cellsOf 29)) = some y2 := hf 2 _ rfl; rw [show Tryz.prog.cellsOf 29 = 3 by kernel_rfl] at this; exact this
      have f3 : DataW.trod enc Tryz.prog W 0 (fun _ => true) true n' 32 [c5, c6, c7, c8, c9, c10, c11, c12] = some y3 := by have this : DataW.trod enc Tryz.prog W 0 (fun _ => true) true n' 32 (([c0, c1, c2, c3, c4, c5, c6, c7, c8, c9, c10, c11, c12, c13, c14, c15, c16, c17, c18, c19, c20, c21, c22].drop 5).take (Tryz.prog.cellsOf 32)) = some y3 := hf 3 _ rfl; rw [show Tryz.prog.cellsOf 32 = 8 by kernel_rfl] at this; exact this
      have f4 : DataW.trod enc Tryz.prog W 0 (fun _ => true) true n' 32 [c13, c14, c15, c16, c17, c18, c19, c20] = some y4 := by have this : DataW.trod enc Tryz.prog W 0 (fun _ => true) true n' 32 (([c0, c1, c2, c3, c4, c5, c6, c7, c8, c9, c10, c11, c12, c13, c14, c15, c16, c17, c18, c19, c20, c21, c22].drop 13).take (Tryz.prog.cellsOf 32)) = some y4 := hf 4 _ rfl; rw [show Tryz.prog.cellsOf 32 = 8 by kernel_rfl] at this; exact this
      have f5 : DataW.trod enc Tryz.prog W 0 (fun _ => true) true n' 33 [c21] = some y5 := by have this : DataW.trod enc Tryz.prog W 0 (fun _ => true) true n' 33 (([c0, c1, c2, c3, c4, c5, c6, c7, c8, c9, c10, c11, c12, c13, c14, c15, c16, c17, c18, c19, c20, c21, c22].drop 21).take (Tryz.prog.cellsOf 33)) = some y5 := hf 5 _ rfl; rw [show Tryz.prog.cellsOf 33 = 1 by kernel_rfl] at this; exact this
      have f6 : DataW.trod enc Tryz.prog W 0 (fun _ => true) true n' 33 [c22] = some y6 := by have this : DataW.trod enc Tryz.prog W 0 (fun _ => true) true n' 33 (([c0, c1, c2, c3, c4, c5, c6, c7, c8, c9, c10, c11, c12, c13, c14, c15, c16, c17, c18, c19, c20, c21, c22].drop 22).take (Tryz.prog.cellsOf 33)) = some y6 := hf 6 _ rfl; rw [show Tryz.prog.cellsOf 33 = 1 by kernel_rfl] at this; exact this
      have hD : d = .agg [y0.1, y1.1, y2.1, y3.1, y4.1, y5.1, y6.1] := (Prod.mk.inj hy).1
      have hbd : Rows.uptoBulk d = Rows.uptoBulk y0.1 + (Rows.uptoBulk y1.1 + (Rows.uptoBulk y2.1 + (Rows.uptoBulk y3.1 + (Rows.uptoBulk y4.1 + (Rows.uptoBulk y5.1 + (Rows.uptoBulk y6.1 + 0)))))) + 1 := by rw [hD]; rfl
      obtain ⟨z0, e0, _, w0⟩ := DataW.trod_int Tryz.underlying3 f0
      cases e0
      obtain ⟨s1, e1, x1, _⟩ := DataW.trod_string Tryz.underlying9 f1
      cases e1
      have b1 : Rows.uptoBulk y1.1 = s1.data.toList.length + 1 := by rw [x1]; rfl
      have l1 : (tl s1).length = s1.data.toList.length := rfl
      obtain ⟨ty2, e2, t2a, t2b, t2c⟩ := open_ty (d := y2.1) (p := y2.2) f2
      simp only [tyC, List.cons.injEq, and_true] at e2
      obtain ⟨rfl, rfl, rfl⟩ := e2
      obtain ⟨ex3, h3a, h3b⟩ := open_ex (Rows.uptoBulk y3.1) n' _ y3.1 y3.2 f3 (Nat.le_refl _) (by omega)
      obtain ⟨N3, e3⟩ := exRep_nd h3a
      rw [e3] at h3a
      simp only [Nd.cs, List.cons.injEq, and_true] at e3
      obtain ⟨rfl, rfl, rfl, rfl, rfl, rfl, rfl, rfl⟩ := e3
      obtain ⟨ex4, h4a, h4b⟩ := open_ex (Rows.uptoBulk y4.1) n' _ y4.1 y4.2 f4 (Nat.le_refl _) (by omega)
      obtain ⟨N4, e4⟩ := exRep_nd h4a
      rw [e4] at h4a
      simp only [Nd.cs, List.cons.injEq, and_true] at e4
      obtain ⟨rfl, rfl, rfl, rfl, rfl, rfl, rfl, rfl⟩ := e4
      obtain ⟨body, a5, n5, k5, xs5, e5, g5a, g5b, g5c, g5d, g5e, g5f⟩ := open_rows (Tryz.underlying33) (show Tryz.prog.cellsOf 35 = 23 by kernel_rfl) (by decide) (stRep ⟨W, DoW W⟩) sizeS (d := y5.1) (p := y5.2) f5 fun n cs' D Pl ht hlt => ih n cs' D Pl ht (by omega) (by omega)
      obtain ⟨alt, a6, n6, k6, xs6, e6, g6a, g6b, g6c, g6d, g6e, g6f⟩ := open_rows (Tryz.underlying33) (show Tryz.prog.cellsOf 35 = 23 by kernel_rfl) (by decide) (stRep ⟨W, DoW W⟩) sizeS (d := y6.1) (p := y6.2) f6 fun n cs' D Pl ht hlt => ih n cs' D Pl ht (by omega) (by omega)
      subst e5 e6
      rw [sum_sizeSs] at g5e g6e
      refine ⟨.mk z0 (tl s1) ty2 ex3 ex4 body alt, ?_, by simp only [sizeS]; omega⟩
      have := st_mk (m := ⟨W, DoW W⟩) (⟨z0, tl s1, ty2, N3, N4, a5, n5, k5, a6, n6, k6⟩ : Sd) h3a h4a g5a g5b g6a g6b ⟨i64_of w0, by simp only [big]; omega, ⟨t2a, t2b, by simp only [big]; omega⟩, by simp only [big]; omega, by simp only [big]; omega⟩ g5c g6c (sts_of_at body xs5 g5d) (sts_of_at alt xs6 g6d)
      simp only [Sd.cs, bs_tl] at this
      exact this
set_option maxHeartbeats 2000000 in
set_option maxRecDepth 100000 in
theorem open_md {fuel : Nat} {cs : List Value} {d : DataW H} {p : List MemPlace} (h : DataW.trod enc Tryz.prog W 0 (fun _ => true) true fuel 58 cs = some (d, p)) (hb : Rows.uptoBulk d ≤ 1048576) : ∃ f : Md, mdRep ⟨W, DoW W⟩ f cs ∧ sizeSs f.body ≤ Rows.uptoBulk d := by
  obtain ⟨ys, n', _, hy, hlen, hyl, hf⟩ := DataW.trod_struct Tryz.underlying58 h
  rw [show Tryz.prog.cellsOf 58 = 8 by kernel_rfl] at hlen
  match cs, hlen with
  | [c0, c1, c2, c3, c4, c5, c6, c7], _ =>
  match ys, hyl with
  | [y0, y1, y2, y3, y4, y5], _ =>
    have f0 : DataW.trod enc Tryz.prog W 0 (fun _ => true) true n' 3 [c0] = some y0 := by have this : DataW.trod enc Tryz.prog W 0 (fun _ => true) true n' 3 (([c0, c1, c2, c3, c4, c5, c6, c7].drop 0).take (Tryz.prog.cellsOf 3)) = some y0 := hf 0 _ rfl; rw [show Tryz.prog.cellsOf 3 = 1 by kernel_rfl] at this; exact this
    have f1 : DataW.trod enc Tryz.prog W 0 (fun _ => true) true n' 29 [c1, c2, c3] = some y1 := by have this : DataW.trod enc Tryz.prog W 0 (fun _ => true) true n' 29 (([c0, c1, c2, c3, c4, c5, c6, c7].drop 1).take (Tryz.prog.cellsOf 29)) = some y1 := hf 1 _ rfl; rw [show Tryz.prog.cellsOf 29 = 3 by kernel_rfl] at this; exact this
    have f2 : DataW.trod enc Tryz.prog W 0 (fun _ => true) true n' 9 [c4] = some y2 := by have this : DataW.trod enc Tryz.prog W 0 (fun _ => true) true n' 9 (([c0, c1, c2, c3, c4, c5, c6, c7].drop 4).take (Tryz.prog.cellsOf 9)) = some y2 := hf 2 _ rfl; rw [show Tryz.prog.cellsOf 9 = 1 by kernel_rfl] at this; exact this
    have f3 : DataW.trod enc Tryz.prog W 0 (fun _ => true) true n' 56 [c5] = some y3 := by have this : DataW.trod enc Tryz.prog W 0 (fun _ => true) true n' 56 (([c0, c1, c2, c3, c4, c5, c6, c7].drop 5).take (Tryz.prog.cellsOf 56)) = some y3 := hf 3 _ rfl; rw [show Tryz.prog.cellsOf 56 = 1 by kernel_rfl] at this; exact this
    have f4 : DataW.trod enc Tryz.prog W 0 (fun _ => true) true n' 4 [c6] = some y4 := by have this : DataW.trod enc Tryz.prog W 0 (fun _ => true) true n' 4 (([c0, c1, c2, c3, c4, c5, c6, c7].drop 6).take (Tryz.prog.cellsOf 4)) = some y4 := hf 4 _ rfl; rw [show Tryz.prog.cellsOf 4 = 1 by kernel_rfl] at this; exact this
    have f5 : DataW.trod enc Tryz.prog W 0 (fun _ => true) true n' 33 [c7] = some y5 := by have this : DataW.trod enc Tryz.prog W 0 (fun _ => true) true n' 33 (([c0, c1, c2, c3, c4, c5, c6, c7].drop 7).take (Tryz.prog.cellsOf 33)) = some y5 := hf 5 _ rfl; rw [show Tryz.prog.cellsOf 33 = 1 by kernel_rfl] at this; exact this
    have hD : d = .agg [y0.1, y1.1, y2.1, y3.1, y4.1, y5.1] := (Prod.mk.inj hy).1
    have hbd : Rows.uptoBulk d = Rows.uptoBulk y0.1 + (Rows.uptoBulk y1.1 + (Rows.uptoBulk y2.1 + (Rows.uptoBulk y3.1 + (Rows.uptoBulk y4.1 + (Rows.uptoBulk y5.1 + 0))))) + 1 := by rw [hD]; rfl
    obtain ⟨z0, e0, _, w0⟩ := DataW.trod_int Tryz.underlying3 f0
    cases e0
    obtain ⟨ty1, e1, t1a, t1b, t1c⟩ := open_ty (d := y1.1) (p := y1.2) f1
    simp only [tyC, List.cons.injEq, and_true] at e1
    obtain ⟨rfl, rfl, rfl⟩ := e1
    obtain ⟨s2, e2, x2, _⟩ := DataW.trod_string Tryz.underlying9 f2
    cases e2
    have b2 : Rows.uptoBulk y2.1 = s2.data.toList.length + 1 := by rw [x2]; rfl
    have l2 : (tl s2).length = s2.data.toList.length := rfl
    obtain ⟨z4, e4, _⟩ := DataW.trod_bool Tryz.underlying4 f4
    cases e4
    obtain ⟨ps, a3, n3, k3, xs3, e3, g3a, g3b, g3c, g3d, g3e, g3f⟩ := open_rows (Tryz.underlying56) (show Tryz.prog.cellsOf 140 = 4 by kernel_rfl) (by decide) (fun (f : Pc) cs => cs = f.cs ∧ PcOk f) (fun _ => 0) (d := y3.1) (p := y3.2) f3 fun n cs' D Pl ht hlt => by
      obtain ⟨f, h1, h2⟩ := open_pc ht (by omega)
      exact ⟨f, ⟨h1, h2⟩, Nat.zero_le _⟩
    obtain ⟨body, a5, n5, k5, xs5, e5, g5a, g5b, g5c, g5d, g5e, g5f⟩ := open_rows (Tryz.underlying33) (show Tryz.prog.cellsOf 35 = 23 by kernel_rfl) (by decide) (stRep ⟨W, DoW W⟩) sizeS (d := y5.1) (p := y5.2) f5 fun n cs' D Pl ht hlt => open_st (Rows.uptoBulk D) n cs' D Pl ht (Nat.le_refl _) (by omega)
    subst e3 e5
    rw [sum_sizeSs] at g5e
    have hx3 : xs3 = flat Pc.cs ps := flat_of (f := Pc.cs) (sz := 4) (fun _ => rfl) ps xs3 (by rw [g3c.1, g3a]) fun i hi => (g3d i hi).1
    refine ⟨⟨z0, ty1, tl s2, ps, z4, body⟩, ⟨⟨z0, ty1, tl s2, a3, n3, k3, z4, a5, n5, k5⟩, ⟨by simp only [Mc.cs, bs_tl], rfl, rfl, rfl, rfl⟩, ⟨g3a, g3b, g5a, g5b⟩, ⟨i64_of w0, ⟨t1a, t1b, by simp only [big]; omega⟩, by simp only [big]; omega, by simp only [big]; omega, fun q hq => ?_, by simp only [big]; omega⟩, by rw [← hx3]; exact g3c, xs5, g5c, sts_of_at body xs5 g5d⟩, by simp only; omega⟩
    obtain ⟨i, hi, rfl⟩ := List.getElem_of_mem hq
    exact (g3d i hi).2
set_option maxHeartbeats 2000000 in
set_option maxRecDepth 100000 in
theorem open_cd {fuel : Nat} {cs : List Value} {d : DataW H} {p : List MemPlace} (h : DataW.trod enc Tryz.prog W 0 (fun _ => true) true fuel 55 cs = some (d, p)) (hb : Rows.uptoBulk d ≤ 1048576) : ∃ f : Cd, cdRep ⟨W, DoW W⟩ f cs ∧ sizeSs f.init ≤ big ∧ ∀ e ∈ f.methods, sizeSs e.body ≤ big := by
  obtain ⟨ys, n', _, hy, hlen, hyl, hf⟩ := DataW.trod_struct Tryz.underlying55 h
  rw [show Tryz.prog.cellsOf 55 = 7 by kernel_rfl] at hlen
  match cs, hlen with
  | [c0, c1, c2, c3, c4, c5, c6], _ =>
  match ys, hyl with
  | [y0, y1, y2, y3, y4, y5, y6], _ =>
    have f0 : DataW.trod enc Tryz.prog W 0 (fun _ => true) true n' 3 [c0] = some y0 := by have this : DataW.trod enc Tryz.prog W 0 (fun _ => true) true n' 3 (([c0, c1, c2, c3, c4, c5, c6].drop 0).take (Tryz.prog.cellsOf 3)) = some y0 := hf 0 _ rfl; rw [show Tryz.prog.cellsOf 3 = 1 by kernel_rfl] at this; exact this
    have f1 : DataW.trod enc Tryz.prog W 0 (fun _ => true) true n' 9 [c1] = some y1 := by have this : DataW.trod enc Tryz.prog W 0 (fun _ => true) true n' 9 (([c0, c1, c2, c3, c4, c5, c6].drop 1).take (Tryz.prog.cellsOf 9)) = some y1 := hf 1 _ rfl; rw [show Tryz.prog.cellsOf 9 = 1 by kernel_rfl] at this; exact this
    have f2 : DataW.trod enc Tryz.prog W 0 (fun _ => true) true n' 9 [c2] = some y2 := by have this : DataW.trod enc Tryz.prog W 0 (fun _ => true) true n' 9 (([c0, c1, c2, c3, c4, c5, c6].drop 2).take (Tryz.prog.cellsOf 9)) = some y2 := hf 2 _ rfl; rw [show Tryz.prog.cellsOf 9 = 1 by kernel_rfl] at this; exact this
    have f3 : DataW.trod enc Tryz.prog W 0 (fun _ => true) true n' 51 [c3] = some y3 := by have this : DataW.trod enc Tryz.prog W 0 (fun _ => true) true n' 51 (([c0, c1, c2, c3, c4, c5, c6].drop 3).take (Tryz.prog.cellsOf 51)) = some y3 := hf 3 _ rfl; rw [show Tryz.prog.cellsOf 51 = 1 by kernel_rfl] at this; exact this
    have f4 : DataW.trod enc Tryz.prog W 0 (fun _ => true) true n' 52 [c4] = some y4 := by have this : DataW.trod enc Tryz.prog W 0 (fun _ => true) true n' 52 (([c0, c1, c2, c3, c4, c5, c6].drop 4).take (Tryz.prog.cellsOf 52)) = some y4 := hf 4 _ rfl; rw [show Tryz.prog.cellsOf 52 = 1 by kernel_rfl] at this; exact this
    have f5 : DataW.trod enc Tryz.prog W 0 (fun _ => true) true n' 53 [c5] = some y5 := by have this : DataW.trod enc Tryz.prog W 0 (fun _ => true) true n' 53 (([c0, c1, c2, c3, c4, c5, c6].drop 5).take (Tryz.prog.cellsOf 53)) = some y5 := hf 5 _ rfl; rw [show Tryz.prog.cellsOf 53 = 1 by kernel_rfl] at this; exact this
    have f6 : DataW.trod enc Tryz.prog W 0 (fun _ => true) true n' 33 [c6] = some y6 := by have this : DataW.trod enc Tryz.prog W 0 (fun _ => true) true n' 33 (([c0, c1, c2, c3, c4, c5, c6].drop 6).take (Tryz.prog.cellsOf 33)) = some y6 := hf 6 _ rfl; rw [show Tryz.prog.cellsOf 33 = 1 by kernel_rfl] at this; exact this
    have hD : d = .agg [y0.1, y1.1, y2.1, y3.1, y4.1, y5.1, y6.1] := (Prod.mk.inj hy).1
    have hbd : Rows.uptoBulk d = Rows.uptoBulk y0.1 + (Rows.uptoBulk y1.1 + (Rows.uptoBulk y2.1 + (Rows.uptoBulk y3.1 + (Rows.uptoBulk y4.1 + (Rows.uptoBulk y5.1 + (Rows.uptoBulk y6.1 + 0)))))) + 1 := by rw [hD]; rfl
    obtain ⟨z0, e0, _, w0⟩ := DataW.trod_int Tryz.underlying3 f0
    cases e0
    obtain ⟨s1, e1, x1, _⟩ := DataW.trod_string Tryz.underlying9 f1
    cases e1
    have b1 : Rows.uptoBulk y1.1 = s1.data.toList.length + 1 := by rw [x1]; rfl
    have l1 : (tl s1).length = s1.data.toList.length := rfl
    obtain ⟨s2, e2, x2, _⟩ := DataW.trod_string Tryz.underlying9 f2
    cases e2
    have b2 : Rows.uptoBulk y2.1 = s2.data.toList.length + 1 := by rw [x2]; rfl
    have l2 : (tl s2).length = s2.data.toList.length := rfl
    obtain ⟨ifs, a3, n3, k3, xs3, e3, g3a, g3b, g3c, g3d, g3e, g3f⟩ := open_rows (Tryz.underlying51) (show Tryz.prog.cellsOf 9 = 1 by kernel_rfl) (by decide) (fun (s : List UInt8) cs => cs = [.string (bs s)] ∧ s.length ≤ big) (fun _ => 0) (d := y3.1) (p := y3.2) f3 fun n cs' D Pl ht hlt => by
      obtain ⟨s, h1, h2, _⟩ := DataW.trod_string Tryz.underlying9 ht
      have h3 : Rows.uptoBulk D = s.data.toList.length + 1 := by rw [(Prod.mk.inj h2).1]; rfl
      have h4 : (tl s).length = s.data.toList.length := rfl
      exact ⟨tl s, ⟨by rw [h1, bs_tl], by simp only [big]; omega⟩, Nat.zero_le _⟩
    obtain ⟨fds, a4, n4, k4, xs4, e4, g4a, g4b, g4c, g4d, g4e, g4f⟩ := open_rows (Tryz.underlying52) (show Tryz.prog.cellsOf 85 = 5 by kernel_rfl) (by decide) (fun (f : Fc) cs => cs = f.cs ∧ FcOk f) (fun _ => 0) (d := y4.1) (p := y4.2) f4 fun n cs' D Pl ht hlt => by
      obtain ⟨f, h1, h2⟩ := open_fc ht (by omega)
      exact ⟨f, ⟨h1, h2⟩, Nat.zero_le _⟩
    obtain ⟨mds, a5, n5, k5, xs5, e5, g5a, g5b, g5c, g5d, g5e, g5f⟩ := open_rows (Tryz.underlying53) (show Tryz.prog.cellsOf 58 = 8 by kernel_rfl) (by decide) (fun (f : Md) cs => mdRep ⟨W, DoW W⟩ f cs ∧ sizeSs f.body ≤ big) (fun _ => 0) (d := y5.1) (p := y5.2) f5 fun n cs' D Pl ht hlt => by
      obtain ⟨f, h1, h2⟩ := open_md ht (by omega)
      exact ⟨f, ⟨h1, by simp only [big]; omega⟩, Nat.zero_le _⟩
    obtain ⟨init, a6, n6, k6, xs6, e6, g6a, g6b, g6c, g6d, g6e, g6f⟩ := open_rows (Tryz.underlying33) (show Tryz.prog.cellsOf 35 = 23 by kernel_rfl) (by decide) (stRep ⟨W, DoW W⟩) sizeS (d := y6.1) (p := y6.2) f6 fun n cs' D Pl ht hlt => open_st (Rows.uptoBulk D) n cs' D Pl ht (Nat.le_refl _) (by omega)
    subst e3 e4 e5 e6
    rw [sum_sizeSs] at g6e
    have hx3 : xs3 = strs ifs := by
      have h1 : xs3 = flat (fun s => [.string (bs s)]) ifs := flat_of (f := fun s => [.string (bs s)]) (sz := 1) (fun _ => rfl) ifs xs3 (by rw [g3c.1, g3a]) fun i hi => (g3d i hi).1
      rw [h1, flat_strs]
    have hx4 : xs4 = flat Fc.cs fds := flat_of (f := Fc.cs) (sz := 5) (fun _ => rfl) fds xs4 (by rw [g4c.1, g4a]) fun i hi => (g4d i hi).1
    refine ⟨⟨z0, tl s1, tl s2, ifs, fds, mds, init⟩, ⟨⟨z0, tl s1, tl s2, a3, n3, k3, a4, n4, k4, a5, n5, k5, a6, n6, k6⟩, ⟨by simp only [Cc.cs, bs_tl], rfl, rfl, rfl⟩, ⟨g3a, g3b, g4a, g4b, g5a, g5b, g6a, g6b⟩, ?_, by rw [← hx3]; exact g3c, by rw [← hx4]; exact g4c, xs5, xs6, g5c, ls_of_at mds xs5 fun i hi => (g5d i hi).1, g6c, sts_of_at init xs6 g6d⟩, by simp only [big]; omega, fun e he => ?_⟩
    · refine ⟨i64_of w0, by simp only [big]; omega, by simp only [big]; omega, by simp only [big]; omega, fun q hq => ?_, by simp only [big]; omega, fun q hq => ?_, by simp only [big]; omega, by simp only [big]; omega⟩
      · obtain ⟨i, hi, rfl⟩ := List.getElem_of_mem hq
        exact (g3d i hi).2
      · obtain ⟨i, hi, rfl⟩ := List.getElem_of_mem hq
        exact (g4d i hi).2
    · obtain ⟨i, hi, rfl⟩ := List.getElem_of_mem he
      exact (g5d i hi).2
set_option maxRecDepth 100000 in
/-- A program that came in. -/
theorem open_prog {v : Value} {d : DataW H} {p : List MemPlace} {r : Reach} {b0 : Nat} (hval : Value.okWide Tryz.prog W r b0 22 v) (h : DataW.Trod enc Tryz.prog W 0 (fun _ => true) true 22 v d p) (hb : Rows.uptoBulk d ≤ 1048576) :
    ∃ (l : List Cd) (a : Option Addr) (n c : Nat), v = .slice a n c ∧ prRep ⟨W, DoW W⟩ l a n c ∧ FewB l := by
  obtain ⟨va, vl, vc, hv0⟩ := okWide_slice Tryz.underlying22 hval
  have hcv : v.cells.toList = [v] := by rw [hv0]; rfl
  obtain ⟨fuel, h⟩ := h
  rw [hcv] at h
  obtain ⟨l, a, n, c, xs, e, ga, gb, gc, gd, ge, gf⟩ := open_rows (Tryz.underlying22) (show Tryz.prog.cellsOf 55 = 7 by kernel_rfl) (by decide) (fun (f : Cd) cs => cdRep ⟨W, DoW W⟩ f cs ∧ sizeSs f.init ≤ big ∧ ∀ e ∈ f.methods, sizeSs e.body ≤ big) (fun _ => 0) h fun n cs' D Pl ht hlt => by
    obtain ⟨f, h1, h2⟩ := open_cd ht (by omega)
    exact ⟨f, ⟨h1, h2⟩, Nat.zero_le _⟩
  refine ⟨l, a, n, c, e, ⟨ga, gb, by simp only [big]; omega, xs, gc, ls_of_at l xs fun i hi => (gd i hi).1⟩, fun q hq => ?_⟩
  obtain ⟨i, hi, rfl⟩ := List.getElem_of_mem hq
  exact (gd i hi).2
end
end Go.Proofs.YtalalcpefggniaaGreatDoor.E

set_option linter.unusedSimpArgs false
set_option linter.unusedVariables false
namespace Go.Proofs.YtalalcpefggniaaGreatDoor.lawS
open Go Go.ChangeShapes Go.WideShapes Go.ChangeAt Go.RowKit
open Go.Proofs.YtalalcpefggniaaGreatDoor.E

theorem laidOut : laidOutB Tryz.prog = true := by kernel_rfl
theorem reads (os : Os) {H : Type} (enc : TypeId × Value → H) : ∃ places, DataW.whole enc Tryz.prog ((World.laidAll Tryz.prog os laidZ).forCall (fun _ _ => 0) ⟨#[], #[.slice none 0 0, .slice none 0 0], []⟩).memory Tryz.f5.params.toList Rows.astSameSpec.vars false #[Value.slice none 0 0, .slice none 0 0].toList 8 = some ([.nil, .nil], [], places) :=
  ⟨[], by kernel_rfl⟩
set_option maxRecDepth 100000 in
theorem contract (H : Type) (enc : TypeId × Value → H) (W : World) (base : Nat) (args : Array Value) (ds gs : List (DataW H)) (before : List MemPlace)
    (hval : ∀ (j : Nat) t v, Tryz.f5.params[j]? = some t → args[j]? = some v → Value.okWide Tryz.prog W .any base t v)
    (hW : DataW.Whole enc Tryz.prog Tryz.f5.params.toList Rows.astSameSpec.vars false W args.toList ds gs before) (hk : Rows.uptoSmall H (ds ++ gs) = true)
    (hL : laidMetH Tryz.prog laidZ W) (hsh : W.ShapedOpen Tryz.prog) :
    Calls Tryz.prog 5 args W fun e W' => ∃ v, e = .returned v ∧ Rows.astSameSpec.post enc Tryz.prog Tryz.f5 false true false false W args v W' := by
  have hW' := hW
  obtain ⟨p, q, hA0, hV, rfl, _, _⟩ := hW
  have hA : DataW.TrodAll enc Tryz.prog W 0 (fun _ => true) true Tryz.f5.params.toList args.toList ds p := hA0
  rw [Tryz.params5] at hA hval
  obtain ⟨v0, v1, d0, d1, p0, p1, rfl, rfl, rfl, h0, h1⟩ := trodAll_two hA
  obtain ⟨rfl, rfl⟩ := trodVars_none hV
  clear hA0
  simp only [List.append_nil] at hW' hk
  have hb : Rows.uptoBulk d0 ≤ 1048576 ∧ Rows.uptoBulk d1 ≤ 1048576 := by
    have h : Rows.uptoBulkAll [d0, d1] ≤ 1048576 := of_decide_eq_true hk
    simp only [Rows.uptoBulkAll] at h
    omega
  obtain ⟨hb0, hb1⟩ := hb
  obtain ⟨l0, a0, n0, c0, hv0, hr0, hf0⟩ := open_prog (hval 0 22 v0 rfl rfl) h0 hb0
  obtain ⟨l1, a1, n1, c1, hv1, hr1, hf1⟩ := open_prog (hval 1 22 v1 rfl rfl) h1 hb1
  have hlt : ∀ x ∈ p0 ++ p1, x.block < W.heap.size := fun x hx => hW'.lt x (by simpa using hx)
  subst hv0 hv1
  have fin : Calls Tryz.prog 5 #[.slice a0 n0 c0, .slice a1 n1 c1] W fun e w' => e = .returned (.bool true) ∧ Below W.heap.size W w' := by
    have := same_spec l0 l1 a0 n0 c0 a1 n1 c1 ⟨W, DoW W⟩ (glob_of hL hsh) hr0 hr1 hf0 hf1
    exact calls_sv (vals := [.slice a0 n0 c0, .slice a1 n1 c1]) (fun V => rfl) this
  refine fin.mono fun e W' ⟨he, hw⟩ => ?_
  subst he
  refine ⟨_, rfl, _, _, _, [], p0 ++ p1, [], hW', trodAll_mk1 (shut_bool (show Tryz.prog.underlying 4 = some .bool by kernel_rfl) _), trodAll_mk2 (Below.trod laidOut (by kernel_rfl) (of_decide_eq_true (by kernel_rfl)) h0 hw (fun x hx => hlt x (List.mem_append_left _ hx))) (Below.trod laidOut (by kernel_rfl) (of_decide_eq_true (by kernel_rfl)) h1 hw (fun x hx => hlt x (List.mem_append_right _ hx))), rfl, hw.frame _, fun h => by cases h⟩
set_option maxRecDepth 100000 in
theorem lifted (os : Os) (started : os.Started) (H : Type) (enc : TypeId × Value → H) (F : Stop.Interp) :
    ReturnsInHanded {} Tryz.checked os 5 .any ((Rows.OpenSpec.upto Rows.astSameSpec).preRow enc Tryz.prog Tryz.f5 Rows.astSameUptoRow.domain false Rows.astSameUptoRow.laid) (((Rows.OpenSpec.upto Rows.astSameSpec).at F).post enc Tryz.prog Tryz.f5 false true false false) := by
  obtain ⟨places, hx⟩ := reads os enc
  refine returnsInHanded_of_row (C := Tryz.checked) (s := Rows.OpenSpec.upto Rows.astSameSpec) E.own started (by kernel_rfl) Tryz.func5
    (witness_row (enc := enc) (C := Tryz.checked) false (World.laidAll Tryz.prog os laidZ) #[.slice none 0 0, .slice none 0 0] (World.laidAll_os _ _ _) (World.shaped_of_ZipB (by kernel_rfl) (by kernel_rfl)) (by kernel_rfl)
      (OpenSpec.preRow_of_cond 8 hx (by kernel_rfl) (fun k hk => by cases hk; kernel_rfl) (by kernel_rfl) (by rw [MakeChecks.laidMetH_plain _ _ _ (by kernel_rfl)]; exact laidMet_laidAll _ (by kernel_rfl) (by kernel_rfl)))) ?_
  intro W base args ds gs before hval hW _ hcond hwt hL hsh _
  exact contract H enc W base args ds gs before hval hW (hcond _ rfl) hL hsh

theorem said : Rows.AstSameUptoSaid :=
  OpenClaim.holds_of_cond 5 Tryz.f5 rfl rfl rfl rfl rfl rfl rfl ⟨rfl, rfl, rfl, rfl, rfl⟩ rfl rfl rfl rfl rfl (by kernel_rfl) Tryz.func5 (by kernel_rfl)
    (of_decide_eq_true (by kernel_rfl)) (by unfold Func.isWrapper; first | (rw [if_pos (by decide +kernel)]; kernel_rfl) | (rw [if_neg (by decide +kernel)]; exact ⟨rfl, rfl⟩))
    (fun os started H enc _ F => by rw [OpenClaim.pre_eq_preRow]; exact lifted os started H enc F)

theorem plain (f : FuncId) (fn : Func) (hf : Tryz.pinned.checked.prog.funcNamed "armature/armaturelaw54.AstSame" = some f) (hfn : Tryz.pinned.checked.prog.funcs[f]? = some fn) :
    false = Tryz.pinned.checked.prog.looks [] ∧ ∀ (j : Nat) t, fn.params[j]? = some t → Tryz.pinned.checked.prog.wantsStandIn t = false := by
  obtain rfl : f = 5 := Option.some.inj ((show Tryz.prog.funcNamed "armature/armaturelaw54.AstSame" = some 5 by kernel_rfl).symm.trans hf) |>.symm
  obtain rfl : fn = Tryz.f5 := (Option.some.inj (Tryz.func5.symm.trans hfn)).symm
  refine ⟨by kernel_rfl, fun j t ht => ?_⟩
  rw [Tryz.params5] at ht
  have hm : t ∈ [22, 22] := by simpa using Array.mem_of_getElem? ht
  have hall : ([22, 22].all fun u => !Tryz.prog.wantsStandIn u) = true := by kernel_rfl
  exact (show Tryz.prog.wantsStandIn t = false by simpa using List.all_eq_true.1 hall t hm)

/-- THE CARD. -/
theorem card : Rows.AstSameUptoCardSaid :=
  Claim7.holds_tied_plain_at .later [] _ _ _ _ said (fun _ h => by cases h) (by kernel_rfl) (fun _ h => by cases h) astSameUpto_row_tie rfl ⟨rfl, rfl⟩ (by kernel_rfl) rfl plain (by kernel_rfl)
#print axioms card
end Go.Proofs.YtalalcpefggniaaGreatDoor.lawS

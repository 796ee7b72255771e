/- 'ParseFirstError' holds for every input: the tied card of this statement is proved. Conditions: none beyond the row's own (the listed variables hold what their text lays). -/
import Derived.Test.YtimddhkipjedcaaGreatDoorMrg6
set_option linter.unusedSimpArgs false
set_option linter.unusedVariables false
set_option maxHeartbeats 4000000
set_option maxRecDepth 20000
namespace Go.Proofs.YtimddhkipjedcaaGreatDoor.lawF
open Go Go.ChangeShapes Go.WideShapes Go.ChangeAt Go.RowKit
open Go.ChangeMaps (open_string shut_string)
open Go.Proofs.YtimddhkipjedcaaGreatDoor.E
set_option maxRecDepth 100000 in
theorem lifted (os : Os) (started : os.Started) (H : Type) (enc : TypeId × Value → H) :
  ReturnsInHanded {} Tryz.checked os 8 .any (fun w args => (Rows.parseFirstErrorSpec.pre enc Tryz.prog Tryz.f8 Rows.parseFirstErrorRow.domain false w args ∧ laidMetH Tryz.prog laidZ w) ∧ sizedMet enc Tryz.prog Tryz.f8 (OpenSpec.ofChange Rows.parseFirstErrorSpec) false w args)
   (Rows.parseFirstErrorSpec.post enc Tryz.prog Tryz.f8 false true false false) := by
 refine returns_of (C := Tryz.checked) (X := fun w _ => laidMetH Tryz.prog laidZ w) (fun _ _ _ hh h => h.of_heap hh) E.own started (by kernel_rfl) Tryz.func8
  (ChangeSpec.witness_shaped (enc := enc) (C := Tryz.checked) (os := os) (X := fun w _ => laidMetH Tryz.prog laidZ w) false (World.laidAll Tryz.prog os laidZ) #[.string .empty, .string .empty] 8 (World.laidAll_os _ _ _)
   (World.shaped_of_ZipB (by kernel_rfl) (by kernel_rfl)) (by kernel_rfl) (by kernel_rfl) (by kernel_rfl)
   (by rw [MakeChecks.laidMetH_plain _ _ _ (by kernel_rfl)]; exact laidMet_laidAll _ (by kernel_rfl) (by kernel_rfl))) ?_
 intro W base args ds gs before hval0 hW hL hsh hwt0
 have hval : ∀ (j : Nat) t v, Tryz.f8.params[j]? = some t → args[j]? = some v → Value.okWide Tryz.prog W .any base t v := hval0
 have hW' := hW
 obtain ⟨p, q, hA0, hV, rfl, _, _⟩ := hW
 have hA : DataW.TrodAll enc Tryz.prog W 0 (fun _ => true) true Tryz.f8.params.toList args.toList ds p := hA0
 rw [Tryz.params8] at hA hval
 obtain ⟨v0, v1, d0, d1, p0, p1, rfl, rfl, rfl, h0, h1⟩ := trodAll_two hA
 obtain ⟨rfl, rfl⟩ := trodVars_none hV
 obtain ⟨s, rfl, rfl, rfl, hmax⟩ := open_string Tryz.underlying9 (hval 0 9 v0 rfl rfl) h0
 obtain ⟨z, rfl, rfl, rfl, hmax2⟩ := open_string Tryz.underlying9 (hval 1 9 v1 rfl rfl) h1
 have hwt : (DataW.weightsEach Tryz.prog [9, 9] [DataW.lit (H := H) (.string s.data.toList), DataW.lit (H := H) (.string z.data.toList)]).all (· ≤ reachBytes) = true := hwt0
 have hlen : s.size ≤ 140737488351232 ∧ z.size ≤ 140737488351232 := by
  have e : (tl s).length = s.size := tl_size s
  have e2 : (tl z).length = z.size := tl_size z
  simp only [DataW.weightsEach, DataW.weights, List.append_nil, List.all_cons, List.all_nil, Bool.and_true, Bbt, decide_eq_true_eq, reachBytes, List.cons_append, List.nil_append] at hwt
  unfold tl at e e2
  obtain ⟨g1, g2⟩ := hwt
  first | omega | (have g1 := of_decide_eq_true g1; have g2 := of_decide_eq_true g2; omega)
 clear hA0 hval0 hwt0 hwt
 simp only [List.append_nil] at hW'
 have fin : Calls Tryz.prog 8 #[.string s, .string z] W fun e w' => e = .returned (.bool true) ∧ Below W.heap.size W w' := by
  have := lawFe_spec (tl s) (tl z) ⟨W, DoW W⟩ (globX_of hL hsh) (by rw [tl_size]; exact Nat.le_trans hlen.1 (by decide)) (by rw [tl_size]; exact Nat.le_trans hlen.2 (by decide))
  rw [bs_tl, bs_tl] at this
  exact calls_sv (vals := [.string s, .string z]) (fun V => rfl) (this.mono fun _ _ _ _ h => ⟨h.1, h.2.2, h.2.1⟩)
 refine fin.mono fun e W' ⟨he, hw⟩ => ?_
 subst he
 exact ⟨_, rfl, _, _, _, [], [], [], hW', trodAll_mk1 (shut_bool Tryz.underlying4 _), trodAll_mk2 (shut_string Tryz.underlying9 hmax) (shut_string Tryz.underlying9 hmax2), rfl, hw.frame _, fun h => by cases h⟩
theorem holds : Rows.ParseFirstErrorSaid :=
 OpenClaim.holds_of_wide 8 Tryz.f8 rfl rfl rfl rfl rfl rfl rfl ⟨rfl, rfl, rfl, rfl, rfl⟩ rfl rfl rfl rfl rfl (by kernel_rfl) Tryz.func8 (by kernel_rfl)
  (of_decide_eq_true (by kernel_rfl)) (by unfold Func.isWrapper; first | (rw [if_pos (by decide +kernel)]; kernel_rfl) | (rw [if_neg (by decide +kernel)]; exact ⟨rfl, rfl⟩))
  (fun os started H enc _ => lifted os started H enc)
theorem plain (f : FuncId) (fn : Func) (hf : Tryz.pinned.checked.prog.funcNamed "armature/armaturelaw55.ParseFirstError" = some f) (hfn : Tryz.pinned.checked.prog.funcs[f]? = some fn) :
  true = Tryz.pinned.checked.prog.looks [] ∧ ∀ (j : Nat) t, fn.params[j]? = some t → Tryz.pinned.checked.prog.wantsStandIn t = false := by
 obtain rfl : f = 8 := Option.some.inj ((show Tryz.prog.funcNamed "armature/armaturelaw55.ParseFirstError" = some 8 by kernel_rfl).symm.trans hf) |>.symm
 obtain rfl : fn = Tryz.f8 := (Option.some.inj (Tryz.func8.symm.trans hfn)).symm
 refine ⟨by kernel_rfl, fun j t ht => ?_⟩
 rw [Tryz.params8] at ht
 have hm : t ∈ [9, 9] := by simpa using Array.mem_of_getElem? ht
 have hall : ([9, 9].all fun u => !Tryz.prog.wantsStandIn u) = true := by kernel_rfl
 exact (show Tryz.prog.wantsStandIn t = false by simpa using List.all_eq_true.1 hall t hm)
theorem card : Rows.ParseFirstErrorCardSaid :=
 Claim7.holds_tied_plain_at .later [] _ _ _ _ holds (fun _ h => by cases h) (by kernel_rfl) (fun _ h => by cases h) parseFirstError_row_tie rfl ⟨rfl, rfl⟩ (by kernel_rfl) rfl plain (by kernel_rfl)
#print axioms card
end Go.Proofs.YtimddhkipjedcaaGreatDoor.lawF

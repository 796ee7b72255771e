/- Several texts in one: AstRe, AstRf, AstRh, AstRd, AstRs, AstRg. -/
import Derived.Test.YtalalcpefggniaaGreatDoorMrg5
set_option linter.unusedSimpArgs false
set_option linter.unusedVariables false
set_option maxHeartbeats 4000000
set_option maxRecDepth 20000
namespace Go.Proofs.YtalalcpefggniaaGreatDoor.E
open Go

theorem FnH_ret {P : Program} {f : FuncId} {args : List SV} {H : Hp} {m : Mem} {R R' : SV → Hp → Mem → Prop} (h : FnH P f args H m R) (e : ∀ r H' m', m.le m' → R r H' m' → ∃ r', (∀ V, den V r' = den V r) ∧ R' r' H' m') : FnH P f args H m R' :=
  fun V w D h1 h2 h3 => (h V w D h1 h2 h3).mono fun x w2 ⟨r, V', D', H', m', e1, e2, e3, e4, e5, e6, e7, e8, e9, e10, e11⟩ => (e r H' m' e9 e11).elim fun r' hr => ⟨r', V', D', H', m', by rw [hr.1 V']; exact e1, e2, e3, e4, e5, e6, e7, e8, e9, e10, hr.2⟩
/-- An own slice that comes back may be named anew. -/
theorem FnH_canon {P : Program} {f : FuncId} {args : List SV} {m : Mem} {R R' : SV → Hp → Mem → Prop} (h : FnH P f args ⟨[], []⟩ m R)
    (e : ∀ r H' m', m.le m' → R r H' m' → ∃ k u el sz n xs, r = .vec k u ∧ H' = ⟨[], [⟨k, u, el, sz, n, xs⟩]⟩ ∧ R' (.vec 0 0) ⟨[], [⟨0, 0, el, sz, n, xs⟩]⟩ m') : FnH P f args ⟨[], []⟩ m R' :=
  fun V w D h1 h2 h3 => (h V w D h1 h2 h3).mono fun x w2 ⟨r, V', D', H', m', e1, e2, e3, e4, e5, e6, e7, e8, e9, e10, e11⟩ => by
    obtain ⟨k, u, el, sz, n, xs, rfl, rfl, hR⟩ := e r H' m' e9 e11
    refine ⟨.vec 0 0, ⟨V'.β, fun _ _ => V'.γ k u⟩, D', _, m', e1, e2, ⟨fun b hb => (by cases hb), fun b hb => ?_, ?_, ?_⟩, fun b hb => (by cases hb), fun b hb => (by cases hb), e6, ?_, e8, e9, e10, hR⟩
    · rw [List.mem_singleton.1 hb]
      exact e3.vc _ (List.mem_singleton.2 rfl)
    · exact e3.apart
    · simp
    · exact e7
theorem tk_agg {P : Program} {f : FuncId} {k : Int} (h : ∀ s m, FnH P f [.v (.string (bs s))] ⟨[], []⟩ m fun r H' _ => r = .agg [.v (.int .i64 k), .v (.string (bs s)), .v (.int .i64 0), .v (.int .i64 0)] ∧ H' = ⟨[], []⟩) :
    ∀ s m, (fun _ => True) s → FnH P f [.v (.string (bs s))] ⟨[], []⟩ m fun r H' _ => r = .v (.agg ⟨tkC ⟨k, s, 0, 0⟩⟩) ∧ H' = ⟨[], []⟩ :=
  fun s m _ => FnH_ret (h s m) fun r H' m' _ hr => ⟨_, fun V => by rw [hr.1]; rfl, rfl, hr.2⟩
theorem rsign_spec (s : List UInt8) (m : Mem) : FnH Tryz.prog 99 [.v (.string (bs s))] ⟨[], []⟩ m fun r H' _ => r = .agg [.v (.int .i64 6), .v (.string (bs s)), .v (.int .i64 0), .v (.int .i64 0)] ∧ H' = ⟨[], []⟩ := by
  refine enter cfN puN Tryz.func99 rfl rfl (by kernel_rfl) rfl ?_ ?_
  · simp only [go_sem, ↓imp_tf, ↓imp_ft, ↓reduceIte]
  · simp only [go_sem, ↓imp_tf, ↓imp_ft, ↓reduceIte]
theorem rword_spec (s : List UInt8) (m : Mem) : FnH Tryz.prog 96 [.v (.string (bs s))] ⟨[], []⟩ m fun r H' _ => r = .agg [.v (.int .i64 2), .v (.string (bs s)), .v (.int .i64 0), .v (.int .i64 0)] ∧ H' = ⟨[], []⟩ := by
  refine enter cfN puN Tryz.func96 rfl rfl (by kernel_rfl) rfl ?_ ?_
  · simp only [go_sem, ↓imp_tf, ↓imp_ft, ↓reduceIte]
  · simp only [go_sem, ↓imp_tf, ↓imp_ft, ↓reduceIte]
theorem rid_spec (s : List UInt8) (m : Mem) : FnH Tryz.prog 97 [.v (.string (bs s))] ⟨[], []⟩ m fun r H' _ => r = .agg [.v (.int .i64 1), .v (.string (bs s)), .v (.int .i64 0), .v (.int .i64 0)] ∧ H' = ⟨[], []⟩ := by
  refine enter cfN puN Tryz.func97 rfl rfl (by kernel_rfl) rfl ?_ ?_
  · simp only [go_sem, ↓imp_tf, ↓imp_ft, ↓reduceIte]
  · simp only [go_sem, ↓imp_tf, ↓imp_ft, ↓reduceIte]
theorem rsome_spec (n : Nat) (xs : List Value) (m : Mem) : FnH Tryz.prog 95 [.vec 0 0] ⟨[], [⟨0, 0, 79, 4, n, xs⟩]⟩ m fun r H' m' => r = .vec 0 0 ∧ H' = ⟨[], [⟨0, 0, 79, 4, n, xs⟩]⟩ ∧ m' = m := by
  refine enter cfN puN Tryz.func95 rfl rfl (by kernel_rfl) rfl ?_ ?_
  · simp only [go_sem, ↓imp_tf, ↓imp_ft, ↓reduceIte]
  · simp only [go_sem, ↓imp_tf, ↓imp_ft, ↓reduceIte]
abbrev cfK : Cfg := mkCf (fun f => f == 95) [(99, pS1 (fun _ => True) fun s => .agg ⟨tkC ⟨6, s, 0, 0⟩⟩), (96, pS1 (fun _ => True) fun s => .agg ⟨tkC ⟨2, s, 0, 0⟩⟩), (97, pS1 (fun _ => True) fun s => .agg ⟨tkC ⟨1, s, 0, 0⟩⟩)]
theorem puK : PureOk cfK Tryz.prog := pure_cons (by kernel_rfl) (pureS (tk_agg rsign_spec)) (pure_cons (by kernel_rfl) (pureS (tk_agg rword_spec)) (pure_cons (by kernel_rfl) (pureS (tk_agg rid_spec)) pure_nil))
/-- A call that answers an own slice of tokens. -/
def RetT (f : FuncId) (args : List SV) (m : Mem) (T : List Tk) : Prop := FnH Tryz.prog f args ⟨[], []⟩ m fun r H' m' => leM m m' ∧ r = .vec 0 0 ∧ H' = ⟨[], [⟨0, 0, 79, 4, T.length, tkCells T⟩]⟩
theorem retT_of {f : FuncId} {args : List SV} {m : Mem} {T : List Tk} (h : FnH Tryz.prog f args ⟨[], []⟩ m fun r H' m' => leM m m' ∧ ∃ k u, r = .vec k u ∧ H' = ⟨[], [⟨k, u, 79, 4, T.length, tkCells T⟩]⟩) : RetT f args m T :=
  FnH_canon h fun r H' m' _ hr => by
    obtain ⟨h1, k, u, rfl, rfl⟩ := hr
    exact ⟨k, u, _, _, _, _, rfl, rfl, h1, rfl, rfl⟩
theorem aggTT : aggN Tryz.prog 160 = some none := by kernel_rfl
theorem elTT : elT Tryz.prog 160 = some 44 := by kernel_rfl
theorem zeroLT : zeroO Tryz.prog 44 = some [.v (.slice none 0 0)] := by kernel_rfl
theorem byLT : byT Tryz.prog 44 = 24 := by kernel_rfl
attribute [go_sem] aggTT elTT zeroLT byLT tkC
/-- Lists of tokens, as they lie in memory. -/
def slsRep (m : Mem) : List (List Tk) → List Value → Prop
  | [], [] => True
  | t :: r, x :: xs => (∃ a c, x = .slice a t.length c ∧ t.length ≤ c ∧ Rds m a t.length 4 (tkCells t)) ∧ slsRep m r xs
  | [], _ :: _ => False
  | _ :: _, [] => False
theorem sls_at {m : Mem} : ∀ {ls : List (List Tk)} {xs : List Value} {k : Nat} (_ : slsRep m ls xs) (hk : k < ls.length), ∃ a c, xs[k]? = some (.slice a ls[k].length c) ∧ Rds m a ls[k].length 4 (tkCells ls[k])
  | [], _, _, _, hk => absurd hk (Nat.not_lt_zero _)
  | t :: r, [], _, h, _ => by simp [slsRep] at h
  | t :: r, x :: xs, 0, h, _ => by
    simp only [slsRep] at h
    obtain ⟨⟨a, c, rfl, _, h1⟩, _⟩ := h
    exact ⟨a, c, rfl, h1⟩
  | t :: r, x :: xs, k + 1, h, hk => by
    simp only [slsRep] at h
    have := sls_at (k := k) h.2 (by simpa using hk)
    simpa using this
theorem tks_take {ls : List (List Tk)} {k : Nat} (h : k < ls.length) : (ls.take (k + 1)).flatten = (ls.take k).flatten ++ ls[k] := by
  rw [List.take_succ_eq_append_getElem h, List.flatten_append]
  simp
theorem tks_le (ls : List (List Tk)) (k : Nat) : (ls.take k).flatten.length ≤ ls.flatten.length := by
  have := congrArg (fun l => (List.flatten l).length) (List.take_append_drop k ls)
  simp only [List.flatten_append, List.length_append] at this
  omega
theorem tk_one {t : Tk} : tkCells [t] = tkC t := by simp [tkCells, tkC]
theorem cells_one (ts : List Tk) : ∀ u ∈ tkCells ts, u.oneCell' = true := by
  intro u hu
  simp only [tkCells, List.mem_flatten, List.mem_map] at hu
  obtain ⟨l, ⟨t, _, rfl⟩, hu⟩ := hu
  simp only [List.mem_cons, List.not_mem_nil, or_false] at hu
  rcases hu with rfl | rfl | rfl | rfl <;> rfl
theorem rjoinL_spec (ls : List (List Tk)) (a : Option Addr) (n c : Nat) (xs : List Value) (m : Mem) (hl : ls.length = n) (hr : Rds m a n 1 xs) (hs : slsRep m ls xs) (hn : n ≤ big) (hb : ls.flatten.length ≤ cap) : RetT 93 [.v (.slice a n c)] m ls.flatten := by
  refine retT_of ?_
  refine enter cfN puN Tryz.func93 rfl rfl (by kernel_rfl) rfl ?_ ?_
  · simp only [go_sem, ↓imp_tf, ↓imp_ft, ↓reduceIte]
  · simp only [go_sem, ↓imp_tf, ↓imp_ft, ↓reduceIte]
    refine WP_loop puN (fun x : Nat × Nat => ⟨[⟨0, [], .v (.slice a n c)⟩, ⟨3, [], .vec 0 x.2⟩, ⟨4, [], .v (.int .i64 x.1)⟩], [], [], [⟨0, x.2, 79, 4, ((ls.take x.1).flatten).length, tkCells ((ls.take x.1).flatten)⟩], 1, m⟩)
      (fun x => x.1 ≤ n) (fun x => n - x.1) (0, 0) (by kernel_rfl) (fun _ _ => Nat.le_refl _) (fun _ _ => .inl rfl) (fun _ => ?_) ?_ ?_ ?_
    · simp only [go_sem, ↓imp_tf, ↓imp_ft, ↓reduceIte]
    · simp only [go_sem, ↓imp_tf, ↓imp_ft, ↓reduceIte]
      exact ⟨rfl, rfl, rfl⟩
    · exact Nat.zero_le _
    · rintro ⟨k, v⟩ h2
      simp only at h2
      have hx : ∀ (hk : k < n), ∃ (b : Option Addr) (d : Nat), Rd m (ptrAt a k) [.slice b (ls.getD k []).length d] ∧ a ≠ none ∧ Rds m b (ls.getD k []).length 4 (tkCells (ls.getD k [])) := fun hk => by
        have hk' : k < ls.length := by omega
        obtain ⟨b, d, e1, e2⟩ := sls_at hs hk'
        obtain ⟨h3, h4, h5⟩ := Rds_one hr hk
        have e : ls.getD k [] = ls[k] := by rw [List.getD_eq_getElem?_getD, List.getElem?_eq_getElem hk']; rfl
        rw [List.getElem?_eq_getElem h3] at e1
        rw [e]
        refine ⟨b, d, ?_, h5, e2⟩
        rw [Option.some.inj e1] at h4
        exact h4
      have hf := fun (hk : k < ls.length) => And.intro (tks_take hk) (tks_le ls (k + 1))
      simp only [go_sem, ↓imp_tf, ↓imp_ft, ↓reduceIte]
      refine ⟨fun hlt => ?_, fun hge => ?_⟩
      · have hk : k < n := by omega
        have hkl : k < ls.length := by omega
        refine Exists.elim (hx hk) fun b hx1 => Exists.elim hx1 fun d hx2 => ⟨⟨by omega, hlt, hx2.2.1⟩, _, hx2.1, ?_⟩
        clear hx hx1
        simp only [go_sem, ↓imp_tf, ↓imp_ft, ↓reduceIte]
        have hT : (ls.take (k + 1)).flatten = (ls.take k).flatten ++ ls.getD k [] := by
          rw [(hf hkl).1, List.getD_eq_getElem?_getD, List.getElem?_eq_getElem hkl]
          rfl
        have hL := (hf hkl).2
        rw [hT, List.length_append] at hL
        simp only [cap] at hb
        exact ⟨_, hx2.2.2, cells_one _, ⟨by omega, by simp only [maxLen]; omega⟩, by unfold I64; simp only [big] at hn; omega, (k + 1, v + 1), ⟨⟨rfl, by simp⟩, rfl, by simp only; rw [hT, List.length_append], by simp only; rw [hT, tkCells_app]⟩, by simp only; omega, by simp only; omega⟩
      · rw [List.take_of_length_le (by omega)]
        exact ⟨0, v, rfl, rfl⟩
theorem rround_spec (T : List Tk) (a : Option Addr) (c : Nat) (m : Mem) (hr : Rds m a T.length 4 (tkCells T)) (hb : T.length + 2 ≤ cap) : RetT 107 [.v (.slice a T.length c)] m (sg [40] :: (T ++ [sg [41]])) := by
  refine retT_of ?_
  refine enter cfK puK Tryz.func107 rfl rfl (by kernel_rfl) rfl ?_ ?_
  · simp only [go_sem, ↓imp_tf, ↓imp_ft, ↓reduceIte]
  · simp only [go_sem, ↓imp_tf, ↓imp_ft, ↓reduceIte]
    simp only [cap] at hb
    refine ⟨_, hr, cells_one _, ⟨by omega, by simp only [maxLen]; omega⟩, ⟨by omega, by simp only [maxLen]; omega⟩, 0, 2, rfl, ?_⟩
    have e1 : (T ++ [sg [41]]).length + 1 = 1 + T.length + 1 := by simp only [List.length_append, List.length_singleton]; omega
    have e2 : tkCells (sg [40] :: (T ++ [sg [41]])) = tkC (sg [40]) ++ (tkCells T ++ tkC (sg [41])) := by simp [tkCells, tkC]
    rw [e1, e2]
    rfl
theorem dim_next (t : Tk) (k : Nat) : (t :: dimT ((k + 1 : Nat) : Int)).length = (t :: dimT (k : Int)).length + 2 ∧ tkCells (t :: dimT ((k + 1 : Nat) : Int)) = tkCells (t :: dimT (k : Int)) ++ tkCells [sg [91], sg [93]] := by
  have e : t :: dimT ((k + 1 : Nat) : Int) = (t :: dimT (k : Int)) ++ [sg [91], sg [93]] := by
    simp only [dimT, Int.toNat_natCast, List.replicate_succ', List.flatten_append, List.flatten_cons, List.flatten_nil, List.append_nil, List.cons_append]
  rw [e]
  exact ⟨by simp, tkCells_app _ _⟩
theorem dim_end {d : Int} {k : Nat} (h : ¬ (k : Int) < d) (h1 : k = 0 ∨ (k : Int) ≤ d) : dimT (k : Int) = dimT d := by
  have : (k : Int).toNat = d.toNat := by omega
  simp only [dimT, this]
theorem rkind_spec (d b : Int) (nm : List UInt8) (m : Mem) (hd : d ≤ 1000) : RetT 100 [.v (.agg ⟨[.int .i64 d, .int .u8 b, .string (bs nm)]⟩)] m (typT d b nm) := by
  refine retT_of ?_
  refine enter cfK puK Tryz.func100 rfl rfl (by kernel_rfl) rfl ?_ ?_
  · simp only [go_sem, ↓imp_tf, ↓imp_ft, ↓reduceIte]
  · simp only [go_sem, ↓imp_tf, ↓imp_ft, ↓reduceIte]
    refine ⟨fun hb => ?_, fun n1 => ⟨fun hb => ?_, fun n2 => ⟨fun hb => ?_, fun n3 => ?_⟩⟩⟩
    · rw [typT, baseT, if_pos hb]
      refine WP_loop puK (fun x : Nat × Nat => ⟨[⟨1, [], .box 0 0⟩, ⟨3, [], .vec 2 x.2⟩, ⟨4, [], .v (.int .i64 x.1)⟩], [], [⟨0, 29, [.v (.int .i64 d), .v (.int .u8 b), .v (.string (bs nm))]⟩], [⟨2, x.2, 79, 4, ((kw intS) :: dimT x.1).length, tkCells ((kw intS) :: dimT x.1)⟩], 3, m⟩)
        (fun x => x.1 = 0 ∨ (x.1 : Int) ≤ d) (fun x => d.toNat - x.1) (0, 0) (by kernel_rfl) (fun _ _ => Nat.le_of_ble_eq_true rfl) (fun _ _ => .inl rfl) (fun _ => ?_) ?_ ?_ ?_
      · simp only [go_sem, ↓imp_tf, ↓imp_ft, ↓reduceIte]
      · simp only [go_sem, ↓imp_tf, ↓imp_ft, ↓reduceIte]
        exact ⟨rfl, rfl, rfl⟩
      · exact .inl rfl
      · rintro ⟨k, v⟩ h1
        simp only at h1
        simp only [go_sem, ↓imp_tf, ↓imp_ft, ↓reduceIte]
        have e := dim_next (kw intS) k
        refine ⟨fun hlt => ⟨⟨by simp only [List.length_cons, dimT_len]; omega, by simp only [List.length_cons, dimT_len, maxLen]; omega⟩, by unfold I64; omega, (k + 1, v + 1), ⟨⟨rfl, by simp⟩, rfl, by have := e.1; simp only [List.length_cons] at this; simp only; omega, by simp only; rw [e.2]; rfl⟩, .inr (by simp only; omega), by simp only; omega⟩, fun hge => ⟨2, v, rfl, ?_⟩⟩
        rw [dim_end hge h1]
    · rw [typT, baseT, if_neg n1, if_pos hb]
      refine WP_loop puK (fun x : Nat × Nat => ⟨[⟨1, [], .box 0 0⟩, ⟨3, [], .vec 2 x.2⟩, ⟨4, [], .v (.int .i64 x.1)⟩], [], [⟨0, 29, [.v (.int .i64 d), .v (.int .u8 b), .v (.string (bs nm))]⟩], [⟨2, x.2, 79, 4, ((kw longS) :: dimT x.1).length, tkCells ((kw longS) :: dimT x.1)⟩], 3, m⟩)
        (fun x => x.1 = 0 ∨ (x.1 : Int) ≤ d) (fun x => d.toNat - x.1) (0, 0) (by kernel_rfl) (fun _ _ => Nat.le_of_ble_eq_true rfl) (fun _ _ => .inl rfl) (fun _ => ?_) ?_ ?_ ?_
      · simp only [go_sem, ↓imp_tf, ↓imp_ft, ↓reduceIte]
      · simp only [go_sem, ↓imp_tf, ↓imp_ft, ↓reduceIte]
        exact ⟨rfl, rfl, rfl⟩
      · exact .inl rfl
      · rintro ⟨k, v⟩ h1
        simp only at h1
        simp only [go_sem, ↓imp_tf, ↓imp_ft, ↓reduceIte]
        have e := dim_next (kw longS) k
        refine ⟨fun hlt => ⟨⟨by simp only [List.length_cons, dimT_len]; omega, by simp only [List.length_cons, dimT_len, maxLen]; omega⟩, by unfold I64; omega, (k + 1, v + 1), ⟨⟨rfl, by simp⟩, rfl, by have := e.1; simp only [List.length_cons] at this; simp only; omega, by simp only; rw [e.2]; rfl⟩, .inr (by simp only; omega), by simp only; omega⟩, fun hge => ⟨2, v, rfl, ?_⟩⟩
        rw [dim_end hge h1]
    · rw [typT, baseT, if_neg n1, if_neg n2, if_pos hb]
      refine WP_loop puK (fun x : Nat × Nat => ⟨[⟨1, [], .box 0 0⟩, ⟨3, [], .vec 2 x.2⟩, ⟨4, [], .v (.int .i64 x.1)⟩], [], [⟨0, 29, [.v (.int .i64 d), .v (.int .u8 b), .v (.string (bs nm))]⟩], [⟨2, x.2, 79, 4, ((kw voidS) :: dimT x.1).length, tkCells ((kw voidS) :: dimT x.1)⟩], 3, m⟩)
        (fun x => x.1 = 0 ∨ (x.1 : Int) ≤ d) (fun x => d.toNat - x.1) (0, 0) (by kernel_rfl) (fun _ _ => Nat.le_of_ble_eq_true rfl) (fun _ _ => .inl rfl) (fun _ => ?_) ?_ ?_ ?_
      · simp only [go_sem, ↓imp_tf, ↓imp_ft, ↓reduceIte]
      · simp only [go_sem, ↓imp_tf, ↓imp_ft, ↓reduceIte]
        exact ⟨rfl, rfl, rfl⟩
      · exact .inl rfl
      · rintro ⟨k, v⟩ h1
        simp only at h1
        simp only [go_sem, ↓imp_tf, ↓imp_ft, ↓reduceIte]
        have e := dim_next (kw voidS) k
        refine ⟨fun hlt => ⟨⟨by simp only [List.length_cons, dimT_len]; omega, by simp only [List.length_cons, dimT_len, maxLen]; omega⟩, by unfold I64; omega, (k + 1, v + 1), ⟨⟨rfl, by simp⟩, rfl, by have := e.1; simp only [List.length_cons] at this; simp only; omega, by simp only; rw [e.2]; rfl⟩, .inr (by simp only; omega), by simp only; omega⟩, fun hge => ⟨2, v, rfl, ?_⟩⟩
        rw [dim_end hge h1]
    · rw [typT, baseT, if_neg n1, if_neg n2, if_neg n3]
      refine WP_loop puK (fun x : Nat × Nat => ⟨[⟨1, [], .box 0 0⟩, ⟨3, [], .vec 1 x.2⟩, ⟨4, [], .v (.int .i64 x.1)⟩], [], [⟨0, 29, [.v (.int .i64 d), .v (.int .u8 b), .v (.string (bs nm))]⟩], [⟨1, x.2, 79, 4, ((nm1 nm) :: dimT x.1).length, tkCells ((nm1 nm) :: dimT x.1)⟩], 3, m⟩)
        (fun x => x.1 = 0 ∨ (x.1 : Int) ≤ d) (fun x => d.toNat - x.1) (0, 0) (by kernel_rfl) (fun _ _ => Nat.le_of_ble_eq_true rfl) (fun _ _ => .inl rfl) (fun _ => ?_) ?_ ?_ ?_
      · simp only [go_sem, ↓imp_tf, ↓imp_ft, ↓reduceIte]
      · simp only [go_sem, ↓imp_tf, ↓imp_ft, ↓reduceIte]
        exact ⟨rfl, rfl, rfl⟩
      · exact .inl rfl
      · rintro ⟨k, v⟩ h1
        simp only at h1
        simp only [go_sem, ↓imp_tf, ↓imp_ft, ↓reduceIte]
        have e := dim_next (nm1 nm) k
        refine ⟨fun hlt => ⟨⟨by simp only [List.length_cons, dimT_len]; omega, by simp only [List.length_cons, dimT_len, maxLen]; omega⟩, by unfold I64; omega, (k + 1, v + 1), ⟨⟨rfl, by simp⟩, rfl, by have := e.1; simp only [List.length_cons] at this; simp only; omega, by simp only; rw [e.2]; rfl⟩, .inr (by simp only; omega), by simp only; omega⟩, fun hge => ⟨1, v, rfl, ?_⟩⟩
        rw [dim_end hge h1]
/-- What the reference's tokens of an expression are. -/
def RefE (e : Ex) (m : Mem) : Prop := ∀ (cs : List Value) (m' : Mem), leM m m' → exRep m' e cs → RetT 42 [.v (.agg ⟨cs⟩)] m' (exprT e)
theorem RefE.up {e : Ex} {m m' : Mem} (h : RefE e m) (hm : leM m m') : RefE e m' := fun cs m2 hle => h cs m2 (leM_tr hm hle)
theorem rlist_spec (l : List Ex) (a : Option Addr) (n c : Nat) (xs : List Value) (m : Mem) (hl : l.length = n) (hn : n ≤ big) (hr : Rds m a n 8 xs) (hes : exsRep m l xs) (hE : ∀ e ∈ l, RefE e m) (hb : (commaT true (l.map exprT)).length ≤ cap) :
    RetT 108 [.v (.slice a n c)] m (commaT true (l.map exprT)) := by
  refine retT_of ?_
  refine enter cfK puK Tryz.func108 rfl rfl (by kernel_rfl) rfl ?_ ?_
  · simp only [go_sem, ↓imp_tf, ↓imp_ft, ↓reduceIte]
  · simp only [go_sem, ↓imp_tf, ↓imp_ft, ↓reduceIte]
    refine WP_loop puK (fun x : Nat × Nat × Mem => ⟨[⟨0, [], .v (.slice a n c)⟩, ⟨3, [], .vec 0 x.2.1⟩, ⟨4, [], .v (.int .i64 x.1)⟩], [], [], [⟨0, x.2.1, 79, 4, (commaT true ((l.map exprT).take x.1)).length, tkCells (commaT true ((l.map exprT).take x.1))⟩], 1, x.2.2⟩)
      (fun x => leM m x.2.2 ∧ x.1 ≤ n) (fun x => n - x.1) (0, 0, m) (by kernel_rfl) (fun _ _ => Nat.le_refl _) (fun x hx => hx.1) (fun _ => ?_) ?_ ?_ ?_
    · simp only [go_sem, ↓imp_tf, ↓imp_ft, ↓reduceIte]
    · simp only [go_sem, ↓imp_tf, ↓imp_ft, ↓reduceIte]
      exact ⟨rfl, rfl, rfl⟩
    · exact ⟨.inl rfl, Nat.zero_le _⟩
    · rintro ⟨k, v, mm⟩ ⟨h1, h2⟩
      simp only at h1 h2
      have hx : ∀ (hk : k < l.length), ∃ x : Nd, Rd mm (ptrAt a (k * 8)) x.cs ∧ a ≠ none ∧ RetT 42 [.v (.agg ⟨x.cs⟩)] mm (exprT l[k]) := fun hk => by
        have hrep := exRep_upM h1 (exs_at hes hk)
        obtain ⟨x, hx⟩ := exRep_nd hrep
        have hrd := Rds_cells (Rds_upM h1 hr) (by omega : k < n)
        rw [hx] at hrep hrd
        exact ⟨x, hrd.1, hrd.2, hE _ (List.getElem_mem hk) x.cs mm h1 hrep⟩
      have hct := fun (hk : k < l.length) => comma_take (l := l.map exprT) (f := true) (k := k) (by simpa using hk)
      have hcl := comma_len (l.map exprT) true
      clear hE
      simp only [go_sem, ↓imp_tf, ↓imp_ft, ↓reduceIte]
      refine ⟨fun hlt => ?_, fun hge => ⟨h1, 0, v, rfl, ?_⟩⟩
      · have hk : k < l.length := by clear hx; omega
        have hT := hct hk
        have hL := hcl (k + 1)
        simp only [List.getElem_map] at hT
        rw [hT] at hL
        simp only [List.length_append, cap] at hL hb
        clear hct hcl
        refine Exists.elim (hx hk) fun x hx1 => ?_
        clear hx
        have hxr := hx1.1
        have hxn := hx1.2.1
        have hxc := hx1.2.2
        clear hx1
        refine ⟨fun h0 => ⟨⟨by clear hxc; omega, by clear hxc; simp only [maxLen]; omega⟩, ⟨by clear hxc; omega, hlt, hxn⟩, x.cs, ⟨hxr, rfl⟩, by kernel_rfl, FnV_of (hxc.mono ?_)⟩, fun h0 => ⟨⟨by clear hxc; omega, hlt, hxn⟩, x.cs, ⟨hxr, rfl⟩, by kernel_rfl, FnV_of (hxc.mono ?_)⟩⟩
        · clear hxc
          have e1 : (0 < k ∨ true = false) := .inl (by omega)
          rw [if_pos e1] at hT hL
          simp only [List.length_cons] at hL
          rintro r H' m2 hm2 ⟨l2, rfl, rfl⟩
          simp only [go_sem, ↓imp_tf, ↓imp_ft, ↓reduceIte]
          refine ⟨⟨by omega, by simp only [maxLen]; omega⟩, by unfold I64; simp only [big] at hn; omega, (k + 1, v + 2, m2), ⟨⟨rfl, by simp⟩, ⟨rfl, ?_, ?_⟩, .inl rfl⟩, ⟨leM_tr h1 l2, by simp only; omega⟩, by simp only; omega⟩
          · simp only; rw [hT]; simp only [List.length_append, List.length_cons]; omega
          · simp only; rw [hT, tkCells_app]; simp [tkCells, sg]
        · clear hxc
          have e1 : ¬ (0 < k ∨ true = false) := fun h => by rcases h with h | h; omega; cases h
          rw [if_neg e1] at hT hL
          rintro r H' m2 hm2 ⟨l2, rfl, rfl⟩
          simp only [go_sem, ↓imp_tf, ↓imp_ft, ↓reduceIte]
          refine ⟨⟨by omega, by simp only [maxLen]; omega⟩, by unfold I64; simp only [big] at hn; omega, (k + 1, v + 1, m2), ⟨⟨rfl, by simp⟩, ⟨rfl, ?_, ?_⟩, .inl rfl⟩, ⟨leM_tr h1 l2, by simp only; omega⟩, by simp only; omega⟩
          · simp only; rw [hT]; simp only [List.length_append]
          · simp only; rw [hT, tkCells_app]
      · rw [List.take_of_length_le (by simp; clear hx; omega)]
theorem roperand_spec (e : Ex) (x : Nd) (m : Mem) (hrep : exRep m e x.cs) (hE : RefE e m) (hb : (exprT e).length + 2 ≤ cap) : RetT 106 [.v (.agg ⟨x.cs⟩)] m (opdT (isOp e.k) (exprT e)) := by
  have hk : x.k = e.k := by
    cases e with
    | mk k n s c ty args =>
      obtain ⟨y, hy, h1, _⟩ := ex_parts hrep
      rw [nd_inj hy, h1]
      rfl
  have hT := hE x.cs m (.inl rfl) hrep
  refine retT_of ?_
  refine enter cfK puK Tryz.func106 rfl rfl (by kernel_rfl) rfl ?_ ?_
  · simp only [go_sem, ↓imp_tf, ↓imp_ft, ↓reduceIte, Nd.cs]
  · simp only [go_sem, ↓imp_tf, ↓imp_ft, ↓reduceIte, Nd.cs]
    have hR := fun (a : Option Addr) (c : Nat) (m' : Mem) (hr : Rds m' a (exprT e).length 4 (tkCells (exprT e))) => rround_spec (exprT e) a c m' hr hb
    refine ⟨fun h => ⟨by kernel_rfl, FnV_of ((FnH_den hT (fun V => rfl)).mono ?_)⟩, fun h => ⟨by kernel_rfl, FnV_of ((FnH_den hT (fun V => rfl)).mono ?_)⟩⟩
    · clear hT
      have e1 : isOp e.k = true := by rw [← hk]; simp only [isOp, Bool.or_eq_true, decide_eq_true_eq]; exact h
      rintro r H' m2 hm2 ⟨l2, rfl, rfl⟩
      simp only [go_sem, ↓imp_tf, ↓imp_ft, ↓reduceIte]
      refine ⟨by kernel_rfl, fun a c m3 hm3 hc hr => FnV_of ((hR a c m3 hr).mono ?_)⟩
      clear hR
      rintro r H' m4 hm4 ⟨l4, rfl, rfl⟩
      simp only [go_sem, ↓imp_tf, ↓imp_ft, ↓reduceIte]
      refine ⟨leM_tr l2 (leM_tr (.inr hm3) l4), _, _, rfl, ?_⟩
      have e2 : opdT true (exprT e) = sg [40] :: (exprT e ++ [sg [41]]) := by simp [opdT, listT, commaT]
      rw [e1, e2]
      rfl
    · clear hT hR
      have e1 : isOp e.k = false := by rw [← hk]; simp only [isOp, Bool.or_eq_false_iff, decide_eq_false_iff_not]; exact h
      rintro r H' m2 hm2 ⟨l2, rfl, rfl⟩
      simp only [go_sem, ↓imp_tf, ↓imp_ft, ↓reduceIte]
      refine ⟨l2, _, _, rfl, ?_⟩
      rw [e1]
      rfl
end Go.Proofs.YtalalcpefggniaaGreatDoor.E

namespace Go.Proofs.YtalalcpefggniaaGreatDoor.E
open Go

/-- The operands' tokens are what they should be. -/
structure RArgOk (args : List Ex) (a : Option Addr) (cp : Nat) (m : Mem) : Prop where
  opd : ∀ (i o : Nat) (m' : Mem) (_ : i < args.length), leM m m' → o = i * 8 → ∃ x : Nd, (Rd m' (ptrAt a o) x.cs ∧ a ≠ none) ∧
    (∀ m2, leM m' m2 → (oAt (exprTs args) i).length ≤ cap → RetT 106 [.v (.agg ⟨x.cs⟩)] m2 (oAt (exprTs args) i)) ∧
    (∀ m2, leM m' m2 → (tAt (exprTs args) i).length ≤ cap → RetT 42 [.v (.agg ⟨x.cs⟩)] m2 (tAt (exprTs args) i))
  lst : ∀ m', leM m m' → (commaT true ((exprTs args).map (·.2))).length ≤ cap → RetT 108 [.v (.slice a args.length cp)] m' (commaT true ((exprTs args).map (·.2)))
  lst1 : 1 ≤ args.length → ∀ m', leM m m' → (commaT true (((exprTs args).drop 1).map (·.2))).length ≤ cap → RetT 108 [.v (slv a cp 1 args.length 8)] m' (commaT true (((exprTs args).drop 1).map (·.2)))
theorem rtk1 (n : Int) (s c : List UInt8) (ty : Ty) (args : List Ex) (a : Option Addr) (cp : Nat) (m : Mem) (hcp : args.length ≤ cp) (hn : args.length ≤ big) (hty : ty.dim ≤ 1000) (hA : RArgOk args a cp m)
    (hb : (nodeT 1 n s c ty (exprTs args)).length ≤ cap) : RetT 42 [.v (.agg ⟨exC 1 n s c ty (.slice a args.length cp)⟩)] m (nodeT 1 n s c ty (exprTs args)) := by
  have hT : nodeT 1 n s c ty (exprTs args) = [⟨3, [], n, 0⟩] := rfl
  rw [hT] at hb ⊢
  clear hT
  refine retT_of ?_
  refine enter cfK puK Tryz.func42 rfl rfl (by kernel_rfl) rfl ?_ ?_
  · simp only [go_sem, ↓imp_tf, ↓imp_ft, ↓reduceIte, exC]
  · simp only [go_sem, ↓imp_tf, ↓imp_ft, ↓reduceIte, exC, Int.reduceEq, decide_true, decide_false]
    refine ⟨by kernel_rfl, FnV_of ((rsome_spec _ _ m).mono ?_)⟩
    rintro r H' m1 hm1 ⟨rfl, rfl, rfl⟩
    simp only [go_sem, ↓imp_tf, ↓imp_ft, ↓reduceIte, exC]
    exact ⟨_, _, rfl, rfl⟩
theorem rtk2 (n : Int) (s c : List UInt8) (ty : Ty) (args : List Ex) (a : Option Addr) (cp : Nat) (m : Mem) (hcp : args.length ≤ cp) (hn : args.length ≤ big) (hty : ty.dim ≤ 1000) (hA : RArgOk args a cp m)
    (hb : (nodeT 2 n s c ty (exprTs args)).length ≤ cap) : RetT 42 [.v (.agg ⟨exC 2 n s c ty (.slice a args.length cp)⟩)] m (nodeT 2 n s c ty (exprTs args)) := by
  have hT : nodeT 2 n s c ty (exprTs args) = [⟨4, [], n, 0⟩] := rfl
  rw [hT] at hb ⊢
  clear hT
  refine retT_of ?_
  refine enter cfK puK Tryz.func42 rfl rfl (by kernel_rfl) rfl ?_ ?_
  · simp only [go_sem, ↓imp_tf, ↓imp_ft, ↓reduceIte, exC]
  · simp only [go_sem, ↓imp_tf, ↓imp_ft, ↓reduceIte, exC, Int.reduceEq, decide_true, decide_false]
    refine ⟨by kernel_rfl, FnV_of ((rsome_spec _ _ m).mono ?_)⟩
    rintro r H' m1 hm1 ⟨rfl, rfl, rfl⟩
    simp only [go_sem, ↓imp_tf, ↓imp_ft, ↓reduceIte, exC]
    exact ⟨_, _, rfl, rfl⟩
theorem rtk3 (n : Int) (s c : List UInt8) (ty : Ty) (args : List Ex) (a : Option Addr) (cp : Nat) (m : Mem) (hcp : args.length ≤ cp) (hn : args.length ≤ big) (hty : ty.dim ≤ 1000) (hA : RArgOk args a cp m)
    (hb : (nodeT 3 n s c ty (exprTs args)).length ≤ cap) : RetT 42 [.v (.agg ⟨exC 3 n s c ty (.slice a args.length cp)⟩)] m (nodeT 3 n s c ty (exprTs args)) := by
  have hT : nodeT 3 n s c ty (exprTs args) = [⟨5, s, 0, 0⟩] := rfl
  rw [hT] at hb ⊢
  clear hT
  refine retT_of ?_
  refine enter cfK puK Tryz.func42 rfl rfl (by kernel_rfl) rfl ?_ ?_
  · simp only [go_sem, ↓imp_tf, ↓imp_ft, ↓reduceIte, exC]
  · simp only [go_sem, ↓imp_tf, ↓imp_ft, ↓reduceIte, exC, Int.reduceEq, decide_true, decide_false]
    refine ⟨by kernel_rfl, FnV_of ((rsome_spec _ _ m).mono ?_)⟩
    rintro r H' m1 hm1 ⟨rfl, rfl, rfl⟩
    simp only [go_sem, ↓imp_tf, ↓imp_ft, ↓reduceIte, exC]
    exact ⟨_, _, rfl, rfl⟩
theorem rtk4 (n : Int) (s c : List UInt8) (ty : Ty) (args : List Ex) (a : Option Addr) (cp : Nat) (m : Mem) (hcp : args.length ≤ cp) (hn : args.length ≤ big) (hty : ty.dim ≤ 1000) (hA : RArgOk args a cp m)
    (hb : (nodeT 4 n s c ty (exprTs args)).length ≤ cap) : RetT 42 [.v (.agg ⟨exC 4 n s c ty (.slice a args.length cp)⟩)] m (nodeT 4 n s c ty (exprTs args)) := by
  have hT : nodeT 4 n s c ty (exprTs args) = [kw [110, 117, 108, 108]] := rfl
  rw [hT] at hb ⊢
  clear hT
  refine retT_of ?_
  refine enter cfK puK Tryz.func42 rfl rfl (by kernel_rfl) rfl ?_ ?_
  · simp only [go_sem, ↓imp_tf, ↓imp_ft, ↓reduceIte, exC]
  · simp only [go_sem, ↓imp_tf, ↓imp_ft, ↓reduceIte, exC, Int.reduceEq, decide_true, decide_false]
    refine ⟨by kernel_rfl, FnV_of ((rsome_spec _ _ m).mono ?_)⟩
    rintro r H' m1 hm1 ⟨rfl, rfl, rfl⟩
    simp only [go_sem, ↓imp_tf, ↓imp_ft, ↓reduceIte, exC]
    exact ⟨_, _, rfl, rfl⟩
theorem rtk5 (n : Int) (s c : List UInt8) (ty : Ty) (args : List Ex) (a : Option Addr) (cp : Nat) (m : Mem) (hcp : args.length ≤ cp) (hn : args.length ≤ big) (hty : ty.dim ≤ 1000) (hA : RArgOk args a cp m)
    (hb : (nodeT 5 n s c ty (exprTs args)).length ≤ cap) : RetT 42 [.v (.agg ⟨exC 5 n s c ty (.slice a args.length cp)⟩)] m (nodeT 5 n s c ty (exprTs args)) := by
  have hT : nodeT 5 n s c ty (exprTs args) = [kw [116, 104, 105, 115]] := rfl
  rw [hT] at hb ⊢
  clear hT
  refine retT_of ?_
  refine enter cfK puK Tryz.func42 rfl rfl (by kernel_rfl) rfl ?_ ?_
  · simp only [go_sem, ↓imp_tf, ↓imp_ft, ↓reduceIte, exC]
  · simp only [go_sem, ↓imp_tf, ↓imp_ft, ↓reduceIte, exC, Int.reduceEq, decide_true, decide_false]
    refine ⟨by kernel_rfl, FnV_of ((rsome_spec _ _ m).mono ?_)⟩
    rintro r H' m1 hm1 ⟨rfl, rfl, rfl⟩
    simp only [go_sem, ↓imp_tf, ↓imp_ft, ↓reduceIte, exC]
    exact ⟨_, _, rfl, rfl⟩
theorem rtk6 (n : Int) (s c : List UInt8) (ty : Ty) (args : List Ex) (a : Option Addr) (cp : Nat) (m : Mem) (hcp : args.length ≤ cp) (hn : args.length ≤ big) (hty : ty.dim ≤ 1000) (hA : RArgOk args a cp m)
    (hb : (nodeT 6 n s c ty (exprTs args)).length ≤ cap) : RetT 42 [.v (.agg ⟨exC 6 n s c ty (.slice a args.length cp)⟩)] m (nodeT 6 n s c ty (exprTs args)) := by
  have hT : nodeT 6 n s c ty (exprTs args) = [nm1 s] := rfl
  rw [hT] at hb ⊢
  clear hT
  refine retT_of ?_
  refine enter cfK puK Tryz.func42 rfl rfl (by kernel_rfl) rfl ?_ ?_
  · simp only [go_sem, ↓imp_tf, ↓imp_ft, ↓reduceIte, exC]
  · simp only [go_sem, ↓imp_tf, ↓imp_ft, ↓reduceIte, exC, Int.reduceEq, decide_true, decide_false]
    refine ⟨by kernel_rfl, FnV_of ((rsome_spec _ _ m).mono ?_)⟩
    rintro r H' m1 hm1 ⟨rfl, rfl, rfl⟩
    simp only [go_sem, ↓imp_tf, ↓imp_ft, ↓reduceIte, exC]
    exact ⟨_, _, rfl, rfl⟩
theorem rtk7 (n : Int) (s c : List UInt8) (ty : Ty) (args : List Ex) (a : Option Addr) (cp : Nat) (m : Mem) (hcp : args.length ≤ cp) (hn : args.length ≤ big) (hty : ty.dim ≤ 1000) (hA : RArgOk args a cp m) (hl : 1 ≤ args.length)
    (hb : (nodeT 7 n s c ty (exprTs args)).length ≤ cap) : RetT 42 [.v (.agg ⟨exC 7 n s c ty (.slice a args.length cp)⟩)] m (nodeT 7 n s c ty (exprTs args)) := by
  have hT : nodeT 7 n s c ty (exprTs args) = List.flatten [oAt (exprTs args) 0, [sg [46], nm1 s]] := by simp [nodeT, listT, commaT]
  rw [hT] at hb ⊢
  clear hT
  have hb0 := hb
  simp only [List.flatten_cons, List.flatten_nil, List.length_append, List.length_cons, List.length_nil, cap] at hb
  refine retT_of ?_
  refine enter cfK puK Tryz.func42 rfl rfl (by kernel_rfl) rfl ?_ ?_
  · simp only [go_sem, ↓imp_tf, ↓imp_ft, ↓reduceIte, exC]
  · simp only [go_sem, ↓imp_tf, ↓imp_ft, ↓reduceIte, exC, Int.reduceEq, decide_true, decide_false]
    refine WP_draw (.hoist 0 (.hoist 1 (.hoist 2 (.hoist 3 (.hoist 6 (.hoist 7 (.alt 4 [7, 6] (.alt 5 [7, 6] (.alt 8 [] (.alt 9 [] (.alt 10 [] (.alt 11 [] (.alt 12 [] (.hoist 13 .done) .stop) .stop) .stop) .stop) .stop) .stop) .stop))))))) puK (by kernel_rfl) (by kernel_rfl) ?_
    simp only [go_sem, ↓imp_tf, ↓imp_ft, ↓reduceIte, exC]
    refine Exists.elim (hA.opd 0 0 m (by omega) (.inl rfl) rfl) fun x0 hx0 => ⟨⟨by omega, by omega, hx0.1.2⟩, x0.cs, ⟨hx0.1.1, rfl⟩, ?_⟩
    refine ⟨by kernel_rfl, FnV_of ((FnH_den (hx0.2.1 m (.inl rfl : leM m m) (by simp only [cap]; omega)) (fun V => rfl)).mono ?_)⟩
    rintro r H' m1 hm1 ⟨l1, rfl, rfl⟩
    have L1 : leM m m1 := leM_tr (.inl rfl : leM m m) l1
    simp only [go_sem, ↓imp_tf, ↓imp_ft, ↓reduceIte, exC, Int.reduceEq, decide_true, decide_false, l1, L1, and_self]
    refine ⟨by kernel_rfl, FnV_of ((rsome_spec _ _ m1).mono ?_)⟩
    rintro r H' m2 hm2 ⟨rfl, rfl, _⟩
    have l2 : leM m1 m2 := .inr hm2
    have L2 : leM m m2 := leM_tr L1 l2
    simp only [go_sem, ↓imp_tf, ↓imp_ft, ↓reduceIte, exC, Int.reduceEq, decide_true, decide_false, l1, L1, l2, L2, and_self]
    intro p0 q0 v0 hv0 hq0 s0
    intro p1 q1 v1 hv1 hq1 s1
    refine ⟨by kernel_rfl, fun aj cj wj hwj hcj rj => FnV_of ((rjoinL_spec [oAt (exprTs args) 0, [sg [46], nm1 s]] aj 2 cj _ wj rfl rj ⟨⟨p0, q0, rfl, hq0, Rds_upM (leM_tr (.inr hv1) (.inr hwj)) s0⟩, ⟨⟨p1, q1, rfl, hq1, Rds_upM (.inr hwj) s1⟩, trivial⟩⟩ (by decide) hb0).mono ?_)⟩
    rintro r H' mj hmj ⟨lj, rfl, rfl⟩
    simp only [go_sem, ↓imp_tf, ↓imp_ft, ↓reduceIte, exC, Int.reduceEq, decide_true, decide_false]
    exact ⟨leM_tr L2 (leM_tr (leM_tr (.inr hv0) (leM_tr (.inr hv1) (.inr hwj))) lj), _, _, rfl, rfl⟩
theorem rtk8 (n : Int) (s c : List UInt8) (ty : Ty) (args : List Ex) (a : Option Addr) (cp : Nat) (m : Mem) (hcp : args.length ≤ cp) (hn : args.length ≤ big) (hty : ty.dim ≤ 1000) (hA : RArgOk args a cp m)
    (hb : (nodeT 8 n s c ty (exprTs args)).length ≤ cap) : RetT 42 [.v (.agg ⟨exC 8 n s c ty (.slice a args.length cp)⟩)] m (nodeT 8 n s c ty (exprTs args)) := by
  have hT : nodeT 8 n s c ty (exprTs args) = [nm1 c, sg [46], nm1 s] := rfl
  rw [hT] at hb ⊢
  clear hT
  refine retT_of ?_
  refine enter cfK puK Tryz.func42 rfl rfl (by kernel_rfl) rfl ?_ ?_
  · simp only [go_sem, ↓imp_tf, ↓imp_ft, ↓reduceIte, exC]
  · simp only [go_sem, ↓imp_tf, ↓imp_ft, ↓reduceIte, exC, Int.reduceEq, decide_true, decide_false]
    refine WP_draw (.hoist 0 (.hoist 1 (.hoist 4 (.hoist 5 (.alt 2 [5, 4] (.alt 3 [5, 4] (.alt 6 [] (.alt 7 [] (.alt 8 [] (.hoist 9 .done) .stop) .stop) .stop) .stop) .stop))))) puK (by kernel_rfl) (by kernel_rfl) ?_
    simp only [go_sem, ↓imp_tf, ↓imp_ft, ↓reduceIte, exC]
    refine ⟨by kernel_rfl, FnV_of ((rsome_spec _ _ m).mono ?_)⟩
    rintro r H' m1 hm1 ⟨rfl, rfl, rfl⟩
    simp only [go_sem, ↓imp_tf, ↓imp_ft, ↓reduceIte, exC]
    exact ⟨_, _, rfl, rfl⟩
theorem rtk9 (n : Int) (s c : List UInt8) (ty : Ty) (args : List Ex) (a : Option Addr) (cp : Nat) (m : Mem) (hcp : args.length ≤ cp) (hn : args.length ≤ big) (hty : ty.dim ≤ 1000) (hA : RArgOk args a cp m) (hl : 2 ≤ args.length)
    (hb : (nodeT 9 n s c ty (exprTs args)).length ≤ cap) : RetT 42 [.v (.agg ⟨exC 9 n s c ty (.slice a args.length cp)⟩)] m (nodeT 9 n s c ty (exprTs args)) := by
  have hT : nodeT 9 n s c ty (exprTs args) = List.flatten [oAt (exprTs args) 0, [sg [91]], tAt (exprTs args) 1, [sg [93]]] := by simp [nodeT, listT, commaT]
  rw [hT] at hb ⊢
  clear hT
  have hb0 := hb
  simp only [List.flatten_cons, List.flatten_nil, List.length_append, List.length_cons, List.length_nil, cap] at hb
  refine retT_of ?_
  refine enter cfK puK Tryz.func42 rfl rfl (by kernel_rfl) rfl ?_ ?_
  · simp only [go_sem, ↓imp_tf, ↓imp_ft, ↓reduceIte, exC]
  · simp only [go_sem, ↓imp_tf, ↓imp_ft, ↓reduceIte, exC, Int.reduceEq, decide_true, decide_false]
    refine WP_draw (.hoist 0 (.hoist 1 (.hoist 2 (.hoist 3 (.hoist 8 (.hoist 9 (.hoist 10 (.hoist 11 (.alt 4 [11, 10, 9, 8] (.alt 5 [11, 10, 9, 8] (.alt 6 [11, 10, 9, 8] (.alt 7 [11, 10, 9, 8] (.alt 12 [] (.alt 13 [] (.alt 14 [] (.alt 15 [] (.alt 16 [] (.alt 17 [] (.hoist 18 .done) .stop) .stop) .stop) .stop) .stop) .stop) .stop) .stop) .stop) .stop))))))))) puK (by kernel_rfl) (by kernel_rfl) ?_
    simp only [go_sem, ↓imp_tf, ↓imp_ft, ↓reduceIte, exC]
    refine Exists.elim (hA.opd 0 0 m (by omega) (.inl rfl) rfl) fun x0 hx0 => ⟨⟨by omega, by omega, hx0.1.2⟩, x0.cs, ⟨hx0.1.1, rfl⟩, ?_⟩
    refine Exists.elim (hA.opd 1 8 m (by omega) (.inl rfl) rfl) fun x1 hx1 => ⟨⟨by omega, by omega, hx1.1.2⟩, x1.cs, ⟨hx1.1.1, rfl⟩, ?_⟩
    refine ⟨by kernel_rfl, FnV_of ((FnH_den (hx0.2.1 m (.inl rfl : leM m m) (by simp only [cap]; omega)) (fun V => rfl)).mono ?_)⟩
    rintro r H' m1 hm1 ⟨l1, rfl, rfl⟩
    have L1 : leM m m1 := leM_tr (.inl rfl : leM m m) l1
    simp only [go_sem, ↓imp_tf, ↓imp_ft, ↓reduceIte, exC, Int.reduceEq, decide_true, decide_false, l1, L1, and_self]
    refine ⟨by kernel_rfl, FnV_of ((rsome_spec _ _ m1).mono ?_)⟩
    rintro r H' m2 hm2 ⟨rfl, rfl, _⟩
    have l2 : leM m1 m2 := .inr hm2
    have L2 : leM m m2 := leM_tr L1 l2
    simp only [go_sem, ↓imp_tf, ↓imp_ft, ↓reduceIte, exC, Int.reduceEq, decide_true, decide_false, l1, L1, l2, L2, and_self]
    refine ⟨by kernel_rfl, FnV_of ((FnH_den (hx1.2.2 m2 L2 (by simp only [cap]; omega)) (fun V => rfl)).mono ?_)⟩
    rintro r H' m3 hm3 ⟨l3, rfl, rfl⟩
    have L3 : leM m m3 := leM_tr L2 l3
    simp only [go_sem, ↓imp_tf, ↓imp_ft, ↓reduceIte, exC, Int.reduceEq, decide_true, decide_false, l1, L1, l2, L2, l3, L3, and_self]
    refine ⟨by kernel_rfl, FnV_of ((rsome_spec _ _ m3).mono ?_)⟩
    rintro r H' m4 hm4 ⟨rfl, rfl, _⟩
    have l4 : leM m3 m4 := .inr hm4
    have L4 : leM m m4 := leM_tr L3 l4
    simp only [go_sem, ↓imp_tf, ↓imp_ft, ↓reduceIte, exC, Int.reduceEq, decide_true, decide_false, l1, L1, l2, L2, l3, L3, l4, L4, and_self]
    intro p0 q0 v0 hv0 hq0 s0
    intro p1 q1 v1 hv1 hq1 s1
    intro p2 q2 v2 hv2 hq2 s2
    intro p3 q3 v3 hv3 hq3 s3
    refine ⟨by kernel_rfl, fun aj cj wj hwj hcj rj => FnV_of ((rjoinL_spec [oAt (exprTs args) 0, [sg [91]], tAt (exprTs args) 1, [sg [93]]] aj 4 cj _ wj rfl rj ⟨⟨p0, q0, rfl, hq0, Rds_upM (leM_tr (.inr hv1) (leM_tr (.inr hv2) (leM_tr (.inr hv3) (.inr hwj)))) s0⟩, ⟨⟨p1, q1, rfl, hq1, Rds_upM (leM_tr (.inr hv2) (leM_tr (.inr hv3) (.inr hwj))) s1⟩, ⟨⟨p2, q2, rfl, hq2, Rds_upM (leM_tr (.inr hv3) (.inr hwj)) s2⟩, ⟨⟨p3, q3, rfl, hq3, Rds_upM (.inr hwj) s3⟩, trivial⟩⟩⟩⟩ (by decide) hb0).mono ?_)⟩
    rintro r H' mj hmj ⟨lj, rfl, rfl⟩
    simp only [go_sem, ↓imp_tf, ↓imp_ft, ↓reduceIte, exC, Int.reduceEq, decide_true, decide_false]
    exact ⟨leM_tr L4 (leM_tr (leM_tr (.inr hv0) (leM_tr (.inr hv1) (leM_tr (.inr hv2) (leM_tr (.inr hv3) (.inr hwj))))) lj), _, _, rfl, rfl⟩
theorem rtk10 (n : Int) (s c : List UInt8) (ty : Ty) (args : List Ex) (a : Option Addr) (cp : Nat) (m : Mem) (hcp : args.length ≤ cp) (hn : args.length ≤ big) (hty : ty.dim ≤ 1000) (hA : RArgOk args a cp m) (hl : 1 ≤ args.length)
    (hb : (nodeT 10 n s c ty (exprTs args)).length ≤ cap) : RetT 42 [.v (.agg ⟨exC 10 n s c ty (.slice a args.length cp)⟩)] m (nodeT 10 n s c ty (exprTs args)) := by
  have hT : nodeT 10 n s c ty (exprTs args) = List.flatten [oAt (exprTs args) 0, [sg [46], nm1 s], (sg [40] :: (commaT true (((exprTs args).drop 1).map (·.2)) ++ [sg [41]]))] := by simp [nodeT, listT, commaT]
  rw [hT] at hb ⊢
  clear hT
  have hb0 := hb
  simp only [List.flatten_cons, List.flatten_nil, List.length_append, List.length_cons, List.length_nil, cap] at hb
  refine retT_of ?_
  refine enter cfK puK Tryz.func42 rfl rfl (by kernel_rfl) rfl ?_ ?_
  · simp only [go_sem, ↓imp_tf, ↓imp_ft, ↓reduceIte, exC]
  · simp only [go_sem, ↓imp_tf, ↓imp_ft, ↓reduceIte, exC, Int.reduceEq, decide_true, decide_false]
    refine WP_draw (.hoist 0 (.hoist 1 (.hoist 2 (.hoist 3 (.hoist 6 (.hoist 7 (.hoist 11 (.hoist 12 (.hoist 13 (.alt 4 [13, 12, 11, 7, 6] (.alt 5 [13, 12, 11, 7, 6] (.alt 8 [13, 12, 11] (.alt 9 [13, 12, 11] (.alt 10 [13, 12, 11] (.alt 14 [] (.alt 15 [] (.alt 16 [] (.alt 17 [] (.hoist 18 .done) .stop) .stop) .stop) .stop) .stop) .stop) .stop) .stop) .stop)))))))))) puK (by kernel_rfl) (by kernel_rfl) ?_
    simp only [go_sem, ↓imp_tf, ↓imp_ft, ↓reduceIte, exC]
    refine Exists.elim (hA.opd 0 0 m (by omega) (.inl rfl) rfl) fun x0 hx0 => ⟨⟨by omega, by omega, hx0.1.2⟩, x0.cs, ⟨hx0.1.1, rfl⟩, ?_⟩
    refine ⟨⟨by omega, by omega, by omega⟩, ?_⟩
    refine ⟨by kernel_rfl, FnV_of ((FnH_den (hx0.2.1 m (.inl rfl : leM m m) (by simp only [cap]; omega)) (fun V => rfl)).mono ?_)⟩
    rintro r H' m1 hm1 ⟨l1, rfl, rfl⟩
    have L1 : leM m m1 := leM_tr (.inl rfl : leM m m) l1
    simp only [go_sem, ↓imp_tf, ↓imp_ft, ↓reduceIte, exC, Int.reduceEq, decide_true, decide_false, l1, L1, and_self]
    refine ⟨by kernel_rfl, FnV_of ((rsome_spec _ _ m1).mono ?_)⟩
    rintro r H' m2 hm2 ⟨rfl, rfl, _⟩
    have l2 : leM m1 m2 := .inr hm2
    have L2 : leM m m2 := leM_tr L1 l2
    simp only [go_sem, ↓imp_tf, ↓imp_ft, ↓reduceIte, exC, Int.reduceEq, decide_true, decide_false, l1, L1, l2, L2, and_self]
    refine ⟨by kernel_rfl, FnV_of ((hA.lst1 hl m2 L2 (by simp only [cap]; omega)).mono ?_)⟩
    rintro r H' m3 hm3 ⟨l3, rfl, rfl⟩
    have L3 : leM m m3 := leM_tr L2 l3
    simp only [go_sem, ↓imp_tf, ↓imp_ft, ↓reduceIte, exC, Int.reduceEq, decide_true, decide_false, l1, L1, l2, L2, l3, L3, and_self]
    refine ⟨by kernel_rfl, fun a4 c4 w4 hw4 hc4 r4 => FnV_of ((rround_spec _ a4 c4 w4 r4 (by simp only [cap]; omega)).mono ?_)⟩
    rintro r H' m4 hm4 ⟨l4, rfl, rfl⟩
    have L4 : leM m m4 := leM_tr L3 (leM_tr (.inr hw4) l4)
    simp only [go_sem, ↓imp_tf, ↓imp_ft, ↓reduceIte, exC, Int.reduceEq, decide_true, decide_false, l1, L1, l2, L2, l3, L3, l4, L4, and_self]
    intro p0 q0 v0 hv0 hq0 s0
    intro p1 q1 v1 hv1 hq1 s1
    intro p2 q2 v2 hv2 hq2 s2
    refine ⟨by kernel_rfl, fun aj cj wj hwj hcj rj => FnV_of ((rjoinL_spec [oAt (exprTs args) 0, [sg [46], nm1 s], (sg [40] :: (commaT true (((exprTs args).drop 1).map (·.2)) ++ [sg [41]]))] aj 3 cj _ wj rfl rj ⟨⟨p0, q0, rfl, hq0, Rds_upM (leM_tr (.inr hv1) (leM_tr (.inr hv2) (.inr hwj))) s0⟩, ⟨⟨p1, q1, rfl, hq1, Rds_upM (leM_tr (.inr hv2) (.inr hwj)) s1⟩, ⟨⟨p2, q2, rfl, hq2, Rds_upM (.inr hwj) s2⟩, trivial⟩⟩⟩ (by decide) hb0).mono ?_)⟩
    rintro r H' mj hmj ⟨lj, rfl, rfl⟩
    simp only [go_sem, ↓imp_tf, ↓imp_ft, ↓reduceIte, exC, Int.reduceEq, decide_true, decide_false]
    exact ⟨leM_tr L4 (leM_tr (leM_tr (.inr hv0) (leM_tr (.inr hv1) (leM_tr (.inr hv2) (.inr hwj)))) lj), _, _, rfl, rfl⟩
theorem rtk11 (n : Int) (s c : List UInt8) (ty : Ty) (args : List Ex) (a : Option Addr) (cp : Nat) (m : Mem) (hcp : args.length ≤ cp) (hn : args.length ≤ big) (hty : ty.dim ≤ 1000) (hA : RArgOk args a cp m)
    (hb : (nodeT 11 n s c ty (exprTs args)).length ≤ cap) : RetT 42 [.v (.agg ⟨exC 11 n s c ty (.slice a args.length cp)⟩)] m (nodeT 11 n s c ty (exprTs args)) := by
  have hT : nodeT 11 n s c ty (exprTs args) = List.flatten [[nm1 c, sg [46], nm1 s], (sg [40] :: (commaT true ((exprTs args).map (·.2)) ++ [sg [41]]))] := by simp [nodeT, listT, commaT]
  rw [hT] at hb ⊢
  clear hT
  have hb0 := hb
  simp only [List.flatten_cons, List.flatten_nil, List.length_append, List.length_cons, List.length_nil, cap] at hb
  refine retT_of ?_
  refine enter cfK puK Tryz.func42 rfl rfl (by kernel_rfl) rfl ?_ ?_
  · simp only [go_sem, ↓imp_tf, ↓imp_ft, ↓reduceIte, exC]
  · simp only [go_sem, ↓imp_tf, ↓imp_ft, ↓reduceIte, exC, Int.reduceEq, decide_true, decide_false]
    refine WP_draw (.hoist 0 (.hoist 1 (.hoist 4 (.hoist 5 (.hoist 9 (.hoist 10 (.alt 2 [10, 9, 5, 4] (.alt 3 [10, 9, 5, 4] (.alt 6 [10, 9] (.alt 7 [10, 9] (.alt 8 [10, 9] (.alt 11 [] (.alt 12 [] (.alt 13 [] (.alt 14 [] (.hoist 15 .done) .stop) .stop) .stop) .stop) .stop) .stop) .stop) .stop) .stop))))))) puK (by kernel_rfl) (by kernel_rfl) ?_
    simp only [go_sem, ↓imp_tf, ↓imp_ft, ↓reduceIte, exC]
    refine ⟨by kernel_rfl, FnV_of ((rsome_spec _ _ m).mono ?_)⟩
    rintro r H' m1 hm1 ⟨rfl, rfl, _⟩
    have l1 : leM m m1 := .inr hm1
    have L1 : leM m m1 := leM_tr (.inl rfl : leM m m) l1
    simp only [go_sem, ↓imp_tf, ↓imp_ft, ↓reduceIte, exC, Int.reduceEq, decide_true, decide_false, l1, L1, and_self]
    refine ⟨by kernel_rfl, FnV_of ((hA.lst m1 L1 (by simp only [cap]; omega)).mono ?_)⟩
    rintro r H' m2 hm2 ⟨l2, rfl, rfl⟩
    have L2 : leM m m2 := leM_tr L1 l2
    simp only [go_sem, ↓imp_tf, ↓imp_ft, ↓reduceIte, exC, Int.reduceEq, decide_true, decide_false, l1, L1, l2, L2, and_self]
    refine ⟨by kernel_rfl, fun a3 c3 w3 hw3 hc3 r3 => FnV_of ((rround_spec _ a3 c3 w3 r3 (by simp only [cap]; omega)).mono ?_)⟩
    rintro r H' m3 hm3 ⟨l3, rfl, rfl⟩
    have L3 : leM m m3 := leM_tr L2 (leM_tr (.inr hw3) l3)
    simp only [go_sem, ↓imp_tf, ↓imp_ft, ↓reduceIte, exC, Int.reduceEq, decide_true, decide_false, l1, L1, l2, L2, l3, L3, and_self]
    intro p0 q0 v0 hv0 hq0 s0
    intro p1 q1 v1 hv1 hq1 s1
    refine ⟨by kernel_rfl, fun aj cj wj hwj hcj rj => FnV_of ((rjoinL_spec [[nm1 c, sg [46], nm1 s], (sg [40] :: (commaT true ((exprTs args).map (·.2)) ++ [sg [41]]))] aj 2 cj _ wj rfl rj ⟨⟨p0, q0, rfl, hq0, Rds_upM (leM_tr (.inr hv1) (.inr hwj)) s0⟩, ⟨⟨p1, q1, rfl, hq1, Rds_upM (.inr hwj) s1⟩, trivial⟩⟩ (by decide) hb0).mono ?_)⟩
    rintro r H' mj hmj ⟨lj, rfl, rfl⟩
    simp only [go_sem, ↓imp_tf, ↓imp_ft, ↓reduceIte, exC, Int.reduceEq, decide_true, decide_false]
    exact ⟨leM_tr L3 (leM_tr (leM_tr (.inr hv0) (leM_tr (.inr hv1) (.inr hwj))) lj), _, _, rfl, rfl⟩
theorem rtk12 (n : Int) (s c : List UInt8) (ty : Ty) (args : List Ex) (a : Option Addr) (cp : Nat) (m : Mem) (hcp : args.length ≤ cp) (hn : args.length ≤ big) (hty : ty.dim ≤ 1000) (hA : RArgOk args a cp m)
    (hb : (nodeT 12 n s c ty (exprTs args)).length ≤ cap) : RetT 42 [.v (.agg ⟨exC 12 n s c ty (.slice a args.length cp)⟩)] m (nodeT 12 n s c ty (exprTs args)) := by
  have hT : nodeT 12 n s c ty (exprTs args) = List.flatten [[kw [115, 117, 112, 101, 114], sg [46], nm1 s], (sg [40] :: (commaT true ((exprTs args).map (·.2)) ++ [sg [41]]))] := by simp [nodeT, listT, commaT]
  rw [hT] at hb ⊢
  clear hT
  have hb0 := hb
  simp only [List.flatten_cons, List.flatten_nil, List.length_append, List.length_cons, List.length_nil, cap] at hb
  refine retT_of ?_
  refine enter cfK puK Tryz.func42 rfl rfl (by kernel_rfl) rfl ?_ ?_
  · simp only [go_sem, ↓imp_tf, ↓imp_ft, ↓reduceIte, exC]
  · simp only [go_sem, ↓imp_tf, ↓imp_ft, ↓reduceIte, exC, Int.reduceEq, decide_true, decide_false]
    refine WP_draw (.hoist 2 (.hoist 3 (.hoist 7 (.hoist 8 (.alt 0 [8, 7, 3, 2] (.alt 1 [8, 7, 3, 2] (.alt 4 [8, 7] (.alt 5 [8, 7] (.alt 6 [8, 7] (.alt 9 [] (.alt 10 [] (.alt 11 [] (.alt 12 [] (.hoist 13 .done) .stop) .stop) .stop) .stop) .stop) .stop) .stop) .stop) .stop))))) puK (by kernel_rfl) (by kernel_rfl) ?_
    simp only [go_sem, ↓imp_tf, ↓imp_ft, ↓reduceIte, exC]
    refine ⟨by kernel_rfl, FnV_of ((rsome_spec _ _ m).mono ?_)⟩
    rintro r H' m1 hm1 ⟨rfl, rfl, _⟩
    have l1 : leM m m1 := .inr hm1
    have L1 : leM m m1 := leM_tr (.inl rfl : leM m m) l1
    simp only [go_sem, ↓imp_tf, ↓imp_ft, ↓reduceIte, exC, Int.reduceEq, decide_true, decide_false, l1, L1, and_self]
    refine ⟨by kernel_rfl, FnV_of ((hA.lst m1 L1 (by simp only [cap]; omega)).mono ?_)⟩
    rintro r H' m2 hm2 ⟨l2, rfl, rfl⟩
    have L2 : leM m m2 := leM_tr L1 l2
    simp only [go_sem, ↓imp_tf, ↓imp_ft, ↓reduceIte, exC, Int.reduceEq, decide_true, decide_false, l1, L1, l2, L2, and_self]
    refine ⟨by kernel_rfl, fun a3 c3 w3 hw3 hc3 r3 => FnV_of ((rround_spec _ a3 c3 w3 r3 (by simp only [cap]; omega)).mono ?_)⟩
    rintro r H' m3 hm3 ⟨l3, rfl, rfl⟩
    have L3 : leM m m3 := leM_tr L2 (leM_tr (.inr hw3) l3)
    simp only [go_sem, ↓imp_tf, ↓imp_ft, ↓reduceIte, exC, Int.reduceEq, decide_true, decide_false, l1, L1, l2, L2, l3, L3, and_self]
    intro p0 q0 v0 hv0 hq0 s0
    intro p1 q1 v1 hv1 hq1 s1
    refine ⟨by kernel_rfl, fun aj cj wj hwj hcj rj => FnV_of ((rjoinL_spec [[kw [115, 117, 112, 101, 114], sg [46], nm1 s], (sg [40] :: (commaT true ((exprTs args).map (·.2)) ++ [sg [41]]))] aj 2 cj _ wj rfl rj ⟨⟨p0, q0, rfl, hq0, Rds_upM (leM_tr (.inr hv1) (.inr hwj)) s0⟩, ⟨⟨p1, q1, rfl, hq1, Rds_upM (.inr hwj) s1⟩, trivial⟩⟩ (by decide) hb0).mono ?_)⟩
    rintro r H' mj hmj ⟨lj, rfl, rfl⟩
    simp only [go_sem, ↓imp_tf, ↓imp_ft, ↓reduceIte, exC, Int.reduceEq, decide_true, decide_false]
    exact ⟨leM_tr L3 (leM_tr (leM_tr (.inr hv0) (leM_tr (.inr hv1) (.inr hwj))) lj), _, _, rfl, rfl⟩
theorem rtk13 (n : Int) (s c : List UInt8) (ty : Ty) (args : List Ex) (a : Option Addr) (cp : Nat) (m : Mem) (hcp : args.length ≤ cp) (hn : args.length ≤ big) (hty : ty.dim ≤ 1000) (hA : RArgOk args a cp m)
    (hb : (nodeT 13 n s c ty (exprTs args)).length ≤ cap) : RetT 42 [.v (.agg ⟨exC 13 n s c ty (.slice a args.length cp)⟩)] m (nodeT 13 n s c ty (exprTs args)) := by
  have hT : nodeT 13 n s c ty (exprTs args) = List.flatten [[kw [110, 101, 119], nm1 c], (sg [40] :: (commaT true ((exprTs args).map (·.2)) ++ [sg [41]]))] := by simp [nodeT, listT, commaT]
  rw [hT] at hb ⊢
  clear hT
  have hb0 := hb
  simp only [List.flatten_cons, List.flatten_nil, List.length_append, List.length_cons, List.length_nil, cap] at hb
  refine retT_of ?_
  refine enter cfK puK Tryz.func42 rfl rfl (by kernel_rfl) rfl ?_ ?_
  · simp only [go_sem, ↓imp_tf, ↓imp_ft, ↓reduceIte, exC]
  · simp only [go_sem, ↓imp_tf, ↓imp_ft, ↓reduceIte, exC, Int.reduceEq, decide_true, decide_false]
    refine WP_draw (.hoist 1 (.hoist 2 (.hoist 6 (.hoist 7 (.alt 0 [7, 6, 2, 1] (.alt 3 [7, 6] (.alt 4 [7, 6] (.alt 5 [7, 6] (.alt 8 [] (.alt 9 [] (.alt 10 [] (.alt 11 [] (.hoist 12 .done) .stop) .stop) .stop) .stop) .stop) .stop) .stop) .stop))))) puK (by kernel_rfl) (by kernel_rfl) ?_
    simp only [go_sem, ↓imp_tf, ↓imp_ft, ↓reduceIte, exC]
    refine ⟨by kernel_rfl, FnV_of ((rsome_spec _ _ m).mono ?_)⟩
    rintro r H' m1 hm1 ⟨rfl, rfl, _⟩
    have l1 : leM m m1 := .inr hm1
    have L1 : leM m m1 := leM_tr (.inl rfl : leM m m) l1
    simp only [go_sem, ↓imp_tf, ↓imp_ft, ↓reduceIte, exC, Int.reduceEq, decide_true, decide_false, l1, L1, and_self]
    refine ⟨by kernel_rfl, FnV_of ((hA.lst m1 L1 (by simp only [cap]; omega)).mono ?_)⟩
    rintro r H' m2 hm2 ⟨l2, rfl, rfl⟩
    have L2 : leM m m2 := leM_tr L1 l2
    simp only [go_sem, ↓imp_tf, ↓imp_ft, ↓reduceIte, exC, Int.reduceEq, decide_true, decide_false, l1, L1, l2, L2, and_self]
    refine ⟨by kernel_rfl, fun a3 c3 w3 hw3 hc3 r3 => FnV_of ((rround_spec _ a3 c3 w3 r3 (by simp only [cap]; omega)).mono ?_)⟩
    rintro r H' m3 hm3 ⟨l3, rfl, rfl⟩
    have L3 : leM m m3 := leM_tr L2 (leM_tr (.inr hw3) l3)
    simp only [go_sem, ↓imp_tf, ↓imp_ft, ↓reduceIte, exC, Int.reduceEq, decide_true, decide_false, l1, L1, l2, L2, l3, L3, and_self]
    intro p0 q0 v0 hv0 hq0 s0
    intro p1 q1 v1 hv1 hq1 s1
    refine ⟨by kernel_rfl, fun aj cj wj hwj hcj rj => FnV_of ((rjoinL_spec [[kw [110, 101, 119], nm1 c], (sg [40] :: (commaT true ((exprTs args).map (·.2)) ++ [sg [41]]))] aj 2 cj _ wj rfl rj ⟨⟨p0, q0, rfl, hq0, Rds_upM (leM_tr (.inr hv1) (.inr hwj)) s0⟩, ⟨⟨p1, q1, rfl, hq1, Rds_upM (.inr hwj) s1⟩, trivial⟩⟩ (by decide) hb0).mono ?_)⟩
    rintro r H' mj hmj ⟨lj, rfl, rfl⟩
    simp only [go_sem, ↓imp_tf, ↓imp_ft, ↓reduceIte, exC, Int.reduceEq, decide_true, decide_false]
    exact ⟨leM_tr L3 (leM_tr (leM_tr (.inr hv0) (leM_tr (.inr hv1) (.inr hwj))) lj), _, _, rfl, rfl⟩
theorem rtk14 (n : Int) (s c : List UInt8) (ty : Ty) (args : List Ex) (a : Option Addr) (cp : Nat) (m : Mem) (hcp : args.length ≤ cp) (hn : args.length ≤ big) (hty : ty.dim ≤ 1000) (hA : RArgOk args a cp m) (hl : 1 ≤ args.length)
    (hb : (nodeT 14 n s c ty (exprTs args)).length ≤ cap) : RetT 42 [.v (.agg ⟨exC 14 n s c ty (.slice a args.length cp)⟩)] m (nodeT 14 n s c ty (exprTs args)) := by
  have hT : nodeT 14 n s c ty (exprTs args) = List.flatten [[kw [110, 101, 119]], typT ty.dim ty.base ty.name, [sg [91]], tAt (exprTs args) 0, [sg [93]]] := by simp [nodeT, listT, commaT]
  rw [hT] at hb ⊢
  clear hT
  have hb0 := hb
  simp only [List.flatten_cons, List.flatten_nil, List.length_append, List.length_cons, List.length_nil, cap] at hb
  refine retT_of ?_
  refine enter cfK puK Tryz.func42 rfl rfl (by kernel_rfl) rfl ?_ ?_
  · simp only [go_sem, ↓imp_tf, ↓imp_ft, ↓reduceIte, exC]
  · simp only [go_sem, ↓imp_tf, ↓imp_ft, ↓reduceIte, exC, Int.reduceEq, decide_true, decide_false]
    refine WP_draw (.hoist 3 (.hoist 4 (.hoist 9 (.hoist 10 (.hoist 11 (.hoist 12 (.alt 0 [12, 11, 10, 9, 4, 3] (.alt 1 [12, 11, 10, 9, 4, 3] (.alt 2 [12, 11, 10, 9, 4, 3] (.alt 5 [12, 11, 10, 9] (.alt 6 [12, 11, 10, 9] (.alt 7 [12, 11, 10, 9] (.alt 8 [12, 11, 10, 9] (.alt 13 [] (.alt 14 [] (.alt 15 [] (.alt 16 [] (.alt 17 [] (.alt 18 [] (.hoist 19 .done) .stop) .stop) .stop) .stop) .stop) .stop) .stop) .stop) .stop) .stop) .stop) .stop) .stop))))))) puK (by kernel_rfl) (by kernel_rfl) ?_
    simp only [go_sem, ↓imp_tf, ↓imp_ft, ↓reduceIte, exC]
    refine Exists.elim (hA.opd 0 0 m (by omega) (.inl rfl) rfl) fun x0 hx0 => ⟨⟨by omega, by omega, hx0.1.2⟩, x0.cs, ⟨hx0.1.1, rfl⟩, ?_⟩
    refine ⟨by kernel_rfl, FnV_of ((rsome_spec _ _ m).mono ?_)⟩
    rintro r H' m1 hm1 ⟨rfl, rfl, _⟩
    have l1 : leM m m1 := .inr hm1
    have L1 : leM m m1 := leM_tr (.inl rfl : leM m m) l1
    simp only [go_sem, ↓imp_tf, ↓imp_ft, ↓reduceIte, exC, Int.reduceEq, decide_true, decide_false, l1, L1, and_self]
    refine ⟨by kernel_rfl, FnV_of ((FnH_den (rkind_spec ty.dim ty.base ty.name m1 hty) (fun V => rfl)).mono ?_)⟩
    rintro r H' m2 hm2 ⟨l2, rfl, rfl⟩
    have L2 : leM m m2 := leM_tr L1 l2
    simp only [go_sem, ↓imp_tf, ↓imp_ft, ↓reduceIte, exC, Int.reduceEq, decide_true, decide_false, l1, L1, l2, L2, and_self]
    refine ⟨by kernel_rfl, FnV_of ((rsome_spec _ _ m2).mono ?_)⟩
    rintro r H' m3 hm3 ⟨rfl, rfl, _⟩
    have l3 : leM m2 m3 := .inr hm3
    have L3 : leM m m3 := leM_tr L2 l3
    simp only [go_sem, ↓imp_tf, ↓imp_ft, ↓reduceIte, exC, Int.reduceEq, decide_true, decide_false, l1, L1, l2, L2, l3, L3, and_self]
    refine ⟨by kernel_rfl, FnV_of ((FnH_den (hx0.2.2 m3 L3 (by simp only [cap]; omega)) (fun V => rfl)).mono ?_)⟩
    rintro r H' m4 hm4 ⟨l4, rfl, rfl⟩
    have L4 : leM m m4 := leM_tr L3 l4
    simp only [go_sem, ↓imp_tf, ↓imp_ft, ↓reduceIte, exC, Int.reduceEq, decide_true, decide_false, l1, L1, l2, L2, l3, L3, l4, L4, and_self]
    refine ⟨by kernel_rfl, FnV_of ((rsome_spec _ _ m4).mono ?_)⟩
    rintro r H' m5 hm5 ⟨rfl, rfl, _⟩
    have l5 : leM m4 m5 := .inr hm5
    have L5 : leM m m5 := leM_tr L4 l5
    simp only [go_sem, ↓imp_tf, ↓imp_ft, ↓reduceIte, exC, Int.reduceEq, decide_true, decide_false, l1, L1, l2, L2, l3, L3, l4, L4, l5, L5, and_self]
    intro p0 q0 v0 hv0 hq0 s0
    intro p1 q1 v1 hv1 hq1 s1
    intro p2 q2 v2 hv2 hq2 s2
    intro p3 q3 v3 hv3 hq3 s3
    intro p4 q4 v4 hv4 hq4 s4
    refine ⟨by kernel_rfl, fun aj cj wj hwj hcj rj => FnV_of ((rjoinL_spec [[kw [110, 101, 119]], typT ty.dim ty.base ty.name, [sg [91]], tAt (exprTs args) 0, [sg [93]]] aj 5 cj _ wj rfl rj ⟨⟨p0, q0, rfl, hq0, Rds_upM (leM_tr (.inr hv1) (leM_tr (.inr hv2) (leM_tr (.inr hv3) (leM_tr (.inr hv4) (.inr hwj))))) s0⟩, ⟨⟨p1, q1, rfl, hq1, Rds_upM (leM_tr (.inr hv2) (leM_tr (.inr hv3) (leM_tr (.inr hv4) (.inr hwj)))) s1⟩, ⟨⟨p2, q2, rfl, hq2, Rds_upM (leM_tr (.inr hv3) (leM_tr (.inr hv4) (.inr hwj))) s2⟩, ⟨⟨p3, q3, rfl, hq3, Rds_upM (leM_tr (.inr hv4) (.inr hwj)) s3⟩, ⟨⟨p4, q4, rfl, hq4, Rds_upM (.inr hwj) s4⟩, trivial⟩⟩⟩⟩⟩ (by decide) hb0).mono ?_)⟩
    rintro r H' mj hmj ⟨lj, rfl, rfl⟩
    simp only [go_sem, ↓imp_tf, ↓imp_ft, ↓reduceIte, exC, Int.reduceEq, decide_true, decide_false]
    exact ⟨leM_tr L5 (leM_tr (leM_tr (.inr hv0) (leM_tr (.inr hv1) (leM_tr (.inr hv2) (leM_tr (.inr hv3) (leM_tr (.inr hv4) (.inr hwj)))))) lj), _, _, rfl, rfl⟩
theorem rtk15 (n : Int) (s c : List UInt8) (ty : Ty) (args : List Ex) (a : Option Addr) (cp : Nat) (m : Mem) (hcp : args.length ≤ cp) (hn : args.length ≤ big) (hty : ty.dim ≤ 1000) (hA : RArgOk args a cp m) (hl : 1 ≤ args.length)
    (hb : (nodeT 15 n s c ty (exprTs args)).length ≤ cap) : RetT 42 [.v (.agg ⟨exC 15 n s c ty (.slice a args.length cp)⟩)] m (nodeT 15 n s c ty (exprTs args)) := by
  have hT : nodeT 15 n s c ty (exprTs args) = List.flatten [[sg s], oAt (exprTs args) 0] := by simp [nodeT, listT, commaT]
  rw [hT] at hb ⊢
  clear hT
  have hb0 := hb
  simp only [List.flatten_cons, List.flatten_nil, List.length_append, List.length_cons, List.length_nil, cap] at hb
  refine retT_of ?_
  refine enter cfK puK Tryz.func42 rfl rfl (by kernel_rfl) rfl ?_ ?_
  · simp only [go_sem, ↓imp_tf, ↓imp_ft, ↓reduceIte, exC]
  · simp only [go_sem, ↓imp_tf, ↓imp_ft, ↓reduceIte, exC, Int.reduceEq, decide_true, decide_false]
    refine WP_draw (.hoist 0 (.hoist 1 (.hoist 5 (.hoist 6 (.hoist 7 (.hoist 8 (.alt 2 [8, 7, 6, 5] (.alt 3 [8, 7, 6, 5] (.alt 4 [8, 7, 6, 5] (.alt 9 [] (.alt 10 [] (.alt 11 [] (.hoist 12 .done) .stop) .stop) .stop) .stop) .stop) .stop))))))) puK (by kernel_rfl) (by kernel_rfl) ?_
    simp only [go_sem, ↓imp_tf, ↓imp_ft, ↓reduceIte, exC]
    refine Exists.elim (hA.opd 0 0 m (by omega) (.inl rfl) rfl) fun x0 hx0 => ⟨⟨by omega, by omega, hx0.1.2⟩, x0.cs, ⟨hx0.1.1, rfl⟩, ?_⟩
    refine ⟨by kernel_rfl, FnV_of ((rsome_spec _ _ m).mono ?_)⟩
    rintro r H' m1 hm1 ⟨rfl, rfl, _⟩
    have l1 : leM m m1 := .inr hm1
    have L1 : leM m m1 := leM_tr (.inl rfl : leM m m) l1
    simp only [go_sem, ↓imp_tf, ↓imp_ft, ↓reduceIte, exC, Int.reduceEq, decide_true, decide_false, l1, L1, and_self]
    refine ⟨by kernel_rfl, FnV_of ((FnH_den (hx0.2.1 m1 L1 (by simp only [cap]; omega)) (fun V => rfl)).mono ?_)⟩
    rintro r H' m2 hm2 ⟨l2, rfl, rfl⟩
    have L2 : leM m m2 := leM_tr L1 l2
    simp only [go_sem, ↓imp_tf, ↓imp_ft, ↓reduceIte, exC, Int.reduceEq, decide_true, decide_false, l1, L1, l2, L2, and_self]
    intro p0 q0 v0 hv0 hq0 s0
    intro p1 q1 v1 hv1 hq1 s1
    refine ⟨by kernel_rfl, fun aj cj wj hwj hcj rj => FnV_of ((rjoinL_spec [[sg s], oAt (exprTs args) 0] aj 2 cj _ wj rfl rj ⟨⟨p0, q0, rfl, hq0, Rds_upM (leM_tr (.inr hv1) (.inr hwj)) s0⟩, ⟨⟨p1, q1, rfl, hq1, Rds_upM (.inr hwj) s1⟩, trivial⟩⟩ (by decide) hb0).mono ?_)⟩
    rintro r H' mj hmj ⟨lj, rfl, rfl⟩
    simp only [go_sem, ↓imp_tf, ↓imp_ft, ↓reduceIte, exC, Int.reduceEq, decide_true, decide_false]
    exact ⟨leM_tr L2 (leM_tr (leM_tr (.inr hv0) (leM_tr (.inr hv1) (.inr hwj))) lj), _, _, rfl, rfl⟩
theorem rtk16 (n : Int) (s c : List UInt8) (ty : Ty) (args : List Ex) (a : Option Addr) (cp : Nat) (m : Mem) (hcp : args.length ≤ cp) (hn : args.length ≤ big) (hty : ty.dim ≤ 1000) (hA : RArgOk args a cp m) (hl : 2 ≤ args.length)
    (hb : (nodeT 16 n s c ty (exprTs args)).length ≤ cap) : RetT 42 [.v (.agg ⟨exC 16 n s c ty (.slice a args.length cp)⟩)] m (nodeT 16 n s c ty (exprTs args)) := by
  have hT : nodeT 16 n s c ty (exprTs args) = List.flatten [oAt (exprTs args) 0, [sg s], oAt (exprTs args) 1] := by simp [nodeT, listT, commaT]
  rw [hT] at hb ⊢
  clear hT
  have hb0 := hb
  simp only [List.flatten_cons, List.flatten_nil, List.length_append, List.length_cons, List.length_nil, cap] at hb
  refine retT_of ?_
  refine enter cfK puK Tryz.func42 rfl rfl (by kernel_rfl) rfl ?_ ?_
  · simp only [go_sem, ↓imp_tf, ↓imp_ft, ↓reduceIte, exC]
  · simp only [go_sem, ↓imp_tf, ↓imp_ft, ↓reduceIte, exC, Int.reduceEq, decide_true, decide_false]
    refine WP_draw (.hoist 0 (.hoist 1 (.hoist 2 (.hoist 3 (.hoist 5 (.hoist 6 (.hoist 10 (.hoist 11 (.hoist 12 (.hoist 13 (.alt 4 [13, 12, 11, 10, 6, 5] (.alt 7 [13, 12, 11, 10] (.alt 8 [13, 12, 11, 10] (.alt 9 [13, 12, 11, 10] (.alt 14 [] (.alt 15 [] (.alt 16 [] (.hoist 17 .done) .stop) .stop) .stop) .stop) .stop) .stop) .stop))))))))))) puK (by kernel_rfl) (by kernel_rfl) ?_
    simp only [go_sem, ↓imp_tf, ↓imp_ft, ↓reduceIte, exC]
    refine Exists.elim (hA.opd 0 0 m (by omega) (.inl rfl) rfl) fun x0 hx0 => ⟨⟨by omega, by omega, hx0.1.2⟩, x0.cs, ⟨hx0.1.1, rfl⟩, ?_⟩
    refine Exists.elim (hA.opd 1 8 m (by omega) (.inl rfl) rfl) fun x1 hx1 => ⟨⟨by omega, by omega, hx1.1.2⟩, x1.cs, ⟨hx1.1.1, rfl⟩, ?_⟩
    refine ⟨by kernel_rfl, FnV_of ((FnH_den (hx0.2.1 m (.inl rfl : leM m m) (by simp only [cap]; omega)) (fun V => rfl)).mono ?_)⟩
    rintro r H' m1 hm1 ⟨l1, rfl, rfl⟩
    have L1 : leM m m1 := leM_tr (.inl rfl : leM m m) l1
    simp only [go_sem, ↓imp_tf, ↓imp_ft, ↓reduceIte, exC, Int.reduceEq, decide_true, decide_false, l1, L1, and_self]
    refine ⟨by kernel_rfl, FnV_of ((rsome_spec _ _ m1).mono ?_)⟩
    rintro r H' m2 hm2 ⟨rfl, rfl, _⟩
    have l2 : leM m1 m2 := .inr hm2
    have L2 : leM m m2 := leM_tr L1 l2
    simp only [go_sem, ↓imp_tf, ↓imp_ft, ↓reduceIte, exC, Int.reduceEq, decide_true, decide_false, l1, L1, l2, L2, and_self]
    refine ⟨by kernel_rfl, FnV_of ((FnH_den (hx1.2.1 m2 L2 (by simp only [cap]; omega)) (fun V => rfl)).mono ?_)⟩
    rintro r H' m3 hm3 ⟨l3, rfl, rfl⟩
    have L3 : leM m m3 := leM_tr L2 l3
    simp only [go_sem, ↓imp_tf, ↓imp_ft, ↓reduceIte, exC, Int.reduceEq, decide_true, decide_false, l1, L1, l2, L2, l3, L3, and_self]
    intro p0 q0 v0 hv0 hq0 s0
    intro p1 q1 v1 hv1 hq1 s1
    intro p2 q2 v2 hv2 hq2 s2
    refine ⟨by kernel_rfl, fun aj cj wj hwj hcj rj => FnV_of ((rjoinL_spec [oAt (exprTs args) 0, [sg s], oAt (exprTs args) 1] aj 3 cj _ wj rfl rj ⟨⟨p0, q0, rfl, hq0, Rds_upM (leM_tr (.inr hv1) (leM_tr (.inr hv2) (.inr hwj))) s0⟩, ⟨⟨p1, q1, rfl, hq1, Rds_upM (leM_tr (.inr hv2) (.inr hwj)) s1⟩, ⟨⟨p2, q2, rfl, hq2, Rds_upM (.inr hwj) s2⟩, trivial⟩⟩⟩ (by decide) hb0).mono ?_)⟩
    rintro r H' mj hmj ⟨lj, rfl, rfl⟩
    simp only [go_sem, ↓imp_tf, ↓imp_ft, ↓reduceIte, exC, Int.reduceEq, decide_true, decide_false]
    exact ⟨leM_tr L3 (leM_tr (leM_tr (.inr hv0) (leM_tr (.inr hv1) (leM_tr (.inr hv2) (.inr hwj)))) lj), _, _, rfl, rfl⟩
theorem rtk17 (n : Int) (s c : List UInt8) (ty : Ty) (args : List Ex) (a : Option Addr) (cp : Nat) (m : Mem) (hcp : args.length ≤ cp) (hn : args.length ≤ big) (hty : ty.dim ≤ 1000) (hA : RArgOk args a cp m) (hl : 1 ≤ args.length)
    (hb : (nodeT 17 n s c ty (exprTs args)).length ≤ cap) : RetT 42 [.v (.agg ⟨exC 17 n s c ty (.slice a args.length cp)⟩)] m (nodeT 17 n s c ty (exprTs args)) := by
  have hT : nodeT 17 n s c ty (exprTs args) = List.flatten [oAt (exprTs args) 0, [kw [97, 115]], typT ty.dim ty.base ty.name] := by simp [nodeT, listT, commaT]
  rw [hT] at hb ⊢
  clear hT
  have hb0 := hb
  simp only [List.flatten_cons, List.flatten_nil, List.length_append, List.length_cons, List.length_nil, cap] at hb
  refine retT_of ?_
  refine enter cfK puK Tryz.func42 rfl rfl (by kernel_rfl) rfl ?_ ?_
  · simp only [go_sem, ↓imp_tf, ↓imp_ft, ↓reduceIte, exC]
  · simp only [go_sem, ↓imp_tf, ↓imp_ft, ↓reduceIte, exC, Int.reduceEq, decide_true, decide_false]
    refine WP_draw (.hoist 0 (.hoist 1 (.hoist 2 (.hoist 3 (.hoist 8 (.hoist 9 (.alt 4 [9, 8] (.alt 5 [9, 8] (.alt 6 [9, 8] (.alt 7 [9, 8] (.alt 10 [] (.alt 11 [] (.alt 12 [] (.hoist 13 .done) .stop) .stop) .stop) .stop) .stop) .stop) .stop))))))) puK (by kernel_rfl) (by kernel_rfl) ?_
    simp only [go_sem, ↓imp_tf, ↓imp_ft, ↓reduceIte, exC]
    refine Exists.elim (hA.opd 0 0 m (by omega) (.inl rfl) rfl) fun x0 hx0 => ⟨⟨by omega, by omega, hx0.1.2⟩, x0.cs, ⟨hx0.1.1, rfl⟩, ?_⟩
    refine ⟨by kernel_rfl, FnV_of ((FnH_den (hx0.2.1 m (.inl rfl : leM m m) (by simp only [cap]; omega)) (fun V => rfl)).mono ?_)⟩
    rintro r H' m1 hm1 ⟨l1, rfl, rfl⟩
    have L1 : leM m m1 := leM_tr (.inl rfl : leM m m) l1
    simp only [go_sem, ↓imp_tf, ↓imp_ft, ↓reduceIte, exC, Int.reduceEq, decide_true, decide_false, l1, L1, and_self]
    refine ⟨by kernel_rfl, FnV_of ((rsome_spec _ _ m1).mono ?_)⟩
    rintro r H' m2 hm2 ⟨rfl, rfl, _⟩
    have l2 : leM m1 m2 := .inr hm2
    have L2 : leM m m2 := leM_tr L1 l2
    simp only [go_sem, ↓imp_tf, ↓imp_ft, ↓reduceIte, exC, Int.reduceEq, decide_true, decide_false, l1, L1, l2, L2, and_self]
    refine ⟨by kernel_rfl, FnV_of ((FnH_den (rkind_spec ty.dim ty.base ty.name m2 hty) (fun V => rfl)).mono ?_)⟩
    rintro r H' m3 hm3 ⟨l3, rfl, rfl⟩
    have L3 : leM m m3 := leM_tr L2 l3
    simp only [go_sem, ↓imp_tf, ↓imp_ft, ↓reduceIte, exC, Int.reduceEq, decide_true, decide_false, l1, L1, l2, L2, l3, L3, and_self]
    intro p0 q0 v0 hv0 hq0 s0
    intro p1 q1 v1 hv1 hq1 s1
    intro p2 q2 v2 hv2 hq2 s2
    refine ⟨by kernel_rfl, fun aj cj wj hwj hcj rj => FnV_of ((rjoinL_spec [oAt (exprTs args) 0, [kw [97, 115]], typT ty.dim ty.base ty.name] aj 3 cj _ wj rfl rj ⟨⟨p0, q0, rfl, hq0, Rds_upM (leM_tr (.inr hv1) (leM_tr (.inr hv2) (.inr hwj))) s0⟩, ⟨⟨p1, q1, rfl, hq1, Rds_upM (leM_tr (.inr hv2) (.inr hwj)) s1⟩, ⟨⟨p2, q2, rfl, hq2, Rds_upM (.inr hwj) s2⟩, trivial⟩⟩⟩ (by decide) hb0).mono ?_)⟩
    rintro r H' mj hmj ⟨lj, rfl, rfl⟩
    simp only [go_sem, ↓imp_tf, ↓imp_ft, ↓reduceIte, exC, Int.reduceEq, decide_true, decide_false]
    exact ⟨leM_tr L3 (leM_tr (leM_tr (.inr hv0) (leM_tr (.inr hv1) (leM_tr (.inr hv2) (.inr hwj)))) lj), _, _, rfl, rfl⟩
theorem rtk18 (n : Int) (s c : List UInt8) (ty : Ty) (args : List Ex) (a : Option Addr) (cp : Nat) (m : Mem) (hcp : args.length ≤ cp) (hn : args.length ≤ big) (hty : ty.dim ≤ 1000) (hA : RArgOk args a cp m) (hl : 1 ≤ args.length)
    (hb : (nodeT 18 n s c ty (exprTs args)).length ≤ cap) : RetT 42 [.v (.agg ⟨exC 18 n s c ty (.slice a args.length cp)⟩)] m (nodeT 18 n s c ty (exprTs args)) := by
  have hT : nodeT 18 n s c ty (exprTs args) = List.flatten [oAt (exprTs args) 0, [kw [105, 115]], typT ty.dim ty.base ty.name] := by simp [nodeT, listT, commaT]
  rw [hT] at hb ⊢
  clear hT
  have hb0 := hb
  simp only [List.flatten_cons, List.flatten_nil, List.length_append, List.length_cons, List.length_nil, cap] at hb
  refine retT_of ?_
  refine enter cfK puK Tryz.func42 rfl rfl (by kernel_rfl) rfl ?_ ?_
  · simp only [go_sem, ↓imp_tf, ↓imp_ft, ↓reduceIte, exC]
  · simp only [go_sem, ↓imp_tf, ↓imp_ft, ↓reduceIte, exC, Int.reduceEq, decide_true, decide_false]
    refine WP_draw (.hoist 0 (.hoist 1 (.hoist 2 (.hoist 3 (.hoist 8 (.hoist 9 (.alt 4 [9, 8] (.alt 5 [9, 8] (.alt 6 [9, 8] (.alt 7 [9, 8] (.alt 10 [] (.alt 11 [] (.alt 12 [] (.hoist 13 .done) .stop) .stop) .stop) .stop) .stop) .stop) .stop))))))) puK (by kernel_rfl) (by kernel_rfl) ?_
    simp only [go_sem, ↓imp_tf, ↓imp_ft, ↓reduceIte, exC]
    refine Exists.elim (hA.opd 0 0 m (by omega) (.inl rfl) rfl) fun x0 hx0 => ⟨⟨by omega, by omega, hx0.1.2⟩, x0.cs, ⟨hx0.1.1, rfl⟩, ?_⟩
    refine ⟨by kernel_rfl, FnV_of ((FnH_den (hx0.2.1 m (.inl rfl : leM m m) (by simp only [cap]; omega)) (fun V => rfl)).mono ?_)⟩
    rintro r H' m1 hm1 ⟨l1, rfl, rfl⟩
    have L1 : leM m m1 := leM_tr (.inl rfl : leM m m) l1
    simp only [go_sem, ↓imp_tf, ↓imp_ft, ↓reduceIte, exC, Int.reduceEq, decide_true, decide_false, l1, L1, and_self]
    refine ⟨by kernel_rfl, FnV_of ((rsome_spec _ _ m1).mono ?_)⟩
    rintro r H' m2 hm2 ⟨rfl, rfl, _⟩
    have l2 : leM m1 m2 := .inr hm2
    have L2 : leM m m2 := leM_tr L1 l2
    simp only [go_sem, ↓imp_tf, ↓imp_ft, ↓reduceIte, exC, Int.reduceEq, decide_true, decide_false, l1, L1, l2, L2, and_self]
    refine ⟨by kernel_rfl, FnV_of ((FnH_den (rkind_spec ty.dim ty.base ty.name m2 hty) (fun V => rfl)).mono ?_)⟩
    rintro r H' m3 hm3 ⟨l3, rfl, rfl⟩
    have L3 : leM m m3 := leM_tr L2 l3
    simp only [go_sem, ↓imp_tf, ↓imp_ft, ↓reduceIte, exC, Int.reduceEq, decide_true, decide_false, l1, L1, l2, L2, l3, L3, and_self]
    intro p0 q0 v0 hv0 hq0 s0
    intro p1 q1 v1 hv1 hq1 s1
    intro p2 q2 v2 hv2 hq2 s2
    refine ⟨by kernel_rfl, fun aj cj wj hwj hcj rj => FnV_of ((rjoinL_spec [oAt (exprTs args) 0, [kw [105, 115]], typT ty.dim ty.base ty.name] aj 3 cj _ wj rfl rj ⟨⟨p0, q0, rfl, hq0, Rds_upM (leM_tr (.inr hv1) (leM_tr (.inr hv2) (.inr hwj))) s0⟩, ⟨⟨p1, q1, rfl, hq1, Rds_upM (leM_tr (.inr hv2) (.inr hwj)) s1⟩, ⟨⟨p2, q2, rfl, hq2, Rds_upM (.inr hwj) s2⟩, trivial⟩⟩⟩ (by decide) hb0).mono ?_)⟩
    rintro r H' mj hmj ⟨lj, rfl, rfl⟩
    simp only [go_sem, ↓imp_tf, ↓imp_ft, ↓reduceIte, exC, Int.reduceEq, decide_true, decide_false]
    exact ⟨leM_tr L3 (leM_tr (leM_tr (.inr hv0) (leM_tr (.inr hv1) (leM_tr (.inr hv2) (.inr hwj)))) lj), _, _, rfl, rfl⟩
theorem rtk19 (n : Int) (s c : List UInt8) (ty : Ty) (args : List Ex) (a : Option Addr) (cp : Nat) (m : Mem) (hcp : args.length ≤ cp) (hn : args.length ≤ big) (hty : ty.dim ≤ 1000) (hA : RArgOk args a cp m) (hl : 1 ≤ args.length)
    (hb : (nodeT 19 n s c ty (exprTs args)).length ≤ cap) : RetT 42 [.v (.agg ⟨exC 19 n s c ty (.slice a args.length cp)⟩)] m (nodeT 19 n s c ty (exprTs args)) := by
  have hT : nodeT 19 n s c ty (exprTs args) = List.flatten [[kw [108, 101, 110]], (sg [40] :: (tAt (exprTs args) 0 ++ [sg [41]]))] := by simp [nodeT, listT, commaT]
  rw [hT] at hb ⊢
  clear hT
  have hb0 := hb
  simp only [List.flatten_cons, List.flatten_nil, List.length_append, List.length_cons, List.length_nil, cap] at hb
  refine retT_of ?_
  refine enter cfK puK Tryz.func42 rfl rfl (by kernel_rfl) rfl ?_ ?_
  · simp only [go_sem, ↓imp_tf, ↓imp_ft, ↓reduceIte, exC]
  · simp only [go_sem, ↓imp_tf, ↓imp_ft, ↓reduceIte, exC, Int.reduceEq, decide_true, decide_false]
    refine WP_draw (.hoist 3 (.hoist 4 (.hoist 5 (.hoist 6 (.alt 0 [6, 5, 4, 3] (.alt 1 [6, 5, 4, 3] (.alt 2 [6, 5, 4, 3] (.alt 7 [] (.alt 8 [] (.alt 9 [] (.alt 10 [] (.hoist 11 .done) .stop) .stop) .stop) .stop) .stop) .stop) .stop))))) puK (by kernel_rfl) (by kernel_rfl) ?_
    simp only [go_sem, ↓imp_tf, ↓imp_ft, ↓reduceIte, exC]
    refine Exists.elim (hA.opd 0 0 m (by omega) (.inl rfl) rfl) fun x0 hx0 => ⟨⟨by omega, by omega, hx0.1.2⟩, x0.cs, ⟨hx0.1.1, rfl⟩, ?_⟩
    refine ⟨by kernel_rfl, FnV_of ((rsome_spec _ _ m).mono ?_)⟩
    rintro r H' m1 hm1 ⟨rfl, rfl, _⟩
    have l1 : leM m m1 := .inr hm1
    have L1 : leM m m1 := leM_tr (.inl rfl : leM m m) l1
    simp only [go_sem, ↓imp_tf, ↓imp_ft, ↓reduceIte, exC, Int.reduceEq, decide_true, decide_false, l1, L1, and_self]
    refine ⟨by kernel_rfl, FnV_of ((FnH_den (hx0.2.2 m1 L1 (by simp only [cap]; omega)) (fun V => rfl)).mono ?_)⟩
    rintro r H' m2 hm2 ⟨l2, rfl, rfl⟩
    have L2 : leM m m2 := leM_tr L1 l2
    simp only [go_sem, ↓imp_tf, ↓imp_ft, ↓reduceIte, exC, Int.reduceEq, decide_true, decide_false, l1, L1, l2, L2, and_self]
    refine ⟨by kernel_rfl, fun a3 c3 w3 hw3 hc3 r3 => FnV_of ((rround_spec _ a3 c3 w3 r3 (by simp only [cap]; omega)).mono ?_)⟩
    rintro r H' m3 hm3 ⟨l3, rfl, rfl⟩
    have L3 : leM m m3 := leM_tr L2 (leM_tr (.inr hw3) l3)
    simp only [go_sem, ↓imp_tf, ↓imp_ft, ↓reduceIte, exC, Int.reduceEq, decide_true, decide_false, l1, L1, l2, L2, l3, L3, and_self]
    intro p0 q0 v0 hv0 hq0 s0
    intro p1 q1 v1 hv1 hq1 s1
    refine ⟨by kernel_rfl, fun aj cj wj hwj hcj rj => FnV_of ((rjoinL_spec [[kw [108, 101, 110]], (sg [40] :: (tAt (exprTs args) 0 ++ [sg [41]]))] aj 2 cj _ wj rfl rj ⟨⟨p0, q0, rfl, hq0, Rds_upM (leM_tr (.inr hv1) (.inr hwj)) s0⟩, ⟨⟨p1, q1, rfl, hq1, Rds_upM (.inr hwj) s1⟩, trivial⟩⟩ (by decide) hb0).mono ?_)⟩
    rintro r H' mj hmj ⟨lj, rfl, rfl⟩
    simp only [go_sem, ↓imp_tf, ↓imp_ft, ↓reduceIte, exC, Int.reduceEq, decide_true, decide_false]
    exact ⟨leM_tr L3 (leM_tr (leM_tr (.inr hv0) (leM_tr (.inr hv1) (.inr hwj))) lj), _, _, rfl, rfl⟩
theorem rtk20 (n : Int) (s c : List UInt8) (ty : Ty) (args : List Ex) (a : Option Addr) (cp : Nat) (m : Mem) (hcp : args.length ≤ cp) (hn : args.length ≤ big) (hty : ty.dim ≤ 1000) (hA : RArgOk args a cp m) (hl : 1 ≤ args.length)
    (hb : (nodeT 20 n s c ty (exprTs args)).length ≤ cap) : RetT 42 [.v (.agg ⟨exC 20 n s c ty (.slice a args.length cp)⟩)] m (nodeT 20 n s c ty (exprTs args)) := by
  have hT : nodeT 20 n s c ty (exprTs args) = List.flatten [[kw intS], (sg [40] :: (tAt (exprTs args) 0 ++ [sg [41]]))] := by simp [nodeT, listT, commaT]
  rw [hT] at hb ⊢
  clear hT
  have hb0 := hb
  simp only [List.flatten_cons, List.flatten_nil, List.length_append, List.length_cons, List.length_nil, cap] at hb
  refine retT_of ?_
  refine enter cfK puK Tryz.func42 rfl rfl (by kernel_rfl) rfl ?_ ?_
  · simp only [go_sem, ↓imp_tf, ↓imp_ft, ↓reduceIte, exC]
  · simp only [go_sem, ↓imp_tf, ↓imp_ft, ↓reduceIte, exC, Int.reduceEq, decide_true, decide_false]
    refine WP_draw (.hoist 3 (.hoist 4 (.hoist 5 (.hoist 6 (.alt 0 [6, 5, 4, 3] (.alt 1 [6, 5, 4, 3] (.alt 2 [6, 5, 4, 3] (.alt 7 [] (.alt 8 [] (.alt 9 [] (.alt 10 [] (.hoist 11 .done) .stop) .stop) .stop) .stop) .stop) .stop) .stop))))) puK (by kernel_rfl) (by kernel_rfl) ?_
    simp only [go_sem, ↓imp_tf, ↓imp_ft, ↓reduceIte, exC]
    refine Exists.elim (hA.opd 0 0 m (by omega) (.inl rfl) rfl) fun x0 hx0 => ⟨⟨by omega, by omega, hx0.1.2⟩, x0.cs, ⟨hx0.1.1, rfl⟩, ?_⟩
    refine ⟨by kernel_rfl, FnV_of ((rsome_spec _ _ m).mono ?_)⟩
    rintro r H' m1 hm1 ⟨rfl, rfl, _⟩
    have l1 : leM m m1 := .inr hm1
    have L1 : leM m m1 := leM_tr (.inl rfl : leM m m) l1
    simp only [go_sem, ↓imp_tf, ↓imp_ft, ↓reduceIte, exC, Int.reduceEq, decide_true, decide_false, l1, L1, and_self]
    refine ⟨by kernel_rfl, FnV_of ((FnH_den (hx0.2.2 m1 L1 (by simp only [cap]; omega)) (fun V => rfl)).mono ?_)⟩
    rintro r H' m2 hm2 ⟨l2, rfl, rfl⟩
    have L2 : leM m m2 := leM_tr L1 l2
    simp only [go_sem, ↓imp_tf, ↓imp_ft, ↓reduceIte, exC, Int.reduceEq, decide_true, decide_false, l1, L1, l2, L2, and_self]
    refine ⟨by kernel_rfl, fun a3 c3 w3 hw3 hc3 r3 => FnV_of ((rround_spec _ a3 c3 w3 r3 (by simp only [cap]; omega)).mono ?_)⟩
    rintro r H' m3 hm3 ⟨l3, rfl, rfl⟩
    have L3 : leM m m3 := leM_tr L2 (leM_tr (.inr hw3) l3)
    simp only [go_sem, ↓imp_tf, ↓imp_ft, ↓reduceIte, exC, Int.reduceEq, decide_true, decide_false, l1, L1, l2, L2, l3, L3, and_self]
    intro p0 q0 v0 hv0 hq0 s0
    intro p1 q1 v1 hv1 hq1 s1
    refine ⟨by kernel_rfl, fun aj cj wj hwj hcj rj => FnV_of ((rjoinL_spec [[kw intS], (sg [40] :: (tAt (exprTs args) 0 ++ [sg [41]]))] aj 2 cj _ wj rfl rj ⟨⟨p0, q0, rfl, hq0, Rds_upM (leM_tr (.inr hv1) (.inr hwj)) s0⟩, ⟨⟨p1, q1, rfl, hq1, Rds_upM (.inr hwj) s1⟩, trivial⟩⟩ (by decide) hb0).mono ?_)⟩
    rintro r H' mj hmj ⟨lj, rfl, rfl⟩
    simp only [go_sem, ↓imp_tf, ↓imp_ft, ↓reduceIte, exC, Int.reduceEq, decide_true, decide_false]
    exact ⟨leM_tr L3 (leM_tr (leM_tr (.inr hv0) (leM_tr (.inr hv1) (.inr hwj))) lj), _, _, rfl, rfl⟩
theorem rtk21 (n : Int) (s c : List UInt8) (ty : Ty) (args : List Ex) (a : Option Addr) (cp : Nat) (m : Mem) (hcp : args.length ≤ cp) (hn : args.length ≤ big) (hty : ty.dim ≤ 1000) (hA : RArgOk args a cp m) (hl : 1 ≤ args.length)
    (hb : (nodeT 21 n s c ty (exprTs args)).length ≤ cap) : RetT 42 [.v (.agg ⟨exC 21 n s c ty (.slice a args.length cp)⟩)] m (nodeT 21 n s c ty (exprTs args)) := by
  have hT : nodeT 21 n s c ty (exprTs args) = List.flatten [[kw longS], (sg [40] :: (tAt (exprTs args) 0 ++ [sg [41]]))] := by simp [nodeT, listT, commaT]
  rw [hT] at hb ⊢
  clear hT
  have hb0 := hb
  simp only [List.flatten_cons, List.flatten_nil, List.length_append, List.length_cons, List.length_nil, cap] at hb
  refine retT_of ?_
  refine enter cfK puK Tryz.func42 rfl rfl (by kernel_rfl) rfl ?_ ?_
  · simp only [go_sem, ↓imp_tf, ↓imp_ft, ↓reduceIte, exC]
  · simp only [go_sem, ↓imp_tf, ↓imp_ft, ↓reduceIte, exC, Int.reduceEq, decide_true, decide_false]
    refine WP_draw (.hoist 3 (.hoist 4 (.hoist 5 (.hoist 6 (.alt 0 [6, 5, 4, 3] (.alt 1 [6, 5, 4, 3] (.alt 2 [6, 5, 4, 3] (.alt 7 [] (.alt 8 [] (.alt 9 [] (.alt 10 [] (.hoist 11 .done) .stop) .stop) .stop) .stop) .stop) .stop) .stop))))) puK (by kernel_rfl) (by kernel_rfl) ?_
    simp only [go_sem, ↓imp_tf, ↓imp_ft, ↓reduceIte, exC]
    refine Exists.elim (hA.opd 0 0 m (by omega) (.inl rfl) rfl) fun x0 hx0 => ⟨⟨by omega, by omega, hx0.1.2⟩, x0.cs, ⟨hx0.1.1, rfl⟩, ?_⟩
    refine ⟨by kernel_rfl, FnV_of ((rsome_spec _ _ m).mono ?_)⟩
    rintro r H' m1 hm1 ⟨rfl, rfl, _⟩
    have l1 : leM m m1 := .inr hm1
    have L1 : leM m m1 := leM_tr (.inl rfl : leM m m) l1
    simp only [go_sem, ↓imp_tf, ↓imp_ft, ↓reduceIte, exC, Int.reduceEq, decide_true, decide_false, l1, L1, and_self]
    refine ⟨by kernel_rfl, FnV_of ((FnH_den (hx0.2.2 m1 L1 (by simp only [cap]; omega)) (fun V => rfl)).mono ?_)⟩
    rintro r H' m2 hm2 ⟨l2, rfl, rfl⟩
    have L2 : leM m m2 := leM_tr L1 l2
    simp only [go_sem, ↓imp_tf, ↓imp_ft, ↓reduceIte, exC, Int.reduceEq, decide_true, decide_false, l1, L1, l2, L2, and_self]
    refine ⟨by kernel_rfl, fun a3 c3 w3 hw3 hc3 r3 => FnV_of ((rround_spec _ a3 c3 w3 r3 (by simp only [cap]; omega)).mono ?_)⟩
    rintro r H' m3 hm3 ⟨l3, rfl, rfl⟩
    have L3 : leM m m3 := leM_tr L2 (leM_tr (.inr hw3) l3)
    simp only [go_sem, ↓imp_tf, ↓imp_ft, ↓reduceIte, exC, Int.reduceEq, decide_true, decide_false, l1, L1, l2, L2, l3, L3, and_self]
    intro p0 q0 v0 hv0 hq0 s0
    intro p1 q1 v1 hv1 hq1 s1
    refine ⟨by kernel_rfl, fun aj cj wj hwj hcj rj => FnV_of ((rjoinL_spec [[kw longS], (sg [40] :: (tAt (exprTs args) 0 ++ [sg [41]]))] aj 2 cj _ wj rfl rj ⟨⟨p0, q0, rfl, hq0, Rds_upM (leM_tr (.inr hv1) (.inr hwj)) s0⟩, ⟨⟨p1, q1, rfl, hq1, Rds_upM (.inr hwj) s1⟩, trivial⟩⟩ (by decide) hb0).mono ?_)⟩
    rintro r H' mj hmj ⟨lj, rfl, rfl⟩
    simp only [go_sem, ↓imp_tf, ↓imp_ft, ↓reduceIte, exC, Int.reduceEq, decide_true, decide_false]
    exact ⟨leM_tr L3 (leM_tr (leM_tr (.inr hv0) (leM_tr (.inr hv1) (.inr hwj))) lj), _, _, rfl, rfl⟩
end Go.Proofs.YtalalcpefggniaaGreatDoor.E

namespace Go.Proofs.YtalalcpefggniaaGreatDoor.E
open Go

theorem rargOk {args : List Ex} {a : Option Addr} {cp : Nat} {m : Mem} {xs : List Value} (hcp : args.length ≤ cp) (hn : args.length ≤ big) (hr : Rds m a args.length 8 xs) (hes : exsRep m args xs) (hE : ∀ e ∈ args, RefE e m ∧ (exprT e).length + 2 ≤ cap) : RArgOk args a cp m := by
  refine ⟨fun i o m' hi hle ho => ?_, fun m' hle hb => ?_, fun hl m' hle hb => ?_⟩
  · subst ho
    have hrep := exRep_upM hle (exs_at hes hi)
    obtain ⟨x, hx⟩ := exRep_nd hrep
    have hrd := Rds_cells (Rds_upM hle hr) hi
    rw [hx] at hrep hrd
    have hW := hE _ (List.getElem_mem hi)
    rw [oAt_eq hi, tAt_eq hi]
    exact ⟨x, hrd, fun m2 hle2 _ => roperand_spec _ x m2 (exRep_upM hle2 hrep) (hW.1.up (leM_tr hle hle2)) hW.2, fun m2 hle2 _ => hW.1 x.cs m2 (leM_tr hle hle2) (exRep_upM hle2 hrep)⟩
  · rw [ts_map] at hb ⊢
    exact rlist_spec args a args.length cp xs m' rfl hn (Rds_upM hle hr) (exsRep_upM hle hes) (fun e he => (hE e he).1.up hle) hb
  · rw [ts_map1] at hb ⊢
    exact rlist_spec (args.drop 1) _ (args.length - 1) (cp - 1) (xs.drop 8) m' (by simp) (by omega) (Rds_drop (Rds_upM hle hr) hl hcp) (exs_drop (exsRep_upM hle hes) hl) (fun e he => (hE e (List.mem_of_mem_drop he)).1.up hle) hb
theorem sizeL_mem : ∀ {l : List Ex} {e : Ex}, e ∈ l → sizeE e ≤ sizeL l
  | [], e, he => by cases he
  | x :: r, e, he => by
    simp only [sizeL]
    rcases List.mem_cons.1 he with rfl | he
    · omega
    · have := sizeL_mem he; omega
theorem rtok_all : ∀ (h : Nat) (e : Ex) (m : Mem), depthE e ≤ h → validE e = true → sizeE e ≤ big → RefE e m
  | 0, .mk k n s c ty args, m, hd, _, _ => by simp [depthE] at hd
  | h + 1, .mk k n s c ty args, m, hd, hv, hsz => by
    intro cs m' hle hrep
    have hb := len_size _ hv
    simp only [exRep] at hrep
    obtain ⟨a, cp, xs, rfl, hcp, hr, hok, hes⟩ := hrep
    have hn := hok.2.2.2.2.2
    simp only [depthE] at hd
    simp only [sizeE] at hsz hb
    simp only [validE, Bool.and_eq_true] at hv
    have hA : RArgOk args a cp m' := rargOk hcp hn hr hes fun e he => by
      have h1 := sizeL_mem he
      have h2 := validEs_mem hv.2 e he
      have h3 := len_size e h2
      exact ⟨rtok_all h e m' (by have := depthL_mem he; omega) h2 (by omega), by simp only [big] at hsz; simp only [cap]; omega⟩
    obtain ⟨hk, har, hty⟩ := node_kind hv.1
    have hty : ty.dim ≤ 1000 := by omega
    simp only [exprT] at hb ⊢
    have hb : (nodeT k n s c ty (exprTs args)).length ≤ cap := by simp only [big] at hsz; simp only [cap]; omega
    rcases kinds hk with h | h | h | h | h | h | h | h | h | h | h | h | h | h | h | h | h | h | h | h | h <;> subst h
    · exact rtk1 n s c ty args a cp m' hcp hn hty hA hb
    · exact rtk2 n s c ty args a cp m' hcp hn hty hA hb
    · exact rtk3 n s c ty args a cp m' hcp hn hty hA hb
    · exact rtk4 n s c ty args a cp m' hcp hn hty hA hb
    · exact rtk5 n s c ty args a cp m' hcp hn hty hA hb
    · exact rtk6 n s c ty args a cp m' hcp hn hty hA hb
    · exact rtk7 n s c ty args a cp m' hcp hn hty hA (by simp [shapeL] at har; omega) hb
    · exact rtk8 n s c ty args a cp m' hcp hn hty hA hb
    · exact rtk9 n s c ty args a cp m' hcp hn hty hA (by simp [shapeL] at har; omega) hb
    · exact rtk10 n s c ty args a cp m' hcp hn hty hA (by simp [shapeL] at har; omega) hb
    · exact rtk11 n s c ty args a cp m' hcp hn hty hA hb
    · exact rtk12 n s c ty args a cp m' hcp hn hty hA hb
    · exact rtk13 n s c ty args a cp m' hcp hn hty hA hb
    · exact rtk14 n s c ty args a cp m' hcp hn hty hA (by simp [shapeL] at har; omega) hb
    · exact rtk15 n s c ty args a cp m' hcp hn hty hA (by simp [shapeL] at har; omega) hb
    · exact rtk16 n s c ty args a cp m' hcp hn hty hA (by simp [shapeL] at har; omega) hb
    · exact rtk17 n s c ty args a cp m' hcp hn hty hA (by simp [shapeL] at har; omega) hb
    · exact rtk18 n s c ty args a cp m' hcp hn hty hA (by simp [shapeL] at har; omega) hb
    · exact rtk19 n s c ty args a cp m' hcp hn hty hA (by simp [shapeL] at har; omega) hb
    · exact rtk20 n s c ty args a cp m' hcp hn hty hA (by simp [shapeL] at har; omega) hb
    · exact rtk21 n s c ty args a cp m' hcp hn hty hA (by simp [shapeL] at har; omega) hb
theorem rfexpr_spec (e : Ex) (cs : List Value) (m : Mem) (hrep : exRep m e cs) (hsz : sizeE e ≤ big) (hdp : depthE e ≤ big) :
    FnH Tryz.prog 18 [.v (.agg ⟨cs⟩)] ⟨[], []⟩ m fun r H' m' => leM m m' ∧ H' = ⟨[], []⟩ ∧ r = .tup [.v (.string (bs (fmtE e).1)), .v (.int .i64 (fmtE e).2)] := by
  obtain ⟨x, rfl⟩ := exRep_nd hrep
  have hV := rvalid_all _ e x.cs m (Nat.le_refl _) hrep
  have hD := fun (m' : Mem) (hle : leM m m') => rdepth_all _ e x.cs m' (Nat.le_refl _) hdp (exRep_upM hle hrep)
  have hE := fun (hv : validE e = true) (m' : Mem) (hle : leM m m') => rtok_all _ e m (Nat.le_refl _) hv hsz x.cs m' hle (exRep_upM hle hrep)
  have hJ := fun (hv : validE e = true) (m' : Mem) (hle : leM m m') (a : Option Addr) (c : Nat) (hr : Rds m' a (exprT e).length 4 (tkCells (exprT e))) => rjoin_spec (exprT e) a _ c m' hr (tks_ok e (wfE_rep e x.cs hrep)) (by have := len_size e hv; simp only [big] at hsz; omega)
  refine enter cfK puK Tryz.func18 rfl rfl (by kernel_rfl) rfl ?_ ?_
  · simp only [go_sem, ↓imp_tf, ↓imp_ft, ↓reduceIte, Nd.cs]
  · simp only [go_sem, ↓imp_tf, ↓imp_ft, ↓reduceIte, Nd.cs]
    refine ⟨by kernel_rfl, FnV_of ((FnH_den hV (fun V => rfl)).mono ?_)⟩
    clear hV
    rintro r H' m1 hm1 ⟨l1, rfl, rfl⟩
    simp only [go_sem, ↓imp_tf, ↓imp_ft, ↓reduceIte, Nd.cs]
    refine ⟨fun hv => ⟨l1, ?_⟩, fun hv => ⟨by kernel_rfl, FnV_of ((FnH_den (hD m1 l1) (fun V => rfl)).mono ?_)⟩⟩
    · have : fmtE e = ([], 4) := by rw [fmtE, if_neg (by rw [hv]; decide)]
      rw [this]
    · clear hD
      rintro r H' m2 hm2 ⟨l2, rfl, rfl⟩
      simp only [go_sem, ↓imp_tf, ↓imp_ft, ↓reduceIte, Nd.cs]
      refine ⟨fun hd => ⟨leM_tr l1 l2, ?_⟩, fun hd => ⟨by kernel_rfl, FnV_of ((FnH_den (hE hv m2 (leM_tr l1 l2)) (fun V => rfl)).mono ?_)⟩⟩
      · have : fmtE e = ([], 9) := by rw [fmtE, if_pos hv, if_pos (by clear hE hJ; omega)]
        rw [this]
      · clear hE
        rintro r H' m3 hm3 ⟨l3, rfl, rfl⟩
        simp only [go_sem, ↓imp_tf, ↓imp_ft, ↓reduceIte, Nd.cs]
        have l4 := leM_tr (leM_tr l1 l2) l3
        refine ⟨by kernel_rfl, fun a c m4 hm4 hc hr => FnV_of ((hJ hv m4 (leM_tr l4 (.inr hm4)) a c hr).mono ?_)⟩
        have hf : fmtE e = joinL (exprT e) := by rw [fmtE, if_pos hv, if_neg (by clear hJ; omega)]
        clear hJ
        rintro r H' m5 hm5 ⟨l5, rfl, rfl⟩
        rw [hf]
        simp only [go_sem, ↓imp_tf, ↓imp_ft, ↓reduceIte, Nd.cs]
        exact leM_tr l4 (leM_tr (.inr hm4) l5)
end Go.Proofs.YtalalcpefggniaaGreatDoor.E

namespace Go.Proofs.YtalalcpefggniaaGreatDoor.E
open Go

theorem bare0 (n : Int) (s c : List UInt8) (ty : Ty) : bareR [] n s c ty = (decide (n = 0) && decide (s = []) && decide (c = []) && Ty.eq ty zTy) := by simp [bareR]
theorem zero_eq (k n : Int) (s c : List UInt8) (ty : Ty) (l : Nat) : (decide (k = 0) && bareR [] n s c ty && decide ((l : Int) = 0)) = emptyL k n s c ty l := by
  rw [bare0, emptyL]
  grind
theorem super_eq (k n : Int) (s c : List UInt8) (ty : Ty) (l : Nat) : (decide (k = 0) && bareR [] n s c ty && decide ((l : Int) ≤ 16)) = (emptyL k n s c ty 0 && decide (l ≤ 16)) := by
  rw [bare0, emptyL]
  grind
theorem rzero_spec (k n : Int) (s c : List UInt8) (ty : Ty) (a : Option Addr) (l cp : Nat) (m : Mem) : FnH Tryz.prog 56 [.v (.agg ⟨exC k n s c ty (.slice a l cp)⟩)] ⟨[], []⟩ m fun r H' _ => r = .v (.bool (emptyL k n s c ty l)) ∧ H' = ⟨[], []⟩ := by
  refine enter cfE puE Tryz.func56 rfl rfl (by kernel_rfl) rfl ?_ ?_
  · simp only [go_sem, ↓imp_tf, ↓imp_ft, ↓reduceIte, exC]
  · simp only [go_sem, ↓imp_tf, ↓imp_ft, ↓reduceIte, exC]
    exact zero_eq k n s c ty l
def pZero : List Value → Option (Prop × Value)
  | [.agg ⟨[.int .i64 k, .int .i64 n, .string s, .string c, .int .i64 d, .int .u8 b, .string nm, .slice _ l _]⟩] => some (True, .bool (emptyL k n (tl s) (tl c) ⟨d, b, tl nm⟩ l))
  | _ => none
attribute [go_sem] pZero.eq_1
theorem pureZero : Pure0 Tryz.prog 56 pZero := fun vals y hy _ m => by
  unfold pZero at hy
  split at hy
  · rename_i k n s c d b nm a l cp
    cases hy
    have := rzero_spec k n (tl s) (tl c) ⟨d, b, tl nm⟩ a l cp m
    simp only [exC, bs_tl] at this
    exact this
  · cases hy
theorem rtyped_spec (k : Int) (nm : List UInt8) (ty : Ty) (c5 c6 c7 c8 c9 c10 c11 c12 c13 c14 c15 c16 c17 c18 c19 c20 c21 c22 : Value) (t : Bool) (m : Mem) (h1 : BL nm) (h2 : BL ty.name) :
    FnH Tryz.prog 123 [.v (.agg ⟨[.int .i64 k, .string (bs nm), .int .i64 ty.dim, .int .u8 ty.base, .string (bs ty.name), c5, c6, c7, c8, c9, c10, c11, c12, c13, c14, c15, c16, c17, c18, c19, c20, c21, c22]⟩), .v (.bool t)] ⟨[], []⟩ m fun r H' _ => r = .v (.bool (typedR nm ty t)) ∧ H' = ⟨[], []⟩ := by
  refine enter cfE puE Tryz.func123 rfl rfl (by kernel_rfl) rfl ?_ ?_
  · simp only [go_sem, ↓imp_tf, ↓imp_ft, ↓reduceIte]
  · simp only [go_sem, ↓imp_tf, ↓imp_ft, ↓reduceIte, eqOkT]
    exact ⟨fun h => ⟨h2, fun _ => h1, by rw [typedR, if_pos h]⟩, fun h => by rw [typedR, if_neg (by simp [h])]; rfl⟩
def pTyped : List Value → Option (Prop × Value)
  | [.agg ⟨[.int .i64 _, .string s, .int .i64 d, .int .u8 b, .string nm, _, _, _, _, _, _, _, _, _, _, _, _, _, _, _, _, _, _]⟩, .bool t] => some (BL (tl s) ∧ BL (tl nm), .bool (typedR (tl s) ⟨d, b, tl nm⟩ t))
  | _ => none
attribute [go_sem] pTyped.eq_1
theorem pureTyped : Pure0 Tryz.prog 123 pTyped := fun vals y hy hB m => by
  unfold pTyped at hy
  split at hy
  · rename_i k s d b nm c5 c6 c7 c8 c9 c10 c11 c12 c13 c14 c15 c16 c17 c18 c19 c20 c21 c22 t
    cases hy
    have := rtyped_spec k (tl s) ⟨d, b, tl nm⟩ c5 c6 c7 c8 c9 c10 c11 c12 c13 c14 c15 c16 c17 c18 c19 c20 c21 c22 t m hB.1 hB.2
    simp only [bs_tl] at this
    exact this
  · cases hy
abbrev cfS : Cfg := mkCf (fun _ => false) [(56, pZero), (123, pTyped)]
theorem puS : PureOk cfS Tryz.prog := pure_cons (by kernel_rfl) pureZero (pure_cons (by kernel_rfl) pureTyped pure_nil)
theorem rargs_spec (e : Ex) (cs : List Value) (m : Mem) (he : exRep m e cs) : Ans 57 [.v (.agg ⟨cs⟩)] m (.bool (superE e)) := by
  cases e with
  | mk k n s c ty args =>
    simp only [exRep] at he
    obtain ⟨a, cp, xs, rfl, hcp, hr, hok, hes⟩ := he
    have hn := hok.2.2.2.2.2
    refine enter cfE puE Tryz.func57 rfl rfl (by kernel_rfl) rfl ?_ ?_
    · simp only [go_sem, ↓imp_tf, ↓imp_ft, ↓reduceIte, exC]
    · simp only [go_sem, ↓imp_tf, ↓imp_ft, ↓reduceIte, exC]
      refine WP_loop puE (fun x : Nat × Mem => ⟨[⟨1, [], .box 0 0⟩, ⟨3, [], .v (.int .i64 x.1)⟩], [], [⟨0, 32, (exC k n s c ty (.slice a args.length cp)).map .v⟩], [], 1, x.2⟩)
        (fun x => leM m x.2 ∧ x.1 ≤ args.length ∧ validEs (args.take x.1) = true) (fun x => args.length - x.1) (0, m) (by kernel_rfl) (fun _ _ => Nat.le_refl _) (fun x hx => hx.1) (fun _ => ?_) ?_ ?_ ?_
      · simp only [go_sem, ↓imp_tf, ↓imp_ft, ↓reduceIte, exC]
      · simp only [go_sem, ↓imp_tf, ↓imp_ft, ↓reduceIte, exC]
        rfl
      · exact ⟨.inl rfl, Nat.zero_le _, by simp [validEs]⟩
      · rintro ⟨i, mm⟩ ⟨h1, h2, h3⟩
        simp only at h1 h2 h3
        have hx : ∀ (hi : i < args.length), ∃ x : Nd, Rd mm (ptrAt a (i * 8)) x.cs ∧ a ≠ none ∧ Ans 20 [.v (.agg ⟨x.cs⟩)] mm (.bool (validE args[i])) := fun hi => by
          have hrep := exRep_upM h1 (exs_at hes hi)
          obtain ⟨x, hx⟩ := exRep_nd hrep
          have hrd := Rds_cells (Rds_upM h1 hr) hi
          rw [hx] at hrep hrd
          exact ⟨x, hrd.1, hrd.2, rvalid_all _ args[i] x.cs mm (Nat.le_refl _) hrep⟩
        simp only [go_sem, ↓imp_tf, ↓imp_ft, ↓reduceIte, exC]
        refine ⟨fun hlt => ?_, fun hge => ?_⟩
        · refine Exists.elim (hx (by clear hx; omega)) fun x hx' => ⟨⟨by clear hx hx'; omega, hlt, hx'.2.1⟩, x.cs, ⟨hx'.1, rfl⟩, ?_⟩
          clear hx
          have ha := hx'.2.2
          simp only [go_sem, ↓imp_tf, ↓imp_ft, ↓reduceIte, Nd.cs, exC]
          refine ⟨by kernel_rfl, FnV_of ((FnH_den ha (fun V => rfl)).mono ?_)⟩
          clear hx' ha
          rintro r H' m2 hm2 ⟨hle2, rfl, rfl⟩
          simp only [go_sem, ↓imp_tf, ↓imp_ft, ↓reduceIte, exC]
          have hi : i < args.length := by omega
          refine ⟨fun hv => ⟨leM_tr h1 hle2, ?_⟩, fun hv => ⟨by unfold I64; simp only [big] at hn; omega, (i + 1, m2), ⟨by simp, .inl rfl⟩, ⟨leM_tr h1 hle2, by simp only; omega, ?_⟩, by simp only; omega⟩⟩
          · rw [superE, validEs_no hi hv, Bool.and_false]
          · simp only
            rw [validEs_take hi, h3, hv]
            rfl
        · clear hx
          rw [List.take_of_length_le (by omega)] at h3
          refine ⟨h1, ?_⟩
          rw [superE, h3, Bool.and_true]
          exact super_eq k n s c ty args.length
theorem rblock_spec (sup : Bool) (l : List St) (a : Option Addr) (n c : Nat) (xs : List Value) (m : Mem) (hl : n = l.length) (hr : Rds m a n 23 xs) (hs : stsRep m l xs) (hn : n ≤ big)
    (hV : ∀ e ∈ l, ∀ cs m', leM m m' → stRep m' e cs → Ans 22 [.v (.agg ⟨cs⟩)] m' (.bool (validS e))) :
    Ans 78 [.v (.slice a n c), .v (.bool sup)] m (.bool (blockL sup l)) := by
  refine enter cfN puN Tryz.func78 rfl rfl (by kernel_rfl) rfl ?_ ?_
  · simp only [go_sem, ↓imp_tf, ↓imp_ft, ↓reduceIte]
  · simp only [go_sem, ↓imp_tf, ↓imp_ft, ↓reduceIte]
    refine WP_loop puN (fun x : Nat × Mem => ⟨[⟨0, [], .v (.slice a n c)⟩, ⟨1, [], .v (.bool sup)⟩, ⟨5, [], .v (.int .i64 x.1)⟩], [], [], [], 0, x.2⟩)
        (fun x => leM m x.2 ∧ x.1 ≤ n ∧ validSs sup (l.take x.1) = true) (fun x => n - x.1) (0, m) (by kernel_rfl) (fun _ _ => Nat.le_refl _) (fun x hx => hx.1) (fun _ => ?_) ?_ ?_ ?_
    · simp only [go_sem, ↓imp_tf, ↓imp_ft, ↓reduceIte]
    · simp only [go_sem, ↓imp_tf, ↓imp_ft, ↓reduceIte]
      rfl
    · exact ⟨.inl rfl, Nat.zero_le _, by simp [validSs]⟩
    · rintro ⟨k, mm⟩ ⟨h1, h2, h3⟩
      simp only at h1 h2 h3
      have hy : ∀ (hk : k < l.length), ∃ X : Sd, (Rd mm (ptrAt a (k * 23)) X.cs ∧ a ≠ none) ∧ X.k = l[k].k ∧ Ans 22 [.v (.agg ⟨X.cs⟩)] mm (.bool (validS l[k])) := fun hk => by
        have hrep := stRep_upM h1 (sts_at hs hk)
        have hkx : ∃ X : Sd, (xs.drop (k * 23)).take 23 = X.cs ∧ X.k = l[k].k := by
          cases hlk : l[k] with
          | mk k' nm ty tg ex body alt =>
            rw [hlk] at hrep
            obtain ⟨X, e1, e2, _⟩ := st_parts hrep
            exact ⟨X, e1, e2⟩
        obtain ⟨X, e1, e2⟩ := hkx
        have r1 := Rds_cells (Rds_upM h1 hr) (by omega : k < n)
        rw [e1] at r1 hrep
        exact ⟨X, r1, e2, hV _ (List.getElem_mem hk) _ _ h1 hrep⟩
      clear hV
      simp only [go_sem, ↓imp_tf, ↓imp_ft, ↓reduceIte]
      refine ⟨fun hlt => ?_, fun hge => ⟨h1, ?_⟩⟩
      · have hk : k < l.length := by clear hy; omega
        refine Exists.elim (hy hk) fun X hy' => ⟨⟨by clear hy hy'; omega, hlt, hy'.1.2⟩, Rd_ptr hy'.1.1, .int .i64 X.k, Rd_sub hy'.1.1 0 1 (Nat.le_of_ble_eq_true rfl), ?_⟩
        clear hy
        have hkk := hy'.2.1
        have ha := hy'.2.2
        have hr1 := hy'.1.1
        have hrn := hy'.1.2
        clear hy'
        simp only [go_sem, ↓imp_tf, ↓imp_ft, ↓reduceIte, Sd.cs, Nd.cs]
        refine ⟨fun _ => ⟨by omega, hlt, hrn⟩, X.cs, fun _ => ⟨hr1, rfl⟩, fun hc => ⟨by kernel_rfl, FnV_of (ha.mono ?_)⟩, fun hc => ⟨h1, ?_⟩⟩
        · clear ha
          have hb : blk1 sup k l[k] = validS l[k] := by
            rw [hkk] at hc
            rcases hc with hc | hc
            · simp [blk1, hc]
            · have : k = 0 := by omega
              simp [blk1, hc.1, this]
          rintro r H' m2 hm2 ⟨hle2, rfl, rfl⟩
          simp only [go_sem, ↓imp_tf, ↓imp_ft, ↓reduceIte]
          refine ⟨fun hv => ⟨leM_tr h1 hle2, ?_⟩, fun hv => ⟨by unfold I64; simp only [big] at hn; omega, (k + 1, m2), ⟨by simp, .inl rfl⟩, ⟨leM_tr h1 hle2, by simp only; omega, ?_⟩, by simp only; omega⟩⟩
          · rw [blockL, validSs_no hk (by rw [hb]; exact hv), Bool.and_false]
          · simp only
            rw [validSs_take hk, h3, hb, hv]
            rfl
        · clear ha
          rw [hkk] at hc
          rw [blockL, validSs_no hk, Bool.and_false]
          rcases hc.2 with h0 | h0
          · simp [blk1, hc.1, h0]
          · have : ¬ k = 0 := by omega
            simp [blk1, hc.1, this]
      · clear hy
        rw [List.take_of_length_le (by omega)] at h3
        rw [blockL, h3, Bool.and_true, decide_eq_decide]
        omega
theorem rshape_spec (X : Sd) (tg ex : Ex) (body alt : List St) (t t2 b1 b2 : Bool) (m : Mem) (h1 : BL X.name) (h2 : BL X.ty.name) (htg : exRep m tg X.tg.cs) (hl : X.l = body.length) (hl2 : X.l2 = alt.length)
    (hB : ∀ m', leM m m' → Ans 78 [.v (.slice X.a X.l X.cp), .v (.bool false)] m' (.bool (blockL false body)))
    (hA : ∀ m', leM m m' → Ans 78 [.v (.slice X.b X.l2 X.cp2), .v (.bool false)] m' (.bool (blockL false alt))) :
    Ans 55 [.v (.agg ⟨X.cs⟩), .v (.bool t), .v (.bool t2), .v (.bool b1), .v (.bool b2)] m (.bool (shapeR X.name X.ty tg body alt t t2 b1 b2)) := by
  have hz : emptyE tg = emptyL X.tg.k X.tg.n X.tg.s X.tg.c X.tg.ty X.tg.l := by
    cases tg with
    | mk k n s c ty args =>
      obtain ⟨y, hy, e1, e2, e3, e4, e5, e6, _⟩ := ex_parts htg
      rw [nd_inj hy, e1, e2, e3, e4, e5, e6]
      rfl
  refine enter cfS puS Tryz.func55 rfl rfl (by kernel_rfl) rfl ?_ ?_
  · simp only [go_sem, ↓imp_tf, ↓imp_ft, ↓reduceIte, Sd.cs, Nd.cs]
  · simp only [go_sem, ↓imp_tf, ↓imp_ft, ↓reduceIte, Sd.cs, Nd.cs]
    have e0 : shapeR X.name X.ty tg body alt t t2 b1 b2 = (typedR X.name X.ty t && (t2 || emptyE tg) && (b1 || decide (body.length = 0)) && (b2 || decide (alt.length = 0)) && blockL false body && blockL false alt) := rfl
    refine ⟨⟨h1, h2⟩, fun hc => ⟨by kernel_rfl, FnV_of ((hB m (.inl rfl)).mono ?_)⟩, fun hc => ?_⟩
    · have q : (typedR X.name X.ty t && (t2 || emptyE tg) && (b1 || decide (body.length = 0)) && (b2 || decide (alt.length = 0))) = true := by
        rw [hz, ← hl, ← hl2]
        simp only [Bool.and_eq_true, Bool.or_eq_true, decide_eq_true_eq]
        exact ⟨⟨⟨hc.1.1.1, hc.1.1.2⟩, Or.elim hc.1.2 .inl fun h => .inr (by omega)⟩, Or.elim hc.2 .inl fun h => .inr (by omega)⟩
      rw [e0, q]
      clear hB e0 q
      rintro r H' m1 hm1 ⟨l1, rfl, rfl⟩
      simp only [go_sem, ↓imp_tf, ↓imp_ft, ↓reduceIte]
      refine ⟨fun hb => ⟨by kernel_rfl, FnV_of ((hA m1 l1).mono ?_)⟩, fun hb => ⟨l1, by rw [hb]; rfl⟩⟩
      clear hA
      rintro r H' m2 hm2 ⟨l2, rfl, rfl⟩
      simp only [go_sem, ↓imp_tf, ↓imp_ft, ↓reduceIte]
      exact ⟨leM_tr l1 l2, by rw [hb]; rfl⟩
    · clear hA hB
      rw [e0, hz, ← hl, ← hl2]
      rcases hc with ((h | h) | h) | h
      · have h' : typedR X.name X.ty t = false := h
        rw [h']; rfl
      · have h' : emptyL X.tg.k X.tg.n X.tg.s X.tg.c X.tg.ty X.tg.l = false := h.2
        rw [h', h.1]; simp
      · have h' : decide (X.l = 0) = false := decide_eq_false (by omega)
        rw [h', h.1]; simp
      · have h' : decide (X.l2 = 0) = false := decide_eq_false (by omega)
        rw [h', h.1]; simp
end Go.Proofs.YtalalcpefggniaaGreatDoor.E

namespace Go.Proofs.YtalalcpefggniaaGreatDoor.E
open Go


theorem rst1 (nm : List UInt8) (ty : Ty) (tN eN : Nd) (a : Option Addr) (l cp : Nat) (b : Option Addr) (l2 cp2 : Nat) (m : Mem) (sB : Bool) (hS : Ans 55 [.v (.agg ⟨Sd.cs ⟨1, nm, ty, tN, eN, a, l, cp, b, l2, cp2⟩⟩), .v (.bool true), .v (.bool false), .v (.bool false), .v (.bool false)] m (.bool sB)) (xB : Bool) (hX : ∀ m', leM m m' → Ans 20 [.v (.agg ⟨eN.cs⟩)] m' (.bool xB)) : Ans 22 [.v (.agg ⟨Sd.cs ⟨1, nm, ty, tN, eN, a, l, cp, b, l2, cp2⟩⟩)] m (.bool (sB && xB)) := by
  refine enter cfS puS Tryz.func22 rfl rfl (by kernel_rfl) rfl ?_ ?_
  · simp only [go_sem, ↓imp_tf, ↓imp_ft, ↓reduceIte, Sd.cs, Nd.cs, Int.reduceEq, decide_true, decide_false]
  · simp only [go_sem, ↓imp_tf, ↓imp_ft, ↓reduceIte, Sd.cs, Nd.cs, Int.reduceEq, decide_true, decide_false]
    refine ⟨by kernel_rfl, FnV_of ((FnH_den hS (fun V => rfl)).mono ?_)⟩
    clear hS
    rintro r H' m1 hm1 ⟨l1, rfl, rfl⟩
    simp only [go_sem, ↓imp_tf, ↓imp_ft, ↓reduceIte, Sd.cs, Nd.cs, Int.reduceEq, decide_true, decide_false]
    refine ⟨fun c => ⟨by kernel_rfl, FnV_of ((FnH_den (hX m1 l1) (fun V => rfl)).mono ?_)⟩, fun c => ⟨l1, by rw [c]; rfl⟩⟩
    clear hX
    rintro r H' m2 hm2 ⟨l2', rfl, rfl⟩
    simp only [go_sem, ↓imp_tf, ↓imp_ft, ↓reduceIte, Sd.cs, Nd.cs, Int.reduceEq, decide_true, decide_false]
    exact ⟨leM_tr l1 l2', by rw [c]; rfl⟩
theorem rst2 (nm : List UInt8) (ty : Ty) (tN eN : Nd) (a : Option Addr) (l cp : Nat) (b : Option Addr) (l2 cp2 : Nat) (m : Mem) (sB : Bool) (hS : Ans 55 [.v (.agg ⟨Sd.cs ⟨2, nm, ty, tN, eN, a, l, cp, b, l2, cp2⟩⟩), .v (.bool false), .v (.bool true), .v (.bool false), .v (.bool false)] m (.bool sB)) (xB : Bool) (hX : ∀ m', leM m m' → Ans 20 [.v (.agg ⟨eN.cs⟩)] m' (.bool xB)) (tB : Bool) (hT : ∀ m', leM m m' → Ans 20 [.v (.agg ⟨tN.cs⟩)] m' (.bool tB)) : Ans 22 [.v (.agg ⟨Sd.cs ⟨2, nm, ty, tN, eN, a, l, cp, b, l2, cp2⟩⟩)] m (.bool (sB && xB && tB && (decide (tN.k = 6) || decide (tN.k = 7) || decide (tN.k = 8) || decide (tN.k = 9)))) := by
  refine enter cfS puS Tryz.func22 rfl rfl (by kernel_rfl) rfl ?_ ?_
  · simp only [go_sem, ↓imp_tf, ↓imp_ft, ↓reduceIte, Sd.cs, Nd.cs, Int.reduceEq, decide_true, decide_false]
  · simp only [go_sem, ↓imp_tf, ↓imp_ft, ↓reduceIte, Sd.cs, Nd.cs, Int.reduceEq, decide_true, decide_false]
    refine ⟨by kernel_rfl, FnV_of ((FnH_den hS (fun V => rfl)).mono ?_)⟩
    clear hS
    rintro r H' m1 hm1 ⟨l1, rfl, rfl⟩
    simp only [go_sem, ↓imp_tf, ↓imp_ft, ↓reduceIte, Sd.cs, Nd.cs, Int.reduceEq, decide_true, decide_false]
    refine ⟨fun c => ⟨by kernel_rfl, FnV_of ((FnH_den (hX m1 l1) (fun V => rfl)).mono ?_)⟩, fun c => ⟨l1, by rw [c]; rfl⟩⟩
    clear hX
    rintro r H' m2 hm2 ⟨l2', rfl, rfl⟩
    simp only [go_sem, ↓imp_tf, ↓imp_ft, ↓reduceIte, Sd.cs, Nd.cs, Int.reduceEq, decide_true, decide_false]
    have k2 := leM_tr l1 l2'
    refine ⟨fun c2 => ⟨by kernel_rfl, FnV_of ((FnH_den (hT m2 k2) (fun V => rfl)).mono ?_)⟩, fun c2 => ⟨k2, by rw [c, c2]; rfl⟩⟩
    clear hT
    rintro r H' m3 hm3 ⟨l3', rfl, rfl⟩
    simp only [go_sem, ↓imp_tf, ↓imp_ft, ↓reduceIte, Sd.cs, Nd.cs, Int.reduceEq, decide_true, decide_false]
    exact ⟨leM_tr k2 l3', by rw [c, c2]; rfl⟩
theorem rst3 (nm : List UInt8) (ty : Ty) (tN eN : Nd) (a : Option Addr) (l cp : Nat) (b : Option Addr) (l2 cp2 : Nat) (m : Mem) (sB : Bool) (hS : Ans 55 [.v (.agg ⟨Sd.cs ⟨3, nm, ty, tN, eN, a, l, cp, b, l2, cp2⟩⟩), .v (.bool false), .v (.bool false), .v (.bool false), .v (.bool false)] m (.bool sB)) (xB : Bool) (hX : ∀ m', leM m m' → Ans 20 [.v (.agg ⟨eN.cs⟩)] m' (.bool xB)) : Ans 22 [.v (.agg ⟨Sd.cs ⟨3, nm, ty, tN, eN, a, l, cp, b, l2, cp2⟩⟩)] m (.bool (sB && xB && (decide (eN.k = 10) || decide (eN.k = 11) || decide (eN.k = 12) || decide (eN.k = 13)))) := by
  refine enter cfS puS Tryz.func22 rfl rfl (by kernel_rfl) rfl ?_ ?_
  · simp only [go_sem, ↓imp_tf, ↓imp_ft, ↓reduceIte, Sd.cs, Nd.cs, Int.reduceEq, decide_true, decide_false]
  · simp only [go_sem, ↓imp_tf, ↓imp_ft, ↓reduceIte, Sd.cs, Nd.cs, Int.reduceEq, decide_true, decide_false]
    refine ⟨by kernel_rfl, FnV_of ((FnH_den hS (fun V => rfl)).mono ?_)⟩
    clear hS
    rintro r H' m1 hm1 ⟨l1, rfl, rfl⟩
    simp only [go_sem, ↓imp_tf, ↓imp_ft, ↓reduceIte, Sd.cs, Nd.cs, Int.reduceEq, decide_true, decide_false]
    refine ⟨fun c => ⟨by kernel_rfl, FnV_of ((FnH_den (hX m1 l1) (fun V => rfl)).mono ?_)⟩, fun c => ⟨l1, by rw [c]; rfl⟩⟩
    clear hX
    rintro r H' m2 hm2 ⟨l2', rfl, rfl⟩
    simp only [go_sem, ↓imp_tf, ↓imp_ft, ↓reduceIte, Sd.cs, Nd.cs, Int.reduceEq, decide_true, decide_false]
    exact ⟨leM_tr l1 l2', by rw [c]; rfl⟩
theorem rst4 (nm : List UInt8) (ty : Ty) (tN eN : Nd) (a : Option Addr) (l cp : Nat) (b : Option Addr) (l2 cp2 : Nat) (m : Mem) (sB : Bool) (hS : Ans 55 [.v (.agg ⟨Sd.cs ⟨4, nm, ty, tN, eN, a, l, cp, b, l2, cp2⟩⟩), .v (.bool false), .v (.bool false), .v (.bool true), .v (.bool true)] m (.bool sB)) (xB : Bool) (hX : ∀ m', leM m m' → Ans 20 [.v (.agg ⟨eN.cs⟩)] m' (.bool xB)) : Ans 22 [.v (.agg ⟨Sd.cs ⟨4, nm, ty, tN, eN, a, l, cp, b, l2, cp2⟩⟩)] m (.bool (sB && xB)) := by
  refine enter cfS puS Tryz.func22 rfl rfl (by kernel_rfl) rfl ?_ ?_
  · simp only [go_sem, ↓imp_tf, ↓imp_ft, ↓reduceIte, Sd.cs, Nd.cs, Int.reduceEq, decide_true, decide_false]
  · simp only [go_sem, ↓imp_tf, ↓imp_ft, ↓reduceIte, Sd.cs, Nd.cs, Int.reduceEq, decide_true, decide_false]
    refine ⟨by kernel_rfl, FnV_of ((FnH_den hS (fun V => rfl)).mono ?_)⟩
    clear hS
    rintro r H' m1 hm1 ⟨l1, rfl, rfl⟩
    simp only [go_sem, ↓imp_tf, ↓imp_ft, ↓reduceIte, Sd.cs, Nd.cs, Int.reduceEq, decide_true, decide_false]
    refine ⟨fun c => ⟨by kernel_rfl, FnV_of ((FnH_den (hX m1 l1) (fun V => rfl)).mono ?_)⟩, fun c => ⟨l1, by rw [c]; rfl⟩⟩
    clear hX
    rintro r H' m2 hm2 ⟨l2', rfl, rfl⟩
    simp only [go_sem, ↓imp_tf, ↓imp_ft, ↓reduceIte, Sd.cs, Nd.cs, Int.reduceEq, decide_true, decide_false]
    exact ⟨leM_tr l1 l2', by rw [c]; rfl⟩
theorem rst5 (nm : List UInt8) (ty : Ty) (tN eN : Nd) (a : Option Addr) (l cp : Nat) (b : Option Addr) (l2 cp2 : Nat) (m : Mem) (sB : Bool) (hS : Ans 55 [.v (.agg ⟨Sd.cs ⟨5, nm, ty, tN, eN, a, l, cp, b, l2, cp2⟩⟩), .v (.bool false), .v (.bool false), .v (.bool true), .v (.bool false)] m (.bool sB)) (xB : Bool) (hX : ∀ m', leM m m' → Ans 20 [.v (.agg ⟨eN.cs⟩)] m' (.bool xB)) : Ans 22 [.v (.agg ⟨Sd.cs ⟨5, nm, ty, tN, eN, a, l, cp, b, l2, cp2⟩⟩)] m (.bool (sB && xB)) := by
  refine enter cfS puS Tryz.func22 rfl rfl (by kernel_rfl) rfl ?_ ?_
  · simp only [go_sem, ↓imp_tf, ↓imp_ft, ↓reduceIte, Sd.cs, Nd.cs, Int.reduceEq, decide_true, decide_false]
  · simp only [go_sem, ↓imp_tf, ↓imp_ft, ↓reduceIte, Sd.cs, Nd.cs, Int.reduceEq, decide_true, decide_false]
    refine ⟨by kernel_rfl, FnV_of ((FnH_den hS (fun V => rfl)).mono ?_)⟩
    clear hS
    rintro r H' m1 hm1 ⟨l1, rfl, rfl⟩
    simp only [go_sem, ↓imp_tf, ↓imp_ft, ↓reduceIte, Sd.cs, Nd.cs, Int.reduceEq, decide_true, decide_false]
    refine ⟨fun c => ⟨by kernel_rfl, FnV_of ((FnH_den (hX m1 l1) (fun V => rfl)).mono ?_)⟩, fun c => ⟨l1, by rw [c]; rfl⟩⟩
    clear hX
    rintro r H' m2 hm2 ⟨l2', rfl, rfl⟩
    simp only [go_sem, ↓imp_tf, ↓imp_ft, ↓reduceIte, Sd.cs, Nd.cs, Int.reduceEq, decide_true, decide_false]
    exact ⟨leM_tr l1 l2', by rw [c]; rfl⟩
theorem rst6 (nm : List UInt8) (ty : Ty) (tN eN : Nd) (a : Option Addr) (l cp : Nat) (b : Option Addr) (l2 cp2 : Nat) (m : Mem) (sB : Bool) (hS : Ans 55 [.v (.agg ⟨Sd.cs ⟨6, nm, ty, tN, eN, a, l, cp, b, l2, cp2⟩⟩), .v (.bool false), .v (.bool false), .v (.bool false), .v (.bool false)] m (.bool sB)) (xB : Bool) (hX : ∀ m', leM m m' → Ans 20 [.v (.agg ⟨eN.cs⟩)] m' (.bool xB)) : Ans 22 [.v (.agg ⟨Sd.cs ⟨6, nm, ty, tN, eN, a, l, cp, b, l2, cp2⟩⟩)] m (.bool (sB && (emptyL eN.k eN.n eN.s eN.c eN.ty eN.l || xB))) := by
  refine enter cfS puS Tryz.func22 rfl rfl (by kernel_rfl) rfl ?_ ?_
  · simp only [go_sem, ↓imp_tf, ↓imp_ft, ↓reduceIte, Sd.cs, Nd.cs, Int.reduceEq, decide_true, decide_false]
  · simp only [go_sem, ↓imp_tf, ↓imp_ft, ↓reduceIte, Sd.cs, Nd.cs, Int.reduceEq, decide_true, decide_false]
    refine ⟨by kernel_rfl, FnV_of ((FnH_den hS (fun V => rfl)).mono ?_)⟩
    clear hS
    rintro r H' m1 hm1 ⟨l1, rfl, rfl⟩
    simp only [go_sem, ↓imp_tf, ↓imp_ft, ↓reduceIte, Sd.cs, Nd.cs, Int.reduceEq, decide_true, decide_false]
    refine ⟨fun c => ⟨fun z => ⟨by kernel_rfl, FnV_of ((FnH_den (hX m1 l1) (fun V => rfl)).mono ?_)⟩, fun z => ⟨l1, ?_⟩⟩, fun c => ⟨l1, by rw [c]; rfl⟩⟩
    · clear hX
      have z : emptyL eN.k eN.n eN.s eN.c eN.ty eN.l = false := z
      rintro r H' m2 hm2 ⟨l2', rfl, rfl⟩
      simp only [go_sem, ↓imp_tf, ↓imp_ft, ↓reduceIte, Sd.cs, Nd.cs, Int.reduceEq, decide_true, decide_false]
      exact ⟨leM_tr l1 l2', by rw [c, z]; rfl⟩
    · have z : emptyL eN.k eN.n eN.s eN.c eN.ty eN.l = true := z
      rw [c, z]; rfl
theorem rst7 (nm : List UInt8) (ty : Ty) (tN eN : Nd) (a : Option Addr) (l cp : Nat) (b : Option Addr) (l2 cp2 : Nat) (m : Mem) (sB : Bool) (hS : Ans 55 [.v (.agg ⟨Sd.cs ⟨7, nm, ty, tN, eN, a, l, cp, b, l2, cp2⟩⟩), .v (.bool false), .v (.bool false), .v (.bool false), .v (.bool false)] m (.bool sB)) (xB : Bool) (hX : ∀ m', leM m m' → Ans 20 [.v (.agg ⟨eN.cs⟩)] m' (.bool xB)) : Ans 22 [.v (.agg ⟨Sd.cs ⟨7, nm, ty, tN, eN, a, l, cp, b, l2, cp2⟩⟩)] m (.bool (sB && xB)) := by
  refine enter cfS puS Tryz.func22 rfl rfl (by kernel_rfl) rfl ?_ ?_
  · simp only [go_sem, ↓imp_tf, ↓imp_ft, ↓reduceIte, Sd.cs, Nd.cs, Int.reduceEq, decide_true, decide_false]
  · simp only [go_sem, ↓imp_tf, ↓imp_ft, ↓reduceIte, Sd.cs, Nd.cs, Int.reduceEq, decide_true, decide_false]
    refine ⟨by kernel_rfl, FnV_of ((FnH_den hS (fun V => rfl)).mono ?_)⟩
    clear hS
    rintro r H' m1 hm1 ⟨l1, rfl, rfl⟩
    simp only [go_sem, ↓imp_tf, ↓imp_ft, ↓reduceIte, Sd.cs, Nd.cs, Int.reduceEq, decide_true, decide_false]
    refine ⟨fun c => ⟨by kernel_rfl, FnV_of ((FnH_den (hX m1 l1) (fun V => rfl)).mono ?_)⟩, fun c => ⟨l1, by rw [c]; rfl⟩⟩
    clear hX
    rintro r H' m2 hm2 ⟨l2', rfl, rfl⟩
    simp only [go_sem, ↓imp_tf, ↓imp_ft, ↓reduceIte, Sd.cs, Nd.cs, Int.reduceEq, decide_true, decide_false]
    exact ⟨leM_tr l1 l2', by rw [c]; rfl⟩
theorem rst8 (nm : List UInt8) (ty : Ty) (tN eN : Nd) (a : Option Addr) (l cp : Nat) (b : Option Addr) (l2 cp2 : Nat) (m : Mem) (sB : Bool) (hS : Ans 55 [.v (.agg ⟨Sd.cs ⟨8, nm, ty, tN, eN, a, l, cp, b, l2, cp2⟩⟩), .v (.bool true), .v (.bool false), .v (.bool true), .v (.bool true)] m (.bool sB)) : Ans 22 [.v (.agg ⟨Sd.cs ⟨8, nm, ty, tN, eN, a, l, cp, b, l2, cp2⟩⟩)] m (.bool (sB && emptyL eN.k eN.n eN.s eN.c eN.ty eN.l)) := by
  refine enter cfS puS Tryz.func22 rfl rfl (by kernel_rfl) rfl ?_ ?_
  · simp only [go_sem, ↓imp_tf, ↓imp_ft, ↓reduceIte, Sd.cs, Nd.cs, Int.reduceEq, decide_true, decide_false]
  · simp only [go_sem, ↓imp_tf, ↓imp_ft, ↓reduceIte, Sd.cs, Nd.cs, Int.reduceEq, decide_true, decide_false]
    refine ⟨by kernel_rfl, FnV_of ((FnH_den hS (fun V => rfl)).mono ?_)⟩
    clear hS
    rintro r H' m1 hm1 ⟨l1, rfl, rfl⟩
    simp only [go_sem, ↓imp_tf, ↓imp_ft, ↓reduceIte, Sd.cs, Nd.cs, Int.reduceEq, decide_true, decide_false]
    exact l1
theorem rst9 (nm : List UInt8) (ty : Ty) (tN eN : Nd) (a : Option Addr) (l cp : Nat) (b : Option Addr) (l2 cp2 : Nat) (m : Mem) (sB : Bool) (hS : Ans 55 [.v (.agg ⟨Sd.cs ⟨9, nm, ty, tN, eN, a, l, cp, b, l2, cp2⟩⟩), .v (.bool false), .v (.bool false), .v (.bool true), .v (.bool false)] m (.bool sB)) (xB : Bool) (hX : ∀ m', leM m m' → Ans 20 [.v (.agg ⟨eN.cs⟩)] m' (.bool xB)) : Ans 22 [.v (.agg ⟨Sd.cs ⟨9, nm, ty, tN, eN, a, l, cp, b, l2, cp2⟩⟩)] m (.bool (sB && xB)) := by
  refine enter cfS puS Tryz.func22 rfl rfl (by kernel_rfl) rfl ?_ ?_
  · simp only [go_sem, ↓imp_tf, ↓imp_ft, ↓reduceIte, Sd.cs, Nd.cs, Int.reduceEq, decide_true, decide_false]
  · simp only [go_sem, ↓imp_tf, ↓imp_ft, ↓reduceIte, Sd.cs, Nd.cs, Int.reduceEq, decide_true, decide_false]
    refine ⟨by kernel_rfl, FnV_of ((FnH_den hS (fun V => rfl)).mono ?_)⟩
    clear hS
    rintro r H' m1 hm1 ⟨l1, rfl, rfl⟩
    simp only [go_sem, ↓imp_tf, ↓imp_ft, ↓reduceIte, Sd.cs, Nd.cs, Int.reduceEq, decide_true, decide_false]
    refine ⟨fun c => ⟨by kernel_rfl, FnV_of ((FnH_den (hX m1 l1) (fun V => rfl)).mono ?_)⟩, fun c => ⟨l1, by rw [c]; rfl⟩⟩
    clear hX
    rintro r H' m2 hm2 ⟨l2', rfl, rfl⟩
    simp only [go_sem, ↓imp_tf, ↓imp_ft, ↓reduceIte, Sd.cs, Nd.cs, Int.reduceEq, decide_true, decide_false]
    exact ⟨leM_tr l1 l2', by rw [c]; rfl⟩
theorem rst10 (nm : List UInt8) (ty : Ty) (tN eN : Nd) (a : Option Addr) (l cp : Nat) (b : Option Addr) (l2 cp2 : Nat) (m : Mem) (sB : Bool) (hS : Ans 55 [.v (.agg ⟨Sd.cs ⟨10, nm, ty, tN, eN, a, l, cp, b, l2, cp2⟩⟩), .v (.bool false), .v (.bool false), .v (.bool true), .v (.bool false)] m (.bool sB)) : Ans 22 [.v (.agg ⟨Sd.cs ⟨10, nm, ty, tN, eN, a, l, cp, b, l2, cp2⟩⟩)] m (.bool (sB && emptyL eN.k eN.n eN.s eN.c eN.ty eN.l)) := by
  refine enter cfS puS Tryz.func22 rfl rfl (by kernel_rfl) rfl ?_ ?_
  · simp only [go_sem, ↓imp_tf, ↓imp_ft, ↓reduceIte, Sd.cs, Nd.cs, Int.reduceEq, decide_true, decide_false]
  · simp only [go_sem, ↓imp_tf, ↓imp_ft, ↓reduceIte, Sd.cs, Nd.cs, Int.reduceEq, decide_true, decide_false]
    refine ⟨by kernel_rfl, FnV_of ((FnH_den hS (fun V => rfl)).mono ?_)⟩
    clear hS
    rintro r H' m1 hm1 ⟨l1, rfl, rfl⟩
    simp only [go_sem, ↓imp_tf, ↓imp_ft, ↓reduceIte, Sd.cs, Nd.cs, Int.reduceEq, decide_true, decide_false]
    exact l1
theorem rst11 (nm : List UInt8) (ty : Ty) (tN eN : Nd) (a : Option Addr) (l cp : Nat) (b : Option Addr) (l2 cp2 : Nat) (m : Mem) (sB : Bool) (hS : Ans 55 [.v (.agg ⟨Sd.cs ⟨11, nm, ty, tN, eN, a, l, cp, b, l2, cp2⟩⟩), .v (.bool false), .v (.bool false), .v (.bool false), .v (.bool false)] m (.bool sB)) (xB : Bool) (hX : ∀ m', leM m m' → Ans 57 [.v (.agg ⟨eN.cs⟩)] m' (.bool xB)) : Ans 22 [.v (.agg ⟨Sd.cs ⟨11, nm, ty, tN, eN, a, l, cp, b, l2, cp2⟩⟩)] m (.bool (sB && xB)) := by
  refine enter cfS puS Tryz.func22 rfl rfl (by kernel_rfl) rfl ?_ ?_
  · simp only [go_sem, ↓imp_tf, ↓imp_ft, ↓reduceIte, Sd.cs, Nd.cs, Int.reduceEq, decide_true, decide_false]
  · simp only [go_sem, ↓imp_tf, ↓imp_ft, ↓reduceIte, Sd.cs, Nd.cs, Int.reduceEq, decide_true, decide_false]
    refine ⟨by kernel_rfl, FnV_of ((FnH_den hS (fun V => rfl)).mono ?_)⟩
    clear hS
    rintro r H' m1 hm1 ⟨l1, rfl, rfl⟩
    simp only [go_sem, ↓imp_tf, ↓imp_ft, ↓reduceIte, Sd.cs, Nd.cs, Int.reduceEq, decide_true, decide_false]
    refine ⟨fun c => ⟨by kernel_rfl, FnV_of ((FnH_den (hX m1 l1) (fun V => rfl)).mono ?_)⟩, fun c => ⟨l1, by rw [c]; rfl⟩⟩
    clear hX
    rintro r H' m2 hm2 ⟨l2', rfl, rfl⟩
    simp only [go_sem, ↓imp_tf, ↓imp_ft, ↓reduceIte, Sd.cs, Nd.cs, Int.reduceEq, decide_true, decide_false]
    exact ⟨leM_tr l1 l2', by rw [c]; rfl⟩
theorem rst0 (k : Int) (nm : List UInt8) (ty : Ty) (tN eN : Nd) (a : Option Addr) (l cp : Nat) (b : Option Addr) (l2 cp2 : Nat) (m : Mem) (e : ∀ j : Int, 1 ≤ j → j ≤ 11 → (k = j) = False) :
    Ans 22 [.v (.agg ⟨Sd.cs ⟨k, nm, ty, tN, eN, a, l, cp, b, l2, cp2⟩⟩)] m (.bool false) := by
  have e1 := e 1 (by decide) (by decide)
  have e2 := e 2 (by decide) (by decide)
  have e3 := e 3 (by decide) (by decide)
  have e4 := e 4 (by decide) (by decide)
  have e5 := e 5 (by decide) (by decide)
  have e6 := e 6 (by decide) (by decide)
  have e7 := e 7 (by decide) (by decide)
  have e8 := e 8 (by decide) (by decide)
  have e9 := e 9 (by decide) (by decide)
  have e10 := e 10 (by decide) (by decide)
  have e11 := e 11 (by decide) (by decide)
  refine enter cfS puS Tryz.func22 rfl rfl (by kernel_rfl) rfl ?_ ?_
  · simp only [go_sem, ↓imp_tf, ↓imp_ft, ↓reduceIte, Sd.cs, Nd.cs]
  · simp only [go_sem, ↓imp_tf, ↓imp_ft, ↓reduceIte, Sd.cs, Nd.cs, e1, e2, e3, e4, e5, e6, e7, e8, e9, e10, e11, decide_false]
theorem nd_of {m : Mem} {e : Ex} {x : Nd} (h : exRep m e x.cs) : x.k = e.k ∧ emptyL x.k x.n x.s x.c x.ty x.l = emptyE e := by
  cases e with
  | mk k n s c ty args =>
    obtain ⟨y, hy, e1, e2, e3, e4, e5, e6, _⟩ := ex_parts h
    rw [nd_inj hy, e1, e2, e3, e4, e5, e6]
    exact ⟨rfl, rfl⟩
theorem rvalidS_all : ∀ (h : Nat) (e : St) (cs : List Value) (m : Mem), depthS e ≤ h → stRep m e cs → Ans 22 [.v (.agg ⟨cs⟩)] m (.bool (validS e))
  | 0, .mk k nm ty tg ex body alt, cs, m, hd, _ => by simp [depthS] at hd
  | h + 1, .mk k nm ty tg ex body alt, cs, m, hd, he => by
    obtain ⟨⟨k, nm, ty, tN, eN, a, l, cp, b, l2, cp2⟩, rfl, rfl, rfl, rfl, htg, hex, hl, hcp, hl2, hcp2, hok, xs, ys, r1, r2, s1, s2⟩ := st_parts he
    simp only [depthS] at hd
    simp only at htg hex hl hcp hl2 hcp2 hok r1 r2
    have hB := fun m' (hle : leM m m') => rblock_spec false body a l cp xs m' hl (Rds_upM hle r1) (stsRep_upM hle s1) (by rw [hl]; exact hok.l) fun e he cs m2 hle2 hrep => rvalidS_all h e cs m2 (by have := depthSs_mem he; omega) hrep
    have hA := fun m' (hle : leM m m') => rblock_spec false alt b l2 cp2 ys m' hl2 (Rds_upM hle r2) (stsRep_upM hle s2) (by rw [hl2]; exact hok.l2) fun e he cs m2 hle2 hrep => rvalidS_all h e cs m2 (by have := depthSs_mem he; omega) hrep
    have hS := fun (t t2 b1 b2 : Bool) => rshape_spec ⟨k, nm, ty, tN, eN, a, l, cp, b, l2, cp2⟩ tg ex body alt t t2 b1 b2 m (Nat.le_trans hok.nm (by decide)) (Nat.le_trans hok.ty.2.2 (by decide)) htg hl hl2 hB hA
    have hX := fun m' (hle : leM m m') => rvalid_all _ ex eN.cs m' (Nat.le_refl _) (exRep_upM hle hex)
    have hT := fun m' (hle : leM m m') => rvalid_all _ tg tN.cs m' (Nat.le_refl _) (exRep_upM hle htg)
    have hR := fun m' (hle : leM m m') => rargs_spec ex eN.cs m' (exRep_upM hle hex)
    have nt := nd_of htg
    have ne := nd_of hex
    rw [stm_eq]
    simp only
    rcases kinds_or (k := k) with hk | hk
    · rcases hk with rfl | rfl | rfl | rfl | rfl | rfl | rfl | rfl | rfl | rfl | rfl
      · have h := rst1 nm ty tN eN a l cp b l2 cp2 m _ (hS true false false false) _ hX
        simp only [stmR, Int.reduceEq, or_false, or_true, false_or, true_or, if_true, if_false]
        exact h
      · have h := rst2 nm ty tN eN a l cp b l2 cp2 m _ (hS false true false false) _ hX _ hT
        rw [nt.1] at h
        simp only [stmR, Int.reduceEq, or_false, or_true, false_or, true_or, if_true, if_false]
        exact h
      · have h := rst3 nm ty tN eN a l cp b l2 cp2 m _ (hS false false false false) _ hX
        rw [ne.1] at h
        simp only [stmR, Int.reduceEq, or_false, or_true, false_or, true_or, if_true, if_false]
        exact h
      · have h := rst4 nm ty tN eN a l cp b l2 cp2 m _ (hS false false true true) _ hX
        simp only [stmR, Int.reduceEq, or_false, or_true, false_or, true_or, if_true, if_false]
        exact h
      · have h := rst5 nm ty tN eN a l cp b l2 cp2 m _ (hS false false true false) _ hX
        simp only [stmR, Int.reduceEq, or_false, or_true, false_or, true_or, if_true, if_false]
        exact h
      · have h := rst6 nm ty tN eN a l cp b l2 cp2 m _ (hS false false false false) _ hX
        rw [ne.2] at h
        simp only [stmR, Int.reduceEq, or_false, or_true, false_or, true_or, if_true, if_false]
        exact h
      · have h := rst7 nm ty tN eN a l cp b l2 cp2 m _ (hS false false false false) _ hX
        simp only [stmR, Int.reduceEq, or_false, or_true, false_or, true_or, if_true, if_false]
        exact h
      · have h := rst8 nm ty tN eN a l cp b l2 cp2 m _ (hS true false true true)
        rw [ne.2] at h
        simp only [stmR, Int.reduceEq, or_false, or_true, false_or, true_or, if_true, if_false]
        exact h
      · have h := rst9 nm ty tN eN a l cp b l2 cp2 m _ (hS false false true false) _ hX
        simp only [stmR, Int.reduceEq, or_false, or_true, false_or, true_or, if_true, if_false]
        exact h
      · have h := rst10 nm ty tN eN a l cp b l2 cp2 m _ (hS false false true false)
        rw [ne.2] at h
        simp only [stmR, Int.reduceEq, or_false, or_true, false_or, true_or, if_true, if_false]
        exact h
      · have h := rst11 nm ty tN eN a l cp b l2 cp2 m _ (hS false false false false) _ hR
        simp only [stmR, Int.reduceEq, or_false, or_true, false_or, true_or, if_true, if_false]
        exact h
    · have e : ∀ j : Int, 1 ≤ j → j ≤ 11 → ¬ k = j := fun j h1 h2 h3 => by have := hk j h1 h2; rw [this] at h3; exact h3
      have e0 : stmR k nm ty tg ex body alt = false := by
        simp only [stmR, hk 1 (by decide) (by decide), hk 2 (by decide) (by decide), hk 3 (by decide) (by decide), hk 4 (by decide) (by decide), hk 5 (by decide) (by decide), hk 6 (by decide) (by decide), hk 7 (by decide) (by decide), hk 8 (by decide) (by decide), hk 9 (by decide) (by decide), hk 10 (by decide) (by decide), hk 11 (by decide) (by decide), or_false, if_false]
      rw [e0]
      exact rst0 k nm ty tN eN a l cp b l2 cp2 m hk
end Go.Proofs.YtalalcpefggniaaGreatDoor.E

namespace Go.Proofs.YtalalcpefggniaaGreatDoor.E
open Go

theorem sts_one {m : Mem} {e : St} {cs : List Value} (h : stRep m e cs) (hc : cs.length = 23) : stsRep m [e] cs := by
  simp only [stsRep]
  rw [List.take_of_length_le (by omega)]
  exact ⟨h, trivial⟩
theorem ones_spec (e : Ex) (s : St) (ce cs : List Value) (m : Mem) (hg : Glob m) (hrep : exRep m e ce) (hst : stRep m s cs) (hsz : sizeE e ≤ big) (hdp : depthE e ≤ big) (hss : sizeS s ≤ big) : Ans 4 [.v (.agg ⟨ce⟩), .v (.agg ⟨cs⟩)] m (.bool true) := by
  have hX : ∃ X : Sd, cs = X.cs := by
    cases s with
    | mk k nm ty tg ex body alt =>
      obtain ⟨X, e1, _⟩ := st_parts hst
      exact ⟨X, e1⟩
  obtain ⟨x, rfl⟩ := exRep_nd hrep
  obtain ⟨X, rfl⟩ := hX
  have hE := exprs_all _ e 300 x.cs m (Nat.le_refl _) (by omega) (by decide) (by decide) hrep
  have hS := fun m' (hle : leM m m') (a : Option Addr) (c : Nat) (hr : Rds m' a 1 23 X.cs) => stmts_all _ [s] a 1 c X.cs 300 m' (Nat.le_refl _) (by simp only [sizeSs]; omega) (by decide) (by decide) rfl (by decide) hr (sts_one (stRep_upM hle hst) rfl)
  have hA := fun m' (hle : leM m m') => awake_spec m' (hg.upM hle)
  have hF := fun m' (hle : leM m m') => fexpr_spec e x.cs m' (hg.upM hle) (exRep_upM hle hrep) (by omega) (by omega)
  have hF2 := fun m' (hle : leM m m') => rfexpr_spec e x.cs m' (exRep_upM hle hrep) (by omega) (by omega)
  have hD := fun m' (hle : leM m m') => depth_all _ e x.cs m' (Nat.le_refl _) (by omega) (exRep_upM hle hrep)
  have hD2 := fun m' (hle : leM m m') => rdepth_all _ e x.cs m' (Nat.le_refl _) (by omega) (exRep_upM hle hrep)
  have hV := fun m' (hle : leM m m') => valid_all _ e x.cs m' (Nat.le_refl _) (hg.upM hle) (exRep_upM hle hrep)
  have hV2 := fun m' (hle : leM m m') => rvalid_all _ e x.cs m' (Nat.le_refl _) (exRep_upM hle hrep)
  have hW := fun m' (hle : leM m m') => validS_all _ s X.cs m' (Nat.le_refl _) (hg.upM hle) (stRep_upM hle hst)
  have hW2 := fun m' (hle : leM m m') => rvalidS_all _ s X.cs m' (Nat.le_refl _) (stRep_upM hle hst)
  have hl := fmt_len e
  clear hg hrep hst
  refine enter cfW puW Tryz.func4 rfl rfl (by kernel_rfl) rfl ?_ ?_
  · simp only [go_sem, ↓imp_tf, ↓imp_ft, ↓reduceIte, Nd.cs, Sd.cs]
  · simp only [go_sem, ↓imp_tf, ↓imp_ft, ↓reduceIte, Nd.cs, Sd.cs]
    refine ⟨by kernel_rfl, FnV_of ((FnH_den hE (fun V => rfl)).mono ?_)⟩
    clear hE
    rintro r H' m1 hm1 ⟨l1, rfl, y, rfl, hy1, hy2⟩
    simp only [go_sem, ↓imp_tf, ↓imp_ft, ↓reduceIte, Nd.cs, Sd.cs]
    have hf : (fmtE e).1.length ≤ 20000 := hl
    refine ⟨fun hbig => ⟨by kernel_rfl, fun a2 c2 w2 hw2 hc2 r2 => FnV_of ((hS w2 (leM_tr l1 (.inr hw2)) a2 c2 r2).mono ?_)⟩, fun hsmall => ⟨by kernel_rfl, FnV_of ((hA m1 l1).mono ?_)⟩⟩
    · clear hS
      rintro r H' m3 hm3 ⟨l3, rfl, z, rfl, hz1, hz2⟩
      have k3 := leM_tr (leM_tr l1 (.inr hw2)) l3
      simp only [go_sem, ↓imp_tf, ↓imp_ft, ↓reduceIte, Nd.cs, Sd.cs]
      refine ⟨fun hbig2 => ⟨by kernel_rfl, FnV_of ((hA m3 k3).mono ?_)⟩, fun hsmall2 => ⟨by kernel_rfl, FnV_of ((FnH_den (hF m3 k3) (fun V => rfl)).mono ?_)⟩⟩
      · clear hA hF hF2 hD hD2 hV hV2 hW hW2
        rintro r H' m4 hm4 ⟨l4, rfl, rfl⟩
        simp only [go_sem, ↓imp_tf, ↓imp_ft, ↓reduceIte, Nd.cs, Sd.cs]
        exact leM_tr k3 l4
      · clear hF
        rintro r H' m4 hm4 ⟨l4, rfl, rfl⟩
        have k4 := leM_tr k3 l4
        simp only [go_sem, ↓imp_tf, ↓imp_ft, ↓reduceIte, Nd.cs, Sd.cs]
        refine ⟨by kernel_rfl, FnV_of ((FnH_den (hF2 m4 k4) (fun V => rfl)).mono ?_)⟩
        clear hF2
        rintro r H' m5 hm5 ⟨l5, rfl, rfl⟩
        have k5 := leM_tr k4 l5
        simp only [go_sem, ↓imp_tf, ↓imp_ft, ↓reduceIte, Nd.cs, Sd.cs]
        refine WP_draw (.alt 0 [] (.hoist 1 (.hoist 2 (.hoist 4 (.alt 3 [4] (.alt 5 [] (.hoist 6 (.hoist 7 (.hoist 8 (.hoist 9 (.hoist 11 (.alt 10 [11] (.alt 12 [] (.hoist 13 (.hoist 14 (.hoist 15 (.hoist 16 (.hoist 18 (.alt 17 [18] (.alt 19 [] (.hoist 20 (.hoist 21 (.hoist 22 (.hoist 23 (.hoist 24 (.hoist 25 (.hoist 26 (.hoist 27 (.hoist 28 (.hoist 29 (.hoist 30 (.hoist 31 (.hoist 32 .done))))))))))))) .stop) .stop)))))) .stop) .stop)))))) .stop) .stop)))) .stop) puW (by kernel_rfl) (by kernel_rfl) ?_
        simp only [go_sem, ↓imp_tf, ↓imp_ft, ↓reduceIte, Nd.cs, Sd.cs]
        refine ⟨by kernel_rfl, FnV_of ((hA m5 k5).mono ?_)⟩
        clear hA
        rintro r H' m6 hm6 ⟨l6, rfl, rfl⟩
        have k6 := leM_tr k5 l6
        simp only [go_sem, ↓imp_tf, ↓imp_ft, ↓reduceIte, Nd.cs, Sd.cs, l6, k6, and_self]
        refine ⟨by kernel_rfl, FnV_of ((FnH_den (hV m6 k6) (fun V => rfl)).mono ?_)⟩
        clear hV
        rintro r H' m7 hm7 ⟨l7, rfl, rfl⟩
        have k7 := leM_tr k6 l7
        simp only [go_sem, ↓imp_tf, ↓imp_ft, ↓reduceIte, Nd.cs, Sd.cs, l7, k7, and_self]
        refine ⟨by kernel_rfl, FnV_of ((FnH_den (hV2 m7 k7) (fun V => rfl)).mono ?_)⟩
        clear hV2
        rintro r H' m8 hm8 ⟨l8, rfl, rfl⟩
        have k8 := leM_tr k7 l8
        simp only [go_sem, ↓imp_tf, ↓imp_ft, ↓reduceIte, Nd.cs, Sd.cs, l8, k8, and_self]
        refine ⟨by kernel_rfl, by kernel_rfl, FnV_of ((FnH_den (hW m8 k8) (fun V => rfl)).mono ?_)⟩
        clear hW
        rintro r H' m9 hm9 ⟨l9, rfl, rfl⟩
        have k9 := leM_tr k8 l9
        simp only [go_sem, ↓imp_tf, ↓imp_ft, ↓reduceIte, Nd.cs, Sd.cs, l9, k9, and_self]
        refine ⟨by kernel_rfl, FnV_of ((FnH_den (hW2 m9 k9) (fun V => rfl)).mono ?_)⟩
        clear hW2
        rintro r H' m10 hm10 ⟨l10, rfl, rfl⟩
        have k10 := leM_tr k9 l10
        simp only [go_sem, ↓imp_tf, ↓imp_ft, ↓reduceIte, Nd.cs, Sd.cs, l10, k10, and_self]
        refine ⟨by kernel_rfl, by kernel_rfl, FnV_of ((FnH_den (hD m10 k10) (fun V => rfl)).mono ?_)⟩
        clear hD
        rintro r H' m11 hm11 ⟨l11, rfl, rfl⟩
        have k11 := leM_tr k10 l11
        simp only [go_sem, ↓imp_tf, ↓imp_ft, ↓reduceIte, Nd.cs, Sd.cs, l11, k11, and_self]
        refine ⟨by kernel_rfl, FnV_of ((FnH_den (hD2 m11 k11) (fun V => rfl)).mono ?_)⟩
        clear hD2
        rintro r H' m12 hm12 ⟨l12, rfl, rfl⟩
        have k12 := leM_tr k11 l12
        simp only [go_sem, ↓imp_tf, ↓imp_ft, ↓reduceIte, Nd.cs, Sd.cs, l12, k12, and_self]
    · clear hA hF hF2 hD hD2 hV hV2 hW hW2 hS
      rintro r H' m2 hm2 ⟨l2, rfl, rfl⟩
      simp only [go_sem, ↓imp_tf, ↓imp_ft, ↓reduceIte, Nd.cs, Sd.cs]
      exact leM_tr l1 l2
end Go.Proofs.YtalalcpefggniaaGreatDoor.E

/- The engine, part T: code; a function; a loop. -/
import Derived.Test.YtmkifodpkcmgoaaDoorEngS
import Derived.Deep.LoopGhost
namespace Go.Proofs.YtmkifodpkcmgoaaDoor.E
open Go

def dstOkC (n : Nat) : Code → Bool
  | .region _ ops _ => ops.toList.all (dstOk n)
  | .seq a b => dstOkC n a && dstOkC n b
  | .cond _ a b => dstOkC n a && dstOkC n b
  | .block _ a => dstOkC n a
  | .loop a => dstOkC n a
  | .scope a => dstOkC n a
  | .rangeFunc .. => false
  | _ => true
theorem svBool_den {V : Vl} {s : SV} {b : Bool} (h : svBool s = some b) : den V s = .bool b := by
  cases s with
  | v x => cases x <;> simp only [svBool, Option.some.injEq, reduceCtorEq] at h; subst h; rfl
  | _ => simp [svBool] at h

section
variable {P : Program} {n : Nat} {c : Cfg}
theorem WP_seq {a b : Code} {K : LS → Prop} {Q : Exit → LS → Prop} {st : LS} (ha : WP P n a (thenQ K Q) st) (hb : ∀ st, K st → WP P n b Q st) : WP P n (.seq a b) Q st := by
  intro C a' w hE
  refine wp_seq (wp_mono (ha C a' w hE) ?_)
  rintro e a2 w2 ⟨st2, hE2, hq⟩
  cases e with
  | normal => exact hb st2 hq C a2 w2 hE2
  | exit id => exact ⟨st2, hE2, hq⟩
  | goto l => exact ⟨st2, hE2, hq⟩
  | ret => exact ⟨st2, hE2, hq⟩
  | panic ch => exact ⟨st2, hE2, hq⟩
  | outgrown => exact ⟨st2, hE2, hq⟩
theorem WP_cond {x : Operand} {a b : Code} {Q : Exit → LS → Prop} {st : LS} {s : SV} {t : Bool} (hr : rdO st [] x = some s) (hs : svBool s = some t) (ha : t = true → WP P n a Q st) (hb : t = false → WP P n b Q st) : WP P n (.cond x a b) Q st := by
  intro C a' w hE
  obtain ⟨_, V, D, hS⟩ := id hE
  have := rdO_sound hS wfP_nil rfl hr
  rw [svBool_den hs] at this
  exact wp_cond_split this (fun h => ha h C a' w hE) (fun h => hb h C a' w hE)
theorem WP_block {id : Nat} {a : Code} {Q : Exit → LS → Prop} {st : LS} (ha : WP P n a (blockQ id Q) st) : WP P n (.block id a) Q st := by
  intro C a' w hE
  refine wp_block (wp_mono (ha C a' w hE) ?_)
  rintro e a2 w2 ⟨st2, hE2, hq⟩
  cases e with
  | exit id' =>
    simp only [blockQ] at hq
    simp only [Exit.inBlock]
    split at hq
    · rename_i h; rw [if_pos h]; exact ⟨st2, hE2, hq⟩
    · rename_i h; rw [if_neg h]; exact ⟨st2, hE2, hq⟩
  | normal => exact ⟨st2, hE2, hq⟩
  | goto l => exact ⟨st2, hE2, hq⟩
  | ret => exact ⟨st2, hE2, hq⟩
  | panic ch => exact ⟨st2, hE2, hq⟩
  | outgrown => exact ⟨st2, hE2, hq⟩
theorem WP_region (hpu : PureOk c P) {id : Nat} {l : List Oper} {Q : Exit → LS → Prop} {st : LS} (hd : l.all (dstOk n) = true) (h : vcLx c P l 0 (Q .normal) st) : WP P n (.region id ⟨l⟩ false) Q st := by
  rintro C a' w ⟨hrho, V, D, hS⟩
  refine wp_region_list ?_
  refine vcLx_sound (ops := ⟨l⟩) hpu (fun st' a' w' hq hE => ⟨st', hE, hq⟩) l 0 st a' V D w h hS ?_ (fun j => by simp) (fun o ho => ?_)
  · rw [hrho]; intro g hg; cases hg
  · exact List.all_eq_true.1 hd o ho
theorem vcCx_sound (hpu : PureOk c P) : ∀ (x : Code) (Q : Exit → LS → Prop) (st : LS), dstOkC n x = true → vcCx c P n x Q st → WP P n x Q st := by
  intro x
  induction x with
  | skip => exact fun Q st _ h C a w hE => wp_skip ⟨st, hE, h⟩
  | region id ops draw =>
    intro Q st hd h
    obtain ⟨l⟩ := ops
    cases draw with
    | false => exact WP_region hpu hd h
    | true => exact h
  | seq a b iha ihb =>
    intro Q st hd h
    simp only [dstOkC, Bool.and_eq_true] at hd
    have gen : vcCx c P n a (thenQ (vcCx c P n b Q) Q) st → WP P n (.seq a b) Q st := fun h => WP_seq (iha _ st hd.1 h) fun st' h' => ihb Q st' hd.2 h'
    cases a with
    | cond x t e =>
      simp only [vcCx] at h
      split at h
      · exact h
      · exact gen h
    | _ => exact gen h
  | cond x a b iha ihb =>
    intro Q st hd h
    simp only [dstOkC, Bool.and_eq_true] at hd
    obtain ⟨t, ht, h1, h2⟩ := withO_some h
    obtain ⟨s, hs, ht⟩ := bnd ht
    exact WP_cond hs ht (fun e => iha Q st hd.1 (h1 e)) (fun e => ihb Q st hd.2 (h2 e))
  | block id a ih =>
    intro Q st hd h
    exact WP_block (ih _ st hd h)
  | exit id => exact fun Q st _ h C a w hE => wp_exit ⟨st, hE, h⟩
  | ret => exact fun Q st _ h C a w hE => wp_ret ⟨st, hE, h⟩
  | loop a ih => exact fun Q st _ h => h
  | scope a ih => exact fun Q st _ h => h
  | rangeFunc f ps a b _ _ => exact fun Q st _ h => h
  | label l => exact fun Q st _ h C a w hE => wp_label ⟨st, hE, h⟩
  | refuse _ => exact fun Q st _ h => h
  | goto l => exact fun Q st _ h C a w hE => wp_goto ⟨st, hE, h⟩
theorem vcC_sound (hpu : PureOk c P) {x : Code} {Q : Exit → LS → Prop} {st : LS} (hd : dstOkC n x = true) (h : vcC (.mk (k := (c, P, n, x, Q)) st)) : WP P n x Q st := vcCx_sound hpu x Q st hd h
end

/-! A function. -/
section
variable {C : Ctx} {n : Nat} {st : LS} {a : Act} {V : Vl} {D : Nat → Nat} {w : World} {P : Program} {c : Cfg}
theorem asAddr_run (ad : Addr) : (asAddr (.pointer (some ad))).run P w = .ok ad w := rfl
def resOne (tmps : Array Value) : ResultVar → Sem Value
  | .tmp t => pure (tmps.getD t undef)
  | .cell b t => do loadVar t (← asAddr (tmps.getD b undef))
theorem ret_mapM (hS : Sat C n st a V D w) : ∀ {res : List ResultVar} {l : List SV}, retV P st res = some l →
    (res.mapM (resOne a.tmps)).run P w = .ok (l.map (denB V)) w ∧ ∀ s ∈ l, den V s = denB V s
  | [], l, h => by
    simp only [retV, Option.some.injEq] at h
    subst h
    exact ⟨rfl, fun s hs => by cases hs⟩
  | .tmp t :: r, l, h => by
    simp only [retV, Option.bind_eq_some_iff, Option.map_eq_some_iff] at h
    obtain ⟨s, ⟨s0, hs0, hs⟩, l', hl', rfl⟩ := h
    obtain ⟨h1, h2⟩ := ret_mapM hS hl'
    have hnt := noTup_den (V := V) hs
    have hss : s = s0 := by cases s0 <;> simp_all [noTup]
    subst hss
    have ht := hS.env t [] s wfP_nil hs0 rfl
    refine ⟨?_, fun x hx => ?_⟩
    · simp only [List.mapM_cons, resOne, Sem.run_bind, Sem.run_pure, Result.andThen_ok, h1, List.map_cons]
      simp [Array.getD_eq_getD_getElem?, ht, hnt]
    · rcases List.mem_cons.1 hx with rfl | hx
      · exact hnt
      · exact h2 x hx
  | .cell b t :: r, l, h => by
    simp only [retV, Option.bind_eq_some_iff, Option.map_eq_some_iff] at h
    obtain ⟨s, ⟨s0, hs0, hs⟩, l', hl', rfl⟩ := h
    obtain ⟨h1, h2⟩ := ret_mapM hS hl'
    have hnt := noTup_den (V := V) hs
    have hss : s = s0 := by cases s0 <;> simp_all [noTup]
    subst hss
    unfold retC at hs0
    split at hs0
    · rename_i k o hk
      have ht := hS.env b [] _ wfP_nil hk rfl
      simp only [Option.bind_eq_some_iff] at hs0
      obtain ⟨bx, hbx, ag, hag, htk⟩ := hs0
      have hload : qLoad (.mk (k := (P, t, U true, fun s' => s' = s)) (st, .box k o)) := by
        simp only [qLoad, hbx, withO, hag, htk]
      obtain ⟨r', rfl, hy⟩ := qLoad_sound hS hload
      have hy := hy rfl
      simp only [den_box, Instr.loadAt, Instr.sureAddr, Sem.run_bind, Sem.run_pure, Result.andThen_ok] at hy
      refine ⟨?_, fun x hx => ?_⟩
      · simp only [List.mapM_cons, resOne, Sem.run_bind, Sem.run_pure, Result.andThen_ok, List.map_cons]
        have : a.tmps.getD b undef = .pointer (some ⟨V.β k, o, none⟩) := by simp [Array.getD_eq_getD_getElem?, ht, den_box]
        rw [this, asAddr_run]
        simp only [Result.andThen_ok, hy, h1, hnt]
      · rcases List.mem_cons.1 hx with rfl | hx
        · exact hnt
        · exact h2 x hx
    · cases hs0
theorem results_sound (hS : Sat C n st a V D w) {fn : Func} {res : List ResultVar} (hr : fn.results = ⟨res⟩) {l : List SV} (h : retV P st res = some l) : (results fn a.tmps).run P w = .ok (den V (ret1 l)) w := by
  obtain ⟨h1, h2⟩ := ret_mapM hS h
  have hf : results fn a.tmps = (do
      let vs ← fn.results.mapM (resOne a.tmps)
      pure (if h : vs.size = 1 then vs[0] else .tuple vs)) := by
    unfold results
    congr 1
  rw [hf, hr]
  simp only [List.mapM_toArray, Sem.run_bind, Sem.run_map, h1, Result.andThen_ok, Sem.run_pure, List.size_toArray, List.length_map]
  cases l with
  | nil => rfl
  | cons s r =>
    cases r with
    | nil =>
      simp only [List.length_cons, List.length_nil, Nat.zero_add, dite_true, List.map_cons, List.map_nil, ret1]
      simp [h2 s (List.mem_cons_self ..)]
    | cons s' r =>
      have : ¬ ((s :: s' :: r).length = 1) := by simp
      simp only [dif_neg this]
      rfl
end
end Go.Proofs.YtmkifodpkcmgoaaDoor.E

/- Several texts in one: AstR, AstDa, AstS, AstT, AstU, AstUa, AstW, AstWa, AstWb, AstWc, AstX, AstXa, AstXb, AstXc, AstXd, AstXe, AstY, AstZ, AstCardE, AstSa, AstSc, AstCardQ, AstSd, AstCardP, AstXf, AstPa, AstPe, AstPb, AstPc, AstPf, AstPd, AstPg, AstQb. -/
import Derived.WideKeyRuns
import Derived.Test.YtimddhkipjedcaaGreatDoorMrg3
set_option linter.unusedSimpArgs false
set_option linter.unusedVariables false
set_option maxHeartbeats 4000000
set_option maxRecDepth 20000
namespace Go.Proofs.YtimddhkipjedcaaGreatDoor.E
open Go
def anyB (n : Nat) (B : Nat → Bool) : Bool := (List.range n).any B
theorem anyB_succ {n : Nat} {B : Nat → Bool} : anyB (n + 1) B = (anyB n B || B n) := by simp [anyB, List.range_succ, List.any_append]
theorem anyB_yes {n k : Nat} {B : Nat → Bool} (hk : k < n) (h : B k = true) : anyB n B = true := by
 simp only [anyB, List.any_eq_true, List.mem_range]
 exact ⟨k, hk, h⟩
theorem anyB_list {α : Type} (p : α → Bool) : ∀ (l : List α) (B : Nat → Bool), (∀ i (h : i < l.length), B i = p l[i]) → anyB l.length B = l.any p
 | [], _, _ => rfl
 | x :: r, B, h => by
  have h0 := h 0 (by simp)
  have hr := anyB_list p r (fun i => B (i + 1)) fun i hi => h (i + 1) (by simpa using hi)
  rw [List.any_cons, ← hr, Llc]
  simp only [anyB, List.range_succ_eq_map, List.any_cons, List.any_map, h0, List.getElem_cons_zero]
  rfl
theorem ixfPc (f : FuncId) (B : Nat → Bool) (a : Option Addr) (n c : Nat) (xs : List Value) (m : Mem) (hr : Rds m a n 4 xs) (hn : n ≤ big) (hok : fnOk Tryz.prog f = true)
  (hx : ∀ i, i < n → ∃ X : Pc, (xs.drop (i * 4)).take 4 = X.cs ∧ ∀ m', leM m m' → Ans f [.v (.agg ⟨X.cs⟩)] m' (.bool (B i))) :
  FnH Tryz.prog 231 [.v (.slice a n c), .v (.func (.func f) ⟨[]⟩ ⟨[]⟩)] ⟨[], []⟩ m fun r H' m' => leM m m' ∧ H' = ⟨[], []⟩ ∧ ∃ i : Int, r = .v (.int .i64 i) ∧ decide (0 ≤ i) = anyB n B := by
 refine enter cfN puN Tryz.func231 rfl rfl (by kernel_rfl) rfl ?_ ?_
 ·simp only [go_sem, ↓tfi, ↓fti, ↓reduceIte]
 ·simp only [go_sem, ↓tfi, ↓fti, ↓reduceIte]
  refine WP_loop puN (fun x : Nat × Mem => ⟨[⟨0, [], .v (.slice a n c)⟩, ⟨1, [], .v (.func (.func f) ⟨[]⟩ ⟨[]⟩)⟩, ⟨7, [], .v (.int .i64 n)⟩, ⟨8, [], .v (.int .i64 x.1)⟩], [], [], [], 0, x.2⟩)
   (fun x => leM m x.2 ∧ x.1 ≤ n ∧ anyB x.1 B = false) (fun x => n - x.1) (0, m) (by kernel_rfl) (fun _ _ => Nnr _) (fun x hx => hx.1) (fun _ => ?_) ?_ ?_ ?_
  ·simp only [go_sem, ↓tfi, ↓fti, ↓reduceIte]
  ·simp only [go_sem, ↓tfi, ↓fti, ↓reduceIte]
   rfl
  ·exact ⟨.inl rfl, Nat.zero_le _, rfl⟩
  ·rintro ⟨k, mm⟩ ⟨h1, h2, h3⟩
   simp only at h1 h2 h3
   have hown : cfN.own f = false := rfl
   have hy : ∀ (hk : k < n), ∃ X : Pc, (Rd mm (ptrAt a (k * 4)) X.cs ∧ a ≠ none) ∧ Ans f [.v (.agg ⟨X.cs⟩)] mm (.bool (B k)) := fun hk => by
     obtain ⟨X, e1, e3⟩ := hx k hk
     have r1 := Rds_cells (Rds_upM h1 hr) hk
     rw [e1] at r1
     exact ⟨X, r1, e3 mm h1⟩
   clear hx
   simp only [go_sem, ↓tfi, ↓fti, ↓reduceIte, hown]
   refine ⟨fun hlt => ?_, fun hge => ⟨h1, ?_⟩⟩
   ·have hk : k < n := by clear hy; omega
    refine Exists.elim (hy hk) fun X hy' => ⟨⟨by clear hy hy'; omega, hlt, hy'.1.2⟩, X.cs, ⟨hy'.1.1, rfl⟩, ?_⟩
    clear hy
    have ha := hy'.2
    clear hy'
    simp only [go_sem, ↓tfi, ↓fti, ↓reduceIte, hown, Pc.cs]
    refine ⟨hok, FnV_of ((FnH_den ha (fun V => rfl)).mono ?_)⟩
    clear ha
    rintro r H' m' hm ⟨hle, rfl, rfl⟩
    simp only [go_sem, ↓tfi, ↓fti, ↓reduceIte]
    refine ⟨fun hb => ⟨leM_tr h1 hle, ?_⟩, fun hb => ⟨by unfold I64; simp only [big] at hn; omega, (k + 1, m'), ⟨by simp, .inl rfl⟩, ⟨leM_tr h1 hle, by simp only; omega, ?_⟩, by simp only; omega⟩⟩
    ·rw [anyB_yes hk hb]
     simp
    ·simp only
     rw [anyB_succ, h3, hb]
     rfl
   ·have : k = n := by clear hy; omega
    rw [← this, h3]
    rfl
theorem ctfPc (f : FuncId) (B : Nat → Bool) (a : Option Addr) (n c : Nat) (xs : List Value) (m : Mem) (hr : Rds m a n 4 xs) (hn : n ≤ big) (hok : fnOk Tryz.prog f = true)
  (hx : ∀ i, i < n → ∃ X : Pc, (xs.drop (i * 4)).take 4 = X.cs ∧ ∀ m', leM m m' → Ans f [.v (.agg ⟨X.cs⟩)] m' (.bool (B i))) :
  Ans 197 [.v (.slice a n c), .v (.func (.func f) ⟨[]⟩ ⟨[]⟩)] m (.bool (anyB n B)) := by
 refine enter cfN puN Tryz.func197 rfl rfl (by kernel_rfl) rfl ?_ ?_
 ·simp only [go_sem, ↓tfi, ↓fti, ↓reduceIte]
 ·simp only [go_sem, ↓tfi, ↓fti, ↓reduceIte]
  refine cvl ((ixfPc f B a n c xs m hr hn hok hx).mono ?_)
  clear hx
  rintro r H' m' hm ⟨hle, rfl, i, rfl, hi⟩
  simp only [go_sem, ↓tfi, ↓fti, ↓reduceIte]
  exact ⟨hle, hi⟩
theorem ixfFc (f : FuncId) (B : Nat → Bool) (a : Option Addr) (n c : Nat) (xs : List Value) (m : Mem) (hr : Rds m a n 5 xs) (hn : n ≤ big) (hok : fnOk Tryz.prog f = true)
  (hx : ∀ i, i < n → ∃ X : Fc, (xs.drop (i * 5)).take 5 = X.cs ∧ ∀ m', leM m m' → Ans f [.v (.agg ⟨X.cs⟩)] m' (.bool (B i))) :
  FnH Tryz.prog 199 [.v (.slice a n c), .v (.func (.func f) ⟨[]⟩ ⟨[]⟩)] ⟨[], []⟩ m fun r H' m' => leM m m' ∧ H' = ⟨[], []⟩ ∧ ∃ i : Int, r = .v (.int .i64 i) ∧ decide (0 ≤ i) = anyB n B := by
 refine enter cfN puN Tryz.func199 rfl rfl (by kernel_rfl) rfl ?_ ?_
 ·simp only [go_sem, ↓tfi, ↓fti, ↓reduceIte]
 ·simp only [go_sem, ↓tfi, ↓fti, ↓reduceIte]
  refine WP_loop puN (fun x : Nat × Mem => ⟨[⟨0, [], .v (.slice a n c)⟩, ⟨1, [], .v (.func (.func f) ⟨[]⟩ ⟨[]⟩)⟩, ⟨7, [], .v (.int .i64 n)⟩, ⟨8, [], .v (.int .i64 x.1)⟩], [], [], [], 0, x.2⟩)
   (fun x => leM m x.2 ∧ x.1 ≤ n ∧ anyB x.1 B = false) (fun x => n - x.1) (0, m) (by kernel_rfl) (fun _ _ => Nnr _) (fun x hx => hx.1) (fun _ => ?_) ?_ ?_ ?_
  ·simp only [go_sem, ↓tfi, ↓fti, ↓reduceIte]
  ·simp only [go_sem, ↓tfi, ↓fti, ↓reduceIte]
   rfl
  ·exact ⟨.inl rfl, Nat.zero_le _, rfl⟩
  ·rintro ⟨k, mm⟩ ⟨h1, h2, h3⟩
   simp only at h1 h2 h3
   have hown : cfN.own f = false := rfl
   have hy : ∀ (hk : k < n), ∃ X : Fc, (Rd mm (ptrAt a (k * 5)) X.cs ∧ a ≠ none) ∧ Ans f [.v (.agg ⟨X.cs⟩)] mm (.bool (B k)) := fun hk => by
     obtain ⟨X, e1, e3⟩ := hx k hk
     have r1 := Rds_cells (Rds_upM h1 hr) hk
     rw [e1] at r1
     exact ⟨X, r1, e3 mm h1⟩
   clear hx
   simp only [go_sem, ↓tfi, ↓fti, ↓reduceIte, hown]
   refine ⟨fun hlt => ?_, fun hge => ⟨h1, ?_⟩⟩
   ·have hk : k < n := by clear hy; omega
    refine Exists.elim (hy hk) fun X hy' => ⟨⟨by clear hy hy'; omega, hlt, hy'.1.2⟩, X.cs, ⟨hy'.1.1, rfl⟩, ?_⟩
    clear hy
    have ha := hy'.2
    clear hy'
    simp only [go_sem, ↓tfi, ↓fti, ↓reduceIte, hown, Fc.cs]
    refine ⟨hok, FnV_of ((FnH_den ha (fun V => rfl)).mono ?_)⟩
    clear ha
    rintro r H' m' hm ⟨hle, rfl, rfl⟩
    simp only [go_sem, ↓tfi, ↓fti, ↓reduceIte]
    refine ⟨fun hb => ⟨leM_tr h1 hle, ?_⟩, fun hb => ⟨by unfold I64; simp only [big] at hn; omega, (k + 1, m'), ⟨by simp, .inl rfl⟩, ⟨leM_tr h1 hle, by simp only; omega, ?_⟩, by simp only; omega⟩⟩
    ·rw [anyB_yes hk hb]
     simp
    ·simp only
     rw [anyB_succ, h3, hb]
     rfl
   ·have : k = n := by clear hy; omega
    rw [← this, h3]
    rfl
theorem ctfFc (f : FuncId) (B : Nat → Bool) (a : Option Addr) (n c : Nat) (xs : List Value) (m : Mem) (hr : Rds m a n 5 xs) (hn : n ≤ big) (hok : fnOk Tryz.prog f = true)
  (hx : ∀ i, i < n → ∃ X : Fc, (xs.drop (i * 5)).take 5 = X.cs ∧ ∀ m', leM m m' → Ans f [.v (.agg ⟨X.cs⟩)] m' (.bool (B i))) :
  Ans 140 [.v (.slice a n c), .v (.func (.func f) ⟨[]⟩ ⟨[]⟩)] m (.bool (anyB n B)) := by
 refine enter cfN puN Tryz.func140 rfl rfl (by kernel_rfl) rfl ?_ ?_
 ·simp only [go_sem, ↓tfi, ↓fti, ↓reduceIte]
 ·simp only [go_sem, ↓tfi, ↓fti, ↓reduceIte]
  refine cvl ((ixfFc f B a n c xs m hr hn hok hx).mono ?_)
  clear hx
  rintro r H' m' hm ⟨hle, rfl, i, rfl, hi⟩
  simp only [go_sem, ↓tfi, ↓fti, ↓reduceIte]
  exact ⟨hle, hi⟩
theorem ixfMc (f : FuncId) (B : Nat → Bool) (a : Option Addr) (n c : Nat) (xs : List Value) (m : Mem) (hr : Rds m a n 8 xs) (hn : n ≤ big) (hok : fnOk Tryz.prog f = true)
  (hx : ∀ i, i < n → ∃ X : Mc, (xs.drop (i * 8)).take 8 = X.cs ∧ ∀ m', leM m m' → Ans f [.v (.agg ⟨X.cs⟩)] m' (.bool (B i))) :
  FnH Tryz.prog 200 [.v (.slice a n c), .v (.func (.func f) ⟨[]⟩ ⟨[]⟩)] ⟨[], []⟩ m fun r H' m' => leM m m' ∧ H' = ⟨[], []⟩ ∧ ∃ i : Int, r = .v (.int .i64 i) ∧ decide (0 ≤ i) = anyB n B := by
 refine enter cfN puN Tryz.func200 rfl rfl (by kernel_rfl) rfl ?_ ?_
 ·simp only [go_sem, ↓tfi, ↓fti, ↓reduceIte]
 ·simp only [go_sem, ↓tfi, ↓fti, ↓reduceIte]
  refine WP_loop puN (fun x : Nat × Mem => ⟨[⟨0, [], .v (.slice a n c)⟩, ⟨1, [], .v (.func (.func f) ⟨[]⟩ ⟨[]⟩)⟩, ⟨7, [], .v (.int .i64 n)⟩, ⟨8, [], .v (.int .i64 x.1)⟩], [], [], [], 0, x.2⟩)
   (fun x => leM m x.2 ∧ x.1 ≤ n ∧ anyB x.1 B = false) (fun x => n - x.1) (0, m) (by kernel_rfl) (fun _ _ => Nnr _) (fun x hx => hx.1) (fun _ => ?_) ?_ ?_ ?_
  ·simp only [go_sem, ↓tfi, ↓fti, ↓reduceIte]
  ·simp only [go_sem, ↓tfi, ↓fti, ↓reduceIte]
   rfl
  ·exact ⟨.inl rfl, Nat.zero_le _, rfl⟩
  ·rintro ⟨k, mm⟩ ⟨h1, h2, h3⟩
   simp only at h1 h2 h3
   have hown : cfN.own f = false := rfl
   have hy : ∀ (hk : k < n), ∃ X : Mc, (Rd mm (ptrAt a (k * 8)) X.cs ∧ a ≠ none) ∧ Ans f [.v (.agg ⟨X.cs⟩)] mm (.bool (B k)) := fun hk => by
     obtain ⟨X, e1, e3⟩ := hx k hk
     have r1 := Rds_cells (Rds_upM h1 hr) hk
     rw [e1] at r1
     exact ⟨X, r1, e3 mm h1⟩
   clear hx
   simp only [go_sem, ↓tfi, ↓fti, ↓reduceIte, hown]
   refine ⟨fun hlt => ?_, fun hge => ⟨h1, ?_⟩⟩
   ·have hk : k < n := by clear hy; omega
    refine Exists.elim (hy hk) fun X hy' => ⟨⟨by clear hy hy'; omega, hlt, hy'.1.2⟩, X.cs, ⟨hy'.1.1, rfl⟩, ?_⟩
    clear hy
    have ha := hy'.2
    clear hy'
    simp only [go_sem, ↓tfi, ↓fti, ↓reduceIte, hown, Mc.cs]
    refine ⟨hok, FnV_of ((FnH_den ha (fun V => rfl)).mono ?_)⟩
    clear ha
    rintro r H' m' hm ⟨hle, rfl, rfl⟩
    simp only [go_sem, ↓tfi, ↓fti, ↓reduceIte]
    refine ⟨fun hb => ⟨leM_tr h1 hle, ?_⟩, fun hb => ⟨by unfold I64; simp only [big] at hn; omega, (k + 1, m'), ⟨by simp, .inl rfl⟩, ⟨leM_tr h1 hle, by simp only; omega, ?_⟩, by simp only; omega⟩⟩
    ·rw [anyB_yes hk hb]
     simp
    ·simp only
     rw [anyB_succ, h3, hb]
     rfl
   ·have : k = n := by clear hy; omega
    rw [← this, h3]
    rfl
theorem ctfMc (f : FuncId) (B : Nat → Bool) (a : Option Addr) (n c : Nat) (xs : List Value) (m : Mem) (hr : Rds m a n 8 xs) (hn : n ≤ big) (hok : fnOk Tryz.prog f = true)
  (hx : ∀ i, i < n → ∃ X : Mc, (xs.drop (i * 8)).take 8 = X.cs ∧ ∀ m', leM m m' → Ans f [.v (.agg ⟨X.cs⟩)] m' (.bool (B i))) :
  Ans 141 [.v (.slice a n c), .v (.func (.func f) ⟨[]⟩ ⟨[]⟩)] m (.bool (anyB n B)) := by
 refine enter cfN puN Tryz.func141 rfl rfl (by kernel_rfl) rfl ?_ ?_
 ·simp only [go_sem, ↓tfi, ↓fti, ↓reduceIte]
 ·simp only [go_sem, ↓tfi, ↓fti, ↓reduceIte]
  refine cvl ((ixfMc f B a n c xs m hr hn hok hx).mono ?_)
  clear hx
  rintro r H' m' hm ⟨hle, rfl, i, rfl, hi⟩
  simp only [go_sem, ↓tfi, ↓fti, ↓reduceIte]
  exact ⟨hle, hi⟩
theorem ixfS (f : FuncId) (B : Nat → Bool) (a : Option Addr) (n c : Nat) (xs : List Value) (m : Mem) (hr : Rds m a n 1 xs) (hn : n ≤ big) (hok : fnOk Tryz.prog f = true)
  (hx : ∀ i, i < n → ∃ s : List UInt8, xs[i]? = some (.string (bs s)) ∧ ∀ m', leM m m' → Ans f [.v (.string (bs s))] m' (.bool (B i))) :
  FnH Tryz.prog 198 [.v (.slice a n c), .v (.func (.func f) ⟨[]⟩ ⟨[]⟩)] ⟨[], []⟩ m fun r H' m' => leM m m' ∧ H' = ⟨[], []⟩ ∧ ∃ i : Int, r = .v (.int .i64 i) ∧ decide (0 ≤ i) = anyB n B := by
 refine enter cfN puN Tryz.func198 rfl rfl (by kernel_rfl) rfl ?_ ?_
 ·simp only [go_sem, ↓tfi, ↓fti, ↓reduceIte]
 ·simp only [go_sem, ↓tfi, ↓fti, ↓reduceIte]
  refine WP_loop puN (fun x : Nat × Mem => ⟨[⟨0, [], .v (.slice a n c)⟩, ⟨1, [], .v (.func (.func f) ⟨[]⟩ ⟨[]⟩)⟩, ⟨7, [], .v (.int .i64 n)⟩, ⟨8, [], .v (.int .i64 x.1)⟩], [], [], [], 0, x.2⟩)
   (fun x => leM m x.2 ∧ x.1 ≤ n ∧ anyB x.1 B = false) (fun x => n - x.1) (0, m) (by kernel_rfl) (fun _ _ => Nnr _) (fun x hx => hx.1) (fun _ => ?_) ?_ ?_ ?_
  ·simp only [go_sem, ↓tfi, ↓fti, ↓reduceIte]
  ·simp only [go_sem, ↓tfi, ↓fti, ↓reduceIte]
   rfl
  ·exact ⟨.inl rfl, Nat.zero_le _, rfl⟩
  ·rintro ⟨k, mm⟩ ⟨h1, h2, h3⟩
   simp only at h1 h2 h3
   have hown : cfN.own f = false := rfl
   have hy : ∀ (hk : k < n), ∃ s : List UInt8, (Rd mm (ptrAt a k) [.string (bs s)] ∧ a ≠ none) ∧ Ans f [.v (.string (bs s))] mm (.bool (B k)) := fun hk => by
     obtain ⟨s, e1, e3⟩ := hx k hk
     obtain ⟨hk', r1, hne⟩ := Rds_one (Rds_upM h1 hr) hk
     rw [List.getElem?_eq_getElem hk'] at e1
     rw [Option.some.inj e1] at r1
     exact ⟨s, ⟨r1, hne⟩, e3 mm h1⟩
   clear hx
   simp only [go_sem, ↓tfi, ↓fti, ↓reduceIte, hown]
   refine ⟨fun hlt => ?_, fun hge => ⟨h1, ?_⟩⟩
   ·have hk : k < n := by clear hy; omega
    refine Exists.elim (hy hk) fun s hy' => ⟨⟨by clear hy hy'; omega, hlt, hy'.1.2⟩, _, hy'.1.1, ?_⟩
    clear hy
    have ha := hy'.2
    clear hy'
    refine ⟨hok, FnV_of ((ha).mono ?_)⟩
    clear ha
    rintro r H' m' hm ⟨hle, rfl, rfl⟩
    simp only [go_sem, ↓tfi, ↓fti, ↓reduceIte]
    refine ⟨fun hb => ⟨leM_tr h1 hle, ?_⟩, fun hb => ⟨by unfold I64; simp only [big] at hn; omega, (k + 1, m'), ⟨by simp, .inl rfl⟩, ⟨leM_tr h1 hle, by simp only; omega, ?_⟩, by simp only; omega⟩⟩
    ·rw [anyB_yes hk hb]
     simp
    ·simp only
     rw [anyB_succ, h3, hb]
     rfl
   ·have : k = n := by clear hy; omega
    rw [← this, h3]
    rfl
theorem ctfS (f : FuncId) (B : Nat → Bool) (a : Option Addr) (n c : Nat) (xs : List Value) (m : Mem) (hr : Rds m a n 1 xs) (hn : n ≤ big) (hok : fnOk Tryz.prog f = true)
  (hx : ∀ i, i < n → ∃ s : List UInt8, xs[i]? = some (.string (bs s)) ∧ ∀ m', leM m m' → Ans f [.v (.string (bs s))] m' (.bool (B i))) :
  Ans 139 [.v (.slice a n c), .v (.func (.func f) ⟨[]⟩ ⟨[]⟩)] m (.bool (anyB n B)) := by
 refine enter cfN puN Tryz.func139 rfl rfl (by kernel_rfl) rfl ?_ ?_
 ·simp only [go_sem, ↓tfi, ↓fti, ↓reduceIte]
 ·simp only [go_sem, ↓tfi, ↓fti, ↓reduceIte]
  refine cvl ((ixfS f B a n c xs m hr hn hok hx).mono ?_)
  clear hx
  rintro r H' m' hm ⟨hle, rfl, i, rfl, hi⟩
  simp only [go_sem, ↓tfi, ↓fti, ↓reduceIte]
  exact ⟨hle, hi⟩
def zTy : Ty := ⟨0, 0, []⟩
def zE : Ex := .mk 0 0 [] [] zTy []
def emptyL (k n : Int) (s c : List UInt8) (ty : Ty) (l : Nat) : Bool := decide (l = 0) && decide (k = 0) && decide (n = 0) && decide (s = []) && decide (c = []) && Ty.eq ty zTy
def emptyE : Ex → Bool | .mk k n s c ty args => emptyL k n s c ty args.length
def superE : Ex → Bool | .mk k n s c ty args => emptyL k n s c ty 0 && decide (args.length ≤ 16) && validEs args
def targetE (e : Ex) : Bool := (decide (e.k = 6) || decide (e.k = 7) || decide (e.k = 8) || decide (e.k = 9)) && validE e
def callE (e : Ex) : Bool := (decide (e.k = 10) || decide (e.k = 11) || decide (e.k = 12) || decide (e.k = 13)) && validE e
def St.k : St → Int | .mk k _ _ _ _ _ _ => k
def usedS (k : Int) (nm : List UInt8) (ty : Ty) (tg ex : Ex) (body alt : List St) : St :=
 if k = 1 then .mk k nm ty zE ex [] []
 else if k = 2 then .mk k [] zTy tg ex [] []
 else if k = 4 then .mk k [] zTy zE ex body alt
 else if k = 5 ∨ k = 9 then .mk k [] zTy zE ex body []
 else if k = 8 then .mk k nm ty zE zE body alt
 else if k = 10 then .mk k [] zTy zE zE body []
 else .mk k [] zTy zE ex [] []
def okStm (k : Int) (nm : List UInt8) (ty : Ty) (tg ex : Ex) (B : Bool) : Bool :=
 if k = 1 then identL nm && valueTy ty.dim ty.base ty.name && validE ex
 else if k = 2 then targetE tg && validE ex
 else if k = 3 then callE ex
 else if k = 4 ∨ k = 5 ∨ k = 9 then B && validE ex
 else if k = 6 then emptyE ex || validE ex
 else if k = 7 then validE ex
 else if k = 8 then B && identL nm && valueTy ty.dim ty.base ty.name
 else if k = 10 then B
 else if k = 11 then superE ex
 else false
mutual
def validS : St → Bool
 | .mk k nm ty tg ex body alt => okStm k nm ty tg ex (decide (body.length ≤ 32) && validSs false body && (decide (alt.length ≤ 32) && validSs false alt)) && eqS (.mk k nm ty tg ex body alt) (usedS k nm ty tg ex body alt)
def validSs : Bool → List St → Bool
 | _, [] => true
 | sup, e :: r => (!decide (e.k = 11) || sup) && validS e && validSs false r
end
def blockL (sup : Bool) (l : List St) : Bool := decide (l.length ≤ 32) && validSs sup l
def blk1 (sup : Bool) (i : Nat) (e : St) : Bool := (!decide (e.k = 11) || (sup && decide (i = 0))) && validS e
theorem validSs_take : ∀ {l : List St} {sup : Bool} {i : Nat} (hi : i < l.length), validSs sup (l.take (i + 1)) = (validSs sup (l.take i) && blk1 sup i l[i])
 | [], _, _, hi => absurd hi (Nat.not_lt_zero _)
 | e :: r, sup, 0, _ => by simp [validSs, blk1]
 | e :: r, sup, i + 1, hi => by
  have := validSs_take (l := r) (sup := false) (i := i) (by simpa using hi)
  simp only [List.take_succ_cons, validSs, this, List.getElem_cons_succ]
  simp only [blk1, Bool.false_and, Nat.add_one_ne_zero, decide_false, Bool.and_false, Bool.and_assoc]
theorem validSs_no : ∀ {l : List St} {sup : Bool} {i : Nat} (hi : i < l.length), blk1 sup i l[i] = false → validSs sup l = false := fun {l sup i} hi h => by
 have h1 := validSs_take (sup := sup) hi
 rw [h, Bool.and_false] at h1
 have : ∀ (l : List St) (sup : Bool) (j : Nat), validSs sup (l.take j) = false → validSs sup l = false := by
  intro l
  induction l with
  | nil => intro sup j h; simpa using h
  | cons e r ih =>
   intro sup j h
   cases j with
   | zero => simp [validSs] at h
   | succ j =>
    simp only [List.take_succ_cons, validSs] at h ⊢
    cases h2 : validSs false (r.take j) with
    | false => rw [ih false j h2, Bool.and_false]
    | true => rw [h2, Bool.and_true] at h; rw [h, Bool.false_and]
 exact this l sup (i + 1) h1
theorem empty_spec (x : Nd) (m : Mem) : Ans 234 [.v (.agg ⟨x.cs⟩)] m (.bool (emptyL x.k x.n x.s x.c x.ty x.l)) := by
 refine enter cfN puN Tryz.func234 rfl rfl (by kernel_rfl) rfl ?_ ?_
 ·simp only [go_sem, ↓tfi, ↓fti, ↓reduceIte, Nd.cs]
 ·simp only [go_sem, ↓tfi, ↓fti, ↓reduceIte, Nd.cs, eqOkT]
  have e0 : decide ((x.l : Int) = 0) = decide (x.l = 0) := by rw [decide_eq_decide]; omega
  rw [e0]
  rfl
theorem ex_parts {m : Mem} {k n : Int} {s c : List UInt8} {ty : Ty} {args : List Ex} {cs : List Value} (h : exRep m (.mk k n s c ty args) cs) : ∃ x : Nd, cs = x.cs ∧ x.k = k ∧ x.n = n ∧ x.s = s ∧ x.c = c ∧ x.ty = ty ∧ x.l = args.length ∧ x.l ≤ x.cp ∧ x.l ≤ big ∧ ∃ xs, Rds m x.a x.l 8 xs ∧ exsRep m args xs := by
 simp only [exRep] at h
 obtain ⟨a, cp, xs, rfl, h1, h2, h3, h4⟩ := h
 exact ⟨⟨k, n, s, c, ty, a, args.length, cp⟩, rfl, rfl, rfl, rfl, rfl, rfl, rfl, h1, h3.2.2.2.2.2, xs, h2, h4⟩
theorem bad_spec (e : Ex) (cs : List Value) (m : Mem) (hg : Glob m) (he : exRep m e cs) : Ans 250 [.v (.agg ⟨cs⟩)] m (.bool (!validE e)) := by
 have hV := valid_all _ e cs m (Nnr _) hg he
 obtain ⟨x, rfl⟩ := exRep_nd he
 refine enter cfN puN Tryz.func250 rfl rfl (by kernel_rfl) rfl ?_ ?_
 ·simp only [go_sem, ↓tfi, ↓fti, ↓reduceIte, Nd.cs]
 ·simp only [go_sem, ↓tfi, ↓fti, ↓reduceIte, Nd.cs]
  refine cvl ((FnH_den hV (fun V => rfl)).mono ?_)
  rintro r H' m2 hm2 ⟨hle2, rfl, rfl⟩
  simp only [go_sem, ↓tfi, ↓fti, ↓reduceIte]
  exact hle2
theorem super_spec (e : Ex) (cs : List Value) (m : Mem) (hg : Glob m) (he : exRep m e cs) : Ans 235 [.v (.agg ⟨cs⟩)] m (.bool (superE e)) := by
 cases e with
 | mk k n s c ty args =>
  obtain ⟨x, rfl, rfl, rfl, rfl, rfl, rfl, hl, hcp, hn, xs, hr, hes⟩ := ex_parts he
  have hE := empty_spec ⟨x.k, x.n, x.s, x.c, x.ty, none, 0, 0⟩ m
  have hv := fun m' (hm : leM m m') => containsX_spec 250 (fun e => !validE e) args x.a x.l x.cp xs m' hl.symm (Rds_upM hm hr) (exsRep_upM hm hes) hn (by kernel_rfl) (fun i hi cs m2 hle hrep => bad_spec _ cs m2 (hg.upM (leM_tr hm hle)) hrep)
  refine enter cfN puN Tryz.func235 rfl rfl (by kernel_rfl) rfl ?_ ?_
  ·simp only [go_sem, ↓tfi, ↓fti, ↓reduceIte, Nd.cs]
  ·simp only [go_sem, ↓tfi, ↓fti, ↓reduceIte, Nd.cs]
   refine cvl ((FnH_den hE (fun V => rfl)).mono ?_)
   clear hE
   rintro r H' m2 hm2 ⟨hle2, rfl, rfl⟩
   simp only [go_sem, ↓tfi, ↓fti, ↓reduceIte]
   have e0 : superE (Ex.mk x.k x.n x.s x.c x.ty args) = (emptyL x.k x.n x.s x.c x.ty 0 && decide (args.length ≤ 16) && validEs args) := rfl
   refine ⟨fun h => cvl ((hv m2 hle2).mono ?_), fun h => ⟨hle2, ?_⟩⟩
   ·clear hv
    rintro r H' m3 hm3 ⟨hle3, rfl, rfl⟩
    simp only [go_sem, ↓tfi, ↓fti, ↓reduceIte]
    refine ⟨leM_tr hle2 hle3, ?_⟩
    rw [e0, h.1, decide_eq_true (by omega : args.length ≤ 16), validEs_any]
    rfl
   ·clear hv
    rw [e0]
    rcases h with h | h
    ·rw [h]; rfl
    ·rw [decide_eq_false (by omega : ¬ args.length ≤ 16), Bool.and_false]; rfl
theorem target_spec (e : Ex) (cs : List Value) (m : Mem) (hg : Glob m) (he : exRep m e cs) : Ans 232 [.v (.agg ⟨cs⟩)] m (.bool (targetE e)) := by
 have hV := valid_all _ e cs m (Nnr _) hg he
 cases e with
 | mk k n s c ty args =>
  obtain ⟨x, rfl, rfl, rfl, rfl, rfl, rfl, hl, hcp, hn, xs, hr, hes⟩ := ex_parts he
  refine enter cfN puN Tryz.func232 rfl rfl (by kernel_rfl) rfl ?_ ?_
  ·simp only [go_sem, ↓tfi, ↓fti, ↓reduceIte, Nd.cs]
  ·simp only [go_sem, ↓tfi, ↓fti, ↓reduceIte, Nd.cs]
   refine ⟨fun e0 => ⟨fun _ => cvl ((FnH_den hV (fun V => rfl)).mono ?_), fun n => absurd e0 n⟩, fun n0 => ⟨fun e1 => ⟨fun _ => cvl ((FnH_den hV (fun V => rfl)).mono ?_), fun n => absurd e1 n⟩, fun n1 => ⟨fun e2 => ⟨fun _ => cvl ((FnH_den hV (fun V => rfl)).mono ?_), fun n => absurd e2 n⟩, fun n2 => ⟨fun e3 => cvl ((FnH_den hV (fun V => rfl)).mono ?_), fun n3 => ?_⟩⟩⟩⟩
   ·clear hV
    rintro r H' m2 hm2 ⟨hle2, rfl, rfl⟩
    simp only [go_sem, ↓tfi, ↓fti, ↓reduceIte]
    refine ⟨hle2, ?_⟩
    simp [targetE, Ex.k, e0]
   ·clear hV
    rintro r H' m2 hm2 ⟨hle2, rfl, rfl⟩
    simp only [go_sem, ↓tfi, ↓fti, ↓reduceIte]
    refine ⟨hle2, ?_⟩
    simp [targetE, Ex.k, e1]
   ·clear hV
    rintro r H' m2 hm2 ⟨hle2, rfl, rfl⟩
    simp only [go_sem, ↓tfi, ↓fti, ↓reduceIte]
    refine ⟨hle2, ?_⟩
    simp [targetE, Ex.k, e2]
   ·clear hV
    rintro r H' m2 hm2 ⟨hle2, rfl, rfl⟩
    simp only [go_sem, ↓tfi, ↓fti, ↓reduceIte]
    refine ⟨hle2, ?_⟩
    simp [targetE, Ex.k, e3]
   ·clear hV
    simp [targetE, Ex.k, n0, n1, n2, n3]
theorem call_spec (e : Ex) (cs : List Value) (m : Mem) (hg : Glob m) (he : exRep m e cs) : Ans 233 [.v (.agg ⟨cs⟩)] m (.bool (callE e)) := by
 have hV := valid_all _ e cs m (Nnr _) hg he
 cases e with
 | mk k n s c ty args =>
  obtain ⟨x, rfl, rfl, rfl, rfl, rfl, rfl, hl, hcp, hn, xs, hr, hes⟩ := ex_parts he
  refine enter cfN puN Tryz.func233 rfl rfl (by kernel_rfl) rfl ?_ ?_
  ·simp only [go_sem, ↓tfi, ↓fti, ↓reduceIte, Nd.cs]
  ·simp only [go_sem, ↓tfi, ↓fti, ↓reduceIte, Nd.cs]
   refine ⟨fun e0 => ⟨fun _ => cvl ((FnH_den hV (fun V => rfl)).mono ?_), fun n => absurd e0 n⟩, fun n0 => ⟨fun e1 => ⟨fun _ => cvl ((FnH_den hV (fun V => rfl)).mono ?_), fun n => absurd e1 n⟩, fun n1 => ⟨fun e2 => ⟨fun _ => cvl ((FnH_den hV (fun V => rfl)).mono ?_), fun n => absurd e2 n⟩, fun n2 => ⟨fun e3 => cvl ((FnH_den hV (fun V => rfl)).mono ?_), fun n3 => ?_⟩⟩⟩⟩
   ·clear hV
    rintro r H' m2 hm2 ⟨hle2, rfl, rfl⟩
    simp only [go_sem, ↓tfi, ↓fti, ↓reduceIte]
    refine ⟨hle2, ?_⟩
    simp [callE, Ex.k, e0]
   ·clear hV
    rintro r H' m2 hm2 ⟨hle2, rfl, rfl⟩
    simp only [go_sem, ↓tfi, ↓fti, ↓reduceIte]
    refine ⟨hle2, ?_⟩
    simp [callE, Ex.k, e1]
   ·clear hV
    rintro r H' m2 hm2 ⟨hle2, rfl, rfl⟩
    simp only [go_sem, ↓tfi, ↓fti, ↓reduceIte]
    refine ⟨hle2, ?_⟩
    simp [callE, Ex.k, e2]
   ·clear hV
    rintro r H' m2 hm2 ⟨hle2, rfl, rfl⟩
    simp only [go_sem, ↓tfi, ↓fti, ↓reduceIte]
    refine ⟨hle2, ?_⟩
    simp [callE, Ex.k, e3]
   ·clear hV
    simp [callE, Ex.k, n0, n1, n2, n3]
theorem st_parts {m : Mem} {k : Int} {nm : List UInt8} {ty : Ty} {tg ex : Ex} {body alt : List St} {cs : List Value} (h : stRep m (.mk k nm ty tg ex body alt) cs) :
  ∃ x : Sd, cs = x.cs ∧ x.k = k ∧ x.name = nm ∧ x.ty = ty ∧ exRep m tg x.tg.cs ∧ exRep m ex x.ex.cs ∧ x.l = body.length ∧ x.l ≤ x.cp ∧ x.l2 = alt.length ∧ x.l2 ≤ x.cp2 ∧ StOk k nm ty body.length alt.length ∧ ∃ xs ys, Rds m x.a x.l 23 xs ∧ Rds m x.b x.l2 23 ys ∧ stsRep m body xs ∧ stsRep m alt ys := by
 simp only [stRep] at h
 obtain ⟨x, ⟨h1, h2, h3, h4⟩, h5, h6, ⟨h7, h8, h9, h10⟩, h11, xs, ys, h12, h13, h14, h15⟩ := h
 exact ⟨x, h1, h2, h3, h4, h5, h6, h7, h8, h9, h10, h11, xs, ys, h12, h13, h14, h15⟩
theorem block_spec (sup : Bool) (l : List St) (a : Option Addr) (n c : Nat) (xs : List Value) (m : Mem) (hl : n = l.length) (hr : Rds m a n 23 xs) (hs : stsRep m l xs) (hn : n ≤ big)
  (hV : ∀ e ∈ l, ∀ cs m', leM m m' → stRep m' e cs → Ans 201 [.v (.agg ⟨cs⟩)] m' (.bool (validS e))) :
  Ans 142 [.v (.slice a n c), .v (.bool sup)] m (.bool (decide (l.length ≤ 32) && validSs sup l)) := by
 refine enter cfN puN Tryz.func142 rfl rfl (by kernel_rfl) rfl ?_ ?_
 ·simp only [go_sem, ↓tfi, ↓fti, ↓reduceIte]
 ·simp only [go_sem, ↓tfi, ↓fti, ↓reduceIte]
  refine ⟨fun h => ?_, fun h => ?_⟩
  ·rw [decide_eq_false (by clear hV; omega)]; rfl
  ·have hE : (decide (l.length ≤ 32) && validSs sup l) = validSs sup l := by rw [decide_eq_true (by clear hV; omega)]; rfl
   rw [hE]
   clear hE
   refine WP_loop puN (fun x : Nat × Mem => ⟨[⟨1, [], .v (.bool sup)⟩, ⟨10, [], .v (.slice a n c)⟩, ⟨11, [], .v (.int .i64 n)⟩, ⟨12, [], .v (.int .i64 x.1)⟩], [], [], [], 0, x.2⟩)
    (fun x => leM m x.2 ∧ x.1 ≤ n ∧ validSs sup (l.take x.1) = true) (fun x => n - x.1) (0, m) (by kernel_rfl) (fun _ _ => Nnr _) (fun x hx => hx.1) (fun _ => ?_) ?_ ?_ ?_
   ·simp only [go_sem, ↓tfi, ↓fti, ↓reduceIte]
   ·simp only [go_sem, ↓tfi, ↓fti, ↓reduceIte]
    rfl
   ·exact ⟨.inl rfl, Nat.zero_le _, by simp [validSs]⟩
   ·rintro ⟨k, mm⟩ ⟨h1, h2, h3⟩
    simp only at h1 h2 h3
    have hy : ∀ (hk : k < l.length), ∃ X : Sd, (Rd mm (ptrAt a (k * 23)) X.cs ∧ a ≠ none) ∧ X.k = l[k].k ∧ Ans 201 [.v (.agg ⟨X.cs⟩)] mm (.bool (validS l[k])) := fun hk => by
     have hrep := stRep_upM h1 (sts_at hs hk)
     have hkx : ∃ X : Sd, (xs.drop (k * 23)).take 23 = X.cs ∧ X.k = l[k].k := by
      cases hlk : l[k] with
      | mk k' nm ty tg ex body alt =>
       rw [hlk] at hrep
       obtain ⟨X, e1, e2, _⟩ := st_parts hrep
       exact ⟨X, e1, e2⟩
     obtain ⟨X, e1, e2⟩ := hkx
     have r1 := Rds_cells (Rds_upM h1 hr) (by omega : k < n)
     rw [e1] at r1 hrep
     exact ⟨X, r1, e2, hV _ (List.getElem_mem hk) _ _ h1 hrep⟩
    clear hV
    simp only [go_sem, ↓tfi, ↓fti, ↓reduceIte]
    refine ⟨fun hlt => ?_, fun hge => ⟨h1, ?_⟩⟩
    ·have hk : k < l.length := by clear hy; omega
     refine Exists.elim (hy hk) fun X hy' => ⟨⟨by clear hy hy'; omega, hlt, hy'.1.2⟩, X.cs, ⟨hy'.1.1, rfl⟩, ?_⟩
     clear hy
     have hkk := hy'.2.1
     have ha := hy'.2.2
     clear hy'
     simp only [go_sem, ↓tfi, ↓fti, ↓reduceIte, Sd.cs, Nd.cs]
     refine ⟨fun hc => cvl ((FnH_den ha (fun V => rfl)).mono ?_), fun hc => ⟨h1, ?_⟩⟩
     ·clear ha
      have hb : blk1 sup k l[k] = validS l[k] := by
       rw [hkk] at hc
       rcases hc with hc | hc
       ·simp [blk1, hc]
       ·have : k = 0 := by omega
        simp [blk1, hc.1, this]
      rintro r H' m2 hm2 ⟨hle2, rfl, rfl⟩
      simp only [go_sem, ↓tfi, ↓fti, ↓reduceIte]
      refine ⟨fun hv => ⟨leM_tr h1 hle2, ?_⟩, fun hv => ⟨by unfold I64; simp only [big] at hn; omega, (k + 1, m2), ⟨by simp, .inl rfl⟩, ⟨leM_tr h1 hle2, by simp only; omega, ?_⟩, by simp only; omega⟩⟩
      ·rw [validSs_no hk (by rw [hb]; exact hv)]
      ·simp only
       rw [validSs_take hk, h3, hb, hv]
       rfl
     ·clear ha
      rw [hkk] at hc
      rw [validSs_no hk]
      rcases hc.2 with h0 | h0
      ·simp [blk1, hc.1, h0]
      ·have : ¬ k = 0 := by omega
       simp [blk1, hc.1, this]
    ·have : k = n := by clear hy; omega
     rw [List.take_of_length_le (by clear hy; omega)] at h3
     rw [h3]
def zNd : Nd := ⟨0, 0, [], [], zTy, none, 0, 0⟩
theorem Rds_nil {m : Mem} {sz : Nat} : Rds m none 0 sz [] := ⟨by simp, fun h => absurd h (Nat.lt_irrefl _)⟩
theorem z_ok : TyOk zTy := ⟨by unfold I64; decide, by decide, by decide⟩
theorem z_rep {m : Mem} : exRep m zE zNd.cs := by
 simp only [zE, exRep]
 exact ⟨none, 0, [], rfl, Nnr _, Rds_nil, ⟨by unfold I64; decide, by unfold I64; decide, by decide, by decide, z_ok, by decide⟩, by simp only [exsRep]⟩
theorem st_mk {m : Mem} (U : Sd) {tg ex : Ex} {body alt : List St} {xs ys : List Value} (htg : exRep m tg U.tg.cs) (hex : exRep m ex U.ex.cs) (hl : U.l = body.length) (hcp : U.l ≤ U.cp) (hl2 : U.l2 = alt.length) (hcp2 : U.l2 ≤ U.cp2) (hok : StOk U.k U.name U.ty body.length alt.length)
  (r1 : Rds m U.a U.l 23 xs) (r2 : Rds m U.b U.l2 23 ys) (s1 : stsRep m body xs) (s2 : stsRep m alt ys) : stRep m (.mk U.k U.name U.ty tg ex body alt) U.cs := by
 simp only [stRep]
 exact ⟨U, ⟨rfl, rfl, rfl, rfl⟩, htg, hex, ⟨hl, hcp, hl2, hcp2⟩, hok, xs, ys, r1, r2, s1, s2⟩
theorem nd_inj {x y : Nd} (h : x.cs = y.cs) : x = y := by
 obtain ⟨k, n, s, c, ⟨d, b, nm⟩, a, l, cp⟩ := x
 obtain ⟨k', n', s', c', ⟨d', b', nm'⟩, a', l', cp'⟩ := y
 simp only [Nd.cs, List.cons.injEq, Value.int.injEq, Value.string.injEq, Value.slice.injEq, and_true, true_and] at h
 obtain ⟨h1, h2, h3, h4, h5, h6, h7, h8, h9, h10⟩ := h
 rw [h1, h2, bs_inj h3, bs_inj h4, h5, h6, bs_inj h7, h8, h9, h10]
theorem empty_of {m : Mem} {e : Ex} {x : Nd} (h : exRep m e x.cs) (m' : Mem) : Ans 234 [.v (.agg ⟨x.cs⟩)] m' (.bool (emptyE e)) := by
 cases e with
 | mk k n s c ty args =>
  obtain ⟨y, hy, h1, h2, h3, h4, h5, h6, _⟩ := ex_parts h
  have := empty_spec x m'
  rw [nd_inj hy] at this ⊢
  rw [h1, h2, h3, h4, h5, h6] at this
  exact this
theorem sts_nil {m : Mem} : stsRep m [] [] := by simp only [stsRep]
theorem vst1 (nm : List UInt8) (ty : Ty) (tN eN : Nd) (a : Option Addr) (l cp : Nat) (b : Option Addr) (l2 cp2 : Nat) (tg ex : Ex) (body alt : List St) (xs ys : List Value) (m : Mem) (hg : Glob m)
  (htg : exRep m tg tN.cs) (hex : exRep m ex eN.cs) (hl : l = body.length) (hcp : l ≤ cp) (hl2 : l2 = alt.length) (hcp2 : l2 ≤ cp2) (hok : StOk 1 nm ty body.length alt.length) (r1 : Rds m a l 23 xs) (r2 : Rds m b l2 23 ys) (s1 : stsRep m body xs) (s2 : stsRep m alt ys) (B1 B2 B V : Bool)
  (hB : ∀ m', leM m m' → Ans 142 [.v (.slice a l cp), .v (.bool false)] m' (.bool B1)) (hA : ∀ m', leM m m' → Ans 142 [.v (.slice b l2 cp2), .v (.bool false)] m' (.bool B2)) (hBB : B = (B1 && B2))
  (e0 : V = ((identL nm && valueTy ty.dim ty.base ty.name && validE ex) && eqS (St.mk 1 nm ty tg ex body alt) (St.mk 1 nm ty zE ex [] []))) : Ans 201 [.v (.agg ⟨Sd.cs ⟨1, nm, ty, tN, eN, a, l, cp, b, l2, cp2⟩⟩)] m (.bool V) := by
 have hQ : ∀ m', leM m m' → Ans 236 [.v (.agg ⟨Sd.cs ⟨1, nm, ty, tN, eN, a, l, cp, b, l2, cp2⟩⟩), .v (.agg ⟨Sd.cs ⟨1, nm, ty, zNd, eN, none, 0, 0, none, 0, 0⟩⟩)] m' (.bool (eqS (St.mk 1 nm ty tg ex body alt) (St.mk 1 nm ty zE ex [] []))) := fun m' hle =>
  eqS_all _ _ _ _ _ m' (Nnr _) (st_mk (m := m') (⟨1, nm, ty, tN, eN, a, l, cp, b, l2, cp2⟩ : Sd) (exRep_upM hle htg) (exRep_upM hle hex) hl hcp hl2 hcp2 hok (Rds_upM hle r1) (Rds_upM hle r2) (stsRep_upM hle s1) (stsRep_upM hle s2))
   (st_mk (m := m') (⟨1, nm, ty, zNd, eN, none, 0, 0, none, 0, 0⟩ : Sd) z_rep (exRep_upM hle hex) rfl (Nnr _) rfl (Nnr _) ⟨hok.k, hok.nm, hok.ty, Nat.zero_le _, Nat.zero_le _⟩ Rds_nil Rds_nil sts_nil sts_nil )
 have hBL1 : BL nm := Nat.le_trans hok.nm (by decide)
 have hBL2 : BL ty.name := Nat.le_trans hok.ty.2.2 (by decide)
 have hX := fun m' (hle : leM m m') => valid_all _ ex eN.cs m' (Nnr _) (hg.upM hle) (exRep_upM hle hex)
 clear s1 s2 r1 r2
 refine enter cfV puV Tryz.func201 rfl rfl (by kernel_rfl) rfl ?_ ?_
 ·simp only [go_sem, ↓tfi, ↓fti, ↓reduceIte, Sd.cs, Nd.cs, zNd, zTy, Int.reduceEq, decide_true, decide_false]
 ·simp only [go_sem, ↓tfi, ↓fti, ↓reduceIte, Sd.cs, Nd.cs, zNd, zTy, Int.reduceEq, decide_true, decide_false]
  refine cvl ((hB m (.inl rfl)).mono ?_)
  clear hB
  rintro r H' m1 hm1 ⟨l1, rfl, rfl⟩
  simp only [go_sem, ↓tfi, ↓fti, ↓reduceIte, Sd.cs, Nd.cs, zNd, zTy, Int.reduceEq, decide_true, decide_false]
  refine ⟨fun b1 => cvl ((hA m1 l1).mono ?_), fun b1 => ?_⟩
  ·clear hA
   rintro r H' m2 hm2 ⟨l2', rfl, rfl⟩
   have lm2 := leM_tr l1 l2'
   simp only [go_sem, ↓tfi, ↓fti, ↓reduceIte, Sd.cs, Nd.cs, zNd, zTy, Int.reduceEq, decide_true, decide_false]
   refine ⟨hBL1, fun _ => hBL2, fun c => ?_, fun c => ?_⟩
   ·refine cvl ((FnH_den (hX m2 lm2) (fun V => rfl)).mono ?_)
    clear hX
    rintro r H' w1 hw1 ⟨lw1, rfl, rfl⟩
    simp only [go_sem, ↓tfi, ↓fti, ↓reduceIte, Sd.cs, Nd.cs, zNd, zTy, Int.reduceEq, decide_true, decide_false]
    refine ⟨fun c1 => ?_, fun c1 => ?_⟩
    ·refine cvl ((FnH_den (hQ w1 (leM_tr lm2 lw1)) (fun V => rfl)).mono ?_)
     clear hQ
     rintro r H' w2 hw2 ⟨lw2, rfl, rfl⟩
     simp only [go_sem, ↓tfi, ↓fti, ↓reduceIte, Sd.cs, Nd.cs, zNd, zTy, Int.reduceEq, decide_true, decide_false]
     refine ⟨leM_tr (leM_tr lm2 lw1) lw2, ?_⟩
     rw [e0, c.1, c.2, c1]
     rfl
    ·refine ⟨(leM_tr lm2 lw1), ?_⟩
     rw [e0, c.1, c.2, c1]
     rfl
   ·refine ⟨lm2, ?_⟩
    rw [e0]
    rcases c with c | c <;> simp [c]
  ·clear hA
   refine ⟨hBL1, fun _ => hBL2, fun c => ?_, fun c => ?_⟩
   ·refine cvl ((FnH_den (hX m1 l1) (fun V => rfl)).mono ?_)
    clear hX
    rintro r H' w3 hw3 ⟨lw3, rfl, rfl⟩
    simp only [go_sem, ↓tfi, ↓fti, ↓reduceIte, Sd.cs, Nd.cs, zNd, zTy, Int.reduceEq, decide_true, decide_false]
    refine ⟨fun c3 => ?_, fun c3 => ?_⟩
    ·refine cvl ((FnH_den (hQ w3 (leM_tr l1 lw3)) (fun V => rfl)).mono ?_)
     clear hQ
     rintro r H' w4 hw4 ⟨lw4, rfl, rfl⟩
     simp only [go_sem, ↓tfi, ↓fti, ↓reduceIte, Sd.cs, Nd.cs, zNd, zTy, Int.reduceEq, decide_true, decide_false]
     refine ⟨leM_tr (leM_tr l1 lw3) lw4, ?_⟩
     rw [e0, c.1, c.2, c3]
     rfl
    ·refine ⟨(leM_tr l1 lw3), ?_⟩
     rw [e0, c.1, c.2, c3]
     rfl
   ·refine ⟨l1, ?_⟩
    rw [e0]
    rcases c with c | c <;> simp [c]
theorem vst2 (nm : List UInt8) (ty : Ty) (tN eN : Nd) (a : Option Addr) (l cp : Nat) (b : Option Addr) (l2 cp2 : Nat) (tg ex : Ex) (body alt : List St) (xs ys : List Value) (m : Mem) (hg : Glob m)
  (htg : exRep m tg tN.cs) (hex : exRep m ex eN.cs) (hl : l = body.length) (hcp : l ≤ cp) (hl2 : l2 = alt.length) (hcp2 : l2 ≤ cp2) (hok : StOk 2 nm ty body.length alt.length) (r1 : Rds m a l 23 xs) (r2 : Rds m b l2 23 ys) (s1 : stsRep m body xs) (s2 : stsRep m alt ys) (B1 B2 B V : Bool)
  (hB : ∀ m', leM m m' → Ans 142 [.v (.slice a l cp), .v (.bool false)] m' (.bool B1)) (hA : ∀ m', leM m m' → Ans 142 [.v (.slice b l2 cp2), .v (.bool false)] m' (.bool B2)) (hBB : B = (B1 && B2))
  (e0 : V = ((targetE tg && validE ex) && eqS (St.mk 2 nm ty tg ex body alt) (St.mk 2 [] zTy tg ex [] []))) : Ans 201 [.v (.agg ⟨Sd.cs ⟨2, nm, ty, tN, eN, a, l, cp, b, l2, cp2⟩⟩)] m (.bool V) := by
 have hQ : ∀ m', leM m m' → Ans 236 [.v (.agg ⟨Sd.cs ⟨2, nm, ty, tN, eN, a, l, cp, b, l2, cp2⟩⟩), .v (.agg ⟨Sd.cs ⟨2, [], zTy, tN, eN, none, 0, 0, none, 0, 0⟩⟩)] m' (.bool (eqS (St.mk 2 nm ty tg ex body alt) (St.mk 2 [] zTy tg ex [] []))) := fun m' hle =>
  eqS_all _ _ _ _ _ m' (Nnr _) (st_mk (m := m') (⟨2, nm, ty, tN, eN, a, l, cp, b, l2, cp2⟩ : Sd) (exRep_upM hle htg) (exRep_upM hle hex) hl hcp hl2 hcp2 hok (Rds_upM hle r1) (Rds_upM hle r2) (stsRep_upM hle s1) (stsRep_upM hle s2))
   (st_mk (m := m') (⟨2, [], zTy, tN, eN, none, 0, 0, none, 0, 0⟩ : Sd) (exRep_upM hle htg) (exRep_upM hle hex) rfl (Nnr _) rfl (Nnr _) ⟨hok.k, Nat.zero_le _, z_ok, Nat.zero_le _, Nat.zero_le _⟩ Rds_nil Rds_nil sts_nil sts_nil )
 have hX := fun m' (hle : leM m m') => valid_all _ ex eN.cs m' (Nnr _) (hg.upM hle) (exRep_upM hle hex)
 have hT := fun m' (hle : leM m m') => target_spec tg tN.cs m' (hg.upM hle) (exRep_upM hle htg)
 clear s1 s2 r1 r2
 refine enter cfV puV Tryz.func201 rfl rfl (by kernel_rfl) rfl ?_ ?_
 ·simp only [go_sem, ↓tfi, ↓fti, ↓reduceIte, Sd.cs, Nd.cs, zNd, zTy, Int.reduceEq, decide_true, decide_false]
 ·simp only [go_sem, ↓tfi, ↓fti, ↓reduceIte, Sd.cs, Nd.cs, zNd, zTy, Int.reduceEq, decide_true, decide_false]
  refine cvl ((hB m (.inl rfl)).mono ?_)
  clear hB
  rintro r H' m1 hm1 ⟨l1, rfl, rfl⟩
  simp only [go_sem, ↓tfi, ↓fti, ↓reduceIte, Sd.cs, Nd.cs, zNd, zTy, Int.reduceEq, decide_true, decide_false]
  refine ⟨fun b1 => cvl ((hA m1 l1).mono ?_), fun b1 => ?_⟩
  ·clear hA
   rintro r H' m2 hm2 ⟨l2', rfl, rfl⟩
   have lm2 := leM_tr l1 l2'
   simp only [go_sem, ↓tfi, ↓fti, ↓reduceIte, Sd.cs, Nd.cs, zNd, zTy, Int.reduceEq, decide_true, decide_false]
   refine cvl ((FnH_den (hT m2 lm2) (fun V => rfl)).mono ?_)
   clear hT
   rintro r H' w1 hw1 ⟨lw1, rfl, rfl⟩
   simp only [go_sem, ↓tfi, ↓fti, ↓reduceIte, Sd.cs, Nd.cs, zNd, zTy, Int.reduceEq, decide_true, decide_false]
   refine ⟨fun c => ?_, fun c => ?_⟩
   ·refine cvl ((FnH_den (hX w1 (leM_tr lm2 lw1)) (fun V => rfl)).mono ?_)
    clear hX
    rintro r H' w2 hw2 ⟨lw2, rfl, rfl⟩
    simp only [go_sem, ↓tfi, ↓fti, ↓reduceIte, Sd.cs, Nd.cs, zNd, zTy, Int.reduceEq, decide_true, decide_false]
    refine ⟨fun c2 => ?_, fun c2 => ?_⟩
    ·refine cvl ((FnH_den (hQ w2 (leM_tr (leM_tr lm2 lw1) lw2)) (fun V => rfl)).mono ?_)
     clear hQ
     rintro r H' w3 hw3 ⟨lw3, rfl, rfl⟩
     simp only [go_sem, ↓tfi, ↓fti, ↓reduceIte, Sd.cs, Nd.cs, zNd, zTy, Int.reduceEq, decide_true, decide_false]
     refine ⟨leM_tr (leM_tr (leM_tr lm2 lw1) lw2) lw3, ?_⟩
     rw [e0, c, c2]
     rfl
    ·refine ⟨(leM_tr (leM_tr lm2 lw1) lw2), ?_⟩
     rw [e0, c, c2]
     rfl
   ·refine ⟨(leM_tr lm2 lw1), ?_⟩
    rw [e0, c]
    rfl
  ·clear hA
   refine cvl ((FnH_den (hT m1 l1) (fun V => rfl)).mono ?_)
   clear hT
   rintro r H' w4 hw4 ⟨lw4, rfl, rfl⟩
   simp only [go_sem, ↓tfi, ↓fti, ↓reduceIte, Sd.cs, Nd.cs, zNd, zTy, Int.reduceEq, decide_true, decide_false]
   refine ⟨fun c => ?_, fun c => ?_⟩
   ·refine cvl ((FnH_den (hX w4 (leM_tr l1 lw4)) (fun V => rfl)).mono ?_)
    clear hX
    rintro r H' w5 hw5 ⟨lw5, rfl, rfl⟩
    simp only [go_sem, ↓tfi, ↓fti, ↓reduceIte, Sd.cs, Nd.cs, zNd, zTy, Int.reduceEq, decide_true, decide_false]
    refine ⟨fun c5 => ?_, fun c5 => ?_⟩
    ·refine cvl ((FnH_den (hQ w5 (leM_tr (leM_tr l1 lw4) lw5)) (fun V => rfl)).mono ?_)
     clear hQ
     rintro r H' w6 hw6 ⟨lw6, rfl, rfl⟩
     simp only [go_sem, ↓tfi, ↓fti, ↓reduceIte, Sd.cs, Nd.cs, zNd, zTy, Int.reduceEq, decide_true, decide_false]
     refine ⟨leM_tr (leM_tr (leM_tr l1 lw4) lw5) lw6, ?_⟩
     rw [e0, c, c5]
     rfl
    ·refine ⟨(leM_tr (leM_tr l1 lw4) lw5), ?_⟩
     rw [e0, c, c5]
     rfl
   ·refine ⟨(leM_tr l1 lw4), ?_⟩
    rw [e0, c]
    rfl
theorem vst3 (nm : List UInt8) (ty : Ty) (tN eN : Nd) (a : Option Addr) (l cp : Nat) (b : Option Addr) (l2 cp2 : Nat) (tg ex : Ex) (body alt : List St) (xs ys : List Value) (m : Mem) (hg : Glob m)
  (htg : exRep m tg tN.cs) (hex : exRep m ex eN.cs) (hl : l = body.length) (hcp : l ≤ cp) (hl2 : l2 = alt.length) (hcp2 : l2 ≤ cp2) (hok : StOk 3 nm ty body.length alt.length) (r1 : Rds m a l 23 xs) (r2 : Rds m b l2 23 ys) (s1 : stsRep m body xs) (s2 : stsRep m alt ys) (B1 B2 B V : Bool)
  (hB : ∀ m', leM m m' → Ans 142 [.v (.slice a l cp), .v (.bool false)] m' (.bool B1)) (hA : ∀ m', leM m m' → Ans 142 [.v (.slice b l2 cp2), .v (.bool false)] m' (.bool B2)) (hBB : B = (B1 && B2))
  (e0 : V = (callE ex && eqS (St.mk 3 nm ty tg ex body alt) (St.mk 3 [] zTy zE ex [] []))) : Ans 201 [.v (.agg ⟨Sd.cs ⟨3, nm, ty, tN, eN, a, l, cp, b, l2, cp2⟩⟩)] m (.bool V) := by
 have hQ : ∀ m', leM m m' → Ans 236 [.v (.agg ⟨Sd.cs ⟨3, nm, ty, tN, eN, a, l, cp, b, l2, cp2⟩⟩), .v (.agg ⟨Sd.cs ⟨3, [], zTy, zNd, eN, none, 0, 0, none, 0, 0⟩⟩)] m' (.bool (eqS (St.mk 3 nm ty tg ex body alt) (St.mk 3 [] zTy zE ex [] []))) := fun m' hle =>
  eqS_all _ _ _ _ _ m' (Nnr _) (st_mk (m := m') (⟨3, nm, ty, tN, eN, a, l, cp, b, l2, cp2⟩ : Sd) (exRep_upM hle htg) (exRep_upM hle hex) hl hcp hl2 hcp2 hok (Rds_upM hle r1) (Rds_upM hle r2) (stsRep_upM hle s1) (stsRep_upM hle s2))
   (st_mk (m := m') (⟨3, [], zTy, zNd, eN, none, 0, 0, none, 0, 0⟩ : Sd) z_rep (exRep_upM hle hex) rfl (Nnr _) rfl (Nnr _) ⟨hok.k, Nat.zero_le _, z_ok, Nat.zero_le _, Nat.zero_le _⟩ Rds_nil Rds_nil sts_nil sts_nil )
 have hX := fun m' (hle : leM m m') => call_spec ex eN.cs m' (hg.upM hle) (exRep_upM hle hex)
 clear s1 s2 r1 r2
 refine enter cfV puV Tryz.func201 rfl rfl (by kernel_rfl) rfl ?_ ?_
 ·simp only [go_sem, ↓tfi, ↓fti, ↓reduceIte, Sd.cs, Nd.cs, zNd, zTy, Int.reduceEq, decide_true, decide_false]
 ·simp only [go_sem, ↓tfi, ↓fti, ↓reduceIte, Sd.cs, Nd.cs, zNd, zTy, Int.reduceEq, decide_true, decide_false]
  refine cvl ((hB m (.inl rfl)).mono ?_)
  clear hB
  rintro r H' m1 hm1 ⟨l1, rfl, rfl⟩
  simp only [go_sem, ↓tfi, ↓fti, ↓reduceIte, Sd.cs, Nd.cs, zNd, zTy, Int.reduceEq, decide_true, decide_false]
  refine ⟨fun b1 => cvl ((hA m1 l1).mono ?_), fun b1 => ?_⟩
  ·clear hA
   rintro r H' m2 hm2 ⟨l2', rfl, rfl⟩
   have lm2 := leM_tr l1 l2'
   simp only [go_sem, ↓tfi, ↓fti, ↓reduceIte, Sd.cs, Nd.cs, zNd, zTy, Int.reduceEq, decide_true, decide_false]
   refine cvl ((FnH_den (hX m2 lm2) (fun V => rfl)).mono ?_)
   clear hX
   rintro r H' w1 hw1 ⟨lw1, rfl, rfl⟩
   simp only [go_sem, ↓tfi, ↓fti, ↓reduceIte, Sd.cs, Nd.cs, zNd, zTy, Int.reduceEq, decide_true, decide_false]
   refine ⟨fun c1 => ?_, fun c1 => ?_⟩
   ·refine cvl ((FnH_den (hQ w1 (leM_tr lm2 lw1)) (fun V => rfl)).mono ?_)
    clear hQ
    rintro r H' w2 hw2 ⟨lw2, rfl, rfl⟩
    simp only [go_sem, ↓tfi, ↓fti, ↓reduceIte, Sd.cs, Nd.cs, zNd, zTy, Int.reduceEq, decide_true, decide_false]
    refine ⟨leM_tr (leM_tr lm2 lw1) lw2, ?_⟩
    rw [e0, c1]
    rfl
   ·refine ⟨(leM_tr lm2 lw1), ?_⟩
    rw [e0, c1]
    rfl
  ·clear hA
   refine cvl ((FnH_den (hX m1 l1) (fun V => rfl)).mono ?_)
   clear hX
   rintro r H' w3 hw3 ⟨lw3, rfl, rfl⟩
   simp only [go_sem, ↓tfi, ↓fti, ↓reduceIte, Sd.cs, Nd.cs, zNd, zTy, Int.reduceEq, decide_true, decide_false]
   refine ⟨fun c3 => ?_, fun c3 => ?_⟩
   ·refine cvl ((FnH_den (hQ w3 (leM_tr l1 lw3)) (fun V => rfl)).mono ?_)
    clear hQ
    rintro r H' w4 hw4 ⟨lw4, rfl, rfl⟩
    simp only [go_sem, ↓tfi, ↓fti, ↓reduceIte, Sd.cs, Nd.cs, zNd, zTy, Int.reduceEq, decide_true, decide_false]
    refine ⟨leM_tr (leM_tr l1 lw3) lw4, ?_⟩
    rw [e0, c3]
    rfl
   ·refine ⟨(leM_tr l1 lw3), ?_⟩
    rw [e0, c3]
    rfl
theorem vst4 (nm : List UInt8) (ty : Ty) (tN eN : Nd) (a : Option Addr) (l cp : Nat) (b : Option Addr) (l2 cp2 : Nat) (tg ex : Ex) (body alt : List St) (xs ys : List Value) (m : Mem) (hg : Glob m)
  (htg : exRep m tg tN.cs) (hex : exRep m ex eN.cs) (hl : l = body.length) (hcp : l ≤ cp) (hl2 : l2 = alt.length) (hcp2 : l2 ≤ cp2) (hok : StOk 4 nm ty body.length alt.length) (r1 : Rds m a l 23 xs) (r2 : Rds m b l2 23 ys) (s1 : stsRep m body xs) (s2 : stsRep m alt ys) (B1 B2 B V : Bool)
  (hB : ∀ m', leM m m' → Ans 142 [.v (.slice a l cp), .v (.bool false)] m' (.bool B1)) (hA : ∀ m', leM m m' → Ans 142 [.v (.slice b l2 cp2), .v (.bool false)] m' (.bool B2)) (hBB : B = (B1 && B2))
  (e0 : V = ((B && validE ex) && eqS (St.mk 4 nm ty tg ex body alt) (St.mk 4 [] zTy zE ex body alt))) : Ans 201 [.v (.agg ⟨Sd.cs ⟨4, nm, ty, tN, eN, a, l, cp, b, l2, cp2⟩⟩)] m (.bool V) := by
 have hQ : ∀ m', leM m m' → Ans 236 [.v (.agg ⟨Sd.cs ⟨4, nm, ty, tN, eN, a, l, cp, b, l2, cp2⟩⟩), .v (.agg ⟨Sd.cs ⟨4, [], zTy, zNd, eN, a, l, cp, b, l2, cp2⟩⟩)] m' (.bool (eqS (St.mk 4 nm ty tg ex body alt) (St.mk 4 [] zTy zE ex body alt))) := fun m' hle =>
  eqS_all _ _ _ _ _ m' (Nnr _) (st_mk (m := m') (⟨4, nm, ty, tN, eN, a, l, cp, b, l2, cp2⟩ : Sd) (exRep_upM hle htg) (exRep_upM hle hex) hl hcp hl2 hcp2 hok (Rds_upM hle r1) (Rds_upM hle r2) (stsRep_upM hle s1) (stsRep_upM hle s2))
   (st_mk (m := m') (⟨4, [], zTy, zNd, eN, a, l, cp, b, l2, cp2⟩ : Sd) z_rep (exRep_upM hle hex) hl hcp hl2 hcp2 ⟨hok.k, Nat.zero_le _, z_ok, hok.l, hok.l2⟩ (Rds_upM hle r1) (Rds_upM hle r2) (stsRep_upM hle s1) (stsRep_upM hle s2) )
 have hX := fun m' (hle : leM m m') => valid_all _ ex eN.cs m' (Nnr _) (hg.upM hle) (exRep_upM hle hex)
 clear s1 s2 r1 r2
 refine enter cfV puV Tryz.func201 rfl rfl (by kernel_rfl) rfl ?_ ?_
 ·simp only [go_sem, ↓tfi, ↓fti, ↓reduceIte, Sd.cs, Nd.cs, zNd, zTy, Int.reduceEq, decide_true, decide_false]
 ·simp only [go_sem, ↓tfi, ↓fti, ↓reduceIte, Sd.cs, Nd.cs, zNd, zTy, Int.reduceEq, decide_true, decide_false]
  refine cvl ((hB m (.inl rfl)).mono ?_)
  clear hB
  rintro r H' m1 hm1 ⟨l1, rfl, rfl⟩
  simp only [go_sem, ↓tfi, ↓fti, ↓reduceIte, Sd.cs, Nd.cs, zNd, zTy, Int.reduceEq, decide_true, decide_false]
  refine ⟨fun b1 => cvl ((hA m1 l1).mono ?_), fun b1 => ?_⟩
  ·clear hA
   rintro r H' m2 hm2 ⟨l2', rfl, rfl⟩
   have lm2 := leM_tr l1 l2'
   simp only [go_sem, ↓tfi, ↓fti, ↓reduceIte, Sd.cs, Nd.cs, zNd, zTy, Int.reduceEq, decide_true, decide_false]
   refine ⟨fun b2 => ?_, fun b2 => ?_⟩
   ·refine cvl ((FnH_den (hX m2 lm2) (fun V => rfl)).mono ?_)
    clear hX
    rintro r H' w1 hw1 ⟨lw1, rfl, rfl⟩
    simp only [go_sem, ↓tfi, ↓fti, ↓reduceIte, Sd.cs, Nd.cs, zNd, zTy, Int.reduceEq, decide_true, decide_false]
    refine ⟨fun c1 => ?_, fun c1 => ?_⟩
    ·refine cvl ((FnH_den (hQ w1 (leM_tr lm2 lw1)) (fun V => rfl)).mono ?_)
     clear hQ
     rintro r H' w2 hw2 ⟨lw2, rfl, rfl⟩
     simp only [go_sem, ↓tfi, ↓fti, ↓reduceIte, Sd.cs, Nd.cs, zNd, zTy, Int.reduceEq, decide_true, decide_false]
     refine ⟨leM_tr (leM_tr lm2 lw1) lw2, ?_⟩
     rw [e0, hBB, b1, b2, c1]
     rfl
    ·refine ⟨(leM_tr lm2 lw1), ?_⟩
     rw [e0, hBB, b1, b2, c1]
     rfl
   ·refine ⟨lm2, ?_⟩
    rw [e0, hBB, b1, b2]
    rfl
  ·clear hA
   refine ⟨l1, ?_⟩
   rw [e0, hBB, b1]
   rfl
theorem vst5 (nm : List UInt8) (ty : Ty) (tN eN : Nd) (a : Option Addr) (l cp : Nat) (b : Option Addr) (l2 cp2 : Nat) (tg ex : Ex) (body alt : List St) (xs ys : List Value) (m : Mem) (hg : Glob m)
  (htg : exRep m tg tN.cs) (hex : exRep m ex eN.cs) (hl : l = body.length) (hcp : l ≤ cp) (hl2 : l2 = alt.length) (hcp2 : l2 ≤ cp2) (hok : StOk 5 nm ty body.length alt.length) (r1 : Rds m a l 23 xs) (r2 : Rds m b l2 23 ys) (s1 : stsRep m body xs) (s2 : stsRep m alt ys) (B1 B2 B V : Bool)
  (hB : ∀ m', leM m m' → Ans 142 [.v (.slice a l cp), .v (.bool false)] m' (.bool B1)) (hA : ∀ m', leM m m' → Ans 142 [.v (.slice b l2 cp2), .v (.bool false)] m' (.bool B2)) (hBB : B = (B1 && B2))
  (e0 : V = ((B && validE ex) && eqS (St.mk 5 nm ty tg ex body alt) (St.mk 5 [] zTy zE ex body []))) : Ans 201 [.v (.agg ⟨Sd.cs ⟨5, nm, ty, tN, eN, a, l, cp, b, l2, cp2⟩⟩)] m (.bool V) := by
 have hQ : ∀ m', leM m m' → Ans 236 [.v (.agg ⟨Sd.cs ⟨5, nm, ty, tN, eN, a, l, cp, b, l2, cp2⟩⟩), .v (.agg ⟨Sd.cs ⟨5, [], zTy, zNd, eN, a, l, cp, none, 0, 0⟩⟩)] m' (.bool (eqS (St.mk 5 nm ty tg ex body alt) (St.mk 5 [] zTy zE ex body []))) := fun m' hle =>
  eqS_all _ _ _ _ _ m' (Nnr _) (st_mk (m := m') (⟨5, nm, ty, tN, eN, a, l, cp, b, l2, cp2⟩ : Sd) (exRep_upM hle htg) (exRep_upM hle hex) hl hcp hl2 hcp2 hok (Rds_upM hle r1) (Rds_upM hle r2) (stsRep_upM hle s1) (stsRep_upM hle s2))
   (st_mk (m := m') (⟨5, [], zTy, zNd, eN, a, l, cp, none, 0, 0⟩ : Sd) z_rep (exRep_upM hle hex) hl hcp rfl (Nnr _) ⟨hok.k, Nat.zero_le _, z_ok, hok.l, Nat.zero_le _⟩ (Rds_upM hle r1) Rds_nil (stsRep_upM hle s1) sts_nil )
 have hX := fun m' (hle : leM m m') => valid_all _ ex eN.cs m' (Nnr _) (hg.upM hle) (exRep_upM hle hex)
 clear s1 s2 r1 r2
 refine enter cfV puV Tryz.func201 rfl rfl (by kernel_rfl) rfl ?_ ?_
 ·simp only [go_sem, ↓tfi, ↓fti, ↓reduceIte, Sd.cs, Nd.cs, zNd, zTy, Int.reduceEq, decide_true, decide_false]
 ·simp only [go_sem, ↓tfi, ↓fti, ↓reduceIte, Sd.cs, Nd.cs, zNd, zTy, Int.reduceEq, decide_true, decide_false]
  refine cvl ((hB m (.inl rfl)).mono ?_)
  clear hB
  rintro r H' m1 hm1 ⟨l1, rfl, rfl⟩
  simp only [go_sem, ↓tfi, ↓fti, ↓reduceIte, Sd.cs, Nd.cs, zNd, zTy, Int.reduceEq, decide_true, decide_false]
  refine ⟨fun b1 => cvl ((hA m1 l1).mono ?_), fun b1 => ?_⟩
  ·clear hA
   rintro r H' m2 hm2 ⟨l2', rfl, rfl⟩
   have lm2 := leM_tr l1 l2'
   simp only [go_sem, ↓tfi, ↓fti, ↓reduceIte, Sd.cs, Nd.cs, zNd, zTy, Int.reduceEq, decide_true, decide_false]
   refine ⟨fun b2 => ?_, fun b2 => ?_⟩
   ·refine cvl ((FnH_den (hX m2 lm2) (fun V => rfl)).mono ?_)
    clear hX
    rintro r H' w1 hw1 ⟨lw1, rfl, rfl⟩
    simp only [go_sem, ↓tfi, ↓fti, ↓reduceIte, Sd.cs, Nd.cs, zNd, zTy, Int.reduceEq, decide_true, decide_false]
    refine ⟨fun c1 => ?_, fun c1 => ?_⟩
    ·refine cvl ((FnH_den (hQ w1 (leM_tr lm2 lw1)) (fun V => rfl)).mono ?_)
     clear hQ
     rintro r H' w2 hw2 ⟨lw2, rfl, rfl⟩
     simp only [go_sem, ↓tfi, ↓fti, ↓reduceIte, Sd.cs, Nd.cs, zNd, zTy, Int.reduceEq, decide_true, decide_false]
     refine ⟨leM_tr (leM_tr lm2 lw1) lw2, ?_⟩
     rw [e0, hBB, b1, b2, c1]
     rfl
    ·refine ⟨(leM_tr lm2 lw1), ?_⟩
     rw [e0, hBB, b1, b2, c1]
     rfl
   ·refine ⟨lm2, ?_⟩
    rw [e0, hBB, b1, b2]
    rfl
  ·clear hA
   refine ⟨l1, ?_⟩
   rw [e0, hBB, b1]
   rfl
theorem vst6 (nm : List UInt8) (ty : Ty) (tN eN : Nd) (a : Option Addr) (l cp : Nat) (b : Option Addr) (l2 cp2 : Nat) (tg ex : Ex) (body alt : List St) (xs ys : List Value) (m : Mem) (hg : Glob m)
  (htg : exRep m tg tN.cs) (hex : exRep m ex eN.cs) (hl : l = body.length) (hcp : l ≤ cp) (hl2 : l2 = alt.length) (hcp2 : l2 ≤ cp2) (hok : StOk 6 nm ty body.length alt.length) (r1 : Rds m a l 23 xs) (r2 : Rds m b l2 23 ys) (s1 : stsRep m body xs) (s2 : stsRep m alt ys) (B1 B2 B V : Bool)
  (hB : ∀ m', leM m m' → Ans 142 [.v (.slice a l cp), .v (.bool false)] m' (.bool B1)) (hA : ∀ m', leM m m' → Ans 142 [.v (.slice b l2 cp2), .v (.bool false)] m' (.bool B2)) (hBB : B = (B1 && B2))
  (e0 : V = ((emptyE ex || validE ex) && eqS (St.mk 6 nm ty tg ex body alt) (St.mk 6 [] zTy zE ex [] []))) : Ans 201 [.v (.agg ⟨Sd.cs ⟨6, nm, ty, tN, eN, a, l, cp, b, l2, cp2⟩⟩)] m (.bool V) := by
 have hQ : ∀ m', leM m m' → Ans 236 [.v (.agg ⟨Sd.cs ⟨6, nm, ty, tN, eN, a, l, cp, b, l2, cp2⟩⟩), .v (.agg ⟨Sd.cs ⟨6, [], zTy, zNd, eN, none, 0, 0, none, 0, 0⟩⟩)] m' (.bool (eqS (St.mk 6 nm ty tg ex body alt) (St.mk 6 [] zTy zE ex [] []))) := fun m' hle =>
  eqS_all _ _ _ _ _ m' (Nnr _) (st_mk (m := m') (⟨6, nm, ty, tN, eN, a, l, cp, b, l2, cp2⟩ : Sd) (exRep_upM hle htg) (exRep_upM hle hex) hl hcp hl2 hcp2 hok (Rds_upM hle r1) (Rds_upM hle r2) (stsRep_upM hle s1) (stsRep_upM hle s2))
   (st_mk (m := m') (⟨6, [], zTy, zNd, eN, none, 0, 0, none, 0, 0⟩ : Sd) z_rep (exRep_upM hle hex) rfl (Nnr _) rfl (Nnr _) ⟨hok.k, Nat.zero_le _, z_ok, Nat.zero_le _, Nat.zero_le _⟩ Rds_nil Rds_nil sts_nil sts_nil )
 have hX := fun m' (hle : leM m m') => valid_all _ ex eN.cs m' (Nnr _) (hg.upM hle) (exRep_upM hle hex)
 have hZ := fun m' (_ : leM m m') => empty_of hex m'
 clear s1 s2 r1 r2
 refine enter cfV puV Tryz.func201 rfl rfl (by kernel_rfl) rfl ?_ ?_
 ·simp only [go_sem, ↓tfi, ↓fti, ↓reduceIte, Sd.cs, Nd.cs, zNd, zTy, Int.reduceEq, decide_true, decide_false]
 ·simp only [go_sem, ↓tfi, ↓fti, ↓reduceIte, Sd.cs, Nd.cs, zNd, zTy, Int.reduceEq, decide_true, decide_false]
  refine cvl ((hB m (.inl rfl)).mono ?_)
  clear hB
  rintro r H' m1 hm1 ⟨l1, rfl, rfl⟩
  simp only [go_sem, ↓tfi, ↓fti, ↓reduceIte, Sd.cs, Nd.cs, zNd, zTy, Int.reduceEq, decide_true, decide_false]
  refine ⟨fun b1 => cvl ((hA m1 l1).mono ?_), fun b1 => ?_⟩
  ·clear hA
   rintro r H' m2 hm2 ⟨l2', rfl, rfl⟩
   have lm2 := leM_tr l1 l2'
   simp only [go_sem, ↓tfi, ↓fti, ↓reduceIte, Sd.cs, Nd.cs, zNd, zTy, Int.reduceEq, decide_true, decide_false]
   refine cvl ((FnH_den (hZ m2 lm2) (fun V => rfl)).mono ?_)
   clear hZ
   rintro r H' w1 hw1 ⟨lw1, rfl, rfl⟩
   simp only [go_sem, ↓tfi, ↓fti, ↓reduceIte, Sd.cs, Nd.cs, zNd, zTy, Int.reduceEq, decide_true, decide_false]
   refine ⟨fun c => ?_, fun c => ?_⟩
   ·refine cvl ((FnH_den (hX w1 (leM_tr lm2 lw1)) (fun V => rfl)).mono ?_)
    clear hX
    rintro r H' w2 hw2 ⟨lw2, rfl, rfl⟩
    simp only [go_sem, ↓tfi, ↓fti, ↓reduceIte, Sd.cs, Nd.cs, zNd, zTy, Int.reduceEq, decide_true, decide_false]
    refine ⟨fun c2 => ?_, fun c2 => ?_⟩
    ·refine cvl ((FnH_den (hQ w2 (leM_tr (leM_tr lm2 lw1) lw2)) (fun V => rfl)).mono ?_)
     clear hQ
     rintro r H' w3 hw3 ⟨lw3, rfl, rfl⟩
     simp only [go_sem, ↓tfi, ↓fti, ↓reduceIte, Sd.cs, Nd.cs, zNd, zTy, Int.reduceEq, decide_true, decide_false]
     refine ⟨leM_tr (leM_tr (leM_tr lm2 lw1) lw2) lw3, ?_⟩
     rw [e0, c, c2]
     rfl
    ·refine ⟨(leM_tr (leM_tr lm2 lw1) lw2), ?_⟩
     rw [e0, c, c2]
     rfl
   ·refine cvl ((FnH_den (hQ w1 (leM_tr lm2 lw1)) (fun V => rfl)).mono ?_)
    clear hQ
    rintro r H' w4 hw4 ⟨lw4, rfl, rfl⟩
    simp only [go_sem, ↓tfi, ↓fti, ↓reduceIte, Sd.cs, Nd.cs, zNd, zTy, Int.reduceEq, decide_true, decide_false]
    refine ⟨leM_tr (leM_tr lm2 lw1) lw4, ?_⟩
    rw [e0, c]
    rfl
  ·clear hA
   refine cvl ((FnH_den (hZ m1 l1) (fun V => rfl)).mono ?_)
   clear hZ
   rintro r H' w5 hw5 ⟨lw5, rfl, rfl⟩
   simp only [go_sem, ↓tfi, ↓fti, ↓reduceIte, Sd.cs, Nd.cs, zNd, zTy, Int.reduceEq, decide_true, decide_false]
   refine ⟨fun c => ?_, fun c => ?_⟩
   ·refine cvl ((FnH_den (hX w5 (leM_tr l1 lw5)) (fun V => rfl)).mono ?_)
    clear hX
    rintro r H' w6 hw6 ⟨lw6, rfl, rfl⟩
    simp only [go_sem, ↓tfi, ↓fti, ↓reduceIte, Sd.cs, Nd.cs, zNd, zTy, Int.reduceEq, decide_true, decide_false]
    refine ⟨fun c6 => ?_, fun c6 => ?_⟩
    ·refine cvl ((FnH_den (hQ w6 (leM_tr (leM_tr l1 lw5) lw6)) (fun V => rfl)).mono ?_)
     clear hQ
     rintro r H' w7 hw7 ⟨lw7, rfl, rfl⟩
     simp only [go_sem, ↓tfi, ↓fti, ↓reduceIte, Sd.cs, Nd.cs, zNd, zTy, Int.reduceEq, decide_true, decide_false]
     refine ⟨leM_tr (leM_tr (leM_tr l1 lw5) lw6) lw7, ?_⟩
     rw [e0, c, c6]
     rfl
    ·refine ⟨(leM_tr (leM_tr l1 lw5) lw6), ?_⟩
     rw [e0, c, c6]
     rfl
   ·refine cvl ((FnH_den (hQ w5 (leM_tr l1 lw5)) (fun V => rfl)).mono ?_)
    clear hQ
    rintro r H' w8 hw8 ⟨lw8, rfl, rfl⟩
    simp only [go_sem, ↓tfi, ↓fti, ↓reduceIte, Sd.cs, Nd.cs, zNd, zTy, Int.reduceEq, decide_true, decide_false]
    refine ⟨leM_tr (leM_tr l1 lw5) lw8, ?_⟩
    rw [e0, c]
    rfl
theorem vst7 (nm : List UInt8) (ty : Ty) (tN eN : Nd) (a : Option Addr) (l cp : Nat) (b : Option Addr) (l2 cp2 : Nat) (tg ex : Ex) (body alt : List St) (xs ys : List Value) (m : Mem) (hg : Glob m)
  (htg : exRep m tg tN.cs) (hex : exRep m ex eN.cs) (hl : l = body.length) (hcp : l ≤ cp) (hl2 : l2 = alt.length) (hcp2 : l2 ≤ cp2) (hok : StOk 7 nm ty body.length alt.length) (r1 : Rds m a l 23 xs) (r2 : Rds m b l2 23 ys) (s1 : stsRep m body xs) (s2 : stsRep m alt ys) (B1 B2 B V : Bool)
  (hB : ∀ m', leM m m' → Ans 142 [.v (.slice a l cp), .v (.bool false)] m' (.bool B1)) (hA : ∀ m', leM m m' → Ans 142 [.v (.slice b l2 cp2), .v (.bool false)] m' (.bool B2)) (hBB : B = (B1 && B2))
  (e0 : V = (validE ex && eqS (St.mk 7 nm ty tg ex body alt) (St.mk 7 [] zTy zE ex [] []))) : Ans 201 [.v (.agg ⟨Sd.cs ⟨7, nm, ty, tN, eN, a, l, cp, b, l2, cp2⟩⟩)] m (.bool V) := by
 have hQ : ∀ m', leM m m' → Ans 236 [.v (.agg ⟨Sd.cs ⟨7, nm, ty, tN, eN, a, l, cp, b, l2, cp2⟩⟩), .v (.agg ⟨Sd.cs ⟨7, [], zTy, zNd, eN, none, 0, 0, none, 0, 0⟩⟩)] m' (.bool (eqS (St.mk 7 nm ty tg ex body alt) (St.mk 7 [] zTy zE ex [] []))) := fun m' hle =>
  eqS_all _ _ _ _ _ m' (Nnr _) (st_mk (m := m') (⟨7, nm, ty, tN, eN, a, l, cp, b, l2, cp2⟩ : Sd) (exRep_upM hle htg) (exRep_upM hle hex) hl hcp hl2 hcp2 hok (Rds_upM hle r1) (Rds_upM hle r2) (stsRep_upM hle s1) (stsRep_upM hle s2))
   (st_mk (m := m') (⟨7, [], zTy, zNd, eN, none, 0, 0, none, 0, 0⟩ : Sd) z_rep (exRep_upM hle hex) rfl (Nnr _) rfl (Nnr _) ⟨hok.k, Nat.zero_le _, z_ok, Nat.zero_le _, Nat.zero_le _⟩ Rds_nil Rds_nil sts_nil sts_nil )
 have hX := fun m' (hle : leM m m') => valid_all _ ex eN.cs m' (Nnr _) (hg.upM hle) (exRep_upM hle hex)
 clear s1 s2 r1 r2
 refine enter cfV puV Tryz.func201 rfl rfl (by kernel_rfl) rfl ?_ ?_
 ·simp only [go_sem, ↓tfi, ↓fti, ↓reduceIte, Sd.cs, Nd.cs, zNd, zTy, Int.reduceEq, decide_true, decide_false]
 ·simp only [go_sem, ↓tfi, ↓fti, ↓reduceIte, Sd.cs, Nd.cs, zNd, zTy, Int.reduceEq, decide_true, decide_false]
  refine cvl ((hB m (.inl rfl)).mono ?_)
  clear hB
  rintro r H' m1 hm1 ⟨l1, rfl, rfl⟩
  simp only [go_sem, ↓tfi, ↓fti, ↓reduceIte, Sd.cs, Nd.cs, zNd, zTy, Int.reduceEq, decide_true, decide_false]
  refine ⟨fun b1 => cvl ((hA m1 l1).mono ?_), fun b1 => ?_⟩
  ·clear hA
   rintro r H' m2 hm2 ⟨l2', rfl, rfl⟩
   have lm2 := leM_tr l1 l2'
   simp only [go_sem, ↓tfi, ↓fti, ↓reduceIte, Sd.cs, Nd.cs, zNd, zTy, Int.reduceEq, decide_true, decide_false]
   refine cvl ((FnH_den (hX m2 lm2) (fun V => rfl)).mono ?_)
   clear hX
   rintro r H' w1 hw1 ⟨lw1, rfl, rfl⟩
   simp only [go_sem, ↓tfi, ↓fti, ↓reduceIte, Sd.cs, Nd.cs, zNd, zTy, Int.reduceEq, decide_true, decide_false]
   refine ⟨fun c1 => ?_, fun c1 => ?_⟩
   ·refine cvl ((FnH_den (hQ w1 (leM_tr lm2 lw1)) (fun V => rfl)).mono ?_)
    clear hQ
    rintro r H' w2 hw2 ⟨lw2, rfl, rfl⟩
    simp only [go_sem, ↓tfi, ↓fti, ↓reduceIte, Sd.cs, Nd.cs, zNd, zTy, Int.reduceEq, decide_true, decide_false]
    refine ⟨leM_tr (leM_tr lm2 lw1) lw2, ?_⟩
    rw [e0, c1]
    rfl
   ·refine ⟨(leM_tr lm2 lw1), ?_⟩
    rw [e0, c1]
    rfl
  ·clear hA
   refine cvl ((FnH_den (hX m1 l1) (fun V => rfl)).mono ?_)
   clear hX
   rintro r H' w3 hw3 ⟨lw3, rfl, rfl⟩
   simp only [go_sem, ↓tfi, ↓fti, ↓reduceIte, Sd.cs, Nd.cs, zNd, zTy, Int.reduceEq, decide_true, decide_false]
   refine ⟨fun c3 => ?_, fun c3 => ?_⟩
   ·refine cvl ((FnH_den (hQ w3 (leM_tr l1 lw3)) (fun V => rfl)).mono ?_)
    clear hQ
    rintro r H' w4 hw4 ⟨lw4, rfl, rfl⟩
    simp only [go_sem, ↓tfi, ↓fti, ↓reduceIte, Sd.cs, Nd.cs, zNd, zTy, Int.reduceEq, decide_true, decide_false]
    refine ⟨leM_tr (leM_tr l1 lw3) lw4, ?_⟩
    rw [e0, c3]
    rfl
   ·refine ⟨(leM_tr l1 lw3), ?_⟩
    rw [e0, c3]
    rfl
theorem vst8 (nm : List UInt8) (ty : Ty) (tN eN : Nd) (a : Option Addr) (l cp : Nat) (b : Option Addr) (l2 cp2 : Nat) (tg ex : Ex) (body alt : List St) (xs ys : List Value) (m : Mem) (hg : Glob m)
  (htg : exRep m tg tN.cs) (hex : exRep m ex eN.cs) (hl : l = body.length) (hcp : l ≤ cp) (hl2 : l2 = alt.length) (hcp2 : l2 ≤ cp2) (hok : StOk 8 nm ty body.length alt.length) (r1 : Rds m a l 23 xs) (r2 : Rds m b l2 23 ys) (s1 : stsRep m body xs) (s2 : stsRep m alt ys) (B1 B2 B V : Bool)
  (hB : ∀ m', leM m m' → Ans 142 [.v (.slice a l cp), .v (.bool false)] m' (.bool B1)) (hA : ∀ m', leM m m' → Ans 142 [.v (.slice b l2 cp2), .v (.bool false)] m' (.bool B2)) (hBB : B = (B1 && B2))
  (e0 : V = ((B && identL nm && valueTy ty.dim ty.base ty.name) && eqS (St.mk 8 nm ty tg ex body alt) (St.mk 8 nm ty zE zE body alt))) : Ans 201 [.v (.agg ⟨Sd.cs ⟨8, nm, ty, tN, eN, a, l, cp, b, l2, cp2⟩⟩)] m (.bool V) := by
 have hQ : ∀ m', leM m m' → Ans 236 [.v (.agg ⟨Sd.cs ⟨8, nm, ty, tN, eN, a, l, cp, b, l2, cp2⟩⟩), .v (.agg ⟨Sd.cs ⟨8, nm, ty, zNd, zNd, a, l, cp, b, l2, cp2⟩⟩)] m' (.bool (eqS (St.mk 8 nm ty tg ex body alt) (St.mk 8 nm ty zE zE body alt))) := fun m' hle =>
  eqS_all _ _ _ _ _ m' (Nnr _) (st_mk (m := m') (⟨8, nm, ty, tN, eN, a, l, cp, b, l2, cp2⟩ : Sd) (exRep_upM hle htg) (exRep_upM hle hex) hl hcp hl2 hcp2 hok (Rds_upM hle r1) (Rds_upM hle r2) (stsRep_upM hle s1) (stsRep_upM hle s2))
   (st_mk (m := m') (⟨8, nm, ty, zNd, zNd, a, l, cp, b, l2, cp2⟩ : Sd) z_rep z_rep hl hcp hl2 hcp2 ⟨hok.k, hok.nm, hok.ty, hok.l, hok.l2⟩ (Rds_upM hle r1) (Rds_upM hle r2) (stsRep_upM hle s1) (stsRep_upM hle s2) )
 have hBL1 : BL nm := Nat.le_trans hok.nm (by decide)
 have hBL2 : BL ty.name := Nat.le_trans hok.ty.2.2 (by decide)
 clear s1 s2 r1 r2
 refine enter cfV puV Tryz.func201 rfl rfl (by kernel_rfl) rfl ?_ ?_
 ·simp only [go_sem, ↓tfi, ↓fti, ↓reduceIte, Sd.cs, Nd.cs, zNd, zTy, Int.reduceEq, decide_true, decide_false]
 ·simp only [go_sem, ↓tfi, ↓fti, ↓reduceIte, Sd.cs, Nd.cs, zNd, zTy, Int.reduceEq, decide_true, decide_false]
  refine cvl ((hB m (.inl rfl)).mono ?_)
  clear hB
  rintro r H' m1 hm1 ⟨l1, rfl, rfl⟩
  simp only [go_sem, ↓tfi, ↓fti, ↓reduceIte, Sd.cs, Nd.cs, zNd, zTy, Int.reduceEq, decide_true, decide_false]
  refine ⟨fun b1 => cvl ((hA m1 l1).mono ?_), fun b1 => ?_⟩
  ·clear hA
   rintro r H' m2 hm2 ⟨l2', rfl, rfl⟩
   have lm2 := leM_tr l1 l2'
   simp only [go_sem, ↓tfi, ↓fti, ↓reduceIte, Sd.cs, Nd.cs, zNd, zTy, Int.reduceEq, decide_true, decide_false]
   refine ⟨fun _ => hBL1, fun _ => hBL2, fun c => ?_, fun c => ?_⟩
   ·refine cvl ((FnH_den (hQ m2 lm2) (fun V => rfl)).mono ?_)
    clear hQ
    rintro r H' w1 hw1 ⟨lw1, rfl, rfl⟩
    simp only [go_sem, ↓tfi, ↓fti, ↓reduceIte, Sd.cs, Nd.cs, zNd, zTy, Int.reduceEq, decide_true, decide_false]
    refine ⟨leM_tr lm2 lw1, ?_⟩
    rw [e0, hBB, b1, c.1.1, c.1.2, c.2]
    rfl
   ·refine ⟨lm2, ?_⟩
    rw [e0, hBB, b1]
    rcases c with (c | c) | c <;> simp [c]
  ·clear hA
   refine ⟨l1, ?_⟩
   rw [e0, hBB, b1]
   rfl
theorem vst9 (nm : List UInt8) (ty : Ty) (tN eN : Nd) (a : Option Addr) (l cp : Nat) (b : Option Addr) (l2 cp2 : Nat) (tg ex : Ex) (body alt : List St) (xs ys : List Value) (m : Mem) (hg : Glob m)
  (htg : exRep m tg tN.cs) (hex : exRep m ex eN.cs) (hl : l = body.length) (hcp : l ≤ cp) (hl2 : l2 = alt.length) (hcp2 : l2 ≤ cp2) (hok : StOk 9 nm ty body.length alt.length) (r1 : Rds m a l 23 xs) (r2 : Rds m b l2 23 ys) (s1 : stsRep m body xs) (s2 : stsRep m alt ys) (B1 B2 B V : Bool)
  (hB : ∀ m', leM m m' → Ans 142 [.v (.slice a l cp), .v (.bool false)] m' (.bool B1)) (hA : ∀ m', leM m m' → Ans 142 [.v (.slice b l2 cp2), .v (.bool false)] m' (.bool B2)) (hBB : B = (B1 && B2))
  (e0 : V = ((B && validE ex) && eqS (St.mk 9 nm ty tg ex body alt) (St.mk 9 [] zTy zE ex body []))) : Ans 201 [.v (.agg ⟨Sd.cs ⟨9, nm, ty, tN, eN, a, l, cp, b, l2, cp2⟩⟩)] m (.bool V) := by
 have hQ : ∀ m', leM m m' → Ans 236 [.v (.agg ⟨Sd.cs ⟨9, nm, ty, tN, eN, a, l, cp, b, l2, cp2⟩⟩), .v (.agg ⟨Sd.cs ⟨9, [], zTy, zNd, eN, a, l, cp, none, 0, 0⟩⟩)] m' (.bool (eqS (St.mk 9 nm ty tg ex body alt) (St.mk 9 [] zTy zE ex body []))) := fun m' hle =>
  eqS_all _ _ _ _ _ m' (Nnr _) (st_mk (m := m') (⟨9, nm, ty, tN, eN, a, l, cp, b, l2, cp2⟩ : Sd) (exRep_upM hle htg) (exRep_upM hle hex) hl hcp hl2 hcp2 hok (Rds_upM hle r1) (Rds_upM hle r2) (stsRep_upM hle s1) (stsRep_upM hle s2))
   (st_mk (m := m') (⟨9, [], zTy, zNd, eN, a, l, cp, none, 0, 0⟩ : Sd) z_rep (exRep_upM hle hex) hl hcp rfl (Nnr _) ⟨hok.k, Nat.zero_le _, z_ok, hok.l, Nat.zero_le _⟩ (Rds_upM hle r1) Rds_nil (stsRep_upM hle s1) sts_nil )
 have hX := fun m' (hle : leM m m') => valid_all _ ex eN.cs m' (Nnr _) (hg.upM hle) (exRep_upM hle hex)
 clear s1 s2 r1 r2
 refine enter cfV puV Tryz.func201 rfl rfl (by kernel_rfl) rfl ?_ ?_
 ·simp only [go_sem, ↓tfi, ↓fti, ↓reduceIte, Sd.cs, Nd.cs, zNd, zTy, Int.reduceEq, decide_true, decide_false]
 ·simp only [go_sem, ↓tfi, ↓fti, ↓reduceIte, Sd.cs, Nd.cs, zNd, zTy, Int.reduceEq, decide_true, decide_false]
  refine cvl ((hB m (.inl rfl)).mono ?_)
  clear hB
  rintro r H' m1 hm1 ⟨l1, rfl, rfl⟩
  simp only [go_sem, ↓tfi, ↓fti, ↓reduceIte, Sd.cs, Nd.cs, zNd, zTy, Int.reduceEq, decide_true, decide_false]
  refine ⟨fun b1 => cvl ((hA m1 l1).mono ?_), fun b1 => ?_⟩
  ·clear hA
   rintro r H' m2 hm2 ⟨l2', rfl, rfl⟩
   have lm2 := leM_tr l1 l2'
   simp only [go_sem, ↓tfi, ↓fti, ↓reduceIte, Sd.cs, Nd.cs, zNd, zTy, Int.reduceEq, decide_true, decide_false]
   refine ⟨fun b2 => ?_, fun b2 => ?_⟩
   ·refine cvl ((FnH_den (hX m2 lm2) (fun V => rfl)).mono ?_)
    clear hX
    rintro r H' w1 hw1 ⟨lw1, rfl, rfl⟩
    simp only [go_sem, ↓tfi, ↓fti, ↓reduceIte, Sd.cs, Nd.cs, zNd, zTy, Int.reduceEq, decide_true, decide_false]
    refine ⟨fun c1 => ?_, fun c1 => ?_⟩
    ·refine cvl ((FnH_den (hQ w1 (leM_tr lm2 lw1)) (fun V => rfl)).mono ?_)
     clear hQ
     rintro r H' w2 hw2 ⟨lw2, rfl, rfl⟩
     simp only [go_sem, ↓tfi, ↓fti, ↓reduceIte, Sd.cs, Nd.cs, zNd, zTy, Int.reduceEq, decide_true, decide_false]
     refine ⟨leM_tr (leM_tr lm2 lw1) lw2, ?_⟩
     rw [e0, hBB, b1, b2, c1]
     rfl
    ·refine ⟨(leM_tr lm2 lw1), ?_⟩
     rw [e0, hBB, b1, b2, c1]
     rfl
   ·refine ⟨lm2, ?_⟩
    rw [e0, hBB, b1, b2]
    rfl
  ·clear hA
   refine ⟨l1, ?_⟩
   rw [e0, hBB, b1]
   rfl
theorem vst10 (nm : List UInt8) (ty : Ty) (tN eN : Nd) (a : Option Addr) (l cp : Nat) (b : Option Addr) (l2 cp2 : Nat) (tg ex : Ex) (body alt : List St) (xs ys : List Value) (m : Mem) (hg : Glob m)
  (htg : exRep m tg tN.cs) (hex : exRep m ex eN.cs) (hl : l = body.length) (hcp : l ≤ cp) (hl2 : l2 = alt.length) (hcp2 : l2 ≤ cp2) (hok : StOk 10 nm ty body.length alt.length) (r1 : Rds m a l 23 xs) (r2 : Rds m b l2 23 ys) (s1 : stsRep m body xs) (s2 : stsRep m alt ys) (B1 B2 B V : Bool)
  (hB : ∀ m', leM m m' → Ans 142 [.v (.slice a l cp), .v (.bool false)] m' (.bool B1)) (hA : ∀ m', leM m m' → Ans 142 [.v (.slice b l2 cp2), .v (.bool false)] m' (.bool B2)) (hBB : B = (B1 && B2))
  (e0 : V = (B && eqS (St.mk 10 nm ty tg ex body alt) (St.mk 10 [] zTy zE zE body []))) : Ans 201 [.v (.agg ⟨Sd.cs ⟨10, nm, ty, tN, eN, a, l, cp, b, l2, cp2⟩⟩)] m (.bool V) := by
 have hQ : ∀ m', leM m m' → Ans 236 [.v (.agg ⟨Sd.cs ⟨10, nm, ty, tN, eN, a, l, cp, b, l2, cp2⟩⟩), .v (.agg ⟨Sd.cs ⟨10, [], zTy, zNd, zNd, a, l, cp, none, 0, 0⟩⟩)] m' (.bool (eqS (St.mk 10 nm ty tg ex body alt) (St.mk 10 [] zTy zE zE body []))) := fun m' hle =>
  eqS_all _ _ _ _ _ m' (Nnr _) (st_mk (m := m') (⟨10, nm, ty, tN, eN, a, l, cp, b, l2, cp2⟩ : Sd) (exRep_upM hle htg) (exRep_upM hle hex) hl hcp hl2 hcp2 hok (Rds_upM hle r1) (Rds_upM hle r2) (stsRep_upM hle s1) (stsRep_upM hle s2))
   (st_mk (m := m') (⟨10, [], zTy, zNd, zNd, a, l, cp, none, 0, 0⟩ : Sd) z_rep z_rep hl hcp rfl (Nnr _) ⟨hok.k, Nat.zero_le _, z_ok, hok.l, Nat.zero_le _⟩ (Rds_upM hle r1) Rds_nil (stsRep_upM hle s1) sts_nil )
 clear s1 s2 r1 r2
 refine enter cfV puV Tryz.func201 rfl rfl (by kernel_rfl) rfl ?_ ?_
 ·simp only [go_sem, ↓tfi, ↓fti, ↓reduceIte, Sd.cs, Nd.cs, zNd, zTy, Int.reduceEq, decide_true, decide_false]
 ·simp only [go_sem, ↓tfi, ↓fti, ↓reduceIte, Sd.cs, Nd.cs, zNd, zTy, Int.reduceEq, decide_true, decide_false]
  refine cvl ((hB m (.inl rfl)).mono ?_)
  clear hB
  rintro r H' m1 hm1 ⟨l1, rfl, rfl⟩
  simp only [go_sem, ↓tfi, ↓fti, ↓reduceIte, Sd.cs, Nd.cs, zNd, zTy, Int.reduceEq, decide_true, decide_false]
  refine ⟨fun b1 => cvl ((hA m1 l1).mono ?_), fun b1 => ?_⟩
  ·clear hA
   rintro r H' m2 hm2 ⟨l2', rfl, rfl⟩
   have lm2 := leM_tr l1 l2'
   simp only [go_sem, ↓tfi, ↓fti, ↓reduceIte, Sd.cs, Nd.cs, zNd, zTy, Int.reduceEq, decide_true, decide_false]
   refine ⟨fun b2 => ?_, fun b2 => ?_⟩
   ·refine cvl ((FnH_den (hQ m2 lm2) (fun V => rfl)).mono ?_)
    clear hQ
    rintro r H' w1 hw1 ⟨lw1, rfl, rfl⟩
    simp only [go_sem, ↓tfi, ↓fti, ↓reduceIte, Sd.cs, Nd.cs, zNd, zTy, Int.reduceEq, decide_true, decide_false]
    refine ⟨leM_tr lm2 lw1, ?_⟩
    rw [e0, hBB, b1, b2]
    rfl
   ·refine ⟨lm2, ?_⟩
    rw [e0, hBB, b1, b2]
    rfl
  ·clear hA
   refine ⟨l1, ?_⟩
   rw [e0, hBB, b1]
   rfl
theorem vst11 (nm : List UInt8) (ty : Ty) (tN eN : Nd) (a : Option Addr) (l cp : Nat) (b : Option Addr) (l2 cp2 : Nat) (tg ex : Ex) (body alt : List St) (xs ys : List Value) (m : Mem) (hg : Glob m)
  (htg : exRep m tg tN.cs) (hex : exRep m ex eN.cs) (hl : l = body.length) (hcp : l ≤ cp) (hl2 : l2 = alt.length) (hcp2 : l2 ≤ cp2) (hok : StOk 11 nm ty body.length alt.length) (r1 : Rds m a l 23 xs) (r2 : Rds m b l2 23 ys) (s1 : stsRep m body xs) (s2 : stsRep m alt ys) (B1 B2 B V : Bool)
  (hB : ∀ m', leM m m' → Ans 142 [.v (.slice a l cp), .v (.bool false)] m' (.bool B1)) (hA : ∀ m', leM m m' → Ans 142 [.v (.slice b l2 cp2), .v (.bool false)] m' (.bool B2)) (hBB : B = (B1 && B2))
  (e0 : V = (superE ex && eqS (St.mk 11 nm ty tg ex body alt) (St.mk 11 [] zTy zE ex [] []))) : Ans 201 [.v (.agg ⟨Sd.cs ⟨11, nm, ty, tN, eN, a, l, cp, b, l2, cp2⟩⟩)] m (.bool V) := by
 have hQ : ∀ m', leM m m' → Ans 236 [.v (.agg ⟨Sd.cs ⟨11, nm, ty, tN, eN, a, l, cp, b, l2, cp2⟩⟩), .v (.agg ⟨Sd.cs ⟨11, [], zTy, zNd, eN, none, 0, 0, none, 0, 0⟩⟩)] m' (.bool (eqS (St.mk 11 nm ty tg ex body alt) (St.mk 11 [] zTy zE ex [] []))) := fun m' hle =>
  eqS_all _ _ _ _ _ m' (Nnr _) (st_mk (m := m') (⟨11, nm, ty, tN, eN, a, l, cp, b, l2, cp2⟩ : Sd) (exRep_upM hle htg) (exRep_upM hle hex) hl hcp hl2 hcp2 hok (Rds_upM hle r1) (Rds_upM hle r2) (stsRep_upM hle s1) (stsRep_upM hle s2))
   (st_mk (m := m') (⟨11, [], zTy, zNd, eN, none, 0, 0, none, 0, 0⟩ : Sd) z_rep (exRep_upM hle hex) rfl (Nnr _) rfl (Nnr _) ⟨hok.k, Nat.zero_le _, z_ok, Nat.zero_le _, Nat.zero_le _⟩ Rds_nil Rds_nil sts_nil sts_nil )
 have hX := fun m' (hle : leM m m') => super_spec ex eN.cs m' (hg.upM hle) (exRep_upM hle hex)
 clear s1 s2 r1 r2
 refine enter cfV puV Tryz.func201 rfl rfl (by kernel_rfl) rfl ?_ ?_
 ·simp only [go_sem, ↓tfi, ↓fti, ↓reduceIte, Sd.cs, Nd.cs, zNd, zTy, Int.reduceEq, decide_true, decide_false]
 ·simp only [go_sem, ↓tfi, ↓fti, ↓reduceIte, Sd.cs, Nd.cs, zNd, zTy, Int.reduceEq, decide_true, decide_false]
  refine cvl ((hB m (.inl rfl)).mono ?_)
  clear hB
  rintro r H' m1 hm1 ⟨l1, rfl, rfl⟩
  simp only [go_sem, ↓tfi, ↓fti, ↓reduceIte, Sd.cs, Nd.cs, zNd, zTy, Int.reduceEq, decide_true, decide_false]
  refine ⟨fun b1 => cvl ((hA m1 l1).mono ?_), fun b1 => ?_⟩
  ·clear hA
   rintro r H' m2 hm2 ⟨l2', rfl, rfl⟩
   have lm2 := leM_tr l1 l2'
   simp only [go_sem, ↓tfi, ↓fti, ↓reduceIte, Sd.cs, Nd.cs, zNd, zTy, Int.reduceEq, decide_true, decide_false]
   refine cvl ((FnH_den (hX m2 lm2) (fun V => rfl)).mono ?_)
   clear hX
   rintro r H' w1 hw1 ⟨lw1, rfl, rfl⟩
   simp only [go_sem, ↓tfi, ↓fti, ↓reduceIte, Sd.cs, Nd.cs, zNd, zTy, Int.reduceEq, decide_true, decide_false]
   refine ⟨fun c1 => ?_, fun c1 => ?_⟩
   ·refine cvl ((FnH_den (hQ w1 (leM_tr lm2 lw1)) (fun V => rfl)).mono ?_)
    clear hQ
    rintro r H' w2 hw2 ⟨lw2, rfl, rfl⟩
    simp only [go_sem, ↓tfi, ↓fti, ↓reduceIte, Sd.cs, Nd.cs, zNd, zTy, Int.reduceEq, decide_true, decide_false]
    refine ⟨leM_tr (leM_tr lm2 lw1) lw2, ?_⟩
    rw [e0, c1]
    rfl
   ·refine ⟨(leM_tr lm2 lw1), ?_⟩
    rw [e0, c1]
    rfl
  ·clear hA
   refine cvl ((FnH_den (hX m1 l1) (fun V => rfl)).mono ?_)
   clear hX
   rintro r H' w3 hw3 ⟨lw3, rfl, rfl⟩
   simp only [go_sem, ↓tfi, ↓fti, ↓reduceIte, Sd.cs, Nd.cs, zNd, zTy, Int.reduceEq, decide_true, decide_false]
   refine ⟨fun c3 => ?_, fun c3 => ?_⟩
   ·refine cvl ((FnH_den (hQ w3 (leM_tr l1 lw3)) (fun V => rfl)).mono ?_)
    clear hQ
    rintro r H' w4 hw4 ⟨lw4, rfl, rfl⟩
    simp only [go_sem, ↓tfi, ↓fti, ↓reduceIte, Sd.cs, Nd.cs, zNd, zTy, Int.reduceEq, decide_true, decide_false]
    refine ⟨leM_tr (leM_tr l1 lw3) lw4, ?_⟩
    rw [e0, c3]
    rfl
   ·refine ⟨(leM_tr l1 lw3), ?_⟩
    rw [e0, c3]
    rfl
theorem vst0 (k : Int) (nm : List UInt8) (ty : Ty) (tN eN : Nd) (a : Option Addr) (l cp : Nat) (b : Option Addr) (l2 cp2 : Nat) (m : Mem) (B1 B2 : Bool) (e : ∀ j : Int, 1 ≤ j → j ≤ 11 → (k = j) = False)
  (hB : ∀ m', leM m m' → Ans 142 [.v (.slice a l cp), .v (.bool false)] m' (.bool B1)) (hA : ∀ m', leM m m' → Ans 142 [.v (.slice b l2 cp2), .v (.bool false)] m' (.bool B2)) :
  Ans 201 [.v (.agg ⟨Sd.cs ⟨k, nm, ty, tN, eN, a, l, cp, b, l2, cp2⟩⟩)] m (.bool false) := by
 have e1 := e 1 (by decide) (by decide)
 have e2 := e 2 (by decide) (by decide)
 have e3 := e 3 (by decide) (by decide)
 have e4 := e 4 (by decide) (by decide)
 have e5 := e 5 (by decide) (by decide)
 have e6 := e 6 (by decide) (by decide)
 have e7 := e 7 (by decide) (by decide)
 have e8 := e 8 (by decide) (by decide)
 have e9 := e 9 (by decide) (by decide)
 have e10 := e 10 (by decide) (by decide)
 have e11 := e 11 (by decide) (by decide)
 refine enter cfV puV Tryz.func201 rfl rfl (by kernel_rfl) rfl ?_ ?_
 ·simp only [go_sem, ↓tfi, ↓fti, ↓reduceIte, Sd.cs, Nd.cs]
 ·simp only [go_sem, ↓tfi, ↓fti, ↓reduceIte, Sd.cs, Nd.cs]
  refine cvl ((hB m (.inl rfl)).mono ?_)
  clear hB
  rintro r H' m1 hm1 ⟨l1, rfl, rfl⟩
  simp only [go_sem, ↓tfi, ↓fti, ↓reduceIte, Sd.cs, Nd.cs, e1, e2, e3, e4, e5, e6, e7, e8, e9, e10, e11, decide_false]
  refine ⟨fun b1 => cvl ((hA m1 l1).mono ?_), fun b1 => l1⟩
  clear hA
  rintro r H' m2 hm2 ⟨l2', rfl, rfl⟩
  simp only [go_sem, ↓tfi, ↓fti, ↓reduceIte, Sd.cs, Nd.cs, e1, e2, e3, e4, e5, e6, e7, e8, e9, e10, e11, decide_false]
  exact leM_tr l1 l2'
theorem kinds_or {k : Int} : (k = 1 ∨ k = 2 ∨ k = 3 ∨ k = 4 ∨ k = 5 ∨ k = 6 ∨ k = 7 ∨ k = 8 ∨ k = 9 ∨ k = 10 ∨ k = 11) ∨ ∀ j : Int, 1 ≤ j → j ≤ 11 → (k = j) = False := by
 by_cases h : 1 ≤ k ∧ k ≤ 11
 ·left; omega
 ·right; intro j h1 h2; exact eq_false fun e => h (by omega)
theorem validS_all : ∀ (h : Nat) (e : St) (cs : List Value) (m : Mem), depthS e ≤ h → Glob m → stRep m e cs → Ans 201 [.v (.agg ⟨cs⟩)] m (.bool (validS e))
 | 0, .mk k nm ty tg ex body alt, cs, m, hd, _, _ => by simp [depthS] at hd
 | h + 1, .mk k nm ty tg ex body alt, cs, m, hd, hg, he => by
  obtain ⟨⟨k, nm, ty, tN, eN, a, l, cp, b, l2, cp2⟩, rfl, rfl, rfl, rfl, htg, hex, hl, hcp, hl2, hcp2, hok, xs, ys, r1, r2, s1, s2⟩ := st_parts he
  simp only [depthS] at hd
  simp only at htg hex hl hcp hl2 hcp2 hok r1 r2
  have hB := fun m' (hle : leM m m') => block_spec false body a l cp xs m' hl (Rds_upM hle r1) (stsRep_upM hle s1) (by rw [hl]; exact hok.l) fun e he cs m2 hle2 hrep => validS_all h e cs m2 (by have := depthSs_mem he; omega) (hg.upM (leM_tr hle hle2)) hrep
  have hA := fun m' (hle : leM m m') => block_spec false alt b l2 cp2 ys m' hl2 (Rds_upM hle r2) (stsRep_upM hle s2) (by rw [hl2]; exact hok.l2) fun e he cs m2 hle2 hrep => validS_all h e cs m2 (by have := depthSs_mem he; omega) (hg.upM (leM_tr hle hle2)) hrep
  simp only
  rcases kinds_or (k := k) with hk | hk
  ·rcases hk with rfl | rfl | rfl | rfl | rfl | rfl | rfl | rfl | rfl | rfl | rfl
   ·exact vst1 nm ty tN eN a l cp b l2 cp2 tg ex body alt xs ys m hg htg hex hl hcp hl2 hcp2 hok r1 r2 s1 s2 _ _ _ _ hB hA rfl (by simp only [validS, okStm, usedS, Int.reduceEq, or_false, or_true, false_or, true_or, if_true, if_false])
   ·exact vst2 nm ty tN eN a l cp b l2 cp2 tg ex body alt xs ys m hg htg hex hl hcp hl2 hcp2 hok r1 r2 s1 s2 _ _ _ _ hB hA rfl (by simp only [validS, okStm, usedS, Int.reduceEq, or_false, or_true, false_or, true_or, if_true, if_false])
   ·exact vst3 nm ty tN eN a l cp b l2 cp2 tg ex body alt xs ys m hg htg hex hl hcp hl2 hcp2 hok r1 r2 s1 s2 _ _ _ _ hB hA rfl (by simp only [validS, okStm, usedS, Int.reduceEq, or_false, or_true, false_or, true_or, if_true, if_false])
   ·exact vst4 nm ty tN eN a l cp b l2 cp2 tg ex body alt xs ys m hg htg hex hl hcp hl2 hcp2 hok r1 r2 s1 s2 _ _ _ _ hB hA rfl (by simp only [validS, okStm, usedS, Int.reduceEq, or_false, or_true, false_or, true_or, if_true, if_false])
   ·exact vst5 nm ty tN eN a l cp b l2 cp2 tg ex body alt xs ys m hg htg hex hl hcp hl2 hcp2 hok r1 r2 s1 s2 _ _ _ _ hB hA rfl (by simp only [validS, okStm, usedS, Int.reduceEq, or_false, or_true, false_or, true_or, if_true, if_false])
   ·exact vst6 nm ty tN eN a l cp b l2 cp2 tg ex body alt xs ys m hg htg hex hl hcp hl2 hcp2 hok r1 r2 s1 s2 _ _ _ _ hB hA rfl (by simp only [validS, okStm, usedS, Int.reduceEq, or_false, or_true, false_or, true_or, if_true, if_false])
   ·exact vst7 nm ty tN eN a l cp b l2 cp2 tg ex body alt xs ys m hg htg hex hl hcp hl2 hcp2 hok r1 r2 s1 s2 _ _ _ _ hB hA rfl (by simp only [validS, okStm, usedS, Int.reduceEq, or_false, or_true, false_or, true_or, if_true, if_false])
   ·exact vst8 nm ty tN eN a l cp b l2 cp2 tg ex body alt xs ys m hg htg hex hl hcp hl2 hcp2 hok r1 r2 s1 s2 _ _ _ _ hB hA rfl (by simp only [validS, okStm, usedS, Int.reduceEq, or_false, or_true, false_or, true_or, if_true, if_false])
   ·exact vst9 nm ty tN eN a l cp b l2 cp2 tg ex body alt xs ys m hg htg hex hl hcp hl2 hcp2 hok r1 r2 s1 s2 _ _ _ _ hB hA rfl (by simp only [validS, okStm, usedS, Int.reduceEq, or_false, or_true, false_or, true_or, if_true, if_false])
   ·exact vst10 nm ty tN eN a l cp b l2 cp2 tg ex body alt xs ys m hg htg hex hl hcp hl2 hcp2 hok r1 r2 s1 s2 _ _ _ _ hB hA rfl (by simp only [validS, okStm, usedS, Int.reduceEq, or_false, or_true, false_or, true_or, if_true, if_false])
   ·exact vst11 nm ty tN eN a l cp b l2 cp2 tg ex body alt xs ys m hg htg hex hl hcp hl2 hcp2 hok r1 r2 s1 s2 _ _ _ _ hB hA rfl (by simp only [validS, okStm, usedS, Int.reduceEq, or_false, or_true, false_or, true_or, if_true, if_false])
  ·have hv := vst0 k nm ty tN eN a l cp b l2 cp2 m _ _ hk hB hA
   have : validS (.mk k nm ty tg ex body alt) = false := by
    have e : ∀ j : Int, 1 ≤ j → j ≤ 11 → ¬ k = j := fun j h1 h2 h3 => by have := hk j h1 h2; rw [this] at h3; exact h3
    simp only [validS, okStm, hk 1 (by decide) (by decide), hk 2 (by decide) (by decide), hk 3 (by decide) (by decide), hk 4 (by decide) (by decide), hk 5 (by decide) (by decide), hk 6 (by decide) (by decide), hk 7 (by decide) (by decide), hk 8 (by decide) (by decide), hk 9 (by decide) (by decide), hk 10 (by decide) (by decide), hk 11 (by decide) (by decide), or_false, if_false, Bool.false_and]
   rw [this]
   exact hv
theorem block_all (sup : Bool) (l : List St) (a : Option Addr) (n c : Nat) (xs : List Value) (m : Mem) (hg : Glob m) (hl : n = l.length) (hr : Rds m a n 23 xs) (hs : stsRep m l xs) (hn : n ≤ big) :
  Ans 142 [.v (.slice a n c), .v (.bool sup)] m (.bool (blockL sup l)) :=
 block_spec sup l a n c xs m hl hr hs hn fun e _ cs m' hle hrep => validS_all _ e cs m' (Nnr _) (hg.upM hle) hrep
def hasB (fl m : Int) : Bool := !decide (bits .and .i64 fl m = 0)
def visL (fl : Int) : Bool := decide (bits .and .i64 fl 7 = 0) || decide (bits .and .i64 fl 7 = 1) || decide (bits .and .i64 fl 7 = 2) || decide (bits .and .i64 fl 7 = 4)
def onlyL (fl al : Int) : Bool := decide (bits .andNot .i64 fl al = 0)
def mflagsL (fl : Int) : Bool := visL fl && onlyL fl 1087 && !(hasB fl 1024 && hasB fl 58) && (!hasB fl 32 || !hasB fl 8)
def fieldL (f : Fc) : Bool := valueTy f.ty.dim f.ty.base f.ty.name && identL f.name && visL f.fl && onlyL f.fl 31
def paramL (p : Pc) : Bool := valueTy p.ty.dim p.ty.base p.ty.name && identL p.name
def voidTy (t : Ty) : Bool := decide (t.dim = 0) && (decide (t.base = 86) && decide (t.name = []))
def mHead (m : Md) : Bool := if m.name = initS then voidTy m.res && m.hb && onlyL m.fl 7 else identL m.name && (voidTy m.res || valueTy m.res.dim m.res.base m.res.name)
def mMid (m : Md) : Bool := mflagsL m.fl && !(m.hb == hasB m.fl 1024) && (m.hb || decide (m.body.length = 0)) && decide (m.params.length ≤ 16)
def methodL (m : Md) : Bool := mHead m && mMid m && !(m.params.any fun p => !paramL p) && blockL (decide (m.name = initS)) m.body
def objS : List UInt8 := [108, 97, 110, 103, 47, 79, 98, 106, 101, 99, 116]
def badM (m : Md) : Bool := !decide (m.fl = 1) && !decide (m.fl = 1025) || decide (m.name = initS)
def ifaceL (d : Cd) : Bool := onlyL d.fl 1537 && hasB d.fl 1024 && decide (d.super = objS) && decide (d.fields.length + d.init.length = 0) && !(d.methods.any badM)
def cHead (d : Cd) : Bool := if hasB d.fl 512 = true then ifaceL d else onlyL d.fl 1041 && !(hasB d.fl 16 && hasB d.fl 1024)
def cNames (d : Cd) : Bool := isCls d.name && isCls d.super && decide (d.ifs.length ≤ 8)
def cLens (d : Cd) : Bool := decide (d.fields.length ≤ 64) && decide (d.methods.length ≤ 64)
def classL (d : Cd) : Bool := cHead d && (cNames d && !(d.ifs.any fun s => !isCls s) && cLens d && !(d.fields.any fun f => !fieldL f) && !(d.methods.any fun f => !methodL f) && blockL false d.init)
def pI1 (F : Int → Bool) : List Value → Option (Prop × Value)
 | [.int .i64 c] => some (True, .bool (F c))
 | _ => none
theorem pureI1 {P : Program} {f : FuncId} {F : Int → Bool} (h : ∀ c m, FnH P f [.v (.int .i64 c)] ⟨[], []⟩ m fun r H' _ => r = .v (.bool (F c)) ∧ H' = ⟨[], []⟩) : Pure0 P f (pI1 F) := fun vals y hy _ m => by
 unfold pI1 at hy
 split at hy
 ·cases hy; exact h _ m
 ·cases hy
def pI2 (F : Int → Int → Bool) : List Value → Option (Prop × Value)
 | [.int .i64 c, .int .i64 d] => some (True, .bool (F c d))
 | _ => none
theorem pureI2 {P : Program} {f : FuncId} {F : Int → Int → Bool} (h : ∀ c d m, FnH P f [.v (.int .i64 c), .v (.int .i64 d)] ⟨[], []⟩ m fun r H' _ => r = .v (.bool (F c d)) ∧ H' = ⟨[], []⟩) : Pure0 P f (pI2 F) := fun vals y hy _ m => by
 unfold pI2 at hy
 split at hy
 ·cases hy; exact h _ _ m
 ·cases hy
attribute [go_sem] pI1 pI2
theorem vis_spec (fl : Int) (m : Mem) : FnH Tryz.prog 194 [.v (.int .i64 fl)] ⟨[], []⟩ m fun r H' _ => r = .v (.bool (visL fl)) ∧ H' = ⟨[], []⟩ := by
 refine enter cfN puN Tryz.func194 rfl rfl (by kernel_rfl) rfl ?_ ?_
 ·simp only [go_sem, ↓tfi, ↓fti, ↓reduceIte]
 ·simp only [go_sem, ↓tfi, ↓fti, ↓reduceIte]
  refine ⟨fun a => ⟨fun _ => by simp [visL, a], fun n => absurd a n⟩, fun a => ⟨fun b => ⟨fun _ => by simp [visL, b], fun n => absurd b n⟩, fun b => ⟨fun c => ⟨fun _ => by simp [visL, c], fun n => absurd c n⟩, fun c => ⟨fun d => by simp [visL, d], fun d => by simp [visL, a, b, c, d]⟩⟩⟩⟩
theorem only_spec (fl al : Int) (m : Mem) : FnH Tryz.prog 132 [.v (.int .i64 fl), .v (.int .i64 al)] ⟨[], []⟩ m fun r H' _ => r = .v (.bool (onlyL fl al)) ∧ H' = ⟨[], []⟩ := by
 refine enter cfN puN Tryz.func132 rfl rfl (by kernel_rfl) rfl ?_ ?_
 ·simp only [go_sem, ↓tfi, ↓fti, ↓reduceIte]
 ·simp only [go_sem, ↓tfi, ↓fti, ↓reduceIte]
  rfl
abbrev cfF : Cfg := mkCf (fun _ => false) [(194, pI1 visL), (132, pI2 onlyL), (155, pS1 BL fun s => .bool (identL s)), (157, pTy valueTy), (134, pS1 BL fun s => .bool (isCls s))]
theorem puF : PureOk cfF Tryz.prog := pure_cons (by kernel_rfl) (pureI1 vis_spec) (pure_cons (by kernel_rfl) (pureI2 only_spec) (pure_cons (by kernel_rfl) (pureS ident_spec) (pure_cons (by kernel_rfl) (pureTy value_spec) (pure_cons (by kernel_rfl) (pureS isCls_spec) pure_nil))))
theorem mflags_spec (fl : Int) (m : Mem) : FnH Tryz.prog 195 [.v (.int .i64 fl)] ⟨[], []⟩ m fun r H' _ => r = .v (.bool (mflagsL fl)) ∧ H' = ⟨[], []⟩ := by
 refine enter cfF puF Tryz.func195 rfl rfl (by kernel_rfl) rfl ?_ ?_
 ·simp only [go_sem, ↓tfi, ↓fti, ↓reduceIte]
 ·simp only [go_sem, ↓tfi, ↓fti, ↓reduceIte]
  refine ⟨fun h => ?_, fun h => ⟨fun g => ?_, fun g => ?_⟩⟩
  ·rcases h with h | h <;> simp [mflagsL, h]
  ·simp [mflagsL, hasB, g.1, g.2]
  ·rcases g with g | g <;> simp [mflagsL, hasB, h.1, h.2, g]
theorem field_spec (f : Fc) (m : Mem) (h : FcOk f) : Ans 136 [.v (.agg ⟨f.cs⟩)] m (.bool (fieldL f)) := by
 have h1 : BL f.name := Nat.le_trans h.name (by decide)
 have h2 : BL f.ty.name := Nat.le_trans h.ty.2.2 (by decide)
 refine enter cfF puF Tryz.func136 rfl rfl (by kernel_rfl) rfl ?_ ?_
 ·simp only [go_sem, ↓tfi, ↓fti, ↓reduceIte, Fc.cs]
 ·simp only [go_sem, ↓tfi, ↓fti, ↓reduceIte, Fc.cs]
  exact ⟨h2, fun _ => h1, rfl⟩
theorem badF_spec (f : Fc) (m : Mem) (h : FcOk f) : Ans 135 [.v (.agg ⟨f.cs⟩)] m (.bool (!fieldL f)) := by
 have hF := field_spec f m h
 refine enter cfF puF Tryz.func135 rfl rfl (by kernel_rfl) rfl ?_ ?_
 ·simp only [go_sem, ↓tfi, ↓fti, ↓reduceIte, Fc.cs]
 ·simp only [go_sem, ↓tfi, ↓fti, ↓reduceIte, Fc.cs]
  refine cvl ((FnH_den hF (fun V => rfl)).mono ?_)
  rintro r H' m2 hm2 ⟨hle2, rfl, rfl⟩
  simp only [go_sem, ↓tfi, ↓fti, ↓reduceIte]
  exact hle2
theorem badS_spec (s : List UInt8) (m : Mem) (h : BL s) : Ans 133 [.v (.string (bs s))] m (.bool (!isCls s)) := by
 refine enter cfF puF Tryz.func133 rfl rfl (by kernel_rfl) rfl ?_ ?_
 ·simp only [go_sem, ↓tfi, ↓fti, ↓reduceIte]
 ·simp only [go_sem, ↓tfi, ↓fti, ↓reduceIte]
  exact h
theorem badP_spec (f : Pc) (m : Mem) (h : PcOk f) : Ans 196 [.v (.agg ⟨f.cs⟩)] m (.bool (!paramL f)) := by
 have h1 : BL f.name := Nat.le_trans h.name (by decide)
 have h2 : BL f.ty.name := Nat.le_trans h.ty.2.2 (by decide)
 refine enter cfF puF Tryz.func196 rfl rfl (by kernel_rfl) rfl ?_ ?_
 ·simp only [go_sem, ↓tfi, ↓fti, ↓reduceIte, Pc.cs]
 ·simp only [go_sem, ↓tfi, ↓fti, ↓reduceIte, Pc.cs]
  exact ⟨h2, fun _ => h1, by rw [paramL, Bool.not_and]⟩
theorem badI_spec (x : Mc) (m : Mem) : Ans 191 [.v (.agg ⟨x.cs⟩)] m (.bool (!decide (x.fl = 1) && !decide (x.fl = 1025) || decide (x.name = initS))) := by
 refine enter cfF puF Tryz.func191 rfl rfl (by kernel_rfl) rfl ?_ ?_
 ·simp only [go_sem, ↓tfi, ↓fti, ↓reduceIte, Mc.cs]
 ·simp only [go_sem, ↓tfi, ↓fti, ↓reduceIte, Mc.cs]
  rfl
theorem any_of {α : Type} {p : α → Bool} {l : List α} {n : Nat} (hn : n = l.length) {B : Nat → Bool} (h : ∀ i (hi : i < l.length), B i = p l[i]) : anyB n B = l.any p := by
 subst hn; exact anyB_list p l B h
def atP {α : Type} (p : α → Bool) (l : List α) (i : Nat) : Bool := match l[i]? with | some a => p a | none => false
theorem atP_at {α : Type} {p : α → Bool} {l : List α} {i : Nat} (h : i < l.length) : atP p l i = p l[i] := by simp only [atP, List.getElem?_eq_getElem h]
theorem md_parts {m : Mem} {d : Md} {cs : List Value} (h : mdRep m d cs) : ∃ x : Mc, (cs = x.cs ∧ x.fl = d.fl ∧ x.res = d.res ∧ x.name = d.name ∧ x.hb = d.hb) ∧ (x.pl = d.params.length ∧ x.pl ≤ x.pc ∧ x.l = d.body.length ∧ x.l ≤ x.cp) ∧ MdOk d ∧ Rds m x.pa x.pl 4 (flat Pc.cs d.params) ∧ ∃ xs, Rds m x.a x.l 23 xs ∧ stsRep m d.body xs := h
theorem method_spec (d : Md) (cs : List Value) (m : Mem) (hg : Glob m) (h : mdRep m d cs) : Ans 138 [.v (.agg ⟨cs⟩)] m (.bool (methodL d)) := by
 obtain ⟨fl, res, name, params, hb, body⟩ := d
 obtain ⟨x, ⟨rfl, rfl, rfl, rfl, rfl⟩, ⟨hpl, hpc, hl, hcp⟩, hok, r1, xs, r2, s2⟩ := h
 simp only at hpl hl r1 s2
 have h1 : BL x.name := Nat.le_trans hok.name (by decide)
 have h2 : BL x.res.name := Nat.le_trans hok.res.2.2 (by decide)
 have hP : ∀ m', leM m m' → Ans 197 [.v (.slice x.pa x.pl x.pc), .v (.func (.func 196) ⟨[]⟩ ⟨[]⟩)] m' (.bool (params.any fun p => !paramL p)) := fun m' hle => by
  have := ctfPc 196 (atP (fun p => !paramL p) params) x.pa x.pl x.pc _ m' (Rds_upM hle r1) (by rw [hpl]; exact hok.pl) (by kernel_rfl) fun i hi => ⟨params[i]'(by omega), flat_at (f := Pc.cs) (sz := 4) (fun _ => rfl) (by omega), fun m2 _ => by
   rw [atP_at (by omega)]; exact badP_spec _ m2 (hok.ps _ (List.getElem_mem _))⟩
  rw [any_of hpl (p := fun p => !paramL p) fun i hi => atP_at hi] at this
  exact this
 have hB := fun m' (hle : leM m m') => block_all (decide (x.name = initS)) body x.a x.l x.cp xs m' (hg.upM hle) hl (Rds_upM hle r2) (stsRep_upM hle s2) (by rw [hl]; exact hok.l)
 clear s2
 refine enter (mkCf (fun _ => false) [(195, pI1 mflagsL), (132, pI2 onlyL), (155, pS1 BL fun s => .bool (identL s)), (157, pTy valueTy)])
  (pure_cons (by kernel_rfl) (pureI1 mflags_spec) (pure_cons (by kernel_rfl) (pureI2 only_spec) (pure_cons (by kernel_rfl) (pureS ident_spec) (pure_cons (by kernel_rfl) (pureTy value_spec) pure_nil)))) Tryz.func138 rfl rfl (by kernel_rfl) rfl ?_ ?_
 ·simp only [go_sem, ↓tfi, ↓fti, ↓reduceIte, Mc.cs]
 ·simp only [go_sem, ↓tfi, ↓fti, ↓reduceIte, Mc.cs, eqOkT]
  have e1 : ∀ (d : Md), mHead d = true → mMid d = true → methodL d = (!(d.params.any fun p => !paramL p) && blockL (decide (d.name = initS)) d.body) := fun d a b => by rw [methodL, a, b]; rfl
  have g0 : ∀ (d : Md), ((mflagsL d.fl = false ∨ (d.hb == !decide (bits .and .i64 d.fl 1024 = 0)) = true) ∨ d.hb = false ∧ 0 < d.body.length) ∨ 16 < d.params.length → false = methodL d := fun d g => by
   have : mMid d = false := by
    rcases g with ((g | g) | g) | g
    ·simp [mMid, g]
    ·simp only [mMid, hasB, g, Bool.not_true, Bool.and_false, Bool.false_and]
    ·simp only [mMid, g.1, Bool.false_or, decide_eq_false (by omega : ¬ d.body.length = 0), Bool.and_false, Bool.false_and]
    ·simp only [mMid, decide_eq_false (by omega : ¬ d.params.length ≤ 16), Bool.and_false]
   rw [methodL, this, Bool.and_false]; rfl
  have g1 : ∀ (d : Md), ((mflagsL d.fl = true ∧ (d.hb == !decide (bits .and .i64 d.fl 1024 = 0)) = false) ∧ (d.hb = true ∨ ¬ 0 < d.body.length)) ∧ ¬ 16 < d.params.length → mMid d = true := fun d g => by
   simp only [mMid, hasB, g.1.1.1, g.1.1.2, decide_eq_true (by omega : d.params.length ≤ 16), Bool.not_false, Bool.and_true, Bool.true_and]
   rcases g.1.2 with h | h
   ·rw [h]; rfl
   ·rw [decide_eq_true (by omega : d.body.length = 0), Bool.or_true]
  have g0' := g0 ⟨x.fl, x.res, x.name, params, x.hb, body⟩
  have g1' := g1 ⟨x.fl, x.res, x.name, params, x.hb, body⟩
  have e1' := e1 ⟨x.fl, x.res, x.name, params, x.hb, body⟩
  clear g0 g1 e1
  simp only at g0' g1' e1'
  have gx : ∀ {A B : Prop}, (A ∨ B ∧ 0 < (x.l : Int)) ∨ 16 < (x.pl : Int) → (A ∨ B ∧ 0 < body.length) ∨ 16 < params.length := fun g => by
   clear hP hB
   rcases g with (g | g) | g
   ·exact .inl (.inl g)
   ·exact .inl (.inr ⟨g.1, by omega⟩)
   ·exact .inr (by omega)
  have gy : ∀ {A B : Prop}, (A ∧ (B ∨ ¬ 0 < (x.l : Int))) ∧ ¬ 16 < (x.pl : Int) → (A ∧ (B ∨ ¬ 0 < body.length)) ∧ ¬ 16 < params.length := fun g => by
   clear hP hB
   refine ⟨⟨g.1.1, ?_⟩, by omega⟩
   rcases g.1.2 with h | h
   ·exact .inl h
   ·exact .inr (by omega)
  refine ⟨fun hn => ⟨fun c => ?_, fun c => ⟨by kernel_rfl, fun g => g0' (gx g), fun g => cvl ((hP m (.inl rfl)).mono ?_)⟩⟩,
   fun hn => ⟨h1, fun _ => h2, fun c => ?_, fun c => ⟨by kernel_rfl, fun g => g0' (gx g), fun g => cvl ((hP m (.inl rfl)).mono ?_)⟩⟩⟩
  ·clear hP hB
   have : mHead ⟨x.fl, x.res, x.name, params, x.hb, body⟩ = false := by
    simp only [mHead, voidTy]
    rw [if_pos (show x.name = initS from hn)]
    rcases c with ((c | c | c) | c) | c <;> simp [c]
   rw [methodL, this]; rfl
  ·have g2 := g1' (gy g)
   have hh : mHead ⟨x.fl, x.res, x.name, params, x.hb, body⟩ = true := by
    clear hP hB
    simp only [mHead, voidTy]
    rw [if_pos (show x.name = initS from hn)]
    simp [c.1.1.1, c.1.1.2.1, c.1.1.2.2, c.1.2, c.2]
   have e2 := e1' hh g2
   clear hP
   rintro r H' m2 hm2 ⟨hle2, rfl, rfl⟩
   simp only [go_sem, ↓tfi, ↓fti, ↓reduceIte, Mc.cs]
   refine ⟨fun b1 => cvl ((hB m2 hle2).mono ?_), fun b1 => ?_⟩
   ·clear hB
    rintro r H' m3 hm3 ⟨hle3, rfl, rfl⟩
    simp only [go_sem, ↓tfi, ↓fti, ↓reduceIte, Mc.cs]
    refine ⟨leM_tr hle2 hle3, ?_⟩
    rw [e2, b1]; rfl
   ·refine ⟨hle2, ?_⟩
    rw [e2, b1]; rfl
  ·clear hP hB
   have : mHead ⟨x.fl, x.res, x.name, params, x.hb, body⟩ = false := by
    simp only [mHead, voidTy]
    rw [if_neg (show ¬ x.name = initS from hn)]
    rcases c with c | c
    ·simp [c]
    ·rw [c.2]
     rcases c.1 with c | c | c <;> simp [c]
   rw [methodL, this]; rfl
  ·have g2 := g1' (gy g)
   have hh : mHead ⟨x.fl, x.res, x.name, params, x.hb, body⟩ = true := by
    clear hP hB
    simp only [mHead, voidTy]
    rw [if_neg (show ¬ x.name = initS from hn), c.1]
    rcases c.2 with c | c <;> simp [c]
   have e2 := e1' hh g2
   clear hP
   rintro r H' m2 hm2 ⟨hle2, rfl, rfl⟩
   simp only [go_sem, ↓tfi, ↓fti, ↓reduceIte, Mc.cs]
   refine ⟨fun b1 => cvl ((hB m2 hle2).mono ?_), fun b1 => ?_⟩
   ·clear hB
    rintro r H' m3 hm3 ⟨hle3, rfl, rfl⟩
    simp only [go_sem, ↓tfi, ↓fti, ↓reduceIte, Mc.cs]
    refine ⟨leM_tr hle2 hle3, ?_⟩
    rw [e2, b1]; rfl
   ·refine ⟨hle2, ?_⟩
    rw [e2, b1]; rfl
theorem badN_spec (d : Md) (cs : List Value) (m : Mem) (hg : Glob m) (h : mdRep m d cs) : Ans 137 [.v (.agg ⟨cs⟩)] m (.bool (!methodL d)) := by
 have hM := method_spec d cs m hg h
 obtain ⟨x, rfl⟩ := mdRep_mc h
 refine enter cfN puN Tryz.func137 rfl rfl (by kernel_rfl) rfl ?_ ?_
 ·simp only [go_sem, ↓tfi, ↓fti, ↓reduceIte, Mc.cs]
 ·simp only [go_sem, ↓tfi, ↓fti, ↓reduceIte, Mc.cs]
  refine cvl ((FnH_den hM (fun V => rfl)).mono ?_)
  rintro r H' m2 hm2 ⟨hle2, rfl, rfl⟩
  simp only [go_sem, ↓tfi, ↓fti, ↓reduceIte]
  exact hle2
theorem badI_of (d : Md) (cs : List Value) (m m' : Mem) (h : mdRep m d cs) : Ans 191 [.v (.agg ⟨cs⟩)] m' (.bool (badM d)) := by
 obtain ⟨x, ⟨rfl, h1, h2, h3, h4⟩, _⟩ := h
 have := badI_spec x m'
 rw [h1, h3] at this
 exact this
theorem ctM (f : FuncId) (p : Md → Bool) (l : List Md) (a : Option Addr) (n c : Nat) (xs : List Value) (m : Mem) (hl : n = l.length) (hr : Rds m a n 8 xs) (hs : lsRep (mdRep m) 8 l xs) (hn : n ≤ big) (hok : fnOk Tryz.prog f = true)
  (hf : ∀ d ∈ l, ∀ cs m', leM m m' → mdRep m' d cs → Ans f [.v (.agg ⟨cs⟩)] m' (.bool (p d))) :
  Ans 141 [.v (.slice a n c), .v (.func (.func f) ⟨[]⟩ ⟨[]⟩)] m (.bool (l.any p)) := by
 have := ctfMc f (atP p l) a n c xs m hr hn hok fun i hi => by
  have hil : i < l.length := by omega
  have hrep := ls_at hs hil
  obtain ⟨X, hX⟩ := mdRep_mc hrep
  rw [hX] at hrep
  refine ⟨X, hX, fun m' hle => ?_⟩
  rw [atP_at hil]
  exact hf _ (List.getElem_mem hil) _ m' hle (mdRep_up hle hrep)
 rw [any_of hl (p := p) fun i hi => atP_at hi] at this
 exact this
theorem ctF (f : FuncId) (p : Fc → Bool) (l : List Fc) (a : Option Addr) (n c : Nat) (m : Mem) (hl : n = l.length) (hr : Rds m a n 5 (flat Fc.cs l)) (hn : n ≤ big) (hok : fnOk Tryz.prog f = true)
  (hf : ∀ d ∈ l, ∀ m', leM m m' → Ans f [.v (.agg ⟨d.cs⟩)] m' (.bool (p d))) :
  Ans 140 [.v (.slice a n c), .v (.func (.func f) ⟨[]⟩ ⟨[]⟩)] m (.bool (l.any p)) := by
 have := ctfFc f (atP p l) a n c _ m hr hn hok fun i hi => by
  have hil : i < l.length := by omega
  refine ⟨l[i], flat_at (f := Fc.cs) (sz := 5) (fun _ => rfl) hil, fun m' hle => ?_⟩
  rw [atP_at hil]
  exact hf _ (List.getElem_mem hil) m' hle
 rw [any_of hl (p := p) fun i hi => atP_at hi] at this
 exact this
theorem ctS (f : FuncId) (p : List UInt8 → Bool) (l : List (List UInt8)) (a : Option Addr) (n c : Nat) (m : Mem) (hl : n = l.length) (hr : Rds m a n 1 (strs l)) (hn : n ≤ big) (hok : fnOk Tryz.prog f = true)
  (hf : ∀ d ∈ l, ∀ m', leM m m' → Ans f [.v (.string (bs d))] m' (.bool (p d))) :
  Ans 139 [.v (.slice a n c), .v (.func (.func f) ⟨[]⟩ ⟨[]⟩)] m (.bool (l.any p)) := by
 have := ctfS f (atP p l) a n c _ m hr hn hok fun i hi => by
  have hil : i < l.length := by omega
  refine ⟨l[i], ?_, fun m' hle => ?_⟩
  ·rw [strs, List.getElem?_map, List.getElem?_eq_getElem hil]; rfl
  ·rw [atP_at hil]
   exact hf _ (List.getElem_mem hil) m' hle
 rw [any_of hl (p := p) fun i hi => atP_at hi] at this
 exact this
theorem iface_spec (d : Cd) (cs : List Value) (m : Mem) (h : cdRep m d cs) : Ans 131 [.v (.agg ⟨cs⟩)] m (.bool (ifaceL d)) := by
 obtain ⟨fl, name, super, ifs, fields, methods, init⟩ := d
 obtain ⟨x, ⟨rfl, rfl, rfl, rfl⟩, ⟨hil, hic, hfn, hfc, hml, hmc, hsl, hsc⟩, hok, r1, r2, xs, ys, r3, s3, r4, s4⟩ := h
 simp only at hil hfn hml hsl r1 r2 s3 s4
 have hM := ctM 191 badM methods x.ma x.ml x.mc xs m hml r3 s3 (by rw [hml]; exact hok.ml) (by kernel_rfl) fun d _ cs m' hle hrep => badI_of d cs m' m' hrep
 have b1 := hok.fn
 have b2 := hok.l
 clear s3 s4
 refine enter cfF puF Tryz.func131 rfl rfl (by kernel_rfl) rfl ?_ ?_
 ·simp only [go_sem, ↓tfi, ↓fti, ↓reduceIte, Cc.cs]
 ·simp only [go_sem, ↓tfi, ↓fti, ↓reduceIte, Cc.cs]
  have e0 : ifaceL ⟨x.fl, x.name, x.super, ifs, fields, methods, init⟩ = (onlyL x.fl 1537 && hasB x.fl 1024 && decide (x.super = objS) && decide (fields.length + init.length = 0) && !(methods.any badM)) := rfl
  simp only at b1 b2
  refine ⟨fun _ => by clear hM; unfold I64; simp only [big] at b1 b2; omega, fun c => cvl (hM.mono ?_), fun c => ?_⟩
  ·have g : fields.length + init.length = 0 := by clear hM; omega
   clear hM
   rintro r H' m2 hm2 ⟨hle2, rfl, rfl⟩
   simp only [go_sem, ↓tfi, ↓fti, ↓reduceIte, Cc.cs]
   refine ⟨hle2, ?_⟩
   rw [e0, c.1.1.1, hasB, decide_eq_false c.1.1.2, decide_eq_true (show x.super = objS from c.1.2), decide_eq_true g]
   rfl
  ·clear hM
   rw [e0]
   rcases c with ((c | c) | c) | c
   ·simp [c]
   ·simp [hasB, c]
   ·rw [decide_eq_false (show ¬ x.super = objS from c)]; simp
   ·rw [decide_eq_false (by omega : ¬ fields.length + init.length = 0)]; simp
theorem class_spec2 (d : Cd) (cs : List Value) (m : Mem) (hg : Glob m) (h : cdRep m d cs) : Ans 54 [.v (.agg ⟨cs⟩)] m (.bool (classL d)) := by
 have hI := iface_spec d cs m h
 obtain ⟨fl, name, super, ifs, fields, methods, init⟩ := d
 obtain ⟨x, ⟨rfl, rfl, rfl, rfl⟩, ⟨hil, hic, hfn, hfc, hml, hmc, hsl, hsc⟩, hok, r1, r2, xs, ys, r3, s3, r4, s4⟩ := h
 simp only at hil hfn hml hsl r1 r2 s3 s4
 have hM := fun m' (hle : leM m m') => ctM 137 (fun d => !methodL d) methods x.ma x.ml x.mc xs m' hml (Rds_upM hle r3) (ls_up (fun _ _ => mdRep_up hle) s3) (by rw [hml]; exact hok.ml) (by kernel_rfl) fun d _ cs m2 hle2 hrep => badN_spec d cs m2 (hg.upM (leM_tr hle hle2)) hrep
 have hF := fun m' (hle : leM m m') => ctF 135 (fun d => !fieldL d) fields x.fa x.fn x.fc m' hfn (Rds_upM hle r2) (by rw [hfn]; exact hok.fn) (by kernel_rfl) fun d hd m2 hle2 => badF_spec d m2 (hok.fs d hd)
 have hS := fun m' (hle : leM m m') => ctS 133 (fun d => !isCls d) ifs x.ia x.il x.ic m' hil (Rds_upM hle r1) (by rw [hil]; exact hok.il) (by kernel_rfl) fun d hd m2 hle2 => badS_spec d m2 (Nat.le_trans (hok.ifs d hd) (by decide))
 have hB := fun m' (hle : leM m m') => block_all false init x.sa x.sl x.sc ys m' (hg.upM hle) hsl (Rds_upM hle r4) (stsRep_upM hle s4) (by rw [hsl]; exact hok.l)
 have h1 : BL x.name := Nat.le_trans hok.name (by decide)
 have h2 : BL x.super := Nat.le_trans hok.super (by decide)
 clear s3 s4
 refine enter cfF puF Tryz.func54 rfl rfl (by kernel_rfl) rfl ?_ ?_
 ·simp only [go_sem, ↓tfi, ↓fti, ↓reduceIte, Cc.cs]
 ·simp only [go_sem, ↓tfi, ↓fti, ↓reduceIte, Cc.cs]
  have e0 : cHead ⟨x.fl, x.name, x.super, ifs, fields, methods, init⟩ = true → classL ⟨x.fl, x.name, x.super, ifs, fields, methods, init⟩ = (cNames ⟨x.fl, x.name, x.super, ifs, fields, methods, init⟩ && !(ifs.any fun s => !isCls s) && cLens ⟨x.fl, x.name, x.super, ifs, fields, methods, init⟩ && !(fields.any fun f => !fieldL f) && !(methods.any fun f => !methodL f) && blockL false init) := fun h => by rw [classL, h]; rfl
  refine ⟨fun b => cvl ((FnH_den hI (fun V => rfl)).mono ?_), fun b => ⟨fun c => ?_, fun c => ?_⟩⟩
  ·clear hI
   rintro r H' m1 hm1 ⟨l1, rfl, rfl⟩
   simp only [go_sem, ↓tfi, ↓fti, ↓reduceIte, Cc.cs]
   have g : hasB x.fl 512 = true := by rw [hasB, decide_eq_false b]; rfl
   refine ⟨fun c => ?_, fun c => ?_⟩
   ·refine ⟨l1, ?_⟩
    rw [classL, cHead, if_pos g, c]; rfl
   ·have hH : cHead ⟨x.fl, x.name, x.super, ifs, fields, methods, init⟩ = true := by rw [cHead, if_pos g, c]
    refine ⟨h1, fun _ => h2, fun c => cvl ((hS m1 l1).mono ?_), fun c => ?_⟩
    ·clear hS
     rintro r H' n1 hn1 ⟨k1, rfl, rfl⟩
     simp only [go_sem, ↓tfi, ↓fti, ↓reduceIte, Cc.cs]
     have hN : cNames ⟨x.fl, x.name, x.super, ifs, fields, methods, init⟩ = true := by clear hF hM hB; simp only [cNames, c.1.1, c.1.2, decide_eq_true (by omega : ifs.length ≤ 8)]; rfl
     refine ⟨fun d => cvl ((hF n1 (leM_tr l1 k1)).mono ?_), fun d => ?_⟩
     ·clear hF
      rintro r H' n2 hn2 ⟨k2, rfl, rfl⟩
      simp only [go_sem, ↓tfi, ↓fti, ↓reduceIte, Cc.cs]
      have hL : cLens ⟨x.fl, x.name, x.super, ifs, fields, methods, init⟩ = true := by clear hM hB; simp only [cLens, decide_eq_true (by omega : fields.length ≤ 64), decide_eq_true (by omega : methods.length ≤ 64)]; rfl
      refine ⟨fun e => cvl ((hM n2 (leM_tr (leM_tr l1 k1) k2)).mono ?_), fun e => ?_⟩
      ·clear hM
       rintro r H' n3 hn3 ⟨k3, rfl, rfl⟩
       simp only [go_sem, ↓tfi, ↓fti, ↓reduceIte, Cc.cs]
       refine ⟨fun f => cvl ((hB n3 (leM_tr (leM_tr (leM_tr l1 k1) k2) k3)).mono ?_), fun f => ?_⟩
       ·clear hB
        rintro r H' n4 hn4 ⟨k4, rfl, rfl⟩
        simp only [go_sem, ↓tfi, ↓fti, ↓reduceIte, Cc.cs]
        refine ⟨leM_tr (leM_tr (leM_tr (leM_tr l1 k1) k2) k3) k4, ?_⟩
        rw [e0 hH, hN, d.1.1, hL, e, f]
        rfl
       ·refine ⟨leM_tr (leM_tr (leM_tr l1 k1) k2) k3, ?_⟩
        rw [e0 hH, f]; simp
      ·refine ⟨leM_tr (leM_tr l1 k1) k2, ?_⟩
       rw [e0 hH, e]; simp
     ·refine ⟨leM_tr l1 k1, ?_⟩
      clear hF hM hB
      rw [e0 hH]
      rcases d with (d | d) | d
      ·rw [d]; simp
      ·simp only [cLens, decide_eq_false (by omega : ¬ fields.length ≤ 64), Bool.false_and, Bool.and_false]
      ·simp only [cLens, decide_eq_false (by omega : ¬ methods.length ≤ 64), Bool.false_and, Bool.and_false]
    ·clear hS hF hM hB
     refine ⟨l1, ?_⟩
     rw [e0 hH]
     rcases c with (c | c) | c
     ·simp only [cNames, c, Bool.false_and]
     ·simp only [cNames, c, Bool.false_and, Bool.and_false]
     ·simp only [cNames, decide_eq_false (by omega : ¬ ifs.length ≤ 8), Bool.false_and, Bool.and_false]
  ·clear hI hM hF hS hB
   have g : ¬ hasB x.fl 512 = true := by rw [hasB, decide_eq_true b]; decide
   have : cHead ⟨x.fl, x.name, x.super, ifs, fields, methods, init⟩ = false := by
    rw [cHead, if_neg g]
    rcases c with c | c
    ·simp [c]
    ·simp [hasB, c]
   rw [classL, this]; rfl
  ·clear hI
   have g : ¬ hasB x.fl 512 = true := by rw [hasB, decide_eq_true b]; decide
   have hH : cHead ⟨x.fl, x.name, x.super, ifs, fields, methods, init⟩ = true := by
    clear hM hF hS hB
    rw [cHead, if_neg g]
    rcases c with ⟨c1, c | c⟩ <;> simp [hasB, c1, c]
   clear c
   refine ⟨h1, fun _ => h2, fun c => cvl ((hS m (.inl rfl : leM m m)).mono ?_), fun c => ?_⟩
   ·clear hS
    rintro r H' n1 hn1 ⟨k1, rfl, rfl⟩
    simp only [go_sem, ↓tfi, ↓fti, ↓reduceIte, Cc.cs]
    have hN : cNames ⟨x.fl, x.name, x.super, ifs, fields, methods, init⟩ = true := by clear hF hM hB; simp only [cNames, c.1.1, c.1.2, decide_eq_true (by omega : ifs.length ≤ 8)]; rfl
    refine ⟨fun d => cvl ((hF n1 (leM_tr (.inl rfl : leM m m) k1)).mono ?_), fun d => ?_⟩
    ·clear hF
     rintro r H' n2 hn2 ⟨k2, rfl, rfl⟩
     simp only [go_sem, ↓tfi, ↓fti, ↓reduceIte, Cc.cs]
     have hL : cLens ⟨x.fl, x.name, x.super, ifs, fields, methods, init⟩ = true := by clear hM hB; simp only [cLens, decide_eq_true (by omega : fields.length ≤ 64), decide_eq_true (by omega : methods.length ≤ 64)]; rfl
     refine ⟨fun e => cvl ((hM n2 (leM_tr (leM_tr (.inl rfl : leM m m) k1) k2)).mono ?_), fun e => ?_⟩
     ·clear hM
      rintro r H' n3 hn3 ⟨k3, rfl, rfl⟩
      simp only [go_sem, ↓tfi, ↓fti, ↓reduceIte, Cc.cs]
      refine ⟨fun f => cvl ((hB n3 (leM_tr (leM_tr (leM_tr (.inl rfl : leM m m) k1) k2) k3)).mono ?_), fun f => ?_⟩
      ·clear hB
       rintro r H' n4 hn4 ⟨k4, rfl, rfl⟩
       simp only [go_sem, ↓tfi, ↓fti, ↓reduceIte, Cc.cs]
       refine ⟨leM_tr (leM_tr (leM_tr (leM_tr (.inl rfl : leM m m) k1) k2) k3) k4, ?_⟩
       rw [e0 hH, hN, d.1.1, hL, e, f]
       rfl
      ·refine ⟨leM_tr (leM_tr (leM_tr (.inl rfl : leM m m) k1) k2) k3, ?_⟩
       rw [e0 hH, f]; simp
     ·refine ⟨leM_tr (leM_tr (.inl rfl : leM m m) k1) k2, ?_⟩
      rw [e0 hH, e]; simp
    ·refine ⟨leM_tr (.inl rfl : leM m m) k1, ?_⟩
     clear hF hM hB
     rw [e0 hH]
     rcases d with (d | d) | d
     ·rw [d]; simp
     ·simp only [cLens, decide_eq_false (by omega : ¬ fields.length ≤ 64), Bool.false_and, Bool.and_false]
     ·simp only [cLens, decide_eq_false (by omega : ¬ methods.length ≤ 64), Bool.false_and, Bool.and_false]
   ·clear hS hF hM hB
    rw [e0 hH]
    rcases c with (c | c) | c
    ·simp only [cNames, c, Bool.false_and]
    ·simp only [cNames, c, Bool.false_and, Bool.and_false]
    ·simp only [cNames, decide_eq_false (by omega : ¬ ifs.length ≤ 8), Bool.false_and, Bool.and_false]
def argsD : Ex → Nat | .mk _ _ _ _ _ args => depthL args
mutual
def exprD : St → Nat
 | .mk k _ _ tg ex body alt => max (max (exprDs body) (exprDs alt)) (max (depthE tg) (if k = 11 then argsD ex else depthE ex))
def exprDs : List St → Nat
 | [] => 0
 | e :: r => max (exprD e) (exprDs r)
end
theorem depthSs_take : ∀ {l : List St} {k : Nat} (hk : k < l.length), depthSs (l.take (k + 1)) = max (depthSs (l.take k)) (depthS l[k])
 | [], _, hk => absurd hk (Nat.not_lt_zero _)
 | e :: r, 0, _ => by simp [depthSs]
 | e :: r, k + 1, hk => by
  have := depthSs_take (l := r) (k := k) (by simpa using hk)
  simp only [List.take_succ_cons, depthSs, this, List.getElem_cons_succ, Nat.max_assoc]
theorem exprDs_take : ∀ {l : List St} {k : Nat} (hk : k < l.length), exprDs (l.take (k + 1)) = max (exprDs (l.take k)) (exprD l[k])
 | [], _, hk => absurd hk (Nat.not_lt_zero _)
 | e :: r, 0, _ => by simp [exprDs]
 | e :: r, k + 1, hk => by
  have := exprDs_take (l := r) (k := k) (by simpa using hk)
  simp only [List.take_succ_cons, exprDs, this, List.getElem_cons_succ, Nat.max_assoc]
theorem depthSs_le : ∀ (l : List St) (k : Nat), depthSs (l.take k) ≤ depthSs l
 | [], k => by simp
 | e :: r, 0 => by simp [depthSs]
 | e :: r, k + 1 => by
  have := depthSs_le r k
  simp only [List.take_succ_cons, depthSs]
  omega
theorem exprDs_le : ∀ (l : List St) (k : Nat), exprDs (l.take k) ≤ exprDs l
 | [], k => by simp
 | e :: r, 0 => by simp [exprDs]
 | e :: r, k + 1 => by
  have := exprDs_le r k
  simp only [List.take_succ_cons, exprDs]
  omega
theorem exprDs_mem : ∀ {l : List St} {e : St}, e ∈ l → exprD e ≤ exprDs l
 | [], e, he => by cases he
 | x :: r, e, he => by
  simp only [exprDs]
  rcases List.mem_cons.1 he with rfl | he
  ·omega
  ·have := exprDs_mem he; omega
def DepR (args : List SV) (m : Mem) (v1 v2 : Nat) : Prop := FnH Tryz.prog 143 args ⟨[], []⟩ m fun r H' m' => leM m m' ∧ H' = ⟨[], []⟩ ∧ r = .tup [.v (.int .i64 v1), .v (.int .i64 v2)]
structure DepN where
 b1 : Nat
 b2 : Nat
 a1 : Nat
 a2 : Nat
 t : Nat
 x : Nat
 dl : Nat → Nat
structure DepIt (X : Sd) (N : DepN) (mm : Mem) : Prop where
 body : ∀ m', leM mm m' → DepR [.v (.slice X.a X.l X.cp)] m' N.b1 N.b2
 alt : ∀ m', leM mm m' → DepR [.v (.slice X.b X.l2 X.cp2)] m' N.a1 N.a2
 tg : ∀ m', leM mm m' → Ans 34 [.v (.agg ⟨X.tg.cs⟩)] m' (.int .i64 N.t)
 ex : ¬ X.k = 11 → ∀ m', leM mm m' → Ans 34 [.v (.agg ⟨X.ex.cs⟩)] m' (.int .i64 N.x)
 arg : X.k = 11 → ∀ m', leM mm m' → ∀ j, j < X.ex.l → ∃ (Y : Nd) (d : Nat), (Rd m' (ptrAt X.ex.a (j * 8)) Y.cs ∧ X.ex.a ≠ none) ∧ Ans 34 [.v (.agg ⟨Y.cs⟩)] m' (.int .i64 d) ∧ N.dl (j + 1) = max (N.dl j) d
 dl0 : N.dl 0 = 0
 ln : X.ex.l ≤ big
theorem dep_it {h : Nat} (ih : ∀ h', h' < h → ∀ (l : List St) (a : Option Addr) (n c : Nat) (xs : List Value) (m : Mem), depthSs l ≤ h' → h' ≤ big → exprDs l ≤ big → n = l.length → n ≤ big → Rds m a n 23 xs → stsRep m l xs → DepR [.v (.slice a n c)] m (depthSs l) (exprDs l))
  {e : St} {cs : List Value} {mm : Mem} (hd : depthS e ≤ h) (hb : h ≤ big) (hx : exprD e ≤ big) (hrep : stRep mm e cs) :
  ∃ (X : Sd) (N : DepN), cs = X.cs ∧ DepIt X N mm ∧ depthS e = max N.b1 N.a1 + 1 ∧ exprD e = max (max N.b2 N.a2) (max N.t (if X.k = 11 then N.dl X.ex.l else N.x)) := by
 cases e with
 | mk k nm ty tg ex body alt =>
  obtain ⟨X, rfl, rfl, rfl, rfl, htg, hex, hl, hcp, hl2, hcp2, hok, xs, ys, r1, r2, s1, s2⟩ := st_parts hrep
  simp only [depthS] at hd
  simp only [exprD] at hx
  cases ex with
  | mk xk xn xss xc xty args =>
   obtain ⟨y, hy, h1, h2, h3, h4, h5, h6, h7, h8, zs, r3, s3⟩ := ex_parts hex
   have hy := nd_inj hy
   subst hy
   refine ⟨X, ⟨depthSs body, exprDs body, depthSs alt, exprDs alt, depthE tg, depthE (.mk xk xn xss xc xty args), fun j => depthL (args.take j)⟩, rfl, ⟨fun m' hle => ?_, fun m' hle => ?_, fun m' hle => ?_, fun hk m' hle => ?_, fun hk m' hle j hj => ?_, by simp [depthL], h8⟩, by simp only [depthS], ?_⟩
   ·exact ih (depthSs body) (by omega) body X.a X.l X.cp xs m' (Nnr _) (by omega) (by omega) hl (by rw [hl]; exact hok.l) (Rds_upM hle r1) (stsRep_upM hle s1)
   ·exact ih (depthSs alt) (by omega) alt X.b X.l2 X.cp2 ys m' (Nnr _) (by omega) (by omega) hl2 (by rw [hl2]; exact hok.l2) (Rds_upM hle r2) (stsRep_upM hle s2)
   ·exact depth_all _ tg _ m' (Nnr _) (by omega) (exRep_upM hle htg)
   ·rw [if_neg hk] at hx
    exact depth_all _ _ _ m' (Nnr _) (by omega) (exRep_upM hle hex)
   ·rw [if_pos hk] at hx
    simp only [argsD] at hx
    have hja : j < args.length := by omega
    have hrepj := exRep_upM hle (exs_at s3 hja)
    obtain ⟨Y, hY⟩ := exRep_nd hrepj
    have hrd := Rds_cells (Rds_upM hle r3) hj
    rw [hY] at hrd hrepj
    exact ⟨Y, depthE args[j], hrd, depth_all _ _ _ m' (Nnr _) (by have := depth_mem hja; omega) hrepj, depth_take hja⟩
   ·simp only [exprD, argsD]
    rw [List.take_of_length_le (by omega : args.length ≤ X.ex.l)]
theorem depths_all : ∀ (h : Nat) (l : List St) (a : Option Addr) (n c : Nat) (xs : List Value) (m : Mem), depthSs l ≤ h → h ≤ big → exprDs l ≤ big → n = l.length → n ≤ big → Rds m a n 23 xs → stsRep m l xs → DepR [.v (.slice a n c)] m (depthSs l) (exprDs l) := by
 intro h
 induction h using Nat.strongRecOn with
 | ind h ih =>
  intro l a n c xs m hd hb hx hl hn hr hs
  refine enter cfN puN Tryz.func143 rfl rfl (by kernel_rfl) rfl ?_ ?_
  ·simp only [go_sem, ↓tfi, ↓fti, ↓reduceIte]
  ·simp only [go_sem, ↓tfi, ↓fti, ↓reduceIte]
   refine WP_loop puN (fun x : Nat × Int × Int × Mem => ⟨[⟨4, [], .v (.int .i64 x.2.1)⟩, ⟨5, [], .v (.int .i64 x.2.2.1)⟩, ⟨14, [], .v (.slice a n c)⟩, ⟨15, [], .v (.int .i64 n)⟩, ⟨16, [], .v (.int .i64 x.1)⟩], [], [], [], 0, x.2.2.2⟩)
    (fun x => leM m x.2.2.2 ∧ x.1 ≤ n ∧ x.2.1 = depthSs (l.take x.1) ∧ x.2.2.1 = exprDs (l.take x.1)) (fun x => n - x.1) (0, 0, 0, m) (by kernel_rfl) (fun _ _ => Nnr _) (fun x hx => hx.1) (fun _ => ?_) ?_ ?_ ?_
   ·simp only [go_sem, ↓tfi, ↓fti, ↓reduceIte]
   ·simp only [go_sem, ↓tfi, ↓fti, ↓reduceIte]
    rfl
   ·exact ⟨.inl rfl, Nat.zero_le _, by simp [depthSs], by simp [exprDs]⟩
   ·rintro ⟨k, s, e, mm⟩ ⟨h1, h2, h3, h4⟩
    simp only at h1 h2 h3 h4
    have hy : ∀ (hk : k < l.length), ∃ (X : Sd) (N : DepN), (Rd mm (ptrAt a (k * 23)) X.cs ∧ a ≠ none) ∧ DepIt X N mm ∧ depthS l[k] = max N.b1 N.a1 + 1 ∧ exprD l[k] = max (max N.b2 N.a2) (max N.t (if X.k = 11 then N.dl X.ex.l else N.x)) := fun hk => by
     have hrep := stRep_upM h1 (sts_at hs hk)
     have q1 := depthSs_mem (List.getElem_mem hk)
     have q2 := exprDs_mem (List.getElem_mem hk)
     obtain ⟨X, N, hX, hD, e1, e2⟩ := dep_it ih (by omega) hb (by omega) hrep
     have hrd := Rds_cells (Rds_upM h1 hr) (by omega : k < n)
     rw [hX] at hrd
     exact ⟨X, N, hrd, hD, e1, e2⟩
    have hq1 := depthSs_le l k
    have hq2 := exprDs_le l k
    have hq3 : ∀ (hk : k < l.length), depthSs (l.take (k + 1)) = max (depthSs (l.take k)) (depthS l[k]) ∧ depthSs (l.take (k + 1)) ≤ depthSs l := fun hk => ⟨depthSs_take hk, depthSs_le l _⟩
    have hq4 : ∀ (hk : k < l.length), exprDs (l.take (k + 1)) = max (exprDs (l.take k)) (exprD l[k]) ∧ exprDs (l.take (k + 1)) ≤ exprDs l := fun hk => ⟨exprDs_take hk, exprDs_le l _⟩
    clear ih
    simp only [go_sem, ↓tfi, ↓fti, ↓reduceIte]
    refine ⟨fun hlt => ?_, fun hge => ?_⟩
    ·have hk : k < l.length := by clear hy; omega
     have g3 := hq3 hk
     have g4 := hq4 hk
     refine Exists.elim (hy hk) fun X hy' => Exists.elim hy' fun N hy'' => ⟨⟨by clear hy hy' hy''; omega, hlt, hy''.1.2⟩, X.cs, ⟨hy''.1.1, rfl⟩, ?_⟩
     clear hy hy'
     have hD := hy''.2.1
     have e1 := hy''.2.2.1
     have e2 := hy''.2.2.2
     rw [e1] at g3
     rw [e2] at g4
     clear hy'' e1 e2
     simp only [go_sem, ↓tfi, ↓fti, ↓reduceIte, Sd.cs, Nd.cs]
     refine cvl ((hD.body mm (.inl rfl)).mono ?_)
     rintro r H' n1 hn1 ⟨k1, rfl, rfl⟩
     simp only [go_sem, ↓tfi, ↓fti, ↓reduceIte, Sd.cs, Nd.cs]
     refine cvl ((hD.alt n1 k1).mono ?_)
     rintro r H' n2 hn2 ⟨k2, rfl, rfl⟩
     have kk2 := leM_tr k1 k2
     simp only [go_sem, ↓tfi, ↓fti, ↓reduceIte, Sd.cs, Nd.cs]
     refine ⟨by clear hD; unfold I64; simp only [big] at hb; split <;> omega, by kernel_rfl, FnV_of ((FnH_den (hD.tg n2 kk2) (fun V => rfl)).mono ?_)⟩
     rintro r H' n3 hn3 ⟨k3, rfl, rfl⟩
     have kk3 := leM_tr kk2 k3
     simp only [go_sem, ↓tfi, ↓fti, ↓reduceIte, Sd.cs, Nd.cs]
     have hS : (if s < 1 + (if (N.b1 : Int) < N.a1 then (N.a1 : Int) else N.b1) then 1 + (if (N.b1 : Int) < N.a1 then (N.a1 : Int) else N.b1) else s) = ((depthSs (l.take (k + 1)) : Nat) : Int) := by
      clear hD hq3 hq4
      rw [g3.1, h3]
      split <;> split <;> omega
     have hB0 : mx (mx (mx e N.b2) N.a2) N.t = ((max (max (max (exprDs (l.take k)) N.b2) N.a2) N.t : Nat) : Int) := by
      clear hD hq3 hq4 hS
      simp only [mx, h4]
      (repeat' split) <;> omega
     refine Exists.elim (Exists.intro (max (max (max (exprDs (l.take k)) N.b2) N.a2) N.t) rfl : ∃ B0 : Nat, max (max (max (exprDs (l.take k)) N.b2) N.a2) N.t = B0) fun B0 hB => ?_
     rw [hB] at hB0
     refine ⟨fun hk11 => ?_, fun hk11 => ?_⟩
     ·refine cvl ((FnH_den (hD.ex hk11 n3 kk3) (fun V => rfl)).mono ?_)
      clear hD
      rintro r H' n4 hn4 ⟨k4, rfl, rfl⟩
      simp only [go_sem, ↓tfi, ↓fti, ↓reduceIte, Sd.cs, Nd.cs]
      rw [if_neg hk11] at g4
      refine ⟨by unfold I64; simp only [big] at hn; omega, (k + 1, ((depthSs (l.take (k + 1)) : Nat) : Int), ((exprDs (l.take (k + 1)) : Nat) : Int), n4), ⟨⟨hS, ?_, by simp⟩, .inl rfl⟩, ⟨leM_tr h1 (leM_tr kk3 k4), by simp only; omega, rfl, rfl⟩, by simp only; omega⟩
      simp only
      rw [hB0, g4.1]
      clear hS hB0 hq3 hq4 g3 h3 h4
      split <;> omega
     ·rw [if_pos hk11] at g4
      refine WP_loop puN (fun x' : Nat × Int × Mem => ⟨[⟨4, [], .v (.int .i64 (depthSs (l.take (k + 1)) : Nat))⟩, ⟨5, [], .v (.int .i64 x'.2.1)⟩, ⟨14, [], .v (.slice a n c)⟩, ⟨15, [], .v (.int .i64 n)⟩, ⟨16, [], .v (.int .i64 k)⟩, ⟨55, [], .v (.slice X.ex.a X.ex.l X.ex.cp)⟩, ⟨56, [], .v (.int .i64 X.ex.l)⟩, ⟨57, [], .v (.int .i64 x'.1)⟩], [], [], [], 1, x'.2.2⟩)
       (fun x' => leM n3 x'.2.2 ∧ x'.1 ≤ X.ex.l ∧ x'.2.1 = ((max B0 (N.dl x'.1) : Nat) : Int)) (fun x' => X.ex.l - x'.1) (0, (B0 : Int), n3) (by kernel_rfl) (fun _ _ => Nnr _) (fun x hx => hx.1) (fun _ => ?_) ?_ ?_ ?_
      ·simp only [go_sem, ↓tfi, ↓fti, ↓reduceIte]
      ·simp only [go_sem, ↓tfi, ↓fti, ↓reduceIte]
       exact ⟨hS, hB0, rfl⟩
      ·exact ⟨.inl rfl, Nat.zero_le _, by rw [hD.dl0, Nat.max_zero]⟩
      ·rintro ⟨j, e', mj⟩ ⟨q1, q2, q3⟩
       simp only at q1 q2 q3
       have hz := hD.arg hk11 mj (leM_tr kk3 q1) j
       have hln := hD.ln
       clear hD
       simp only [go_sem, ↓tfi, ↓fti, ↓reduceIte]
       refine ⟨fun hlt' => ?_, fun hge' => ?_⟩
       ·refine Exists.elim (hz (by clear hz; omega)) fun Y hz1 => Exists.elim hz1 fun dj hz2 => ⟨⟨by clear hz hz1 hz2; omega, hlt', hz2.1.2⟩, Y.cs, ⟨hz2.1.1, rfl⟩, ?_⟩
        clear hz hz1
        have hDj := hz2.2.1
        have hdj := hz2.2.2
        clear hz2
        simp only [go_sem, ↓tfi, ↓fti, ↓reduceIte, Nd.cs]
        refine cvl ((FnH_den hDj (fun V => rfl)).mono ?_)
        clear hDj
        rintro r H' n5 hn5 ⟨k5, rfl, rfl⟩
        simp only [go_sem, ↓tfi, ↓fti, ↓reduceIte]
        refine ⟨by unfold I64; simp only [big] at hln; omega, (j + 1, ((max B0 (N.dl (j + 1)) : Nat) : Int), n5), ⟨⟨?_, by simp⟩, .inl rfl⟩, ⟨leM_tr q1 k5, by simp only; omega, by simp only [Nat.max_def]⟩, by simp only; omega⟩
        simp only
        rw [hdj, q3]
        clear hS hB0 hq3 hq4 g3 g4 h3 h4 hB
        (repeat' split) <;> omega
       ·clear hz
        have hj : j = X.ex.l := by omega
        refine ⟨by unfold I64; simp only [big] at hn; omega, (k + 1, ((depthSs (l.take (k + 1)) : Nat) : Int), ((exprDs (l.take (k + 1)) : Nat) : Int), mj), ⟨⟨rfl, ?_, by simp⟩, .inl rfl⟩, ⟨leM_tr h1 (leM_tr kk3 q1), by simp only; omega, rfl, rfl⟩, by simp only; omega⟩
        simp only
        rw [q3, g4.1, hj]
        clear hS hB0 hq3 hq4 g3 h3 h4
        (repeat' split) <;> omega
    ·clear hy hq3 hq4
     have : l.take k = l := List.take_of_length_le (by omega)
     rw [this] at h3 h4
     rw [h3, h4]
     exact ⟨h1, rfl⟩
def mdsS : List Md → Nat
 | [] => 0
 | e :: r => max (depthSs e.body) (mdsS r)
def mdsE : List Md → Nat
 | [] => 0
 | e :: r => max (exprDs e.body) (mdsE r)
def deepL (d : Cd) : Bool := decide (24 < max (depthSs d.init) (mdsS d.methods)) || decide (24 < max (exprDs d.init) (mdsE d.methods))
structure CdB (d : Cd) : Prop where
 s : depthSs d.init ≤ big
 e : exprDs d.init ≤ big
 ms : mdsS d.methods ≤ big
 me : mdsE d.methods ≤ big
theorem mdsS_take : ∀ {l : List Md} {k : Nat} (hk : k < l.length), mdsS (l.take (k + 1)) = max (mdsS (l.take k)) (depthSs l[k].body)
 | [], _, hk => absurd hk (Nat.not_lt_zero _)
 | e :: r, 0, _ => by simp [mdsS]
 | e :: r, k + 1, hk => by
  have := mdsS_take (l := r) (k := k) (by simpa using hk)
  simp only [List.take_succ_cons, mdsS, this, List.getElem_cons_succ, Nat.max_assoc]
theorem mdsE_take : ∀ {l : List Md} {k : Nat} (hk : k < l.length), mdsE (l.take (k + 1)) = max (mdsE (l.take k)) (exprDs l[k].body)
 | [], _, hk => absurd hk (Nat.not_lt_zero _)
 | e :: r, 0, _ => by simp [mdsE]
 | e :: r, k + 1, hk => by
  have := mdsE_take (l := r) (k := k) (by simpa using hk)
  simp only [List.take_succ_cons, mdsE, this, List.getElem_cons_succ, Nat.max_assoc]
theorem mdsS_mem : ∀ {l : List Md} {e : Md}, e ∈ l → depthSs e.body ≤ mdsS l
 | [], e, he => by cases he
 | x :: r, e, he => by
  simp only [mdsS]
  rcases List.mem_cons.1 he with rfl | he
  ·omega
  ·have := mdsS_mem he; omega
theorem mdsE_mem : ∀ {l : List Md} {e : Md}, e ∈ l → exprDs e.body ≤ mdsE l
 | [], e, he => by cases he
 | x :: r, e, he => by
  simp only [mdsE]
  rcases List.mem_cons.1 he with rfl | he
  ·omega
  ·have := mdsE_mem he; omega
theorem deep_spec (d : Cd) (cs : List Value) (m : Mem) (hB : CdB d) (h : cdRep m d cs) : Ans 55 [.v (.agg ⟨cs⟩)] m (.bool (deepL d)) := by
 obtain ⟨fl, name, super, ifs, fields, methods, init⟩ := d
 obtain ⟨x, ⟨rfl, rfl, rfl, rfl⟩, ⟨hil, hic, hfn, hfc, hml, hmc, hsl, hsc⟩, hok, r1, r2, xs, ys, r3, s3, r4, s4⟩ := h
 simp only at hil hfn hml hsl r1 r2 s3 s4
 obtain ⟨b1, b2, b3, b4⟩ := hB
 simp only at b1 b2 b3 b4
 have hI := depths_all (depthSs init) init x.sa x.sl x.sc ys m (Nnr _) b1 b2 hsl (by rw [hsl]; exact hok.l) r4 s4
 have hmb : x.ml ≤ big := by rw [hml]; exact hok.ml
 refine enter cfN puN Tryz.func55 rfl rfl (by kernel_rfl) rfl ?_ ?_
 ·simp only [go_sem, ↓tfi, ↓fti, ↓reduceIte, Cc.cs]
 ·simp only [go_sem, ↓tfi, ↓fti, ↓reduceIte, Cc.cs]
  refine cvl (hI.mono ?_)
  clear hI
  rintro r H' m1 hm1 ⟨l1, rfl, rfl⟩
  simp only [go_sem, ↓tfi, ↓fti, ↓reduceIte, Cc.cs]
  refine WP_loop puN (fun x' : Nat × Int × Int × Mem => ⟨[⟨3, [], .v (.int .i64 x'.2.1)⟩, ⟨4, [], .v (.int .i64 x'.2.2.1)⟩, ⟨16, [], .v (.slice x.ma x.ml x.mc)⟩, ⟨17, [], .v (.int .i64 x.ml)⟩, ⟨18, [], .v (.int .i64 x'.1)⟩], [], [], [], 1, x'.2.2.2⟩)
   (fun x' => leM m1 x'.2.2.2 ∧ x'.1 ≤ x.ml ∧ x'.2.1 = max (depthSs init) (mdsS (methods.take x'.1)) ∧ x'.2.2.1 = max (exprDs init) (mdsE (methods.take x'.1))) (fun x' => x.ml - x'.1) (0, depthSs init, exprDs init, m1) (by kernel_rfl) (fun _ _ => Nnr _) (fun x hx => hx.1) (fun _ => ?_) ?_ ?_ ?_
  ·simp only [go_sem, ↓tfi, ↓fti, ↓reduceIte]
  ·simp only [go_sem, ↓tfi, ↓fti, ↓reduceIte]
   rfl
  ·exact ⟨.inl rfl, Nat.zero_le _, by simp [mdsS], by simp [mdsE]⟩
  ·rintro ⟨k, s, e, mm⟩ ⟨h1, h2, h3, h4⟩
   simp only at h1 h2 h3 h4
   have hy : ∀ (hk : k < methods.length), ∃ (X : Mc) (v1 v2 : Nat), (Rd mm (ptrAt x.ma (k * 8)) X.cs ∧ x.ma ≠ none) ∧ DepR [.v (.slice X.a X.l X.cp)] mm v1 v2 ∧ (mdsS (methods.take (k + 1)) = max (mdsS (methods.take k)) v1 ∧ mdsE (methods.take (k + 1)) = max (mdsE (methods.take k)) v2) ∧ v1 ≤ big ∧ v2 ≤ big := fun hk => by
    have hrep := mdRep_up (leM_tr l1 h1) (ls_at s3 hk)
    have q1 := mdsS_mem (List.getElem_mem hk)
    have q2 := mdsE_mem (List.getElem_mem hk)
    have hrd := Rds_cells (Rds_upM (leM_tr l1 h1) r3) (by omega : k < x.ml)
    have t1 := mdsS_take hk
    have t2 := mdsE_take hk
    obtain ⟨X, ⟨e1, _⟩, ⟨e2, e3, e4, e5⟩, hk2, _, zs, r5, s5⟩ := md_parts hrep
    rw [e1] at hrd
    exact ⟨X, _, _, hrd, depths_all _ _ X.a X.l X.cp zs mm (Nnr _) (by omega) (by omega) e4 (by rw [e4]; exact hk2.l) r5 s5, ⟨t1, t2⟩, by omega, by omega⟩
   simp only [go_sem, ↓tfi, ↓fti, ↓reduceIte]
   refine ⟨fun hlt => ?_, fun hge => ?_⟩
   ·have hk : k < methods.length := by clear hy; omega
    refine Exists.elim (hy hk) fun X hy1 => Exists.elim hy1 fun v1 hy2 => Exists.elim hy2 fun v2 hy3 => ⟨⟨by clear hy hy1 hy2 hy3; omega, hlt, hy3.1.2⟩, X.cs, ⟨hy3.1.1, rfl⟩, ?_⟩
    clear hy hy1 hy2
    have hD := hy3.2.1
    have e1 := hy3.2.2.1.1
    have e2 := hy3.2.2.1.2
    clear hy3
    simp only [go_sem, ↓tfi, ↓fti, ↓reduceIte, Mc.cs]
    refine cvl (hD.mono ?_)
    clear hD
    rintro r H' m2 hm2 ⟨l2, rfl, rfl⟩
    simp only [go_sem, ↓tfi, ↓fti, ↓reduceIte]
    refine ⟨by unfold I64; simp only [big] at hmb; omega, (k + 1, ((max (depthSs init) (mdsS (methods.take (k + 1))) : Nat) : Int), ((max (exprDs init) (mdsE (methods.take (k + 1))) : Nat) : Int), m2), ⟨⟨?_, ?_, by simp⟩, .inl rfl⟩, ⟨leM_tr h1 l2, by simp only; omega, by simp only [Nat.max_def], by simp only [Nat.max_def]⟩, by simp only; omega⟩
    ·simp only
     rw [e1, h3]
     clear h3 h4 e1 e2
     (repeat' split) <;> omega
    ·simp only
     rw [e2, h4]
     clear h3 h4 e1 e2
     (repeat' split) <;> omega
   ·clear hy
    have : methods.take k = methods := List.take_of_length_le (by omega)
    rw [this] at h3 h4
    have e0 : deepL ⟨x.fl, x.name, x.super, ifs, fields, methods, init⟩ = (decide (24 < max (depthSs init) (mdsS methods)) || decide (24 < max (exprDs init) (mdsE methods))) := rfl
    refine ⟨leM_tr l1 h1, ?_⟩
    rw [e0]
    congr 1
    ·rw [decide_eq_decide]; omega
    ·rw [decide_eq_decide]; omega
def dupB {α : Type} [BEq α] : List α → List α → Bool
 | _, [] => false
 | seen, a :: r => seen.contains a || dupB (seen ++ [a]) r
def dupL (d : Cd) : Bool := dupB [] d.ifs || dupB [] (d.fields.map (·.name)) || dupB [] (d.methods.map fun m => (m.name, m.params.length))
def entS (l : List (List UInt8)) : List Value := (l.map fun s => [.string (bs s), .bool true]).flatten
theorem plains_map : ∀ (l : List Value), plains (l.map .v) = some l
 | [] => rfl
 | x :: r => by simp [plains, plain, plains_map r]
theorem okL_map {n : Nat} {vc : List Vc} : ∀ (l : List Value), okL n vc (l.map .v) = True
 | [] => rfl
 | x :: r => by simp [okL, okA, okL_map r]
theorem str_eq {a b : List UInt8} : (Value.string (bs a) = Value.string (bs b)) = (a = b) := propext ⟨fun h => bs_inj (Value.string.inj h), fun h => by rw [h]⟩
theorem findE_seen (s : List UInt8) : ∀ (l : List (List UInt8)), isT (findE (entS l) (.string (bs s))) = l.contains s
 | [] => rfl
 | a :: r => by
  have e : entS (a :: r) = .string (bs a) :: .bool true :: entS r := rfl
  rw [e, findE, str_eq, List.contains_cons]
  by_cases h : a = s
  ·rw [if_pos h]; subst h; simp [isT]
  ·rw [if_neg h, findE_seen s r, (beq_eq_false_iff_ne.2 fun e => h e.symm : (s == a) = false), Bool.false_or]
theorem putE_new (s : List UInt8) : ∀ (l : List (List UInt8)), l.contains s = false → putE (entS l) (.string (bs s)) (.bool true) = entS (l ++ [s])
 | [], _ => rfl
 | a :: r, h => by
  have e : entS (a :: r) = .string (bs a) :: .bool true :: entS r := rfl
  rw [List.contains_cons, Bool.or_eq_false_iff] at h
  have hn : ¬ a = s := fun e => (beq_eq_false_iff_ne.1 h.1) e.symm
  rw [e, putE, str_eq, if_neg hn, putE_new s r h.2]
  rfl
abbrev MKey := List UInt8 × Nat
def keyV (k : MKey) : Value := .agg ⟨[.string (bs k.1), .int .i64 k.2]⟩
theorem keyG_k (k : MKey) : keyG 1000001 (keyV k) = True := keyG_1 _ _
def entK (l : List MKey) : List Value := (l.map fun k => [keyV k, .bool true]).flatten
theorem keyV_eq {a b : MKey} : (keyV a = keyV b) = (a = b) := propext ⟨fun h => by
 obtain ⟨a1, a2⟩ := a
 obtain ⟨b1, b2⟩ := b
 simp only [keyV, Value.agg.injEq, Array.mk.injEq, List.cons.injEq, Value.string.injEq, Value.int.injEq, true_and, and_true] at h
 rw [bs_inj h.1, show a2 = b2 by omega], fun h => by rw [h]⟩
theorem findE_keys (k : MKey) : ∀ (l : List MKey), isT (findE (entK l) (keyV k)) = l.contains k
 | [] => rfl
 | a :: r => by
  have e : entK (a :: r) = keyV a :: .bool true :: entK r := rfl
  rw [e, findE, keyV_eq, List.contains_cons]
  by_cases h : a = k
  ·rw [if_pos h]; subst h; simp [isT]
  ·rw [if_neg h, findE_keys k r, (beq_eq_false_iff_ne.2 fun e => h e.symm : (k == a) = false), Bool.false_or]
theorem putE_keys (k : MKey) : ∀ (l : List MKey), l.contains k = false → putE (entK l) (keyV k) (.bool true) = entK (l ++ [k])
 | [], _ => rfl
 | a :: r, h => by
  have e : entK (a :: r) = keyV a :: .bool true :: entK r := rfl
  rw [List.contains_cons, Bool.or_eq_false_iff] at h
  have hn : ¬ a = k := fun e => (beq_eq_false_iff_ne.1 h.1) e.symm
  rw [e, putE, keyV_eq, if_neg hn, putE_keys k r h.2]
  rfl
theorem Rds_take {m : Mem} {a : Option Addr} {n k c : Nat} {l : List (List UInt8)} (h : Rds m a n 1 (strs l)) (hk : k ≤ n) : Rds m (if c = 0 then a else a.map (·.add (0 * 1))) (k - 0) 1 (strs (l.take k)) := by
 have hl := h.1
 simp only [strs, List.length_map, Nat.mul_one] at hl
 refine ⟨by simp [strs]; omega, fun h0 => ?_⟩
 obtain ⟨ad, rfl, hs, hcell⟩ := h.2 (by omega)
 have e : (if c = 0 then some ad else (some ad).map (·.add (0 * 1))) = some ad := by
  by_cases hc : c = 0
  ·rw [if_pos hc]
  ·rw [if_neg hc]; rfl
 refine ⟨ad, e, hs, fun j hj => ?_⟩
 obtain ⟨h1, h2⟩ := hcell j (by omega)
 refine ⟨?_, h2⟩
 rw [h1]
 simp only [strs, List.getElem?_map, List.getElem?_take]
 rw [if_pos (by omega)]
theorem dup_step {α : Type} [BEq α] {l : List α} {k : Nat} (hk : k < l.length) : dupB (l.take k) (l.drop k) = ((l.take k).contains l[k] || dupB (l.take (k + 1)) (l.drop (k + 1))) := by
 rw [List.drop_eq_getElem_cons hk, dupB, List.take_succ_eq_append_getElem hk]
/-! The types of the maps. -/
theorem mapD60 : mapD Tryz.prog 90 = (1000000, none) := by kernel_rfl
theorem mapD95 : mapD Tryz.prog 151 = (1000001, none) := by kernel_rfl
theorem mapOk60 : MapOk Tryz.prog 90 :=
 mapOk_str (k := 9) (e := 4) (by kernel_rfl) (by kernel_rfl) (by rw [mapD60]; decide) fun w => by
  rw [mapD60]
  exact zeroV_run (i := (Tryz.prog.info? 4).getD default) (by kernel_rfl) (by kernel_rfl) w
theorem zeroSg : zeroO Tryz.prog 153 = some [.v (.string (bs [])), .v (.int .i64 0)] := by kernel_rfl
theorem aggSg : aggN Tryz.prog 153 = some (some 2) := by kernel_rfl
theorem szSg : szT Tryz.prog 153 = 2 := by kernel_rfl
theorem fldSg_0 : fldO Tryz.prog 153 0 = some (0, none, 1) := by kernel_rfl
theorem fldSg_1 : fldO Tryz.prog 153 1 = some (1, none, 1) := by kernel_rfl
theorem bldSg : bldOk Tryz.prog 153 = true := by kernel_rfl
theorem eqOkSg : EqOk Tryz.prog 153 := eqOk_of zeroSg (by kernel_rfl) (by kernel_rfl) (by kernel_rfl) rfl (by kernel_rfl)
attribute [go_sem] mapD60 mapD95 zeroSg aggSg szSg fldSg_0 fldSg_1 bldSg
theorem tl_iff {a b : ByteArray} : tl a = tl b ↔ a = b := ⟨fun h => by have := congrArg bs h; rwa [bs_tl, bs_tl] at this, fun h => by rw [h]⟩
theorem findAsk {s : ByteArray} {n : Int} (w : World) : ∀ (es : List MapEntry) (i : Nat), (∀ x ∈ es, ∃ a k, x.key = .agg ⟨[.string a, .int .i64 k]⟩) →
  (Instr.findAsking 153 (.agg ⟨[.string s, .int .i64 n]⟩) es i).run Tryz.prog w = .ok (ixE es (.agg ⟨[.string s, .int .i64 n]⟩) i) w
 | [], _, _ => rfl
 | e :: es, i, h => by
  obtain ⟨a, k, ha⟩ := h e (List.mem_cons_self ..)
  have ih := findAsk (s := s) (n := n) w es (i + 1) fun x hx => h x (List.mem_cons_of_mem _ hx)
  have he := (eqOkSg [.string s, .int .i64 n] [.string a, .int .i64 k] (decide (tl s = tl a) && (decide (n = k) && true)) w (.const undef) (.const undef) .eql rfl (by rw [zeroSg]; rfl)).2
  simp only [Instr.findAsking, Sem.run_bind, ha, ixE]
  rw [show (Array.mk [Value.string s, Value.int .i64 n]) = [Value.string s, Value.int .i64 n].toArray from rfl, show (Array.mk [Value.string a, Value.int .i64 k]) = [Value.string a, Value.int .i64 k].toArray from rfl, he]
  simp only [Result.andThen_ok]
  by_cases hk : (Value.agg [Value.string a, Value.int .i64 k].toArray = Value.agg [Value.string s, Value.int .i64 n].toArray)
  ·rw [if_pos (ha.trans hk)]
   simp only [Value.agg.injEq, Array.mk.injEq, List.cons.injEq, Value.string.injEq, Value.int.injEq, true_and, and_true] at hk
   obtain ⟨rfl, rfl⟩ := hk
   simp
  ·rw [if_neg fun e => hk (ha.symm.trans e)]
   have : (decide (tl s = tl a) && (decide (n = k) && true)) = false := by
    simp only [Value.agg.injEq, Array.mk.injEq, List.cons.injEq, Value.string.injEq, Value.int.injEq, true_and, and_true] at hk
    simp only [Bool.and_true, Bool.and_eq_false_iff, decide_eq_false_iff_not, tl_iff]
    by_cases h1 : s = a
    ·exact .inr fun h2 => hk ⟨h1.symm, h2.symm⟩
    ·exact .inl h1
   rw [this]
   exact ih
theorem mapOk95 : MapOk Tryz.prog 151 := by
 refine ⟨by rw [mapD95]; decide, 153, 4, by kernel_rfl, fun w key em n hk => ?_, fun w key es hk hes => ?_, fun w => ?_⟩
 ·rw [mapD95] at hk
  unfold keyG at hk
  rw [if_pos rfl] at hk
  obtain ⟨s, k, rfl⟩ := hk
  have hu : Tryz.prog.underlying 153 = some (.struct (Tryz.prog.fieldsOf 153)) := by kernel_rfl
  have hfs : Tryz.prog.fieldsOf 153 = #[(Tryz.prog.fieldsOf 153).getD 0 default, (Tryz.prog.fieldsOf 153).getD 1 default] := by kernel_rfl
  rw [hfs] at hu
  have n0 : ((Tryz.prog.fieldsOf 153).getD 0 default).name = "name" := by kernel_rfl
  have n1 : ((Tryz.prog.fieldsOf 153).getD 1 default).name = "params" := by kernel_rfl
  have t0 : ((Tryz.prog.fieldsOf 153).getD 0 default).type = 9 := by kernel_rfl
  have t1 : ((Tryz.prog.fieldsOf 153).getD 1 default).type = 3 := by kernel_rfl
  have o0 : ((Tryz.prog.fieldsOf 153).getD 0 default).offset = 0 := by kernel_rfl
  have o1 : ((Tryz.prog.fieldsOf 153).getD 1 default).offset = 1 := by kernel_rfl
  have p0 := run_part_plain (P := Tryz.prog) (w := w) (e := 9) (by kernel_rfl) (xs := #[.string s, .int .i64 k]) (off := 0) (v := .string s) rfl
  have p1 := run_part_plain (P := Tryz.prog) (w := w) (e := 3) (by kernel_rfl) (xs := #[.string s, .int .i64 k]) (off := 1) (v := .int .i64 k) rfl
  have c0 := MapKept.run_checkKey (P := Tryz.prog) (w := w) (kt := 9) (d := .string) (k := .string s) (by kernel_rfl) (by simp [MapKept.IsKey]) em n
  have c1 := MapKept.run_checkKey (P := Tryz.prog) (w := w) (kt := 3) (d := .int .i64) (k := .int .i64 k) (by kernel_rfl) (by simp [MapKept.IsKey]) em n
  generalize (Tryz.prog.fieldsOf 153).getD 0 default = f0 at *
  generalize (Tryz.prog.fieldsOf 153).getD 1 default = f1 at *
  rw [Instr.checkKey]
  simp [run_underlying hu, Result.andThen, n0, n1, t0, t1, o0, o1, p0, p1, c0, c1]
 ·rw [mapD95] at hk hes
  unfold keyG at hk hes
  simp only [if_true] at hk hes
  obtain ⟨s, k, rfl⟩ := hk
  rw [run_findKey_eq w (by kernel_rfl)]
  exact findAsk w es 0 hes
 ·rw [mapD95]
  exact zeroV_run (i := (Tryz.prog.info? 4).getD default) (by kernel_rfl) (by kernel_rfl) w
attribute [go_sem] mapOk60 mapOk95
theorem dup_spec (d : Cd) (cs : List Value) (m : Mem) (h : cdRep m d cs) : Ans 56 [.v (.agg ⟨cs⟩)] m (.bool (dupL d)) := by
 obtain ⟨fl, name, super, ifs, fields, methods, init⟩ := d
 obtain ⟨x, ⟨rfl, rfl, rfl, rfl⟩, ⟨hil, hic, hfn, hfc, hml, hmc, hsl, hsc⟩, hok, r1, r2, xs, ys, r3, s3, r4, s4⟩ := h
 simp only at hil hfn hml hsl r1 r2 r3 s3 r4 s4
 have hib : x.il ≤ big := by rw [hil]; exact hok.il
 have hfb : x.fn ≤ big := by rw [hfn]; exact hok.fn
 have hmb : x.ml ≤ big := by rw [hml]; exact hok.ml
 clear r4 s4
 refine enter cfN puN Tryz.func56 rfl rfl (by kernel_rfl) rfl ?_ ?_
 ·simp only [go_sem, ↓tfi, ↓fti, ↓reduceIte, Cc.cs]
 ·simp only [go_sem, ↓tfi, ↓fti, ↓reduceIte, Cc.cs]
  refine WP_loop puN (fun x' : Nat × Mem => ⟨[⟨1, [], .box 0 0⟩, ⟨13, [], .v (.slice x.ia x.il x.ic)⟩, ⟨14, [], .v (.int .i64 x.il)⟩, ⟨15, [], .v (.int .i64 x'.1)⟩], [], [⟨0, 59, x.cs.map .v⟩], [], 1, x'.2⟩)
   (fun x' => leM m x'.2 ∧ x'.1 ≤ x.il ∧ dupB [] ifs = dupB (ifs.take x'.1) (ifs.drop x'.1)) (fun x' => x.il - x'.1) (0, m) (by kernel_rfl) (fun _ _ => Nnr _) (fun x hx => hx.1) (fun _ => ?_) ?_ ?_ ?_
  ·simp only [go_sem, ↓tfi, ↓fti, ↓reduceIte, Cc.cs]
  ·simp only [go_sem, ↓tfi, ↓fti, ↓reduceIte, Cc.cs]
   rfl
  ·exact ⟨.inl rfl, Nat.zero_le _, rfl⟩
  ·rintro ⟨k, mm⟩ ⟨h1, h2, h3⟩
   simp only at h1 h2 h3
   have hy : ∀ (hk : k < ifs.length), (Rd mm (ptrAt x.ia k) [.string (bs ifs[k])] ∧ x.ia ≠ none) ∧ FnH Tryz.prog 144 [.v (slv x.ia x.ic 0 k 1), .v (.string (bs ifs[k]))] ⟨[], []⟩ mm fun r H' _ => r = .v (.bool ((ifs.take k).contains ifs[k])) ∧ H' = ⟨[], []⟩ := fun hk =>
    ⟨strs_rd (Rds_upM h1 r1) hk, contains_spec (ifs.take k) ifs[k] _ (k - 0) (x.ic - 0) mm (Rds_take (Rds_upM h1 r1) (by omega)) (by simp only [big] at hib; omega)⟩
   simp only [go_sem, ↓tfi, ↓fti, ↓reduceIte, Cc.cs]
   refine ⟨fun hlt => ?_, fun hge => ?_⟩
   ·have hk : k < ifs.length := by clear hy; omega
    have hy' := hy hk
    clear hy
    refine ⟨⟨by clear hy'; omega, hlt, hy'.1.2⟩, _, hy'.1.1, ?_⟩
    simp only [go_sem, ↓tfi, ↓fti, ↓reduceIte, Cc.cs]
    have hds := dup_step hk
    refine ⟨⟨Int.le_refl _, by clear hy'; omega, by clear hy'; omega⟩, by kernel_rfl, FnV_of (hy'.2.mono ?_)⟩
    clear hy'
    rintro r H' m2 hm2 ⟨rfl, rfl⟩
    simp only [go_sem, ↓tfi, ↓fti, ↓reduceIte, Cc.cs]
    refine ⟨fun hc => ⟨leM_tr h1 (.inr hm2), ?_⟩, fun hc => ⟨by unfold I64; simp only [big] at hib; omega, (k + 1, m2), ⟨by simp, .inl rfl⟩, ⟨leM_tr h1 (.inr hm2), by simp only; omega, ?_⟩, by simp only; omega⟩⟩
    ·simp only [dupL, h3, hds, hc, Bool.true_or]
    ·simp only
     rw [h3, hds, hc, Bool.false_or]
   ·clear hy
    have hI : dupB [] ifs = false := by
     rw [h3, List.drop_of_length_le (by omega)]
     rfl
    refine WP_loop puN (fun x' : Nat × Mem => ⟨[⟨1, [], .box 0 0⟩, ⟨5, [], .mp 1⟩, ⟨29, [], .v (.slice x.fa x.fn x.fc)⟩, ⟨30, [], .v (.int .i64 x.fn)⟩, ⟨31, [], .v (.int .i64 x'.1)⟩], [], [⟨1, 1000000, (entS ((fields.map (·.name)).take x'.1)).map .v⟩, ⟨0, 59, x.cs.map .v⟩], [], 2, x'.2⟩)
     (fun x' => leM mm x'.2 ∧ x'.1 ≤ x.fn ∧ dupB [] (fields.map (·.name)) = dupB ((fields.map (·.name)).take x'.1) ((fields.map (·.name)).drop x'.1)) (fun x' => x.fn - x'.1) (0, mm) (by kernel_rfl) (fun _ _ => Nnr _) (fun x hx => ?_) (fun _ => ?_) ?_ ?_ ?_
    ·exact hx.1
    ·simp only [go_sem, ↓tfi, ↓fti, ↓reduceIte, Cc.cs, okL_map]
    ·simp only [go_sem, ↓tfi, ↓fti, ↓reduceIte, Cc.cs]
     exact ⟨rfl, rfl⟩
    ·exact ⟨.inl rfl, Nat.zero_le _, rfl⟩
    ·rintro ⟨j, mj⟩ ⟨q1, q2, q3⟩
     simp only at q1 q2 q3
     have hy : ∀ (hj : j < fields.length), Rd mj (ptrAt x.fa (j * 5)) (fields[j]).cs ∧ x.fa ≠ none := fun hj => by
      have := Rds_cells (Rds_upM (leM_tr h1 q1) r2) (by omega : j < x.fn)
      rw [flat_at (f := Fc.cs) (sz := 5) (fun _ => rfl) hj] at this
      exact this
     simp only [go_sem, ↓tfi, ↓fti, ↓reduceIte, Cc.cs]
     refine ⟨fun hlt => ?_, fun hge => ?_⟩
     ·have hj : j < fields.length := by omega
      refine ⟨⟨by omega, hlt, (hy hj).2⟩, (fields[j]).cs, ⟨(hy hj).1, rfl⟩, ?_⟩
      simp only [go_sem, ↓tfi, ↓fti, ↓reduceIte, Cc.cs, Fc.cs, plains_map, findE_seen]
      have hjl : j < (fields.map (·.name)).length := by simpa using hj
      have hds := dup_step hjl
      have hget : (fields.map (·.name))[j] = fields[j].name := by simp
      rw [hget] at hds
      refine ⟨fun hc => ⟨leM_tr h1 q1, ?_⟩, fun hc => ⟨by unfold I64; simp only [big] at hfb; omega, (j + 1, mj), ⟨by simp, ?_, .inl rfl⟩, ⟨q1, by simp only; omega, ?_⟩, by simp only; omega⟩⟩
      ·simp only [dupL, q3, hds, hc, Bool.true_or, Bool.or_true]
      ·simp only
       rw [putE_new _ _ hc, List.take_succ_eq_append_getElem hjl, hget]
      ·simp only
       rw [q3, hds, hc, Bool.false_or]
     ·have hF : dupB [] (fields.map (·.name)) = false := by
       rw [q3, List.drop_of_length_le (by simp; omega)]
       rfl
      refine WP_loop puN (fun x' : Nat × Mem => ⟨[⟨1, [], .box 0 0⟩, ⟨8, [], .mp 2⟩, ⟨45, [], .v (.slice x.ma x.ml x.mc)⟩, ⟨46, [], .v (.int .i64 x.ml)⟩, ⟨47, [], .v (.int .i64 x'.1)⟩], [], [⟨2, 1000001, (entK ((methods.map fun m => (m.name, m.params.length)).take x'.1)).map .v⟩, ⟨0, 59, x.cs.map .v⟩], [], 3, x'.2⟩)
       (fun x' => leM mj x'.2 ∧ x'.1 ≤ x.ml ∧ dupB [] (methods.map fun m => (m.name, m.params.length)) = dupB ((methods.map fun m => (m.name, m.params.length)).take x'.1) ((methods.map fun m => (m.name, m.params.length)).drop x'.1)) (fun x' => x.ml - x'.1) (0, mj) (by kernel_rfl) (fun _ _ => Nnr _) (fun x hx => hx.1) (fun _ => ?_) ?_ ?_ ?_
      ·simp only [go_sem, ↓tfi, ↓fti, ↓reduceIte, Cc.cs, okL_map]
      ·simp only [go_sem, ↓tfi, ↓fti, ↓reduceIte, Cc.cs]
       exact ⟨rfl, rfl⟩
      ·exact ⟨.inl rfl, Nat.zero_le _, rfl⟩
      ·rintro ⟨k, mk⟩ ⟨p1, p2, p3⟩
       simp only at p1 p2 p3
       have hy : ∀ (hj : k < methods.length), ∃ X : Mc, (Rd mk (ptrAt x.ma (k * 8)) X.cs ∧ x.ma ≠ none) ∧ X.name = methods[k].name ∧ X.pl = methods[k].params.length := fun hj => by
        have hrep := mdRep_up (leM_tr h1 (leM_tr q1 p1)) (ls_at s3 hj)
        have hrd := Rds_cells (Rds_upM (leM_tr h1 (leM_tr q1 p1)) r3) (by omega : k < x.ml)
        obtain ⟨X, e1, e2, _⟩ := hrep
        rw [e1.1] at hrd
        exact ⟨X, hrd, e1.2.2.2.1, e2.1⟩
       simp only [go_sem, ↓tfi, ↓fti, ↓reduceIte, Cc.cs]
       refine ⟨fun hlt => ?_, fun hge => ?_⟩
       ·have hj : k < methods.length := by omega
        refine Exists.elim (hy hj) fun X hX => ⟨⟨by clear hX hy; omega, hlt, hX.1.2⟩, X.cs, ⟨hX.1.1, rfl⟩, ?_⟩
        clear hy
        have hnm := hX.2.1
        have hpl := hX.2.2
        clear hX
        have hkv : Value.agg ⟨[.string (bs X.name), .int .i64 X.pl]⟩ = keyV (X.name, X.pl) := rfl
        simp only [go_sem, ↓tfi, ↓fti, ↓reduceIte, Cc.cs, Mc.cs, plains_map, hkv, keyG_k, findE_keys]
        have hjl : k < (methods.map fun m => (m.name, m.params.length)).length := by simpa using hj
        have hds := dup_step hjl
        have hget : (methods.map fun m => (m.name, m.params.length))[k] = (X.name, X.pl) := by simp [hnm, hpl]
        rw [hget] at hds
        refine ⟨fun hc => ⟨leM_tr h1 (leM_tr q1 p1), ?_⟩, fun hc => ⟨by unfold I64; simp only [big] at hmb; omega, (k + 1, mk), ⟨by simp, ?_, .inl rfl⟩, ⟨p1, by simp only; omega, ?_⟩, by simp only; omega⟩⟩
        ·simp only [dupL, p3, hds, hc, Bool.true_or, Bool.or_true]
        ·simp only
         rw [putE_keys _ _ hc, List.take_succ_eq_append_getElem hjl, hget]
        ·simp only
         rw [p3, hds, hc, Bool.false_or]
       ·have hM : dupB [] (methods.map fun m => (m.name, m.params.length)) = false := by
         rw [p3, List.drop_of_length_le (by simp; omega)]
         rfl
        exact ⟨leM_tr h1 (leM_tr q1 p1), by simp only [dupL, hI, hF, hM, Bool.or_false]⟩
def checkL : List (List UInt8) → List Cd → List UInt8 × Int
 | _, [] => ([], 0)
 | seen, d :: r => if classL d = true then (if deepL d = true then (d.name, 9) else if (seen.contains d.name || dupL d) = true then (d.name, 6) else checkL (seen ++ [d.name]) r) else (d.name, 4)
theorem check_spec (l : List Cd) (p : Option Addr) (n c : Nat) (m : Mem) (hg : Glob m) (hC : ∀ d ∈ l, CdB d) (h : prRep m l p n c) :
  FnH Tryz.prog 27 [.v (.slice p n c)] ⟨[], []⟩ m fun r H' m' => leM m m' ∧ H' = ⟨[], []⟩ ∧ r = .tup [.v (.string (bs (checkL [] l).1)), .v (.int .i64 (checkL [] l).2)] := by
 obtain ⟨hl, hcp, hn, xs, r1, s1⟩ := h
 refine enter cfN puN Tryz.func27 rfl rfl (by kernel_rfl) rfl ?_ ?_
 ·simp only [go_sem, ↓tfi, ↓fti, ↓reduceIte]
 ·simp only [go_sem, ↓tfi, ↓fti, ↓reduceIte]
  refine WP_loop puN (fun x : Nat × Mem => ⟨[⟨4, [], .mp 0⟩, ⟨8, [], .v (.slice p n c)⟩, ⟨9, [], .v (.int .i64 n)⟩, ⟨10, [], .v (.int .i64 x.1)⟩], [], [⟨0, 1000000, (entS ((l.map (·.name)).take x.1)).map .v⟩], [], 1, x.2⟩)
   (fun x => leM m x.2 ∧ x.1 ≤ n ∧ checkL [] l = checkL ((l.map (·.name)).take x.1) (l.drop x.1)) (fun x => n - x.1) (0, m) (by kernel_rfl) (fun _ _ => Nnr _) (fun x hx => hx.1) (fun _ => ?_) ?_ ?_ ?_
  ·simp only [go_sem, ↓tfi, ↓fti, ↓reduceIte, okL_map]
  ·simp only [go_sem, ↓tfi, ↓fti, ↓reduceIte]
   exact ⟨rfl, rfl⟩
  ·exact ⟨.inl rfl, Nat.zero_le _, rfl⟩
  ·rintro ⟨k, mm⟩ ⟨h1, h2, h3⟩
   simp only at h1 h2 h3
   have hy : ∀ (hk : k < l.length), ∃ X : Cc, (Rd mm (ptrAt p (k * 7)) X.cs ∧ p ≠ none) ∧ X.name = l[k].name ∧
     (Ans 54 [.v (.agg ⟨X.cs⟩)] mm (.bool (classL l[k]))) ∧ (∀ m', leM mm m' → Ans 55 [.v (.agg ⟨X.cs⟩)] m' (.bool (deepL l[k]))) ∧ (∀ m', leM mm m' → Ans 56 [.v (.agg ⟨X.cs⟩)] m' (.bool (dupL l[k]))) := fun hk => by
    have hrep := cdRep_up h1 (ls_at s1 hk)
    have hrd := Rds_cells (Rds_upM h1 r1) (by omega : k < n)
    have hX : ∃ X : Cc, (xs.drop (k * 7)).take 7 = X.cs ∧ X.name = l[k].name := by
     obtain ⟨X, e1, _⟩ := hrep
     exact ⟨X, e1.1, e1.2.2.1⟩
    obtain ⟨X, e1, e2⟩ := hX
    rw [e1] at hrd hrep
    have hok := hC _ (List.getElem_mem hk)
    exact ⟨X, hrd, e2, class_spec2 _ _ mm (hg.upM h1) hrep, fun m' hle => deep_spec _ _ m' hok (cdRep_up hle hrep), fun m' hle => dup_spec _ _ m' (cdRep_up hle hrep)⟩
   have hst : ∀ (hk : k < l.length), checkL [] l = (if classL l[k] = true then (if deepL l[k] = true then (l[k].name, 9) else if (((l.map (·.name)).take k).contains l[k].name || dupL l[k]) = true then (l[k].name, 6) else checkL ((l.map (·.name)).take (k + 1)) (l.drop (k + 1))) else (l[k].name, 4)) := fun hk => by
    rw [h3, List.drop_eq_getElem_cons hk, checkL]
    have : (l.map (·.name)).take (k + 1) = (l.map (·.name)).take k ++ [l[k].name] := by
     rw [List.take_succ_eq_append_getElem (by simpa using hk)]
     simp
    rw [this]
   clear hC
   simp only [go_sem, ↓tfi, ↓fti, ↓reduceIte]
   refine ⟨fun hlt => ?_, fun hge => ?_⟩
   ·have hk : k < l.length := by clear hy; omega
    have hst' := hst hk
    clear hst
    refine Exists.elim (hy hk) fun X hy' => ⟨⟨by clear hy hy'; omega, hlt, hy'.1.2⟩, X.cs, ⟨hy'.1.1, rfl⟩, ?_⟩
    clear hy
    have hnm := hy'.2.1
    have hV := hy'.2.2.1
    have hDp := hy'.2.2.2.1
    have hDu := hy'.2.2.2.2
    clear hy'
    simp only [go_sem, ↓tfi, ↓fti, ↓reduceIte, Cc.cs]
    refine cvl ((FnH_den hV (fun V => rfl)).mono ?_)
    clear hV
    rintro r H' m2 hm2 ⟨l2, rfl, rfl⟩
    simp only [go_sem, ↓tfi, ↓fti, ↓reduceIte, Cc.cs]
    refine ⟨fun b1 => ⟨leM_tr h1 l2, ?_⟩, fun b1 => cvl ((FnH_den (hDp m2 l2) (fun V => rfl)).mono ?_)⟩
    ·clear hDp hDu
     rw [hst', if_neg (by rw [b1]; decide), hnm]
    ·clear hDp
     rw [if_pos b1] at hst'
     rintro r H' m3 hm3 ⟨l3, rfl, rfl⟩
     have l23 := leM_tr l2 l3
     simp only [go_sem, ↓tfi, ↓fti, ↓reduceIte, Cc.cs, plains_map, findE_seen]
     refine ⟨fun b2 => ⟨leM_tr h1 l23, ?_⟩, fun b2 => ?_⟩
     ·clear hDu
      rw [hst', if_pos b2, hnm]
     ·rw [if_neg (by rw [b2]; decide)] at hst'
      refine ⟨fun b3 => cvl ((FnH_den (hDu m3 l23) (fun V => rfl)).mono ?_), fun b3 => ⟨leM_tr h1 l23, ?_⟩⟩
      ·clear hDu
       rw [← hnm, b3, Bool.false_or] at hst'
       rintro r H' m4 hm4 ⟨l4, rfl, rfl⟩
       have l24 := leM_tr l23 l4
       simp only [go_sem, ↓tfi, ↓fti, ↓reduceIte, Cc.cs, plains_map, findE_seen]
       refine ⟨fun b4 => ⟨leM_tr h1 l24, ?_⟩, fun b4 => ⟨by unfold I64; simp only [big] at hn; omega, (k + 1, m4), ⟨by simp, ?_, .inl rfl⟩, ⟨leM_tr h1 l24, by simp only; omega, ?_⟩, by simp only; omega⟩⟩
       ·rw [hst', if_pos b4]
       ·have hkl : k < (l.map (·.name)).length := by simpa using hk
        simp only
        rw [putE_new _ _ b3, List.take_succ_eq_append_getElem hkl, hnm]
        simp
       ·simp only
        rw [hst', if_neg (by rw [b4]; decide)]
      ·clear hDu
       rw [hst', ← hnm, b3, if_pos (by simp)]
   ·clear hy
    rw [h3, List.drop_of_length_le (by omega), checkL]
    exact ⟨h1, rfl⟩
def modsL : List (Int × List UInt8) := [(1, [112, 117, 98, 108, 105, 99]), (2, [112, 114, 105, 118, 97, 116, 101]), (4, [112, 114, 111, 116, 101, 99, 116, 101, 100]), (8, [115, 116, 97, 116, 105, 99]), (16, [102, 105, 110, 97, 108]), (32, [115, 121, 110, 99]), (1024, [97, 98, 115, 116, 114, 97, 99, 116])]
def Ex.args : Ex → List Ex | .mk _ _ _ _ _ args => args
end Go.Proofs.YtimddhkipjedcaaGreatDoor.E
namespace Go.Proofs.YtimddhkipjedcaaGreatDoor.E
open Go Go.ChangeShapes Go.WideShapes Go.ChangeAt Go.RowKit
mutual
theorem depth_size : ∀ (e : Ex), depthE e ≤ sizeE e
 | .mk _ _ _ _ _ args => by
  have := depthL_size args
  simp only [depthE, sizeE]; omega
theorem depthL_size : ∀ (l : List Ex), depthL l ≤ sizeL l
 | [] => by simp [depthL]
 | e :: r => by
  have h1 := depth_size e
  have h2 := depthL_size r
  simp only [depthL, sizeL]; omega
end
section
variable {H : Type} {enc : TypeId × Value → H} {W : World}
end
theorem add_addA (ad : Addr) (i j : Nat) (h : ad.spot = none) : (ad.add i).add j = ad.add (i + j) := by
 obtain ⟨e1, e2, e3⟩ := add_parts ad i h
 obtain ⟨f1, f2, f3⟩ := add_parts (ad.add i) j e3
 obtain ⟨g1, g2, g3⟩ := add_parts ad (i + j) h
 rcases hx : (ad.add i).add j with ⟨b, o, s⟩
 rcases hy : ad.add (i + j) with ⟨b', o', s'⟩
 rw [hx] at f1 f2 f3
 rw [hy] at g1 g2 g3
 simp only at f1 f2 f3 g1 g2 g3
 subst f3 g3
 have h1 : b = b' := by omega
 have h2 : o = o' := by omega
 rw [h1, h2]
theorem Rd_sub {m : Mem} {x : Value} {cs : List Value} (h : Rd m x cs) (o n : Nat) (hn : o + n ≤ cs.length) : Rd m (ptrAdd x o) ((cs.drop o).take n) := by
 obtain ⟨ad, rfl, hs, hc⟩ := h
 obtain ⟨e1, e2, e3⟩ := add_parts ad o hs
 refine ⟨ad.add o, rfl, e3, fun j hj => ?_⟩
 have hl : ((cs.drop o).take n).length = n := by rw [List.length_take, List.length_drop]; omega
 rw [hl] at hj
 obtain ⟨h1, h2⟩ := hc (o + j) (by omega)
 refine ⟨by rw [add_addA ad o j hs, h1, List.getElem?_take, if_pos hj, List.getElem?_drop], by rw [e1, e2]; omega⟩
mutual
def sizeS : St → Nat
 | .mk _ _ _ tg ex body alt => 1 + sizeE ex + sizeE tg + sizeSs body + sizeSs alt
def sizeSs : List St → Nat
 | [] => 0
 | e :: r => sizeS e + sizeSs r
end
end Go.Proofs.YtimddhkipjedcaaGreatDoor.E
namespace Go.Proofs.YtimddhkipjedcaaGreatDoor.E
open Go Go.ChangeShapes Go.WideShapes Go.ChangeAt Go.RowKit
section
variable {H : Type} {enc : TypeId × Value → H} {W : World}
end
end Go.Proofs.YtimddhkipjedcaaGreatDoor.E
namespace Go.Proofs.YtimddhkipjedcaaGreatDoor.E
open Go Go.ChangeShapes Go.WideShapes Go.ChangeAt Go.RowKit
def sizeM (d : Md) : Nat := 1 + d.params.length + sizeSs d.body
def sizeC (d : Cd) : Nat := 1 + d.fields.length + d.ifs.length + sizeSs d.init + (d.methods.map sizeM).sum
section
variable {H : Type} {enc : TypeId × Value → H} {W : World}
end
/-! What lies in memory is of bounded size. -/
/-! How many tokens. -/
abbrev PR (α : Type) := Except (List Tk) (α × List Tk)
def bndP {α β : Type} : PR α → (α → List Tk → PR β) → PR β
 | .ok x, k => k x.1 x.2
 | .error e, _ => .error e
def isP (s : List UInt8) : List Tk → Bool
 | [] => false
 | t :: _ => (decide (t.k = 2) || decide (t.k = 6)) && decide (t.s = s)
def hdS : List Tk → List UInt8
 | [] => []
 | t :: _ => t.s
def hdK : List Tk → Int
 | [] => 0
 | t :: _ => t.k
def hdN : List Tk → Int
 | [] => 0
 | t :: _ => t.n
def isClsP (l : List Tk) : Bool := decide (hdK l = 1) && isCls (hdS l)
def isIdP (l : List Tk) : Bool := decide (hdK l = 1) && !isCls (hdS l) && !(hdS l).contains 47
def expP {α : Type} (s : List UInt8) (l : List Tk) (k : List Tk → PR α) : PR α := if isP s l = true then k l.tail else .error l
def clsP (l : List Tk) : PR (List UInt8) := if isClsP l = true then .ok (hdS l, l.tail) else .error l
def idP (l : List Tk) : PR (List UInt8) := if isIdP l = true then .ok (hdS l, l.tail) else .error l
def baseP (l : List Tk) : PR Ty :=
 if isP intS l = true then .ok (⟨0, 73, []⟩, l.tail)
 else if isP longS l = true then .ok (⟨0, 74, []⟩, l.tail)
 else bndP (clsP l) fun s r => .ok (⟨0, 76, s⟩, r)
def Ty.up (t : Ty) : Ty := ⟨t.dim + 1, t.base, t.name⟩
def dimsP : Nat → Ty → List Tk → PR Ty
 | 0, t, l => .ok (t, l)
 | f + 1, t, l => if isP [91] l = true then expP [93] l.tail fun r => dimsP f t.up r else .ok (t, l)
def typP (l : List Tk) : PR Ty := bndP (baseP l) fun t r => dimsP r.length t r
def levL (n : Nat) : List (List UInt8) :=
 if n = 0 then [[124, 124]] else if n = 1 then [[38, 38]] else if n = 2 then [[124]] else if n = 3 then [[94]] else if n = 4 then [[38]]
 else if n = 5 then [[61, 61], [33, 61]] else if n = 6 then [[60], [60, 61], [62], [62, 61]] else if n = 7 then [[60, 60], [62, 62], [62, 62, 62]]
 else if n = 8 then [[43], [45]] else [[42], [47], [37]]
def isOpP (n : Nat) (l : List Tk) : Bool := decide (hdK l = 6) && (levL n).contains (hdS l)
def newP : Nat → Ty → List Tk → PR Ty
 | 0, t, l => .ok (t, l)
 | f + 1, t, l => if isP [93] l = true then expP [91] l.tail fun r => newP f t.up r else .ok (t, l)
mutual
def exprP : Nat → Nat → List Tk → PR Ex
 | 0, _, l => .error l
 | f + 1, n, l => if n = 10 then unaryP f l else bndP (exprP f (n + 1) l) fun e r => loopP f n e r
def loopP : Nat → Nat → Ex → List Tk → PR Ex
 | 0, _, _, l => .error l
 | f + 1, n, e, l =>
  if isOpP n l = true then bndP (exprP f (n + 1) l.tail) fun x r => loopP f n (.mk 16 0 (hdS l) [] zTy [e, x]) r
  else if n = 6 ∧ isP [105, 115] l = true then bndP (typP l.tail) fun t r => loopP f n (.mk 18 0 [] [] t [e]) r
  else if n = 6 ∧ isP [97, 115] l = true then bndP (typP l.tail) fun t r => loopP f n (.mk 17 0 [] [] t [e]) r
  else .ok (e, l)
def unaryP : Nat → List Tk → PR Ex
 | 0, l => .error l
 | f + 1, l =>
  if isP [45] l = true then bndP (unaryP f l.tail) fun x r => .ok (.mk 15 0 [45] [] zTy [x], r)
  else if isP [33] l = true then bndP (unaryP f l.tail) fun x r => .ok (.mk 15 0 [33] [] zTy [x], r)
  else bndP (operandP f l) fun e r => postP f e r
def postP : Nat → Ex → List Tk → PR Ex
 | 0, _, l => .error l
 | f + 1, e, l =>
  if isP [46] l = true then bndP (idP l.tail) fun s r =>
   if isP [40] r = true then bndP (argsP f r) fun es r2 => postP f (.mk 10 0 s [] zTy (e :: es)) r2
   else postP f (.mk 7 0 s [] zTy [e]) r
  else if isP [91] l = true then bndP (exprP f 0 l.tail) fun i r => expP [93] r fun r2 => postP f (.mk 9 0 [] [] zTy [e, i]) r2
  else .ok (e, l)
def argsP : Nat → List Tk → PR (List Ex)
 | 0, l => .error l
 | f + 1, l => expP [40] l fun r => if isP [41] r = true then .ok ([], r.tail) else bndP (exprP f 0 r) fun e r2 => moreP f [e] r2
def moreP : Nat → List Ex → List Tk → PR (List Ex)
 | 0, _, l => .error l
 | f + 1, acc, l => if isP [44] l = true then bndP (exprP f 0 l.tail) fun e r => moreP f (acc ++ [e]) r else expP [41] l fun r => .ok (acc, r)
def parenP : Nat → List Tk → PR Ex
 | 0, l => .error l
 | f + 1, l => expP [40] l fun r => bndP (exprP f 0 r) fun e r2 => expP [41] r2 fun r3 => .ok (e, r3)
def operandP : Nat → List Tk → PR Ex
 | 0, l => .error l
 | f + 1, l =>
  if hdK l = 3 then .ok (.mk 1 (hdN l) [] [] zTy [], l.tail)
  else if hdK l = 4 then .ok (.mk 2 (hdN l) [] [] zTy [], l.tail)
  else if hdK l = 5 then .ok (.mk 3 0 (hdS l) [] zTy [], l.tail)
  else if isIdP l = true then bndP (idP l) fun s r => .ok (.mk 6 0 s [] zTy [], r)
  else if isClsP l = true then bndP (clsP l) fun c r => expP [46] r fun r2 => bndP (idP r2) fun s r3 =>
   if isP [40] r3 = true then bndP (argsP f r3) fun es r4 => .ok (.mk 11 0 s c zTy es, r4) else .ok (.mk 8 0 s c zTy [], r3)
  else if isP [40] l = true then parenP f l
  else keyP f l
def keyP : Nat → List Tk → PR Ex
 | 0, l => .error l
 | f + 1, l =>
  if isP [110, 117, 108, 108] l = true then .ok (.mk 4 0 [] [] zTy [], l.tail)
  else if isP [116, 104, 105, 115] l = true then .ok (.mk 5 0 [] [] zTy [], l.tail)
  else if isP [115, 117, 112, 101, 114] l = true then expP [46] l.tail fun r => bndP (idP r) fun s r2 => bndP (argsP f r2) fun es r3 => .ok (.mk 12 0 s [] zTy es, r3)
  else if isP [110, 101, 119] l = true then bndP (baseP l.tail) fun t r =>
   if t.base = 76 ∧ isP [40] r = true then bndP (argsP f r) fun es r2 => .ok (.mk 13 0 [] t.name zTy es, r2)
   else expP [91] r fun r2 => bndP (newP r2.length t r2) fun t2 r3 => bndP (exprP f 0 r3) fun e r4 => expP [93] r4 fun r5 => .ok (.mk 14 0 [] [] t2 [e], r5)
  else if isP [108, 101, 110] l = true then bndP (parenP f l.tail) fun e r => .ok (.mk 19 0 [] [] zTy [e], r)
  else if isP intS l = true then bndP (parenP f l.tail) fun e r => .ok (.mk 20 0 [] [] zTy [e], r)
  else if isP longS l = true then bndP (parenP f l.tail) fun e r => .ok (.mk 21 0 [] [] zTy [e], r)
  else .error l
end
def Lim {α : Type} (g : Nat → α) (K : α) : Prop := ∃ F, ∀ f, F ≤ f → g f = K
theorem lim_const {α : Type} (K : α) : Lim (fun _ => K) K := ⟨0, fun _ _ => rfl⟩
theorem lim_succ {α : Type} {g h : Nat → α} {K : α} (e : ∀ f, g (f + 1) = h f) (H : Lim h K) : Lim g K := by
 obtain ⟨F, hF⟩ := H
 refine ⟨F + 1, fun f hf => ?_⟩
 cases f with
 | zero => omega
 | succ f => rw [e]; exact hF f (by omega)
theorem lim_bnd {α β : Type} {g : Nat → PR α} {k : Nat → α → List Tk → PR β} {a : α} {r : List Tk} {K : PR β} (hg : Lim g (.ok (a, r))) (hk : Lim (fun f => k f a r) K) : Lim (fun f => bndP (g f) (k f)) K := by
 obtain ⟨F, hF⟩ := hg
 obtain ⟨G, hG⟩ := hk
 refine ⟨max F G, fun f hf => ?_⟩
 simp only [hF f (by omega), bndP]
 exact hG f (by omega)
theorem lim_eq {α : Type} {g : Nat → α} {K K' : α} (h : Lim g K) (h' : Lim g K') : K = K' := by
 obtain ⟨F, hF⟩ := h
 obtain ⟨G, hG⟩ := h'
 rw [← hF (max F G) (by omega), hG (max F G) (by omega)]
structure Fol (n : Nat) (r : List Tk) : Prop where
 dot : isP [46] r = false
 lb : isP [91] r = false
 lp : isP [40] r = false
 op : ∀ m, n ≤ m → m ≤ 9 → isOpP m r = false
 is : n ≤ 6 → isP [105, 115] r = false ∧ isP [97, 115] r = false
theorem Fol.up {n m : Nat} {r : List Tk} (h : Fol n r) (hm : n ≤ m) : Fol m r := ⟨h.dot, h.lb, h.lp, fun q h1 h2 => h.op q (by omega) h2, fun h1 => h.is (by omega)⟩
/-! Types. -/
noncomputable def limK {α : Type} (g : Nat → PR α) : PR α := by
 classical
 exact if h : ∃ K, Lim g K then h.choose else .error []
theorem limK_lim {α : Type} {g : Nat → PR α} (h : ∃ K, Lim g K) : Lim g (limK g) := by
 unfold limK
 rw [dif_pos h]
 exact h.choose_spec
theorem limK_eq {α : Type} {g : Nat → PR α} {K : PR α} (h : Lim g K) : limK g = K := lim_eq (limK_lim ⟨K, h⟩) h
structure Good {α : Type} (lt : Bool) (l : List Tk) (K : PR α) : Prop where
 ok : ∀ x r, K = .ok (x, r) → r <:+ l ∧ (lt = true → r.length < l.length)
 er : ∀ r, K = .error r → r <:+ l
def Tot {α : Type} (lt : Bool) (g : Nat → PR α) (l : List Tk) : Prop := ∃ K, Lim g K ∧ Good lt l K
theorem Tot.lim {α : Type} {lt : Bool} {g : Nat → PR α} {l : List Tk} (h : Tot lt g l) : Lim g (limK g) := by
 obtain ⟨K, h1, _⟩ := h
 exact limK_lim ⟨K, h1⟩
theorem Tot.good {α : Type} {lt : Bool} {g : Nat → PR α} {l : List Tk} (h : Tot lt g l) : Good lt l (limK g) := by
 obtain ⟨K, h1, h2⟩ := h
 rw [limK_eq h1]
 exact h2
theorem suf_len {a b : List Tk} (h : a <:+ b) : a.length ≤ b.length := h.length_le
theorem tail_suf (l : List Tk) : l.tail <:+ l := List.tail_suffix l
theorem tail_lt {l : List Tk} (h : l ≠ []) : l.tail.length < l.length := by
 cases l with
 | nil => exact absurd rfl h
 | cons a r => simp
theorem isP_ne {s : List UInt8} {l : List Tk} (h : isP s l = true) : l ≠ [] := fun e => by rw [e] at h; cases h
theorem hdK_ne {l : List Tk} {k : Int} (h : hdK l = k) (hk : k ≠ 0) : l ≠ [] := fun e => by rw [e] at h; exact hk h.symm
theorem tot_ok {α : Type} {l r : List Tk} (x : α) {lt : Bool} (h1 : r <:+ l) (h2 : lt = true → r.length < l.length) : Tot lt (fun _ => .ok (x, r)) l :=
 ⟨_, lim_const _, fun y q e => by cases e; exact ⟨h1, h2⟩, fun q e => by cases e⟩
theorem tot_er {α : Type} {l r : List Tk} {lt : Bool} (h1 : r <:+ l) : Tot (α := α) lt (fun _ => .error r) l :=
 ⟨_, lim_const _, fun y q e => by (cases e), fun q e => by cases e; exact h1⟩
theorem tot_succ {α : Type} {lt : Bool} {g h : Nat → PR α} {l : List Tk} (e : ∀ f, g (f + 1) = h f) (H : Tot lt h l) : Tot lt g l := by
 obtain ⟨K, h1, h2⟩ := H
 exact ⟨K, lim_succ e h1, h2⟩
theorem lim_err {α β : Type} {g : Nat → PR α} {k : Nat → α → List Tk → PR β} {r : List Tk} (hg : Lim g (.error r)) : Lim (fun f => bndP (g f) (k f)) (.error r) := by
 obtain ⟨F, hF⟩ := hg
 exact ⟨F, fun f hf => by simp only [hF f hf, bndP]⟩
theorem tot_bnd {α β : Type} {a b : Bool} {g : Nat → PR α} {k : Nat → α → List Tk → PR β} {l : List Tk} (hg : Tot a g l)
  (hk : ∀ x r, r <:+ l → (a = true → r.length < l.length) → Tot b (fun f => k f x r) r) : Tot (a || b) (fun f => bndP (g f) (k f)) l := by
 obtain ⟨K, h1, h2⟩ := hg
 cases K with
 | error r => exact ⟨.error r, lim_err h1, fun x q e => by (cases e), fun q e => by cases e; exact h2.er _ rfl⟩
 | ok p =>
  obtain ⟨x, r⟩ := p
  obtain ⟨s1, s2⟩ := h2.ok x r rfl
  obtain ⟨K2, h3, h4⟩ := hk x r s1 s2
  refine ⟨K2, lim_bnd h1 h3, fun y q e => ?_, fun q e => (h4.er q e).trans s1⟩
  obtain ⟨t1, t2⟩ := h4.ok y q e
  refine ⟨t1.trans s1, fun hab => ?_⟩
  have u1 := suf_len s1
  have u2 := suf_len t1
  cases a with
  | true => have := s2 rfl; omega
  | false =>
   cases b with
   | true => have := t2 rfl; omega
   | false => cases hab
theorem tot_weak {α : Type} {g : Nat → PR α} {l : List Tk} {a : Bool} (b : Bool) (h : Tot a g l) (hab : b = true → a = true) : Tot b g l := by
 obtain ⟨K, h1, h2⟩ := h
 exact ⟨K, h1, fun x r e => ⟨(h2.ok x r e).1, fun hb => (h2.ok x r e).2 (hab hb)⟩, h2.er⟩
theorem tot_up {α : Type} {g : Nat → PR α} {l r : List Tk} (h1 : r <:+ l) {a : Bool} (h : Tot a g r) : Tot a g l := by
 obtain ⟨K, q1, q2⟩ := h
 refine ⟨K, q1, fun x s e => ?_, fun s e => (q2.er s e).trans h1⟩
 obtain ⟨t1, t2⟩ := q2.ok x s e
 exact ⟨t1.trans h1, fun ha => Nat.lt_of_lt_of_le (t2 ha) (suf_len h1)⟩
theorem tot_lt {α : Type} {g : Nat → PR α} {l r : List Tk} (h1 : r <:+ l) (h2 : r.length < l.length) {a : Bool} (h : Tot a g r) : Tot true g l := by
 obtain ⟨K, q1, q2⟩ := h
 refine ⟨K, q1, fun x s e => ?_, fun s e => (q2.er s e).trans h1⟩
 obtain ⟨t1, t2⟩ := q2.ok x s e
 exact ⟨t1.trans h1, fun _ => Nat.lt_of_le_of_lt (suf_len t1) h2⟩
theorem tot_if {α : Type} {p : Prop} [Decidable p] {g h : Nat → PR α} {l : List Tk} {a : Bool} (h1 : p → Tot a g l) (h2 : ¬ p → Tot a h l) : Tot a (fun f => if p then g f else h f) l := by
 by_cases hp : p
 ·simp only [if_pos hp]; exact h1 hp
 ·simp only [if_neg hp]; exact h2 hp
theorem tot_exp {α : Type} {s : List UInt8} {l : List Tk} {k : Nat → List Tk → PR α} {a : Bool} (h : isP s l = true → l.tail.length < l.length → Tot a (fun f => k f l.tail) l.tail) : Tot true (fun f => expP s l (k f)) l := by
 unfold expP
 refine tot_if (fun hs => ?_) fun _ => tot_er (List.suffix_refl _)
 have := tail_lt (isP_ne hs)
 exact tot_lt (tail_suf l) this (h hs this)
theorem tot_cls (l : List Tk) : Tot true (fun _ => clsP l) l := by
 unfold clsP
 refine tot_if (fun h => ?_) fun _ => tot_er (List.suffix_refl _)
 simp only [isClsP, Bbt, decide_eq_true_eq] at h
 exact tot_ok _ (tail_suf l) fun _ => tail_lt (hdK_ne h.1 (by decide))
theorem tot_id (l : List Tk) : Tot true (fun _ => idP l) l := by
 unfold idP
 refine tot_if (fun h => ?_) fun _ => tot_er (List.suffix_refl _)
 simp only [isIdP, Bbt, decide_eq_true_eq] at h
 exact tot_ok _ (tail_suf l) fun _ => tail_lt (hdK_ne h.1.1 (by decide))
theorem tot_base (l : List Tk) : Tot true (fun _ => baseP l) l := by
 unfold baseP
 refine tot_if (fun h => tot_ok _ (tail_suf l) fun _ => tail_lt (isP_ne h)) fun _ => ?_
 refine tot_if (fun h => tot_ok _ (tail_suf l) fun _ => tail_lt (isP_ne h)) fun _ => ?_
 exact tot_bnd (b := false) (tot_cls l) fun x r h1 h2 => tot_ok _ (List.suffix_refl _) fun h => by cases h
theorem dims_good : ∀ (f : Nat) (t : Ty) (l : List Tk), Good false l (dimsP f t l)
 | 0, t, l => ⟨fun x r e => by cases e; exact ⟨List.suffix_refl _, fun h => by cases h⟩, fun r e => by cases e⟩
 | f + 1, t, l => by
  rw [dimsP]
  by_cases h : isP [91] l = true
  ·rw [if_pos h]
   unfold expP
   by_cases h2 : isP [93] l.tail = true
   ·rw [if_pos h2]
    have ih := dims_good f t.up l.tail.tail
    have s : l.tail.tail <:+ l := (tail_suf _).trans (tail_suf l)
    exact ⟨fun x r e => ⟨(ih.ok x r e).1.trans s, fun h => by cases h⟩, fun r e => (ih.er r e).trans s⟩
   ·rw [if_neg h2]
    exact ⟨fun x r e => by (cases e), fun r e => by cases e; exact tail_suf l⟩
  ·rw [if_neg h]
   exact ⟨fun x r e => by cases e; exact ⟨List.suffix_refl _, fun h => by cases h⟩, fun r e => by cases e⟩
theorem new_good : ∀ (f : Nat) (t : Ty) (l : List Tk), Good false l (newP f t l)
 | 0, t, l => ⟨fun x r e => by cases e; exact ⟨List.suffix_refl _, fun h => by cases h⟩, fun r e => by cases e⟩
 | f + 1, t, l => by
  rw [newP]
  by_cases h : isP [93] l = true
  ·rw [if_pos h]
   unfold expP
   by_cases h2 : isP [91] l.tail = true
   ·rw [if_pos h2]
    have ih := new_good f t.up l.tail.tail
    have s : l.tail.tail <:+ l := (tail_suf _).trans (tail_suf l)
    exact ⟨fun x r e => ⟨(ih.ok x r e).1.trans s, fun h => by cases h⟩, fun r e => (ih.er r e).trans s⟩
   ·rw [if_neg h2]
    exact ⟨fun x r e => by (cases e), fun r e => by cases e; exact tail_suf l⟩
  ·rw [if_neg h]
   exact ⟨fun x r e => by cases e; exact ⟨List.suffix_refl _, fun h => by cases h⟩, fun r e => by cases e⟩
theorem tot_const {α : Type} {K : PR α} {l : List Tk} {a : Bool} (h : Good a l K) : Tot a (fun _ => K) l := ⟨K, lim_const _, h⟩
theorem tot_typ (l : List Tk) : Tot true (fun _ => typP l) l := by
 unfold typP
 exact tot_bnd (b := false) (tot_base l) fun t r _ _ => tot_const (dims_good _ _ _)
structure EX (l : List Tk) : Prop where
 expr : ∀ n, n ≤ 10 → Tot true (fun f => exprP f n l) l
 loop : ∀ n e, n ≤ 9 → Tot false (fun f => loopP f n e l) l
 unary : Tot true (fun f => unaryP f l) l
 post : ∀ e, Tot false (fun f => postP f e l) l
 args : Tot true (fun f => argsP f l) l
 more : ∀ acc, Tot true (fun f => moreP f acc l) l
 paren : Tot true (fun f => parenP f l) l
 operand : Tot true (fun f => operandP f l) l
 key : Tot true (fun f => keyP f l) l
theorem ex_of {l : List Tk} (ih : ∀ r : List Tk, r.length < l.length → EX r) : EX l := by
 have hargs : Tot true (fun f => argsP f l) l := by
  refine tot_succ (h := fun f => expP [40] l fun r => if isP [41] r = true then .ok ([], r.tail) else bndP (exprP f 0 r) fun e r2 => moreP f [e] r2) (fun f => by rw [argsP]) ?_
  refine tot_exp (a := false) fun hs hlt => ?_
  refine tot_if (fun h => tot_ok _ (tail_suf _) fun h => by cases h) fun _ => ?_
  exact tot_weak false (tot_bnd (b := true) ((ih _ hlt).expr 0 (by decide)) fun e r h1 h2 => (ih r (by have := h2 rfl; omega)).more _) fun h => by cases h
 have hparen : Tot true (fun f => parenP f l) l := by
  refine tot_succ (h := fun f => expP [40] l fun r => bndP (exprP f 0 r) fun e r2 => expP [41] r2 fun r3 => .ok (e, r3)) (fun f => by rw [parenP]) ?_
  refine tot_exp (a := true) fun hs hlt => ?_
  exact tot_bnd (b := true) ((ih _ hlt).expr 0 (by decide)) fun e r h1 h2 => tot_exp (a := false) fun _ _ => tot_ok _ (List.suffix_refl _) fun h => by cases h
 have hmore : ∀ acc, Tot true (fun f => moreP f acc l) l := fun acc => by
  refine tot_succ (h := fun f => if isP [44] l = true then bndP (exprP f 0 l.tail) fun e r => moreP f (acc ++ [e]) r else expP [41] l fun r => .ok (acc, r)) (fun f => by rw [moreP]) ?_
  refine tot_if (fun h => ?_) fun _ => tot_exp (a := false) fun _ _ => tot_ok _ (List.suffix_refl _) fun h => by cases h
  have hlt := tail_lt (isP_ne h)
  exact tot_lt (tail_suf l) hlt (tot_bnd (b := true) ((ih _ hlt).expr 0 (by decide)) fun e r h1 h2 => (ih r (by have := h2 rfl; omega)).more _)
 have hpost : ∀ e, Tot false (fun f => postP f e l) l := fun e => by
  refine tot_succ (h := fun f => if isP [46] l = true then bndP (idP l.tail) fun s r =>
   if isP [40] r = true then bndP (argsP f r) fun es r2 => postP f (.mk 10 0 s [] zTy (e :: es)) r2 else postP f (.mk 7 0 s [] zTy [e]) r
   else if isP [91] l = true then bndP (exprP f 0 l.tail) fun i r => expP [93] r fun r2 => postP f (.mk 9 0 [] [] zTy [e, i]) r2
   else .ok (e, l)) (fun f => by rw [postP]) ?_
  refine tot_if (fun h => ?_) fun _ => tot_if (fun h => ?_) fun _ => tot_ok _ (List.suffix_refl _) fun h => by cases h
  ·have hlt := tail_lt (isP_ne h)
   refine tot_up (tail_suf l) (tot_weak false (tot_bnd (b := false) (tot_id l.tail) fun s r h1 h2 => ?_) fun h => by cases h)
   have hr := suf_len h1
   refine tot_if (fun hp => ?_) fun _ => (ih r (by omega)).post _
   exact tot_weak false (tot_bnd (b := false) (ih r (by omega)).args fun es r2 h3 h4 => (ih r2 (by have := suf_len h3; omega)).post _) fun h => by cases h
  ·have hlt := tail_lt (isP_ne h)
   refine tot_up (tail_suf l) (tot_weak false (tot_bnd (b := true) ((ih _ hlt).expr 0 (by decide)) fun i r h1 h2 => ?_) fun h => by cases h)
   have hr := suf_len h1
   exact tot_exp (a := false) fun _ hl2 => (ih _ (by omega)).post _
 have hloop : ∀ n e, n ≤ 9 → Tot false (fun f => loopP f n e l) l := fun n e hn => by
  refine tot_succ (h := fun f => if isOpP n l = true then bndP (exprP f (n + 1) l.tail) fun x r => loopP f n (.mk 16 0 (hdS l) [] zTy [e, x]) r
   else if n = 6 ∧ isP [105, 115] l = true then bndP (typP l.tail) fun t r => loopP f n (.mk 18 0 [] [] t [e]) r
   else if n = 6 ∧ isP [97, 115] l = true then bndP (typP l.tail) fun t r => loopP f n (.mk 17 0 [] [] t [e]) r
   else .ok (e, l)) (fun f => by rw [loopP]) ?_
  refine tot_if (fun h => ?_) fun _ => tot_if (fun h => ?_) fun _ => tot_if (fun h => ?_) fun _ => tot_ok _ (List.suffix_refl _) fun h => by cases h
  ·simp only [isOpP, Bbt, decide_eq_true_eq] at h
   have hlt := tail_lt (hdK_ne h.1 (by decide))
   exact tot_up (tail_suf l) (tot_weak false (tot_bnd (b := false) ((ih _ hlt).expr (n + 1) (by omega)) fun x r h1 h2 => (ih r (by have := suf_len h1; omega)).loop n _ hn) fun h => by cases h)
  ·have hlt := tail_lt (isP_ne h.2)
   exact tot_up (tail_suf l) (tot_weak false (tot_bnd (b := false) (tot_typ l.tail) fun x r h1 h2 => (ih r (by have := suf_len h1; omega)).loop n _ hn) fun h => by cases h)
  ·have hlt := tail_lt (isP_ne h.2)
   exact tot_up (tail_suf l) (tot_weak false (tot_bnd (b := false) (tot_typ l.tail) fun x r h1 h2 => (ih r (by have := suf_len h1; omega)).loop n _ hn) fun h => by cases h)
 have hkey : Tot true (fun f => keyP f l) l := by
  refine tot_succ (h := fun f =>
   if isP [110, 117, 108, 108] l = true then .ok (.mk 4 0 [] [] zTy [], l.tail)
   else if isP [116, 104, 105, 115] l = true then .ok (.mk 5 0 [] [] zTy [], l.tail)
   else if isP [115, 117, 112, 101, 114] l = true then expP [46] l.tail fun r => bndP (idP r) fun s r2 => bndP (argsP f r2) fun es r3 => .ok (.mk 12 0 s [] zTy es, r3)
   else if isP [110, 101, 119] l = true then bndP (baseP l.tail) fun t r =>
    if t.base = 76 ∧ isP [40] r = true then bndP (argsP f r) fun es r2 => .ok (.mk 13 0 [] t.name zTy es, r2)
    else expP [91] r fun r2 => bndP (newP r2.length t r2) fun t2 r3 => bndP (exprP f 0 r3) fun e r4 => expP [93] r4 fun r5 => .ok (.mk 14 0 [] [] t2 [e], r5)
   else if isP [108, 101, 110] l = true then bndP (parenP f l.tail) fun e r => .ok (.mk 19 0 [] [] zTy [e], r)
   else if isP intS l = true then bndP (parenP f l.tail) fun e r => .ok (.mk 20 0 [] [] zTy [e], r)
   else if isP longS l = true then bndP (parenP f l.tail) fun e r => .ok (.mk 21 0 [] [] zTy [e], r)
   else .error l) (fun f => by rw [keyP]) ?_
  have fin : ∀ {x : Ex} {r : List Tk}, Tot false (fun _ => Except.ok (x, r)) r := fun {x r} => tot_ok _ (List.suffix_refl _) fun h => by cases h
  refine tot_if (fun h => tot_ok _ (tail_suf l) fun _ => tail_lt (isP_ne h)) fun _ => tot_if (fun h => tot_ok _ (tail_suf l) fun _ => tail_lt (isP_ne h)) fun _ =>
   tot_if (fun h => ?_) fun _ => tot_if (fun h => ?_) fun _ => tot_if (fun h => ?_) fun _ => tot_if (fun h => ?_) fun _ => tot_if (fun h => ?_) fun _ => tot_er (List.suffix_refl _)
  ·have hlt := tail_lt (isP_ne h)
   refine tot_lt (tail_suf l) hlt (tot_exp (a := true) fun _ hl2 => tot_bnd (b := true) (tot_id _) fun s r2 h1 h2 => ?_)
   have := suf_len h1
   exact tot_bnd (b := false) (ih r2 (by omega)).args fun es r3 _ _ => fin
  ·have hlt := tail_lt (isP_ne h)
   refine tot_lt (tail_suf l) hlt (tot_bnd (b := true) (tot_base _) fun t r h1 h2 => ?_)
   have hr := suf_len h1
   refine tot_if (fun _ => tot_bnd (b := false) (ih r (by omega)).args fun es r2 _ _ => fin) fun _ => ?_
   refine tot_exp (a := true) fun _ hl2 => tot_bnd (a := false) (b := true) (tot_const (new_good _ _ _)) fun t2 r3 h3 _ => ?_
   have := suf_len h3
   exact tot_bnd (b := true) ((ih r3 (by omega)).expr 0 (by decide)) fun e r4 _ _ => tot_exp (a := false) fun _ _ => fin
  ·have hlt := tail_lt (isP_ne h)
   exact tot_lt (tail_suf l) hlt (tot_bnd (b := false) (ih _ hlt).paren fun e r _ _ => fin)
  ·have hlt := tail_lt (isP_ne h)
   exact tot_lt (tail_suf l) hlt (tot_bnd (b := false) (ih _ hlt).paren fun e r _ _ => fin)
  ·have hlt := tail_lt (isP_ne h)
   exact tot_lt (tail_suf l) hlt (tot_bnd (b := false) (ih _ hlt).paren fun e r _ _ => fin)
 have hoperand : Tot true (fun f => operandP f l) l := by
  refine tot_succ (h := fun f =>
   if hdK l = 3 then .ok (.mk 1 (hdN l) [] [] zTy [], l.tail)
   else if hdK l = 4 then .ok (.mk 2 (hdN l) [] [] zTy [], l.tail)
   else if hdK l = 5 then .ok (.mk 3 0 (hdS l) [] zTy [], l.tail)
   else if isIdP l = true then bndP (idP l) fun s r => .ok (.mk 6 0 s [] zTy [], r)
   else if isClsP l = true then bndP (clsP l) fun c r => expP [46] r fun r2 => bndP (idP r2) fun s r3 =>
    if isP [40] r3 = true then bndP (argsP f r3) fun es r4 => .ok (.mk 11 0 s c zTy es, r4) else .ok (.mk 8 0 s c zTy [], r3)
   else if isP [40] l = true then parenP f l
   else keyP f l) (fun f => by rw [operandP]) ?_
  have fin : ∀ {x : Ex} {r : List Tk}, Tot false (fun _ => Except.ok (x, r)) r := fun {x r} => tot_ok _ (List.suffix_refl _) fun h => by cases h
  refine tot_if (fun h => tot_ok _ (tail_suf l) fun _ => tail_lt (hdK_ne h (by decide))) fun _ => tot_if (fun h => tot_ok _ (tail_suf l) fun _ => tail_lt (hdK_ne h (by decide))) fun _ =>
   tot_if (fun h => tot_ok _ (tail_suf l) fun _ => tail_lt (hdK_ne h (by decide))) fun _ => tot_if (fun h => tot_bnd (b := false) (tot_id l) fun _ _ _ _ => fin) fun _ =>
   tot_if (fun h => ?_) fun _ => tot_if (fun _ => hparen) fun _ => hkey
  refine tot_bnd (b := true) (tot_cls l) fun c r h1 h2 => tot_exp (a := true) fun _ hl2 => tot_bnd (b := false) (tot_id _) fun s r3 h3 h4 => ?_
  have q1 := suf_len h1
  have q3 := suf_len h3
  exact tot_if (fun _ => tot_weak false (tot_bnd (b := false) (ih r3 (by have := h2 rfl; omega)).args fun es r4 _ _ => fin) fun h => by cases h) fun _ => fin
 have hunary : Tot true (fun f => unaryP f l) l := by
  refine tot_succ (h := fun f =>
   if isP [45] l = true then bndP (unaryP f l.tail) fun x r => .ok (.mk 15 0 [45] [] zTy [x], r)
   else if isP [33] l = true then bndP (unaryP f l.tail) fun x r => .ok (.mk 15 0 [33] [] zTy [x], r)
   else bndP (operandP f l) fun e r => postP f e r) (fun f => by rw [unaryP]) ?_
  have fin : ∀ {x : Ex} {r : List Tk}, Tot false (fun _ => Except.ok (x, r)) r := fun {x r} => tot_ok _ (List.suffix_refl _) fun h => by cases h
  refine tot_if (fun h => ?_) fun _ => tot_if (fun h => ?_) fun _ => tot_bnd (b := false) hoperand fun e r h1 h2 => (ih r (h2 rfl)).post e
  ·exact tot_lt (tail_suf l) (tail_lt (isP_ne h)) (tot_bnd (b := false) (ih _ (tail_lt (isP_ne h))).unary fun x r _ _ => fin)
  ·exact tot_lt (tail_suf l) (tail_lt (isP_ne h)) (tot_bnd (b := false) (ih _ (tail_lt (isP_ne h))).unary fun x r _ _ => fin)
 have hexpr : ∀ k n, n + k = 10 → Tot true (fun f => exprP f n l) l := fun k => by
  induction k with
  | zero =>
   intro n hn
   exact tot_succ (h := fun f => unaryP f l) (fun f => by rw [exprP, if_pos (by omega)]) hunary
  | succ k ihk =>
   intro n hn
   refine tot_succ (h := fun f => bndP (exprP f (n + 1) l) fun e r => loopP f n e r) (fun f => by rw [exprP, if_neg (by omega)]) ?_
   exact tot_bnd (b := false) (ihk (n + 1) (by omega)) fun e r h1 h2 => (ih r (h2 rfl)).loop n e (by omega)
 exact ⟨fun n hn => hexpr (10 - n) n (by omega), hloop, hunary, hpost, hargs, hmore, hparen, hoperand, hkey⟩
theorem ex_all : ∀ (N : Nat) (l : List Tk), l.length ≤ N → EX l
 | 0, l, h => ex_of fun r hr => by omega
 | N + 1, l, h => ex_of fun r hr => ex_all N r (by omega)
theorem ex_tot (l : List Tk) : EX l := ex_all _ l (Nnr _)
/-! The answers as functions, and their equations. -/
noncomputable def exprK (n : Nat) (l : List Tk) : PR Ex := limK fun f => exprP f n l
noncomputable def loopK (n : Nat) (e : Ex) (l : List Tk) : PR Ex := limK fun f => loopP f n e l
noncomputable def unaryK (l : List Tk) : PR Ex := limK fun f => unaryP f l
noncomputable def postK (e : Ex) (l : List Tk) : PR Ex := limK fun f => postP f e l
noncomputable def argsK (l : List Tk) : PR (List Ex) := limK fun f => argsP f l
noncomputable def moreK (acc : List Ex) (l : List Tk) : PR (List Ex) := limK fun f => moreP f acc l
noncomputable def parenK (l : List Tk) : PR Ex := limK fun f => parenP f l
noncomputable def operandK (l : List Tk) : PR Ex := limK fun f => operandP f l
noncomputable def keyK (l : List Tk) : PR Ex := limK fun f => keyP f l
theorem lim_bndK {α β : Type} {g : Nat → PR α} {k : Nat → α → List Tk → PR β} {K : PR α} {k2 : α → List Tk → PR β} (hg : Lim g K) (hk : ∀ x r, Lim (fun f => k f x r) (k2 x r)) : Lim (fun f => bndP (g f) (k f)) (bndP K k2) := by
 cases K with
 | error r => exact lim_err hg
 | ok p => obtain ⟨x, r⟩ := p; exact lim_bnd hg (hk x r)
theorem lim_expK {α : Type} {s : List UInt8} {l : List Tk} {k : Nat → List Tk → PR α} {k2 : List Tk → PR α} (hk : Lim (fun f => k f l.tail) (k2 l.tail)) : Lim (fun f => expP s l (k f)) (expP s l k2) := by
 unfold expP
 by_cases h : isP s l = true
 ·simp only [if_pos h]; exact hk
 ·simp only [if_neg h]; exact lim_const _
theorem lim_ifK {α : Type} {p : Prop} [Decidable p] {g h : Nat → α} {G H : α} (h1 : Lim g G) (h2 : Lim h H) : Lim (fun f => if p then g f else h f) (if p then G else H) := by
 by_cases hp : p
 ·simp only [if_pos hp]; exact h1
 ·simp only [if_neg hp]; exact h2
theorem lexpr {n : Nat} (hn : n ≤ 10) (l : List Tk) : Lim (fun f => exprP f n l) (exprK n l) := ((ex_tot l).expr n hn).lim
theorem lloop {n : Nat} (hn : n ≤ 9) (e : Ex) (l : List Tk) : Lim (fun f => loopP f n e l) (loopK n e l) := ((ex_tot l).loop n e hn).lim
theorem lunary (l : List Tk) : Lim (fun f => unaryP f l) (unaryK l) := (ex_tot l).unary.lim
theorem lpost (e : Ex) (l : List Tk) : Lim (fun f => postP f e l) (postK e l) := ((ex_tot l).post e).lim
theorem largs (l : List Tk) : Lim (fun f => argsP f l) (argsK l) := (ex_tot l).args.lim
theorem lmore (acc : List Ex) (l : List Tk) : Lim (fun f => moreP f acc l) (moreK acc l) := ((ex_tot l).more acc).lim
theorem lparen (l : List Tk) : Lim (fun f => parenP f l) (parenK l) := (ex_tot l).paren.lim
theorem loperand (l : List Tk) : Lim (fun f => operandP f l) (operandK l) := (ex_tot l).operand.lim
theorem lkey (l : List Tk) : Lim (fun f => keyP f l) (keyK l) := (ex_tot l).key.lim
theorem exprK_eq {n : Nat} (hn : n ≤ 9) (l : List Tk) : exprK n l = bndP (exprK (n + 1) l) fun e r => loopK n e r :=
 limK_eq (lim_succ (h := fun f => bndP (exprP f (n + 1) l) fun e r => loopP f n e r) (fun f => by rw [exprP, if_neg (by omega)]) (lim_bndK (lexpr (by omega) l) fun e r => lloop hn e r))
theorem exprK_top (l : List Tk) : exprK 10 l = unaryK l := limK_eq (lim_succ (h := fun f => unaryP f l) (fun f => by rw [exprP, if_pos rfl]) (lunary l))
theorem loopK_eq {n : Nat} (hn : n ≤ 9) (e : Ex) (l : List Tk) : loopK n e l = (if isOpP n l = true then bndP (exprK (n + 1) l.tail) fun x r => loopK n (.mk 16 0 (hdS l) [] zTy [e, x]) r
  else if n = 6 ∧ isP [105, 115] l = true then bndP (typP l.tail) fun t r => loopK n (.mk 18 0 [] [] t [e]) r
  else if n = 6 ∧ isP [97, 115] l = true then bndP (typP l.tail) fun t r => loopK n (.mk 17 0 [] [] t [e]) r
  else .ok (e, l)) :=
 limK_eq (lim_succ (fun f => by rw [loopP]) (lim_ifK (lim_bndK (lexpr (by omega) _) fun x r => lloop hn _ r) (lim_ifK (lim_bndK (lim_const _) fun t r => lloop hn _ r) (lim_ifK (lim_bndK (lim_const _) fun t r => lloop hn _ r) (lim_const _)))))
theorem unaryK_eq (l : List Tk) : unaryK l = (if isP [45] l = true then bndP (unaryK l.tail) fun x r => .ok (.mk 15 0 [45] [] zTy [x], r)
  else if isP [33] l = true then bndP (unaryK l.tail) fun x r => .ok (.mk 15 0 [33] [] zTy [x], r)
  else bndP (operandK l) fun e r => postK e r) :=
 limK_eq (lim_succ (fun f => by rw [unaryP]) (lim_ifK (lim_bndK (lunary _) fun x r => lim_const _) (lim_ifK (lim_bndK (lunary _) fun x r => lim_const _) (lim_bndK (loperand l) fun e r => lpost e r))))
theorem postK_eq (e : Ex) (l : List Tk) : postK e l = (if isP [46] l = true then bndP (idP l.tail) fun s r =>
   if isP [40] r = true then bndP (argsK r) fun es r2 => postK (.mk 10 0 s [] zTy (e :: es)) r2
   else postK (.mk 7 0 s [] zTy [e]) r
  else if isP [91] l = true then bndP (exprK 0 l.tail) fun i r => expP [93] r fun r2 => postK (.mk 9 0 [] [] zTy [e, i]) r2
  else .ok (e, l)) :=
 limK_eq (lim_succ (fun f => by rw [postP]) (lim_ifK (lim_bndK (lim_const _) fun s r => lim_ifK (lim_bndK (largs r) fun es r2 => lpost _ r2) (lpost _ r)) (lim_ifK (lim_bndK (lexpr (n := 0) (by decide) _) fun i r => lim_expK (lpost _ _)) (lim_const _))))
theorem argsK_eq (l : List Tk) : argsK l = expP [40] l fun r => if isP [41] r = true then .ok ([], r.tail) else bndP (exprK 0 r) fun e r2 => moreK [e] r2 :=
 limK_eq (lim_succ (fun f => by rw [argsP]) (lim_expK (lim_ifK (lim_const _) (lim_bndK (lexpr (n := 0) (by decide) _) fun e r => lmore _ r))))
theorem moreK_eq (acc : List Ex) (l : List Tk) : moreK acc l = (if isP [44] l = true then bndP (exprK 0 l.tail) fun e r => moreK (acc ++ [e]) r else expP [41] l fun r => .ok (acc, r)) :=
 limK_eq (lim_succ (fun f => by rw [moreP]) (lim_ifK (lim_bndK (lexpr (n := 0) (by decide) _) fun e r => lmore _ r) (lim_const _)))
theorem parenK_eq (l : List Tk) : parenK l = expP [40] l fun r => bndP (exprK 0 r) fun e r2 => expP [41] r2 fun r3 => .ok (e, r3) :=
 limK_eq (lim_succ (fun f => by rw [parenP]) (by
  refine lim_expK ?_
  exact lim_bndK (lexpr (n := 0) (by decide) _) fun e r => lim_const _))
theorem operandK_eq (l : List Tk) : operandK l =
  (if hdK l = 3 then .ok (.mk 1 (hdN l) [] [] zTy [], l.tail)
  else if hdK l = 4 then .ok (.mk 2 (hdN l) [] [] zTy [], l.tail)
  else if hdK l = 5 then .ok (.mk 3 0 (hdS l) [] zTy [], l.tail)
  else if isIdP l = true then bndP (idP l) fun s r => .ok (.mk 6 0 s [] zTy [], r)
  else if isClsP l = true then bndP (clsP l) fun c r => expP [46] r fun r2 => bndP (idP r2) fun s r3 =>
   if isP [40] r3 = true then bndP (argsK r3) fun es r4 => .ok (.mk 11 0 s c zTy es, r4) else .ok (.mk 8 0 s c zTy [], r3)
  else if isP [40] l = true then parenK l
  else keyK l) :=
 limK_eq (lim_succ (fun f => by rw [operandP]) (by
  refine lim_ifK (lim_const _) (lim_ifK (lim_const _) (lim_ifK (lim_const _) (lim_ifK (lim_const _) (lim_ifK ?_ (lim_ifK (lparen l) (lkey l))))))
  refine lim_bndK (lim_const _) fun c r => lim_expK ?_
  refine lim_bndK (lim_const _) fun s r3 => ?_
  exact lim_ifK (lim_bndK (largs r3) fun es r4 => lim_const _) (lim_const _)))
theorem keyK_eq (l : List Tk) : keyK l =
  (if isP [110, 117, 108, 108] l = true then .ok (.mk 4 0 [] [] zTy [], l.tail)
  else if isP [116, 104, 105, 115] l = true then .ok (.mk 5 0 [] [] zTy [], l.tail)
  else if isP [115, 117, 112, 101, 114] l = true then expP [46] l.tail fun r => bndP (idP r) fun s r2 => bndP (argsK r2) fun es r3 => .ok (.mk 12 0 s [] zTy es, r3)
  else if isP [110, 101, 119] l = true then bndP (baseP l.tail) fun t r =>
   if t.base = 76 ∧ isP [40] r = true then bndP (argsK r) fun es r2 => .ok (.mk 13 0 [] t.name zTy es, r2)
   else expP [91] r fun r2 => bndP (newP r2.length t r2) fun t2 r3 => bndP (exprK 0 r3) fun e r4 => expP [93] r4 fun r5 => .ok (.mk 14 0 [] [] t2 [e], r5)
  else if isP [108, 101, 110] l = true then bndP (parenK l.tail) fun e r => .ok (.mk 19 0 [] [] zTy [e], r)
  else if isP intS l = true then bndP (parenK l.tail) fun e r => .ok (.mk 20 0 [] [] zTy [e], r)
  else if isP longS l = true then bndP (parenK l.tail) fun e r => .ok (.mk 21 0 [] [] zTy [e], r)
  else .error l) :=
 limK_eq (lim_succ (fun f => by rw [keyP]) (by
  refine lim_ifK (lim_const _) (lim_ifK (lim_const _) (lim_ifK ?_ (lim_ifK ?_ (lim_ifK (lim_bndK (lparen _) fun e r => lim_const _) (lim_ifK (lim_bndK (lparen _) fun e r => lim_const _) (lim_ifK (lim_bndK (lparen _) fun e r => lim_const _) (lim_const _)))))))
  ·refine lim_expK ?_
   exact lim_bndK (lim_const _) fun s r2 => lim_bndK (largs r2) fun es r3 => lim_const _
  ·refine lim_bndK (lim_const _) fun t r => ?_
   refine lim_ifK (lim_bndK (largs r) fun es r2 => lim_const _) (lim_expK ?_)
   refine lim_bndK (lim_const _) fun t2 r3 => ?_
   exact lim_bndK (lexpr (n := 0) (by decide) r3) fun e r4 => lim_const _))
/-! Equal is the same. -/
def ifW : List UInt8 := [105, 102]
def elseW : List UInt8 := [101, 108, 115, 101]
def whileW : List UInt8 := [119, 104, 105, 108, 101]
def retW : List UInt8 := [114, 101, 116, 117, 114, 110]
def throwW : List UInt8 := [116, 104, 114, 111, 119]
def tryW : List UInt8 := [116, 114, 121]
def catchW : List UInt8 := [99, 97, 116, 99, 104]
def syncW : List UInt8 := [115, 121, 110, 99]
def superW : List UInt8 := [115, 117, 112, 101, 114]
def declP (l : List Tk) : Bool := if (isP intS l || isP longS l) = true then !isP [40] l.tail else isClsP l && !isP [46] l.tail
mutual
def blockP : Nat → List Tk → PR (List St)
 | 0, l => .error l
 | f + 1, l => expP [123] l fun r => stmtsP f [] r
def stmtsP : Nat → List St → List Tk → PR (List St)
 | 0, _, l => .error l
 | f + 1, acc, l => if isP [125] l = true then .ok (acc, l.tail) else bndP (stmtP f l) fun s r => stmtsP f (acc ++ [s]) r
def stmtP : Nat → List Tk → PR St
 | 0, l => .error l
 | f + 1, l =>
  if isP ifW l = true then bndP (parenP f l.tail) fun e r => bndP (blockP f r) fun b r2 =>
   if isP elseW r2 = true then bndP (blockP f r2.tail) fun a r3 => .ok (.mk 4 [] zTy zE e b a, r3) else .ok (.mk 4 [] zTy zE e b [], r2)
  else if isP whileW l = true then bndP (parenP f l.tail) fun e r => bndP (blockP f r) fun b r2 => .ok (.mk 5 [] zTy zE e b [], r2)
  else if isP retW l = true then
   if isP [59] l.tail = true then .ok (.mk 6 [] zTy zE zE [] [], l.tail.tail) else bndP (exprP f 0 l.tail) fun e r => expP [59] r fun r2 => .ok (.mk 6 [] zTy zE e [] [], r2)
  else if isP throwW l = true then bndP (exprP f 0 l.tail) fun e r => expP [59] r fun r2 => .ok (.mk 7 [] zTy zE e [] [], r2)
  else if isP tryW l = true then bndP (blockP f l.tail) fun b r => expP catchW r fun r2 => expP [40] r2 fun r3 => bndP (typP r3) fun t r4 => bndP (idP r4) fun s r5 => expP [41] r5 fun r6 => bndP (blockP f r6) fun a r7 => .ok (.mk 8 s t zE zE b a, r7)
  else if isP syncW l = true then bndP (parenP f l.tail) fun e r => bndP (blockP f r) fun b r2 => .ok (.mk 9 [] zTy zE e b [], r2)
  else if isP [123] l = true then bndP (blockP f l) fun b r => .ok (.mk 10 [] zTy zE zE b [], r)
  else if isP superW l = true ∧ isP [40] l.tail = true then bndP (argsP f l.tail) fun es r => expP [59] r fun r2 => .ok (.mk 11 [] zTy zE (.mk 0 0 [] [] zTy es) [] [], r2)
  else if declP l = true then bndP (typP l) fun t r => bndP (idP r) fun s r2 => expP [61] r2 fun r3 => bndP (exprP f 0 r3) fun e r4 => expP [59] r4 fun r5 => .ok (.mk 1 s t zE e [] [], r5)
  else bndP (exprP f 0 l) fun e r =>
   if isP [61] r = true then bndP (exprP f 0 r.tail) fun x r2 => expP [59] r2 fun r3 => .ok (.mk 2 [] zTy e x [] [], r3)
   else expP [59] r fun r2 => .ok (.mk 3 [] zTy zE e [] [], r2)
end
/-! Flags. -/
def modsP : List (Int × List UInt8) → Int → List Tk → Int × List Tk
 | [], fl, l => (fl, l)
 | p :: q, fl, l => if isP p.2 l = true then modsP q (fl + p.1) l.tail else modsP q fl l
/-! Parameters. -/
def pmoreP : Nat → List Pc → List Tk → PR (List Pc)
 | 0, _, l => .error l
 | f + 1, acc, l => if isP [44] l = true then bndP (typP l.tail) fun t r => bndP (idP r) fun s r2 => pmoreP f (acc ++ [⟨t, s⟩]) r2 else expP [41] l fun r => .ok (acc, r)
def paramsP (f : Nat) (l : List Tk) : PR (List Pc) :=
 expP [40] l fun r => if isP [41] r = true then .ok ([], r.tail) else bndP (typP r) fun t r2 => bndP (idP r2) fun s r3 => pmoreP f [⟨t, s⟩] r3
/-! Members. -/
def newW : List UInt8 := [110, 101, 119]
def vTy : Ty := ⟨0, 86, []⟩
def Cd.addF (d : Cd) (x : Fc) : Cd := { d with fields := d.fields ++ [x] }
def Cd.addM (d : Cd) (x : Md) : Cd := { d with methods := d.methods ++ [x] }
def Cd.addI (d : Cd) (x : List St) : Cd := { d with init := d.init ++ x }
def restP (f : Nat) (d : Cd) (fl : Int) (t : Ty) (s : List UInt8) (l : List Tk) : PR Cd :=
 bndP (paramsP f l) fun ps r => if isP [59] r = true then .ok (d.addM ⟨fl, t, s, ps, false, []⟩, r.tail) else bndP (blockP f r) fun b r2 => .ok (d.addM ⟨fl, t, s, ps, true, b⟩, r2)
def memberP (f : Nat) (d : Cd) (fl : Int) (l : List Tk) : PR Cd :=
 if fl = 8 ∧ isP [123] l = true then bndP (blockP f l) fun b r => .ok (d.addI b, r)
 else if isP newW l = true then bndP (paramsP f l.tail) fun ps r => bndP (blockP f r) fun b r2 => .ok (d.addM ⟨fl, vTy, initS, ps, true, b⟩, r2)
 else if isP voidS l = true then bndP (idP l.tail) fun s r => restP f d fl vTy s r
 else bndP (typP l) fun t r => bndP (idP r) fun s r2 => if isP [59] r2 = true then .ok (d.addF ⟨fl, t, s⟩, r2.tail) else restP f d fl t s r2
def memsP : Nat → Cd → List Tk → PR Cd
 | 0, _, l => .error l
 | f + 1, d, l => if isP [125] l = true then .ok (d, l.tail) else bndP (memberP f d (modsP modsL 0 l).1 (modsP modsL 0 l).2) fun e r => memsP f e r
/-! Classes. -/
def pubW : List UInt8 := [112, 117, 98, 108, 105, 99]
def finW : List UInt8 := [102, 105, 110, 97, 108]
def absW : List UInt8 := [97, 98, 115, 116, 114, 97, 99, 116]
def ifcW : List UInt8 := [105, 110, 116, 101, 114, 102, 97, 99, 101]
def extW : List UInt8 := [101, 120, 116, 101, 110, 100, 115]
def impW : List UInt8 := [105, 109, 112, 108, 101, 109, 101, 110, 116, 115]
def clW : List UInt8 := [99, 108, 97, 115, 115]
def p1L : List (Int × List UInt8) := [(1, pubW)]
def p2L : List (Int × List UInt8) := [(16, finW), (1024, absW)]
def clsesP : Nat → List (List UInt8) → List Tk → PR (List (List UInt8))
 | 0, _, l => .error l
 | f + 1, acc, l => if isP [44] l = true then bndP (clsP l.tail) fun s r => clsesP f (acc ++ [s]) r else .ok (acc, l)
def ifsP (f : Nat) (w : List UInt8) (l : List Tk) : PR (List (List UInt8)) := if isP w l = true then bndP (clsP l.tail) fun s r => clsesP f [s] r else .ok ([], l)
def headP (f : Nat) (l : List Tk) : PR Cd :=
 if isP ifcW (modsP p1L 0 l).2 = true then bndP (clsP (modsP p1L 0 l).2.tail) fun n r => bndP (ifsP f extW r) fun is r2 => expP [123] r2 fun r3 => .ok (⟨(modsP p1L 0 l).1 + 1536, n, objS, is, [], [], []⟩, r3)
 else expP clW (modsP p2L (modsP p1L 0 l).1 (modsP p1L 0 l).2).2 fun r => bndP (clsP r) fun n r2 => expP extW r2 fun r3 => bndP (clsP r3) fun sp r4 => bndP (ifsP f impW r4) fun is r5 => expP [123] r5 fun r6 =>
  .ok (⟨(modsP p2L (modsP p1L 0 l).1 (modsP p1L 0 l).2).1, n, sp, is, [], [], []⟩, r6)
def clP (f : Nat) (l : List Tk) : PR Cd := bndP (headP f l) fun d r => memsP f d r
def progP : Nat → List Cd → List Tk → PR (List Cd)
 | 0, _, l => .error l
 | f + 1, acc, l => if l = [] then .ok (acc, []) else bndP (clP f l) fun d r => progP f (acc ++ [d]) r
structure SXs (l : List Tk) : Prop where
 block : Tot true (fun f => blockP f l) l
 stmt : Tot true (fun f => stmtP f l) l
 stmts : ∀ acc, Tot true (fun f => stmtsP f acc l) l
theorem tot_fin {α : Type} {x : α} {r : List Tk} : Tot false (fun _ => Except.ok (x, r)) r := tot_ok _ (List.suffix_refl _) fun h => by cases h
theorem tot_e0 (l : List Tk) : Tot true (fun f => exprP f 0 l) l := (ex_tot l).expr 0 (by decide)
theorem sx_of {l : List Tk} (ih : ∀ r : List Tk, r.length < l.length → SXs r) : SXs l := by
 have hblock : Tot true (fun f => blockP f l) l := by
  refine tot_succ (h := fun f => expP [123] l fun r => stmtsP f [] r) (fun f => by rw [blockP]) ?_
  exact tot_exp (a := true) fun _ hlt => (ih _ hlt).stmts _
 have hpb : ∀ (l2 : List Tk) (k : Nat → Ex → List St → List Tk → PR St), l2.length < l.length → (∀ e b r, r.length < l.length → Tot false (fun f => k f e b r) r) → Tot true (fun f => bndP (parenP f l2) fun e r => bndP (blockP f r) fun b r2 => k f e b r2) l2 := fun l2 k h1 h2 =>
  tot_bnd (b := true) (ex_tot l2).paren fun e r _ h3 => by
   have := h3 rfl
   exact tot_weak true (tot_bnd (b := false) (ih r (by omega)).block fun b r2 h4 _ => h2 e b r2 (by have q := suf_len h4; omega)) fun _ => rfl
 have hstmt : Tot true (fun f => stmtP f l) l := by
  refine tot_succ (h := fun f =>
   if isP ifW l = true then bndP (parenP f l.tail) fun e r => bndP (blockP f r) fun b r2 =>
    if isP elseW r2 = true then bndP (blockP f r2.tail) fun a r3 => .ok (.mk 4 [] zTy zE e b a, r3) else .ok (.mk 4 [] zTy zE e b [], r2)
   else if isP whileW l = true then bndP (parenP f l.tail) fun e r => bndP (blockP f r) fun b r2 => .ok (.mk 5 [] zTy zE e b [], r2)
   else if isP retW l = true then
    if isP [59] l.tail = true then .ok (.mk 6 [] zTy zE zE [] [], l.tail.tail) else bndP (exprP f 0 l.tail) fun e r => expP [59] r fun r2 => .ok (.mk 6 [] zTy zE e [] [], r2)
   else if isP throwW l = true then bndP (exprP f 0 l.tail) fun e r => expP [59] r fun r2 => .ok (.mk 7 [] zTy zE e [] [], r2)
   else if isP tryW l = true then bndP (blockP f l.tail) fun b r => expP catchW r fun r2 => expP [40] r2 fun r3 => bndP (typP r3) fun t r4 => bndP (idP r4) fun s r5 => expP [41] r5 fun r6 => bndP (blockP f r6) fun a r7 => .ok (.mk 8 s t zE zE b a, r7)
   else if isP syncW l = true then bndP (parenP f l.tail) fun e r => bndP (blockP f r) fun b r2 => .ok (.mk 9 [] zTy zE e b [], r2)
   else if isP [123] l = true then bndP (blockP f l) fun b r => .ok (.mk 10 [] zTy zE zE b [], r)
   else if isP superW l = true ∧ isP [40] l.tail = true then bndP (argsP f l.tail) fun es r => expP [59] r fun r2 => .ok (.mk 11 [] zTy zE (.mk 0 0 [] [] zTy es) [] [], r2)
   else if declP l = true then bndP (typP l) fun t r => bndP (idP r) fun s r2 => expP [61] r2 fun r3 => bndP (exprP f 0 r3) fun e r4 => expP [59] r4 fun r5 => .ok (.mk 1 s t zE e [] [], r5)
   else bndP (exprP f 0 l) fun e r =>
    if isP [61] r = true then bndP (exprP f 0 r.tail) fun x r2 => expP [59] r2 fun r3 => .ok (.mk 2 [] zTy e x [] [], r3)
    else expP [59] r fun r2 => .ok (.mk 3 [] zTy zE e [] [], r2)) (fun f => by rw [stmtP]) ?_
  refine tot_if (fun h => ?_) fun _ => tot_if (fun h => ?_) fun _ => tot_if (fun h => ?_) fun _ => tot_if (fun h => ?_) fun _ => tot_if (fun h => ?_) fun _ => tot_if (fun h => ?_) fun _ =>
   tot_if (fun h => ?_) fun _ => tot_if (fun h => ?_) fun _ => tot_if (fun h => ?_) fun _ => ?_
  ·have hlt := tail_lt (isP_ne h)
   refine tot_lt (tail_suf l) hlt (hpb l.tail _ hlt fun e b r hr => ?_)
   exact tot_if (fun h2 => tot_up (tail_suf r) (tot_weak false (tot_bnd (b := false) (ih _ (by have := tail_lt (isP_ne h2); omega)).block fun a r3 _ _ => tot_fin) fun h => by cases h)) fun _ => tot_fin
  ·have hlt := tail_lt (isP_ne h)
   exact tot_lt (tail_suf l) hlt (hpb l.tail _ hlt fun e b r hr => tot_fin)
  ·have hlt := tail_lt (isP_ne h)
   refine tot_if (fun h2 => tot_ok _ ((tail_suf _).trans (tail_suf l)) fun _ => by have := suf_len (tail_suf l.tail); omega) fun _ => ?_
   exact tot_lt (tail_suf l) hlt (tot_bnd (b := true) (tot_e0 _) fun e r _ _ => tot_exp (a := false) fun _ _ => tot_fin)
  ·have hlt := tail_lt (isP_ne h)
   exact tot_lt (tail_suf l) hlt (tot_bnd (b := true) (tot_e0 _) fun e r _ _ => tot_exp (a := false) fun _ _ => tot_fin)
  ·have hlt := tail_lt (isP_ne h)
   refine tot_lt (tail_suf l) hlt (tot_bnd (b := true) (ih _ hlt).block fun b r h1 _ => ?_)
   have q1 := suf_len h1
   refine tot_exp (a := true) fun _ hl1 => tot_exp (a := true) fun _ hl2 => tot_bnd (b := true) (tot_typ _) fun t r4 h2 _ => ?_
   have q2 := suf_len h2
   refine tot_bnd (b := true) (tot_id _) fun s r5 h3 _ => ?_
   have q3 := suf_len h3
   refine tot_exp (a := true) fun _ hl3 => ?_
   exact tot_bnd (b := false) (ih _ (by omega)).block fun a r7 _ _ => tot_fin
  ·have hlt := tail_lt (isP_ne h)
   exact tot_lt (tail_suf l) hlt (hpb l.tail _ hlt fun e b r hr => tot_fin)
  ·exact tot_bnd (b := false) hblock fun b r _ _ => tot_fin
  ·have hlt := tail_lt (isP_ne h.1)
   exact tot_lt (tail_suf l) hlt (tot_bnd (b := true) (ex_tot _).args fun es r _ _ => tot_exp (a := false) fun _ _ => tot_fin)
  ·refine tot_bnd (b := true) (tot_typ l) fun t r _ _ => tot_bnd (b := true) (tot_id r) fun s r2 _ _ => tot_exp (a := true) fun _ _ => tot_bnd (b := true) (tot_e0 _) fun e r4 _ _ => tot_exp (a := false) fun _ _ => tot_fin
  ·refine tot_bnd (b := true) (tot_e0 l) fun e r _ _ => tot_if (fun h => ?_) fun _ => tot_exp (a := false) fun _ _ => tot_fin
   exact tot_lt (tail_suf r) (tail_lt (isP_ne h)) (tot_bnd (b := true) (tot_e0 _) fun x r2 _ _ => tot_exp (a := false) fun _ _ => tot_fin)
 have hstmts : ∀ acc, Tot true (fun f => stmtsP f acc l) l := fun acc => by
  refine tot_succ (h := fun f => if isP [125] l = true then .ok (acc, l.tail) else bndP (stmtP f l) fun s r => stmtsP f (acc ++ [s]) r) (fun f => by rw [stmtsP]) ?_
  refine tot_if (fun h => tot_ok _ (tail_suf l) fun _ => tail_lt (isP_ne h)) fun _ => ?_
  exact tot_bnd (b := true) hstmt fun s r h1 h2 => (ih r (h2 rfl)).stmts _
 exact ⟨hblock, hstmt, hstmts⟩
theorem sx_all : ∀ (N : Nat) (l : List Tk), l.length ≤ N → SXs l
 | 0, l, h => sx_of fun r hr => by omega
 | N + 1, l, h => sx_of fun r hr => sx_all N r (by omega)
theorem sx_tot (l : List Tk) : SXs l := sx_all _ l (Nnr _)
noncomputable def blockK (l : List Tk) : PR (List St) := limK fun f => blockP f l
noncomputable def stmtK (l : List Tk) : PR St := limK fun f => stmtP f l
noncomputable def stmtsK (acc : List St) (l : List Tk) : PR (List St) := limK fun f => stmtsP f acc l
theorem lblock (l : List Tk) : Lim (fun f => blockP f l) (blockK l) := (sx_tot l).block.lim
theorem lstmt (l : List Tk) : Lim (fun f => stmtP f l) (stmtK l) := (sx_tot l).stmt.lim
theorem lstmts (acc : List St) (l : List Tk) : Lim (fun f => stmtsP f acc l) (stmtsK acc l) := ((sx_tot l).stmts acc).lim
theorem le0 (l : List Tk) : Lim (fun f => exprP f 0 l) (exprK 0 l) := lexpr (n := 0) (by decide) l
theorem blockK_eq (l : List Tk) : blockK l = expP [123] l fun r => stmtsK [] r :=
 limK_eq (lim_succ (fun f => by rw [blockP]) (lim_expK (lstmts _ _)))
theorem stmtsK_eq (acc : List St) (l : List Tk) : stmtsK acc l = (if isP [125] l = true then .ok (acc, l.tail) else bndP (stmtK l) fun s r => stmtsK (acc ++ [s]) r) :=
 limK_eq (lim_succ (fun f => by rw [stmtsP]) (lim_ifK (lim_const _) (lim_bndK (lstmt l) fun s r => lstmts _ _)))
theorem stmtK_eq (l : List Tk) : stmtK l =
  (if isP ifW l = true then bndP (parenK l.tail) fun e r => bndP (blockK r) fun b r2 =>
   if isP elseW r2 = true then bndP (blockK r2.tail) fun a r3 => .ok (.mk 4 [] zTy zE e b a, r3) else .ok (.mk 4 [] zTy zE e b [], r2)
  else if isP whileW l = true then bndP (parenK l.tail) fun e r => bndP (blockK r) fun b r2 => .ok (.mk 5 [] zTy zE e b [], r2)
  else if isP retW l = true then
   if isP [59] l.tail = true then .ok (.mk 6 [] zTy zE zE [] [], l.tail.tail) else bndP (exprK 0 l.tail) fun e r => expP [59] r fun r2 => .ok (.mk 6 [] zTy zE e [] [], r2)
  else if isP throwW l = true then bndP (exprK 0 l.tail) fun e r => expP [59] r fun r2 => .ok (.mk 7 [] zTy zE e [] [], r2)
  else if isP tryW l = true then bndP (blockK l.tail) fun b r => expP catchW r fun r2 => expP [40] r2 fun r3 => bndP (typP r3) fun t r4 => bndP (idP r4) fun s r5 => expP [41] r5 fun r6 => bndP (blockK r6) fun a r7 => .ok (.mk 8 s t zE zE b a, r7)
  else if isP syncW l = true then bndP (parenK l.tail) fun e r => bndP (blockK r) fun b r2 => .ok (.mk 9 [] zTy zE e b [], r2)
  else if isP [123] l = true then bndP (blockK l) fun b r => .ok (.mk 10 [] zTy zE zE b [], r)
  else if isP superW l = true ∧ isP [40] l.tail = true then bndP (argsK l.tail) fun es r => expP [59] r fun r2 => .ok (.mk 11 [] zTy zE (.mk 0 0 [] [] zTy es) [] [], r2)
  else if declP l = true then bndP (typP l) fun t r => bndP (idP r) fun s r2 => expP [61] r2 fun r3 => bndP (exprK 0 r3) fun e r4 => expP [59] r4 fun r5 => .ok (.mk 1 s t zE e [] [], r5)
  else bndP (exprK 0 l) fun e r =>
   if isP [61] r = true then bndP (exprK 0 r.tail) fun x r2 => expP [59] r2 fun r3 => .ok (.mk 2 [] zTy e x [] [], r3)
   else expP [59] r fun r2 => .ok (.mk 3 [] zTy zE e [] [], r2)) :=
 limK_eq (lim_succ (fun f => by rw [stmtP]) (by
  refine lim_ifK ?_ (lim_ifK ?_ (lim_ifK (lim_ifK (lim_const _) ?_) (lim_ifK ?_ (lim_ifK ?_ (lim_ifK ?_ (lim_ifK ?_ (lim_ifK ?_ (lim_ifK ?_ ?_))))))))
  ·refine lim_bndK (lparen _) fun e r => lim_bndK (lblock _) fun b r2 => ?_
   exact lim_ifK (lim_bndK (lblock _) fun a r3 => lim_const _) (lim_const _)
  ·exact lim_bndK (lparen _) fun e r => lim_bndK (lblock _) fun b r2 => lim_const _
  ·exact lim_bndK (le0 _) fun e r => lim_const _
  ·exact lim_bndK (le0 _) fun e r => lim_const _
  ·refine lim_bndK (lblock _) fun b r => lim_expK (lim_expK ?_)
   refine lim_bndK (lim_const _) fun t r4 => ?_
   refine lim_bndK (lim_const _) fun s r5 => lim_expK ?_
   exact lim_bndK (lblock _) fun a r7 => lim_const _
  ·exact lim_bndK (lparen _) fun e r => lim_bndK (lblock _) fun b r2 => lim_const _
  ·exact lim_bndK (lblock _) fun b r => lim_const _
  ·exact lim_bndK (largs _) fun es r => lim_const _
  ·refine lim_bndK (lim_const _) fun t r => ?_
   refine lim_bndK (lim_const _) fun s r2 => lim_expK ?_
   exact lim_bndK (le0 _) fun e r4 => lim_const _
  ·refine lim_bndK (le0 _) fun e r => ?_
   exact lim_ifK (lim_bndK (le0 _) fun x r2 => lim_const _) (lim_const _)))
/-! Parameters, members, classes. -/
theorem pmore_tot : ∀ (N : Nat) (acc : List Pc) (l : List Tk), l.length ≤ N → Tot true (fun f => pmoreP f acc l) l := fun N => by
 induction N with
 | zero =>
  intro acc l h
  have hl : l = [] := List.length_eq_zero_iff.1 (by omega)
  subst hl
  refine tot_succ (h := fun _ => .error []) (fun f => by rw [pmoreP]; rfl) (tot_er (List.suffix_refl _))
 | succ N ih =>
  intro acc l h
  refine tot_succ (h := fun f => if isP [44] l = true then bndP (typP l.tail) fun t r => bndP (idP r) fun s r2 => pmoreP f (acc ++ [⟨t, s⟩]) r2 else expP [41] l fun r => .ok (acc, r)) (fun f => by rw [pmoreP]) ?_
  refine tot_if (fun hp => ?_) fun _ => tot_exp (a := false) fun _ _ => tot_fin
  have hlt := tail_lt (isP_ne hp)
  refine tot_lt (tail_suf l) hlt (tot_bnd (b := true) (tot_typ _) fun t r h1 _ => ?_)
  have q1 := suf_len h1
  refine tot_bnd (b := true) (tot_id _) fun s r2 h2 _ => ?_
  have q2 := suf_len h2
  exact ih _ r2 (by omega)
noncomputable def pmoreK (acc : List Pc) (l : List Tk) : PR (List Pc) := limK fun f => pmoreP f acc l
theorem lpmore (acc : List Pc) (l : List Tk) : Lim (fun f => pmoreP f acc l) (pmoreK acc l) := (pmore_tot _ acc l (Nnr _)).lim
theorem pmoreK_eq (acc : List Pc) (l : List Tk) : pmoreK acc l = (if isP [44] l = true then bndP (typP l.tail) fun t r => bndP (idP r) fun s r2 => pmoreK (acc ++ [⟨t, s⟩]) r2 else expP [41] l fun r => .ok (acc, r)) :=
 limK_eq (lim_succ (fun f => by rw [pmoreP]) (by
  refine lim_ifK ?_ (lim_const _)
  refine lim_bndK (lim_const _) fun t r => ?_
  exact lim_bndK (lim_const _) fun s r2 => lpmore _ _))
theorem params_tot (l : List Tk) : Tot true (fun f => paramsP f l) l := by
 unfold paramsP
 refine tot_exp (a := false) fun _ _ => tot_if (fun _ => tot_ok _ (tail_suf _) fun h => by cases h) fun _ => ?_
 refine tot_weak false (tot_bnd (b := true) (tot_typ _) fun t r _ _ => tot_bnd (b := true) (tot_id _) fun s r3 _ _ => pmore_tot _ _ r3 (Nnr _)) fun h => by cases h
noncomputable def paramsK (l : List Tk) : PR (List Pc) := expP [40] l fun r => if isP [41] r = true then .ok ([], r.tail) else bndP (typP r) fun t r2 => bndP (idP r2) fun s r3 => pmoreK [⟨t, s⟩] r3
theorem lparams (l : List Tk) : Lim (fun f => paramsP f l) (paramsK l) := by
 unfold paramsP paramsK
 refine lim_expK (lim_ifK (lim_const _) ?_)
 refine lim_bndK (lim_const _) fun t r => ?_
 exact lim_bndK (lim_const _) fun s r3 => lpmore _ _
noncomputable def restK (d : Cd) (fl : Int) (t : Ty) (s : List UInt8) (l : List Tk) : PR Cd :=
 bndP (paramsK l) fun ps r => if isP [59] r = true then .ok (d.addM ⟨fl, t, s, ps, false, []⟩, r.tail) else bndP (blockK r) fun b r2 => .ok (d.addM ⟨fl, t, s, ps, true, b⟩, r2)
noncomputable def memberK (d : Cd) (fl : Int) (l : List Tk) : PR Cd :=
 if fl = 8 ∧ isP [123] l = true then bndP (blockK l) fun b r => .ok (d.addI b, r)
 else if isP newW l = true then bndP (paramsK l.tail) fun ps r => bndP (blockK r) fun b r2 => .ok (d.addM ⟨fl, vTy, initS, ps, true, b⟩, r2)
 else if isP voidS l = true then bndP (idP l.tail) fun s r => restK d fl vTy s r
 else bndP (typP l) fun t r => bndP (idP r) fun s r2 => if isP [59] r2 = true then .ok (d.addF ⟨fl, t, s⟩, r2.tail) else restK d fl t s r2
theorem lrest (d : Cd) (fl : Int) (t : Ty) (s : List UInt8) (l : List Tk) : Lim (fun f => restP f d fl t s l) (restK d fl t s l) := by
 unfold restP restK
 refine lim_bndK (lparams _) fun ps r => lim_ifK (lim_const _) ?_
 exact lim_bndK (lblock _) fun b r2 => lim_const _
theorem lmember (d : Cd) (fl : Int) (l : List Tk) : Lim (fun f => memberP f d fl l) (memberK d fl l) := by
 unfold memberP memberK
 refine lim_ifK (lim_bndK (lblock _) fun b r => lim_const _) (lim_ifK ?_ (lim_ifK ?_ ?_))
 ·exact lim_bndK (lparams _) fun ps r => lim_bndK (lblock _) fun b r2 => lim_const _
 ·exact lim_bndK (lim_const _) fun s r => lrest _ _ _ _ _
 ·refine lim_bndK (lim_const _) fun t r => ?_
  refine lim_bndK (lim_const _) fun s r2 => ?_
  exact lim_ifK (lim_const _) (lrest _ _ _ _ _)
theorem rest_tot (d : Cd) (fl : Int) (t : Ty) (s : List UInt8) (l : List Tk) : Tot true (fun f => restP f d fl t s l) l := by
 unfold restP
 refine tot_bnd (b := false) (params_tot _) fun ps r _ _ => tot_if (fun _ => tot_ok _ (tail_suf _) fun h => by cases h) fun _ => ?_
 exact tot_weak false (tot_bnd (b := false) (sx_tot r).block fun b r2 _ _ => tot_fin) fun h => by cases h
theorem member_tot (d : Cd) (fl : Int) (l : List Tk) : Tot true (fun f => memberP f d fl l) l := by
 unfold memberP
 refine tot_if (fun _ => tot_bnd (b := false) (sx_tot l).block fun b r _ _ => tot_fin) fun _ => tot_if (fun h => ?_) fun _ => tot_if (fun h => ?_) fun _ => ?_
 ·exact tot_lt (tail_suf l) (tail_lt (isP_ne h)) (tot_bnd (b := true) (params_tot _) fun ps r _ _ => tot_bnd (b := false) (sx_tot r).block fun b r2 _ _ => tot_fin)
 ·exact tot_lt (tail_suf l) (tail_lt (isP_ne h)) (tot_bnd (b := true) (tot_id _) fun s r _ _ => rest_tot _ _ _ _ _)
 ·refine tot_bnd (b := true) (tot_typ _) fun t r _ _ => tot_bnd (b := false) (tot_id _) fun s r2 _ _ => ?_
  exact tot_if (fun _ => tot_ok _ (tail_suf _) fun h => by cases h) fun _ => tot_weak false (rest_tot _ _ _ _ _) fun h => by cases h
theorem modsP_suf : ∀ (q : List (Int × List UInt8)) (fl : Int) (l : List Tk), (modsP q fl l).2 <:+ l
 | [], fl, l => List.suffix_refl _
 | p :: q, fl, l => by
  rw [modsP]
  split
  ·exact (modsP_suf q _ _).trans (tail_suf l)
  ·exact modsP_suf q _ _
theorem mems_tot : ∀ (N : Nat) (d : Cd) (l : List Tk), l.length ≤ N → Tot true (fun f => memsP f d l) l := fun N => by
 have step : ∀ (d : Cd) (l : List Tk), (∀ e (r : List Tk), r.length < l.length → Tot true (fun f => memsP f e r) r) → Tot true (fun f => memsP f d l) l := fun d l ih => by
  refine tot_succ (h := fun f => if isP [125] l = true then .ok (d, l.tail) else bndP (memberP f d (modsP modsL 0 l).1 (modsP modsL 0 l).2) fun e r => memsP f e r) (fun f => by rw [memsP]) ?_
  refine tot_if (fun h => tot_ok _ (tail_suf l) fun _ => tail_lt (isP_ne h)) fun _ => ?_
  have hs := modsP_suf modsL 0 l
  have q := suf_len hs
  exact tot_up hs (tot_bnd (b := true) (member_tot _ _ _) fun e r _ h2 => ih e r (by have := h2 rfl; omega))
 induction N with
 | zero => intro d l h; exact step d l fun e r hr => by omega
 | succ N ih => intro d l h; exact step d l fun e r hr => ih e r (by omega)
noncomputable def memsK (d : Cd) (l : List Tk) : PR Cd := limK fun f => memsP f d l
theorem lmems (d : Cd) (l : List Tk) : Lim (fun f => memsP f d l) (memsK d l) := (mems_tot _ d l (Nnr _)).lim
theorem memsK_eq (d : Cd) (l : List Tk) : memsK d l = (if isP [125] l = true then .ok (d, l.tail) else bndP (memberK d (modsP modsL 0 l).1 (modsP modsL 0 l).2) fun e r => memsK e r) :=
 limK_eq (lim_succ (fun f => by rw [memsP]) (lim_ifK (lim_const _) (lim_bndK (lmember _ _ _) fun e r => lmems _ _)))
theorem clses_tot : ∀ (N : Nat) (acc : List (List UInt8)) (l : List Tk), l.length ≤ N → Tot false (fun f => clsesP f acc l) l := fun N => by
 have step : ∀ (acc : List (List UInt8)) (l : List Tk), (∀ a (r : List Tk), r.length < l.length → Tot false (fun f => clsesP f a r) r) → Tot false (fun f => clsesP f acc l) l := fun acc l ih => by
  refine tot_succ (h := fun f => if isP [44] l = true then bndP (clsP l.tail) fun s r => clsesP f (acc ++ [s]) r else .ok (acc, l)) (fun f => by rw [clsesP]) ?_
  refine tot_if (fun h => ?_) fun _ => tot_fin
  have hlt := tail_lt (isP_ne h)
  exact tot_up (tail_suf l) (tot_weak false (tot_bnd (b := false) (tot_cls _) fun s r h1 _ => ih _ r (by have := suf_len h1; omega)) fun h => by cases h)
 induction N with
 | zero => intro acc l h; exact step acc l fun a r hr => by omega
 | succ N ih => intro acc l h; exact step acc l fun a r hr => ih a r (by omega)
noncomputable def clsesK (acc : List (List UInt8)) (l : List Tk) : PR (List (List UInt8)) := limK fun f => clsesP f acc l
theorem lclses (acc : List (List UInt8)) (l : List Tk) : Lim (fun f => clsesP f acc l) (clsesK acc l) := (clses_tot _ acc l (Nnr _)).lim
theorem clsesK_eq (acc : List (List UInt8)) (l : List Tk) : clsesK acc l = (if isP [44] l = true then bndP (clsP l.tail) fun s r => clsesK (acc ++ [s]) r else .ok (acc, l)) :=
 limK_eq (lim_succ (fun f => by rw [clsesP]) (by
  refine lim_ifK ?_ (lim_const _)
  exact lim_bndK (lim_const _) fun s r => lclses _ _))
noncomputable def ifsK (w : List UInt8) (l : List Tk) : PR (List (List UInt8)) := if isP w l = true then bndP (clsP l.tail) fun s r => clsesK [s] r else .ok ([], l)
theorem lifs (w : List UInt8) (l : List Tk) : Lim (fun f => ifsP f w l) (ifsK w l) := by
 unfold ifsP ifsK
 refine lim_ifK ?_ (lim_const _)
 exact lim_bndK (lim_const _) fun s r => lclses _ _
theorem ifs_tot (w : List UInt8) (l : List Tk) : Tot false (fun f => ifsP f w l) l := by
 unfold ifsP
 refine tot_if (fun h => ?_) fun _ => tot_fin
 exact tot_up (tail_suf l) (tot_weak false (tot_bnd (b := false) (tot_cls _) fun s r _ _ => clses_tot _ _ r (Nnr _)) fun h => by cases h)
noncomputable def headK (l : List Tk) : PR Cd :=
 if isP ifcW (modsP p1L 0 l).2 = true then bndP (clsP (modsP p1L 0 l).2.tail) fun n r => bndP (ifsK extW r) fun is r2 => expP [123] r2 fun r3 => .ok (⟨(modsP p1L 0 l).1 + 1536, n, objS, is, [], [], []⟩, r3)
 else expP clW (modsP p2L (modsP p1L 0 l).1 (modsP p1L 0 l).2).2 fun r => bndP (clsP r) fun n r2 => expP extW r2 fun r3 => bndP (clsP r3) fun sp r4 => bndP (ifsK impW r4) fun is r5 => expP [123] r5 fun r6 =>
  .ok (⟨(modsP p2L (modsP p1L 0 l).1 (modsP p1L 0 l).2).1, n, sp, is, [], [], []⟩, r6)
theorem lhead (l : List Tk) : Lim (fun f => headP f l) (headK l) := by
 unfold headP headK
 refine lim_ifK ?_ (lim_expK ?_)
 ·refine lim_bndK (lim_const _) fun n r => ?_
  exact lim_bndK (lifs _ _) fun is r2 => lim_const _
 ·refine lim_bndK (lim_const _) fun n r2 => lim_expK ?_
  refine lim_bndK (lim_const _) fun sp r4 => ?_
  exact lim_bndK (lifs _ _) fun is r5 => lim_const _
theorem head_tot (l : List Tk) : Tot true (fun f => headP f l) l := by
 unfold headP
 have s1 := modsP_suf p1L 0 l
 have s2 := (modsP_suf p2L (modsP p1L 0 l).1 (modsP p1L 0 l).2).trans s1
 refine tot_if (fun h => tot_up s1 ?_) fun _ => tot_up s2 ?_
 ·exact tot_lt (tail_suf _) (tail_lt (isP_ne h)) (tot_bnd (b := true) (tot_cls _) fun n r _ _ => tot_bnd (a := false) (b := true) (ifs_tot _ _) fun is r2 _ _ => tot_exp (a := false) fun _ _ => tot_fin)
 ·exact tot_exp (a := true) fun _ _ => tot_bnd (b := true) (tot_cls _) fun n r2 _ _ => tot_exp (a := true) fun _ _ => tot_bnd (b := true) (tot_cls _) fun sp r4 _ _ => tot_bnd (a := false) (b := true) (ifs_tot _ _) fun is r5 _ _ => tot_exp (a := false) fun _ _ => tot_fin
noncomputable def clK (l : List Tk) : PR Cd := bndP (headK l) fun d r => memsK d r
theorem lcl (l : List Tk) : Lim (fun f => clP f l) (clK l) := lim_bndK (lhead l) fun d r => lmems d r
theorem cl_tot (l : List Tk) : Tot true (fun f => clP f l) l := tot_bnd (b := true) (head_tot l) fun d r _ _ => mems_tot _ d r (Nnr _)
theorem prog_tot : ∀ (N : Nat) (acc : List Cd) (l : List Tk), l.length ≤ N → Tot false (fun f => progP f acc l) l := fun N => by
 have step : ∀ (acc : List Cd) (l : List Tk), (∀ a (r : List Tk), r.length < l.length → Tot false (fun f => progP f a r) r) → Tot false (fun f => progP f acc l) l := fun acc l ih => by
  refine tot_succ (h := fun f => if l = [] then .ok (acc, []) else bndP (clP f l) fun d r => progP f (acc ++ [d]) r) (fun f => by rw [progP]) ?_
  refine tot_if (fun h => tot_ok _ (by rw [h]; exact List.suffix_refl _) fun h => by cases h) fun _ => ?_
  exact tot_weak false (tot_bnd (b := false) (cl_tot l) fun d r _ h2 => ih _ r (h2 rfl)) fun h => by cases h
 induction N with
 | zero => intro acc l h; exact step acc l fun a r hr => by omega
 | succ N ih => intro acc l h; exact step acc l fun a r hr => ih a r (by omega)
noncomputable def progK (acc : List Cd) (l : List Tk) : PR (List Cd) := limK fun f => progP f acc l
theorem lprog (acc : List Cd) (l : List Tk) : Lim (fun f => progP f acc l) (progK acc l) := (prog_tot _ acc l (Nnr _)).lim
theorem progK_eq (acc : List Cd) (l : List Tk) : progK acc l = (if l = [] then .ok (acc, []) else bndP (clK l) fun d r => progK (acc ++ [d]) r) :=
 limK_eq (lim_succ (fun f => by rw [progP]) (lim_ifK (lim_const _) (lim_bndK (lcl l) fun d r => lprog _ _)))
theorem cur_hd (ts : List Tk) (i : Nat) : curT ts i = (ts.drop i).headD zT := by
 rw [curT, List.getD_eq_getElem?_getD, List.headD_eq_head?_getD, List.head?_drop]
theorem hdK_cur (ts : List Tk) (i : Nat) : hdK (ts.drop i) = (curT ts i).k := by
 rw [cur_hd]; cases ts.drop i <;> rfl
theorem hdS_cur (ts : List Tk) (i : Nat) : hdS (ts.drop i) = (curT ts i).s := by
 rw [cur_hd]; cases ts.drop i <;> rfl
theorem hdN_cur (ts : List Tk) (i : Nat) : hdN (ts.drop i) = (curT ts i).n := by
 rw [cur_hd]; cases ts.drop i <;> rfl
theorem isC_P (ts : List Tk) (i : Nat) (w : List UInt8) : isC ts i w = isP w (ts.drop i) := by
 rw [isC, cur_hd]
 cases ts.drop i with
 | nil => simp [zT, isP]
 | cons t r => rfl
def offR (en : Int) : List Tk → Int
 | [] => en
 | t :: _ => t.at_
structure Inv (ts : List Tk) (s : PSt) : Prop where
 le : s.i ≤ ts.length
 fl : s.fl = true → s.i = ts.length
structure Res {α : Type} (ts : List Tk) (en : Int) (s : PSt) (K : PR α) (a : α) (s' : PSt) : Prop where
 inv : Inv ts s'
 mono : s.i ≤ s'.i
 fl : s.fl = true → s' = s
 ok : s.fl = false → ∀ x r, K = .ok (x, r) → a = x ∧ s'.fl = false ∧ r = ts.drop s'.i
 er : s.fl = false → ∀ r, K = .error r → s'.fl = true ∧ s'.off = offR en r
def expSt (ts : List Tk) (en : Int) (s : PSt) (w : List UInt8) : PSt := if isC ts s.i w = true then s.next else failS ts en s
section
variable {ts : List Tk} {en : Int} {s s1 s' : PSt} {α β : Type}
theorem cur_end {i : Nat} (h : ts.length ≤ i) : curT ts i = zT := by rw [curT, List.getD_eq_getElem?_getD, List.getElem?_eq_none h]; rfl
theorem cur_get {i : Nat} (h : i < ts.length) : curT ts i = ts[i] := by rw [curT, List.getD_eq_getElem?_getD, List.getElem?_eq_getElem h]; rfl
theorem Inv.nfl (h : Inv ts s) (hi : s.i < ts.length) : s.fl = false := by
 cases e : s.fl with
 | false => rfl
 | true => have := h.fl e; omega
theorem Inv.next (h : Inv ts s) (hi : s.i < ts.length) : Inv ts s.next := ⟨hi, fun e => by
 have := h.nfl hi
 have e : s.fl = true := e
 rw [this] at e; cases e⟩
theorem inv_failS (h : Inv ts s) : Inv ts (failS ts en s) := by
 unfold failS
 split
 ·exact h
 ·exact ⟨Nnr _, fun _ => rfl⟩
theorem failS_le (h : Inv ts s) : s.i ≤ (failS ts en s).i := by
 unfold failS
 split
 ·exact Nnr _
 ·exact h.le
theorem failS_fl (s : PSt) : (failS ts en s).fl = true := by
 unfold failS
 split
 ·assumption
 ·rfl
theorem failS_same (h : s.fl = true) : failS ts en s = s := by rw [failS, if_pos h]
theorem failS_off (h : s.fl = false) : (failS ts en s).off = offR en (ts.drop s.i) := by
 rw [failS, if_neg (by rw [h]; decide)]
 show (if _ then _ else _) = _
 split
 ·rename_i hi
  rw [cur_get hi, List.drop_eq_getElem_cons hi]; rfl
 ·rename_i hi
  rw [List.drop_eq_nil_of_le (by omega)]; rfl
theorem res_pure (a : α) (hs : Inv ts s) : Res ts en s (.ok (a, ts.drop s.i)) a s :=
 ⟨hs, Nnr _, fun _ => rfl, fun h x r e => by cases e; exact ⟨rfl, h, rfl⟩, fun _ r e => by cases e⟩
theorem res_fail (a : α) (hs : Inv ts s) : Res ts en s (.error (ts.drop s.i)) a (failS ts en s) :=
 ⟨inv_failS hs, failS_le hs, failS_same, fun _ x r e => by (cases e), fun h r e => by cases e; exact ⟨failS_fl s, failS_off h⟩⟩
theorem res_bnd {K1 : PR α} {K2 : α → List Tk → PR β} {a : α} {b : β} (h1 : Res ts en s K1 a s1) (h2 : Res ts en s1 (K2 a (ts.drop s1.i)) b s') : Res ts en s (bndP K1 K2) b s' := by
 refine ⟨h2.inv, Nat.le_trans h1.mono h2.mono, fun h => ?_, fun h x r e => ?_, fun h r e => ?_⟩
 ·have := h1.fl h
  subst this
  exact h2.fl h
 ·cases hK : K1 with
  | error r1 => rw [hK] at e; cases e
  | ok p =>
   obtain ⟨x1, r1⟩ := p
   obtain ⟨rfl, q2, rfl⟩ := h1.ok h x1 r1 hK
   rw [hK] at e
   exact h2.ok q2 x r e
 ·cases hK : K1 with
  | error r1 =>
   rw [hK] at e
   cases e
   obtain ⟨q1, q2⟩ := h1.er h _ hK
   have := h2.fl q1
   subst this
   exact ⟨q1, q2⟩
  | ok p =>
   obtain ⟨x1, r1⟩ := p
   obtain ⟨rfl, q2, rfl⟩ := h1.ok h x1 r1 hK
   rw [hK] at e
   exact h2.er q2 r e
theorem inv_expSt {w : List UInt8} (h : Inv ts s) : Inv ts (expSt ts en s w) := by
 unfold expSt
 split
 ·rename_i e; exact h.next (isC_lt e)
 ·exact inv_failS h
theorem expSt_le {w : List UInt8} (h : Inv ts s) : s.i ≤ (expSt ts en s w).i := by
 unfold expSt
 split
 ·exact Nat.le_succ _
 ·exact failS_le h
theorem res_next {K : PR α} {a : α} (hs : Inv ts s) (hi : s.i < ts.length) (h : Res ts en s.next K a s') : Res ts en s K a s' := by
 have hf := hs.nfl hi
 exact ⟨h.inv, Nat.le_trans (Nat.le_succ _) h.mono, fun e => (by rw [hf] at e; cases e), fun e => h.ok e, fun e => h.er e⟩
theorem drop_next (ts : List Tk) (s : PSt) : ts.drop s.next.i = (ts.drop s.i).tail := by
 rw [List.tail_drop]; rfl
theorem res_acc {k : List Tk → PR α} {a : α} (hs : Inv ts s) (hi : s.i < ts.length) (h : Res ts en s.next (k (ts.drop s.next.i)) a s') : Res ts en s (k (ts.drop s.i).tail) a s' := by
 rw [← drop_next]
 exact res_next hs hi h
theorem res_exp {k : List Tk → PR α} {a : α} {w : List UInt8} (hs : Inv ts s) (h : Res ts en (expSt ts en s w) (k (ts.drop (expSt ts en s w).i)) a s') : Res ts en s (expP w (ts.drop s.i) k) a s' := by
 unfold expP
 rw [← isC_P]
 unfold expSt at h
 by_cases hc : isC ts s.i w = true
 ·rw [if_pos hc] at h ⊢
  exact res_acc hs (isC_lt hc) h
 ·rw [if_neg hc] at h ⊢
  refine ⟨h.inv, Nat.le_trans (failS_le hs) h.mono, fun e => ?_, fun _ x r e => by (cases e), fun e r e2 => ?_⟩
  ·rw [failS_same e] at h
   exact h.fl e
  ·cases e2
   have := h.fl (failS_fl s)
   rw [this]
   exact ⟨failS_fl s, failS_off e⟩
end
end Go.Proofs.YtimddhkipjedcaaGreatDoor.E

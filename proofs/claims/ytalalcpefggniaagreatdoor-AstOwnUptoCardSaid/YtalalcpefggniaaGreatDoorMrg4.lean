/- Several texts in one: AstK, AstN, AstO, AstP, AstQ, AstR, AstDa, AstS, AstT, AstU, AstUa, AstW, AstWa, AstWb, AstWc. -/
import Derived.WideKeyRuns
import Derived.Test.YtalalcpefggniaaGreatDoorMrg3
set_option linter.unusedSimpArgs false
set_option linter.unusedVariables false
set_option maxHeartbeats 4000000
set_option maxRecDepth 20000
namespace Go.Proofs.YtalalcpefggniaaGreatDoor.E
open Go

structure Sd where
  k : Int
  name : List UInt8
  ty : Ty
  tg : Nd
  ex : Nd
  a : Option Addr
  l : Nat
  cp : Nat
  b : Option Addr
  l2 : Nat
  cp2 : Nat
def Sd.cs (x : Sd) : List Value := [.int .i64 x.k, .string (bs x.name), .int .i64 x.ty.dim, .int .u8 x.ty.base, .string (bs x.ty.name), .int .i64 x.tg.k, .int .i64 x.tg.n, .string (bs x.tg.s), .string (bs x.tg.c), .int .i64 x.tg.ty.dim, .int .u8 x.tg.ty.base, .string (bs x.tg.ty.name), .slice x.tg.a x.tg.l x.tg.cp, .int .i64 x.ex.k, .int .i64 x.ex.n, .string (bs x.ex.s), .string (bs x.ex.c), .int .i64 x.ex.ty.dim, .int .u8 x.ex.ty.base, .string (bs x.ex.ty.name), .slice x.ex.a x.ex.l x.ex.cp, .slice x.a x.l x.cp, .slice x.b x.l2 x.cp2]
theorem aggSd : aggN Tryz.prog 35 = some (some 23) := by kernel_rfl
theorem szSd : szT Tryz.prog 35 = 23 := by kernel_rfl
theorem zeroSd : zeroO Tryz.prog 35 = some [.v (.int .i64 0), .v (.string (bs [])), .v (.int .i64 0), .v (.int .u8 0), .v (.string (bs [])), .v (.int .i64 0), .v (.int .i64 0), .v (.string (bs [])), .v (.string (bs [])), .v (.int .i64 0), .v (.int .u8 0), .v (.string (bs [])), .v (.slice none 0 0), .v (.int .i64 0), .v (.int .i64 0), .v (.string (bs [])), .v (.string (bs [])), .v (.int .i64 0), .v (.int .u8 0), .v (.string (bs [])), .v (.slice none 0 0), .v (.slice none 0 0), .v (.slice none 0 0)] := by kernel_rfl
theorem bldSd : bldOk Tryz.prog 35 = true := by kernel_rfl
theorem aggLSd : aggN Tryz.prog 33 = some none := by kernel_rfl
theorem szLSd : szT Tryz.prog 33 = 1 := by kernel_rfl
theorem elLSd : elT Tryz.prog 33 = some 35 := by kernel_rfl
theorem fldSd_0 : fldO Tryz.prog 35 0 = some (0, none, 1) := by kernel_rfl
theorem fldSd_1 : fldO Tryz.prog 35 1 = some (1, none, 1) := by kernel_rfl
theorem fldSd_2 : fldO Tryz.prog 35 2 = some (2, some 3, 3) := by kernel_rfl
theorem fldSd_3 : fldO Tryz.prog 35 3 = some (5, some 8, 8) := by kernel_rfl
theorem fldSd_4 : fldO Tryz.prog 35 4 = some (13, some 8, 8) := by kernel_rfl
theorem fldSd_5 : fldO Tryz.prog 35 5 = some (21, none, 1) := by kernel_rfl
theorem fldSd_6 : fldO Tryz.prog 35 6 = some (22, none, 1) := by kernel_rfl
structure Mc where
  fl : Int
  res : Ty
  name : List UInt8
  pa : Option Addr
  pl : Nat
  pc : Nat
  hb : Bool
  a : Option Addr
  l : Nat
  cp : Nat
def Mc.cs (x : Mc) : List Value := [.int .i64 x.fl, .int .i64 x.res.dim, .int .u8 x.res.base, .string (bs x.res.name), .string (bs x.name), .slice x.pa x.pl x.pc, .bool x.hb, .slice x.a x.l x.cp]
theorem aggMc : aggN Tryz.prog 58 = some (some 8) := by kernel_rfl
theorem szMc : szT Tryz.prog 58 = 8 := by kernel_rfl
theorem zeroMc : zeroO Tryz.prog 58 = some [.v (.int .i64 0), .v (.int .i64 0), .v (.int .u8 0), .v (.string (bs [])), .v (.string (bs [])), .v (.slice none 0 0), .v (.bool false), .v (.slice none 0 0)] := by kernel_rfl
theorem bldMc : bldOk Tryz.prog 58 = true := by kernel_rfl
theorem aggLMc : aggN Tryz.prog 53 = some none := by kernel_rfl
theorem szLMc : szT Tryz.prog 53 = 1 := by kernel_rfl
theorem elLMc : elT Tryz.prog 53 = some 58 := by kernel_rfl
theorem fldMc_0 : fldO Tryz.prog 58 0 = some (0, none, 1) := by kernel_rfl
theorem fldMc_1 : fldO Tryz.prog 58 1 = some (1, some 3, 3) := by kernel_rfl
theorem fldMc_2 : fldO Tryz.prog 58 2 = some (4, none, 1) := by kernel_rfl
theorem fldMc_3 : fldO Tryz.prog 58 3 = some (5, none, 1) := by kernel_rfl
theorem fldMc_4 : fldO Tryz.prog 58 4 = some (6, none, 1) := by kernel_rfl
theorem fldMc_5 : fldO Tryz.prog 58 5 = some (7, none, 1) := by kernel_rfl
structure Cc where
  fl : Int
  name : List UInt8
  super : List UInt8
  ia : Option Addr
  il : Nat
  ic : Nat
  fa : Option Addr
  fn : Nat
  fc : Nat
  ma : Option Addr
  ml : Nat
  mc : Nat
  sa : Option Addr
  sl : Nat
  sc : Nat
def Cc.cs (x : Cc) : List Value := [.int .i64 x.fl, .string (bs x.name), .string (bs x.super), .slice x.ia x.il x.ic, .slice x.fa x.fn x.fc, .slice x.ma x.ml x.mc, .slice x.sa x.sl x.sc]
theorem aggCc : aggN Tryz.prog 55 = some (some 7) := by kernel_rfl
theorem szCc : szT Tryz.prog 55 = 7 := by kernel_rfl
theorem zeroCc : zeroO Tryz.prog 55 = some [.v (.int .i64 0), .v (.string (bs [])), .v (.string (bs [])), .v (.slice none 0 0), .v (.slice none 0 0), .v (.slice none 0 0), .v (.slice none 0 0)] := by kernel_rfl
theorem bldCc : bldOk Tryz.prog 55 = true := by kernel_rfl
theorem aggLCc : aggN Tryz.prog 22 = some none := by kernel_rfl
theorem szLCc : szT Tryz.prog 22 = 1 := by kernel_rfl
theorem elLCc : elT Tryz.prog 22 = some 55 := by kernel_rfl
theorem fldCc_0 : fldO Tryz.prog 55 0 = some (0, none, 1) := by kernel_rfl
theorem fldCc_1 : fldO Tryz.prog 55 1 = some (1, none, 1) := by kernel_rfl
theorem fldCc_2 : fldO Tryz.prog 55 2 = some (2, none, 1) := by kernel_rfl
theorem fldCc_3 : fldO Tryz.prog 55 3 = some (3, none, 1) := by kernel_rfl
theorem fldCc_4 : fldO Tryz.prog 55 4 = some (4, none, 1) := by kernel_rfl
theorem fldCc_5 : fldO Tryz.prog 55 5 = some (5, none, 1) := by kernel_rfl
theorem fldCc_6 : fldO Tryz.prog 55 6 = some (6, none, 1) := by kernel_rfl
structure Pc where
  ty : Ty
  name : List UInt8
def Pc.cs (x : Pc) : List Value := [.int .i64 x.ty.dim, .int .u8 x.ty.base, .string (bs x.ty.name), .string (bs x.name)]
theorem aggPc : aggN Tryz.prog 140 = some (some 4) := by kernel_rfl
theorem szPc : szT Tryz.prog 140 = 4 := by kernel_rfl
theorem zeroPc : zeroO Tryz.prog 140 = some [.v (.int .i64 0), .v (.int .u8 0), .v (.string (bs [])), .v (.string (bs []))] := by kernel_rfl
theorem bldPc : bldOk Tryz.prog 140 = true := by kernel_rfl
theorem aggLPc : aggN Tryz.prog 56 = some none := by kernel_rfl
theorem szLPc : szT Tryz.prog 56 = 1 := by kernel_rfl
theorem elLPc : elT Tryz.prog 56 = some 140 := by kernel_rfl
theorem fldPc_0 : fldO Tryz.prog 140 0 = some (0, some 3, 3) := by kernel_rfl
theorem fldPc_1 : fldO Tryz.prog 140 1 = some (3, none, 1) := by kernel_rfl
structure Fc where
  fl : Int
  ty : Ty
  name : List UInt8
def Fc.cs (x : Fc) : List Value := [.int .i64 x.fl, .int .i64 x.ty.dim, .int .u8 x.ty.base, .string (bs x.ty.name), .string (bs x.name)]
theorem aggFc : aggN Tryz.prog 85 = some (some 5) := by kernel_rfl
theorem szFc : szT Tryz.prog 85 = 5 := by kernel_rfl
theorem zeroFc : zeroO Tryz.prog 85 = some [.v (.int .i64 0), .v (.int .i64 0), .v (.int .u8 0), .v (.string (bs [])), .v (.string (bs []))] := by kernel_rfl
theorem bldFc : bldOk Tryz.prog 85 = true := by kernel_rfl
theorem aggLFc : aggN Tryz.prog 52 = some none := by kernel_rfl
theorem szLFc : szT Tryz.prog 52 = 1 := by kernel_rfl
theorem elLFc : elT Tryz.prog 52 = some 85 := by kernel_rfl
theorem fldFc_0 : fldO Tryz.prog 85 0 = some (0, none, 1) := by kernel_rfl
theorem fldFc_1 : fldO Tryz.prog 85 1 = some (1, some 3, 3) := by kernel_rfl
theorem fldFc_2 : fldO Tryz.prog 85 2 = some (4, none, 1) := by kernel_rfl
theorem szLs : szT Tryz.prog 51 = 1 := by kernel_rfl
attribute [go_sem] aggSd szSd zeroSd bldSd aggLSd szLSd elLSd fldSd_0 fldSd_1 fldSd_2 fldSd_3 fldSd_4 fldSd_5 fldSd_6 aggMc szMc zeroMc bldMc aggLMc szLMc elLMc fldMc_0 fldMc_1 fldMc_2 fldMc_3 fldMc_4 fldMc_5 aggCc szCc zeroCc bldCc aggLCc szLCc elLCc fldCc_0 fldCc_1 fldCc_2 fldCc_3 fldCc_4 fldCc_5 fldCc_6 aggPc szPc zeroPc bldPc aggLPc szLPc elLPc fldPc_0 fldPc_1 aggFc szFc zeroFc bldFc aggLFc szLFc elLFc fldFc_0 fldFc_1 fldFc_2 szLs
def allB (n : Nat) (B : Nat → Bool) : Bool := (List.range n).all B
theorem allB_succ {n : Nat} {B : Nat → Bool} : allB (n + 1) B = (allB n B && B n) := by simp [allB, List.range_succ, List.all_append]
theorem allB_no {n k : Nat} {B : Nat → Bool} (hk : k < n) (h : B k = false) : allB n B = false := by
  simp only [allB, List.all_eq_false, List.mem_range]
  exact ⟨k, hk, by simp [h]⟩
theorem chunk_len {m : Mem} {a : Option Addr} {n sz : Nat} {xs : List Value} (hr : Rds m a n sz xs) {k : Nat} (hk : k < n) : ((xs.drop (k * sz)).take sz).length = sz := by
  have := hr.1
  have hm : (k + 1) * sz ≤ n * sz := Nat.mul_le_mul_right _ hk
  rw [Nat.succ_mul] at hm
  rw [List.length_take, List.length_drop]; omega

theorem eqfNd (f : FuncId) (B : Nat → Bool) (a : Option Addr) (n c : Nat) (a2 : Option Addr) (n2 c2 : Nat) (xs ys : List Value) (m : Mem) (hr : Rds m a n 8 xs) (hr2 : Rds m a2 n2 8 ys) (hn : n ≤ big) (hok : fnOk Tryz.prog f = true)
    (hx : ∀ i, i < n → n = n2 → ∃ X Y : Nd, (xs.drop (i * 8)).take 8 = X.cs ∧ (ys.drop (i * 8)).take 8 = Y.cs ∧ ∀ m', leM m m' → Ans f [.v (.agg ⟨X.cs⟩), .v (.agg ⟨Y.cs⟩)] m' (.bool (B i))) :
    Ans 175 [.v (.slice a n c), .v (.slice a2 n2 c2), .v (.func (.func f) ⟨[]⟩ ⟨[]⟩)] m (.bool (decide (n = n2) && allB n B)) := by
  refine enter cfN puN Tryz.func175 rfl rfl (by kernel_rfl) rfl ?_ ?_
  · simp only [go_sem, ↓imp_tf, ↓imp_ft, ↓reduceIte]
  · simp only [go_sem, ↓imp_tf, ↓imp_ft, ↓reduceIte]
    refine ⟨fun hne => ?_, fun heq => ?_⟩
    · have : ¬ n = n2 := by clear hx; omega
      rw [decide_eq_false this]
      rfl
    · have heq : n = n2 := by clear hx; omega
      subst heq
      refine WP_loop puN (fun x : Nat × Mem => ⟨[⟨1, [], .v (.slice a2 n c2)⟩, ⟨2, [], .v (.func (.func f) ⟨[]⟩ ⟨[]⟩)⟩, ⟨15, [], .v (.slice a n c)⟩, ⟨16, [], .v (.int .i64 n)⟩, ⟨17, [], .v (.int .i64 x.1)⟩], [], [], [], 0, x.2⟩)
        (fun x => leM m x.2 ∧ x.1 ≤ n ∧ allB x.1 B = true) (fun x => n - x.1) (0, m) (by kernel_rfl) (fun _ _ => Nat.le_refl _) (fun x hx => hx.1) (fun _ => ?_) ?_ ?_ ?_
      · simp only [go_sem, ↓imp_tf, ↓imp_ft, ↓reduceIte]
      · simp only [go_sem, ↓imp_tf, ↓imp_ft, ↓reduceIte]
        rfl
      · exact ⟨.inl rfl, Nat.zero_le _, rfl⟩
      · rintro ⟨k, mm⟩ ⟨h1, h2, h3⟩
        simp only at h1 h2 h3
        have hown : cfN.own f = false := rfl
        have hy : ∀ (hk : k < n), ∃ X Y : Nd, (Rd mm (ptrAt a (k * 8)) X.cs ∧ a ≠ none) ∧ (Rd mm (ptrAt a2 (k * 8)) Y.cs ∧ a2 ≠ none) ∧ Ans f [.v (.agg ⟨X.cs⟩), .v (.agg ⟨Y.cs⟩)] mm (.bool (B k)) := fun hk => by
          obtain ⟨X, Y, e1, e2, e3⟩ := hx k hk rfl
          have r1 := Rds_cells (Rds_upM h1 hr) hk
          have r2 := Rds_cells (Rds_upM h1 hr2) hk
          rw [e1] at r1
          rw [e2] at r2
          exact ⟨X, Y, r1, r2, e3 mm h1⟩
        clear hx
        simp only [go_sem, ↓imp_tf, ↓imp_ft, ↓reduceIte, hown]
        refine ⟨fun hlt => ?_, fun hge => ⟨h1, ?_⟩⟩
        · have hk : k < n := by clear hy; omega
          refine Exists.elim (hy hk) fun X hy' => Exists.elim hy' fun Y hy'' => ⟨⟨by clear hy hy' hy''; omega, hlt, hy''.1.2⟩, X.cs, ⟨hy''.1.1, rfl⟩, ?_⟩
          clear hy hy'
          have ha := hy''.2.2
          simp only [go_sem, ↓imp_tf, ↓imp_ft, ↓reduceIte, hown, Nd.cs]
          refine ⟨⟨by clear hy'' ha; omega, hlt, hy''.2.1.2⟩, Y.cs, ⟨hy''.2.1.1, rfl⟩, ?_⟩
          clear hy''
          simp only [go_sem, ↓imp_tf, ↓imp_ft, ↓reduceIte, hown, Nd.cs]
          refine ⟨hok, FnV_of ((FnH_den ha (fun V => rfl)).mono ?_)⟩
          clear ha
          rintro r H' m2 hm2 ⟨hle2, rfl, rfl⟩
          simp only [go_sem, ↓imp_tf, ↓imp_ft, ↓reduceIte]
          refine ⟨fun hb => ⟨leM_tr h1 hle2, ?_⟩, fun hb => ⟨by unfold I64; simp only [big] at hn; omega, (k + 1, m2), ⟨by simp, .inl rfl⟩, ⟨leM_tr h1 hle2, by simp only; omega, ?_⟩, by simp only; omega⟩⟩
          · rw [allB_no hk hb]; simp
          · simp only
            rw [allB_succ, h3, hb]
            rfl
        · have : k = n := by clear hy; omega
          rw [← this, h3]; simp
theorem eqfSd (f : FuncId) (B : Nat → Bool) (a : Option Addr) (n c : Nat) (a2 : Option Addr) (n2 c2 : Nat) (xs ys : List Value) (m : Mem) (hr : Rds m a n 23 xs) (hr2 : Rds m a2 n2 23 ys) (hn : n ≤ big) (hok : fnOk Tryz.prog f = true)
    (hx : ∀ i, i < n → n = n2 → ∃ X Y : Sd, (xs.drop (i * 23)).take 23 = X.cs ∧ (ys.drop (i * 23)).take 23 = Y.cs ∧ ∀ m', leM m m' → Ans f [.v (.agg ⟨X.cs⟩), .v (.agg ⟨Y.cs⟩)] m' (.bool (B i))) :
    Ans 122 [.v (.slice a n c), .v (.slice a2 n2 c2), .v (.func (.func f) ⟨[]⟩ ⟨[]⟩)] m (.bool (decide (n = n2) && allB n B)) := by
  refine enter cfN puN Tryz.func122 rfl rfl (by kernel_rfl) rfl ?_ ?_
  · simp only [go_sem, ↓imp_tf, ↓imp_ft, ↓reduceIte]
  · simp only [go_sem, ↓imp_tf, ↓imp_ft, ↓reduceIte]
    refine ⟨fun hne => ?_, fun heq => ?_⟩
    · have : ¬ n = n2 := by clear hx; omega
      rw [decide_eq_false this]
      rfl
    · have heq : n = n2 := by clear hx; omega
      subst heq
      refine WP_loop puN (fun x : Nat × Mem => ⟨[⟨1, [], .v (.slice a2 n c2)⟩, ⟨2, [], .v (.func (.func f) ⟨[]⟩ ⟨[]⟩)⟩, ⟨15, [], .v (.slice a n c)⟩, ⟨16, [], .v (.int .i64 n)⟩, ⟨17, [], .v (.int .i64 x.1)⟩], [], [], [], 0, x.2⟩)
        (fun x => leM m x.2 ∧ x.1 ≤ n ∧ allB x.1 B = true) (fun x => n - x.1) (0, m) (by kernel_rfl) (fun _ _ => Nat.le_refl _) (fun x hx => hx.1) (fun _ => ?_) ?_ ?_ ?_
      · simp only [go_sem, ↓imp_tf, ↓imp_ft, ↓reduceIte]
      · simp only [go_sem, ↓imp_tf, ↓imp_ft, ↓reduceIte]
        rfl
      · exact ⟨.inl rfl, Nat.zero_le _, rfl⟩
      · rintro ⟨k, mm⟩ ⟨h1, h2, h3⟩
        simp only at h1 h2 h3
        have hown : cfN.own f = false := rfl
        have hy : ∀ (hk : k < n), ∃ X Y : Sd, (Rd mm (ptrAt a (k * 23)) X.cs ∧ a ≠ none) ∧ (Rd mm (ptrAt a2 (k * 23)) Y.cs ∧ a2 ≠ none) ∧ Ans f [.v (.agg ⟨X.cs⟩), .v (.agg ⟨Y.cs⟩)] mm (.bool (B k)) := fun hk => by
          obtain ⟨X, Y, e1, e2, e3⟩ := hx k hk rfl
          have r1 := Rds_cells (Rds_upM h1 hr) hk
          have r2 := Rds_cells (Rds_upM h1 hr2) hk
          rw [e1] at r1
          rw [e2] at r2
          exact ⟨X, Y, r1, r2, e3 mm h1⟩
        clear hx
        simp only [go_sem, ↓imp_tf, ↓imp_ft, ↓reduceIte, hown]
        refine ⟨fun hlt => ?_, fun hge => ⟨h1, ?_⟩⟩
        · have hk : k < n := by clear hy; omega
          refine Exists.elim (hy hk) fun X hy' => Exists.elim hy' fun Y hy'' => ⟨⟨by clear hy hy' hy''; omega, hlt, hy''.1.2⟩, X.cs, ⟨hy''.1.1, rfl⟩, ?_⟩
          clear hy hy'
          have ha := hy''.2.2
          simp only [go_sem, ↓imp_tf, ↓imp_ft, ↓reduceIte, hown, Sd.cs]
          refine ⟨⟨by clear hy'' ha; omega, hlt, hy''.2.1.2⟩, Y.cs, ⟨hy''.2.1.1, rfl⟩, ?_⟩
          clear hy''
          simp only [go_sem, ↓imp_tf, ↓imp_ft, ↓reduceIte, hown, Sd.cs]
          refine ⟨hok, FnV_of ((FnH_den ha (fun V => rfl)).mono ?_)⟩
          clear ha
          rintro r H' m2 hm2 ⟨hle2, rfl, rfl⟩
          simp only [go_sem, ↓imp_tf, ↓imp_ft, ↓reduceIte]
          refine ⟨fun hb => ⟨leM_tr h1 hle2, ?_⟩, fun hb => ⟨by unfold I64; simp only [big] at hn; omega, (k + 1, m2), ⟨by simp, .inl rfl⟩, ⟨leM_tr h1 hle2, by simp only; omega, ?_⟩, by simp only; omega⟩⟩
          · rw [allB_no hk hb]; simp
          · simp only
            rw [allB_succ, h3, hb]
            rfl
        · have : k = n := by clear hy; omega
          rw [← this, h3]; simp
theorem eqfMc (f : FuncId) (B : Nat → Bool) (a : Option Addr) (n c : Nat) (a2 : Option Addr) (n2 c2 : Nat) (xs ys : List Value) (m : Mem) (hr : Rds m a n 8 xs) (hr2 : Rds m a2 n2 8 ys) (hn : n ≤ big) (hok : fnOk Tryz.prog f = true)
    (hx : ∀ i, i < n → n = n2 → ∃ X Y : Mc, (xs.drop (i * 8)).take 8 = X.cs ∧ (ys.drop (i * 8)).take 8 = Y.cs ∧ ∀ m', leM m m' → Ans f [.v (.agg ⟨X.cs⟩), .v (.agg ⟨Y.cs⟩)] m' (.bool (B i))) :
    Ans 126 [.v (.slice a n c), .v (.slice a2 n2 c2), .v (.func (.func f) ⟨[]⟩ ⟨[]⟩)] m (.bool (decide (n = n2) && allB n B)) := by
  refine enter cfN puN Tryz.func126 rfl rfl (by kernel_rfl) rfl ?_ ?_
  · simp only [go_sem, ↓imp_tf, ↓imp_ft, ↓reduceIte]
  · simp only [go_sem, ↓imp_tf, ↓imp_ft, ↓reduceIte]
    refine ⟨fun hne => ?_, fun heq => ?_⟩
    · have : ¬ n = n2 := by clear hx; omega
      rw [decide_eq_false this]
      rfl
    · have heq : n = n2 := by clear hx; omega
      subst heq
      refine WP_loop puN (fun x : Nat × Mem => ⟨[⟨1, [], .v (.slice a2 n c2)⟩, ⟨2, [], .v (.func (.func f) ⟨[]⟩ ⟨[]⟩)⟩, ⟨15, [], .v (.slice a n c)⟩, ⟨16, [], .v (.int .i64 n)⟩, ⟨17, [], .v (.int .i64 x.1)⟩], [], [], [], 0, x.2⟩)
        (fun x => leM m x.2 ∧ x.1 ≤ n ∧ allB x.1 B = true) (fun x => n - x.1) (0, m) (by kernel_rfl) (fun _ _ => Nat.le_refl _) (fun x hx => hx.1) (fun _ => ?_) ?_ ?_ ?_
      · simp only [go_sem, ↓imp_tf, ↓imp_ft, ↓reduceIte]
      · simp only [go_sem, ↓imp_tf, ↓imp_ft, ↓reduceIte]
        rfl
      · exact ⟨.inl rfl, Nat.zero_le _, rfl⟩
      · rintro ⟨k, mm⟩ ⟨h1, h2, h3⟩
        simp only at h1 h2 h3
        have hown : cfN.own f = false := rfl
        have hy : ∀ (hk : k < n), ∃ X Y : Mc, (Rd mm (ptrAt a (k * 8)) X.cs ∧ a ≠ none) ∧ (Rd mm (ptrAt a2 (k * 8)) Y.cs ∧ a2 ≠ none) ∧ Ans f [.v (.agg ⟨X.cs⟩), .v (.agg ⟨Y.cs⟩)] mm (.bool (B k)) := fun hk => by
          obtain ⟨X, Y, e1, e2, e3⟩ := hx k hk rfl
          have r1 := Rds_cells (Rds_upM h1 hr) hk
          have r2 := Rds_cells (Rds_upM h1 hr2) hk
          rw [e1] at r1
          rw [e2] at r2
          exact ⟨X, Y, r1, r2, e3 mm h1⟩
        clear hx
        simp only [go_sem, ↓imp_tf, ↓imp_ft, ↓reduceIte, hown]
        refine ⟨fun hlt => ?_, fun hge => ⟨h1, ?_⟩⟩
        · have hk : k < n := by clear hy; omega
          refine Exists.elim (hy hk) fun X hy' => Exists.elim hy' fun Y hy'' => ⟨⟨by clear hy hy' hy''; omega, hlt, hy''.1.2⟩, X.cs, ⟨hy''.1.1, rfl⟩, ?_⟩
          clear hy hy'
          have ha := hy''.2.2
          simp only [go_sem, ↓imp_tf, ↓imp_ft, ↓reduceIte, hown, Mc.cs]
          refine ⟨⟨by clear hy'' ha; omega, hlt, hy''.2.1.2⟩, Y.cs, ⟨hy''.2.1.1, rfl⟩, ?_⟩
          clear hy''
          simp only [go_sem, ↓imp_tf, ↓imp_ft, ↓reduceIte, hown, Mc.cs]
          refine ⟨hok, FnV_of ((FnH_den ha (fun V => rfl)).mono ?_)⟩
          clear ha
          rintro r H' m2 hm2 ⟨hle2, rfl, rfl⟩
          simp only [go_sem, ↓imp_tf, ↓imp_ft, ↓reduceIte]
          refine ⟨fun hb => ⟨leM_tr h1 hle2, ?_⟩, fun hb => ⟨by unfold I64; simp only [big] at hn; omega, (k + 1, m2), ⟨by simp, .inl rfl⟩, ⟨leM_tr h1 hle2, by simp only; omega, ?_⟩, by simp only; omega⟩⟩
          · rw [allB_no hk hb]; simp
          · simp only
            rw [allB_succ, h3, hb]
            rfl
        · have : k = n := by clear hy; omega
          rw [← this, h3]; simp
theorem eqfCc (f : FuncId) (B : Nat → Bool) (a : Option Addr) (n c : Nat) (a2 : Option Addr) (n2 c2 : Nat) (xs ys : List Value) (m : Mem) (hr : Rds m a n 7 xs) (hr2 : Rds m a2 n2 7 ys) (hn : n ≤ big) (hok : fnOk Tryz.prog f = true)
    (hx : ∀ i, i < n → n = n2 → ∃ X Y : Cc, (xs.drop (i * 7)).take 7 = X.cs ∧ (ys.drop (i * 7)).take 7 = Y.cs ∧ ∀ m', leM m m' → Ans f [.v (.agg ⟨X.cs⟩), .v (.agg ⟨Y.cs⟩)] m' (.bool (B i))) :
    Ans 58 [.v (.slice a n c), .v (.slice a2 n2 c2), .v (.func (.func f) ⟨[]⟩ ⟨[]⟩)] m (.bool (decide (n = n2) && allB n B)) := by
  refine enter cfN puN Tryz.func58 rfl rfl (by kernel_rfl) rfl ?_ ?_
  · simp only [go_sem, ↓imp_tf, ↓imp_ft, ↓reduceIte]
  · simp only [go_sem, ↓imp_tf, ↓imp_ft, ↓reduceIte]
    refine ⟨fun hne => ?_, fun heq => ?_⟩
    · have : ¬ n = n2 := by clear hx; omega
      rw [decide_eq_false this]
      rfl
    · have heq : n = n2 := by clear hx; omega
      subst heq
      refine WP_loop puN (fun x : Nat × Mem => ⟨[⟨1, [], .v (.slice a2 n c2)⟩, ⟨2, [], .v (.func (.func f) ⟨[]⟩ ⟨[]⟩)⟩, ⟨15, [], .v (.slice a n c)⟩, ⟨16, [], .v (.int .i64 n)⟩, ⟨17, [], .v (.int .i64 x.1)⟩], [], [], [], 0, x.2⟩)
        (fun x => leM m x.2 ∧ x.1 ≤ n ∧ allB x.1 B = true) (fun x => n - x.1) (0, m) (by kernel_rfl) (fun _ _ => Nat.le_refl _) (fun x hx => hx.1) (fun _ => ?_) ?_ ?_ ?_
      · simp only [go_sem, ↓imp_tf, ↓imp_ft, ↓reduceIte]
      · simp only [go_sem, ↓imp_tf, ↓imp_ft, ↓reduceIte]
        rfl
      · exact ⟨.inl rfl, Nat.zero_le _, rfl⟩
      · rintro ⟨k, mm⟩ ⟨h1, h2, h3⟩
        simp only at h1 h2 h3
        have hown : cfN.own f = false := rfl
        have hy : ∀ (hk : k < n), ∃ X Y : Cc, (Rd mm (ptrAt a (k * 7)) X.cs ∧ a ≠ none) ∧ (Rd mm (ptrAt a2 (k * 7)) Y.cs ∧ a2 ≠ none) ∧ Ans f [.v (.agg ⟨X.cs⟩), .v (.agg ⟨Y.cs⟩)] mm (.bool (B k)) := fun hk => by
          obtain ⟨X, Y, e1, e2, e3⟩ := hx k hk rfl
          have r1 := Rds_cells (Rds_upM h1 hr) hk
          have r2 := Rds_cells (Rds_upM h1 hr2) hk
          rw [e1] at r1
          rw [e2] at r2
          exact ⟨X, Y, r1, r2, e3 mm h1⟩
        clear hx
        simp only [go_sem, ↓imp_tf, ↓imp_ft, ↓reduceIte, hown]
        refine ⟨fun hlt => ?_, fun hge => ⟨h1, ?_⟩⟩
        · have hk : k < n := by clear hy; omega
          refine Exists.elim (hy hk) fun X hy' => Exists.elim hy' fun Y hy'' => ⟨⟨by clear hy hy' hy''; omega, hlt, hy''.1.2⟩, X.cs, ⟨hy''.1.1, rfl⟩, ?_⟩
          clear hy hy'
          have ha := hy''.2.2
          simp only [go_sem, ↓imp_tf, ↓imp_ft, ↓reduceIte, hown, Cc.cs]
          refine ⟨⟨by clear hy'' ha; omega, hlt, hy''.2.1.2⟩, Y.cs, ⟨hy''.2.1.1, rfl⟩, ?_⟩
          clear hy''
          simp only [go_sem, ↓imp_tf, ↓imp_ft, ↓reduceIte, hown, Cc.cs]
          refine ⟨hok, FnV_of ((FnH_den ha (fun V => rfl)).mono ?_)⟩
          clear ha
          rintro r H' m2 hm2 ⟨hle2, rfl, rfl⟩
          simp only [go_sem, ↓imp_tf, ↓imp_ft, ↓reduceIte]
          refine ⟨fun hb => ⟨leM_tr h1 hle2, ?_⟩, fun hb => ⟨by unfold I64; simp only [big] at hn; omega, (k + 1, m2), ⟨by simp, .inl rfl⟩, ⟨leM_tr h1 hle2, by simp only; omega, ?_⟩, by simp only; omega⟩⟩
          · rw [allB_no hk hb]; simp
          · simp only
            rw [allB_succ, h3, hb]
            rfl
        · have : k = n := by clear hy; omega
          rw [← this, h3]; simp
end Go.Proofs.YtalalcpefggniaaGreatDoor.E

namespace Go.Proofs.YtalalcpefggniaaGreatDoor.E
open Go

theorem cellsEq_split : ∀ {x1 x2 ys : List Value} {b : Bool}, cellsEq ((x1 ++ x2).map .v) (ys.map .v) = some b → ∃ b1 b2, cellsEq (x1.map .v) ((ys.take x1.length).map .v) = some b1 ∧ cellsEq (x2.map .v) ((ys.drop x1.length).map .v) = some b2 ∧ b = (b1 && b2) ∧ x1.length ≤ ys.length
  | [], x2, ys, b, h => ⟨true, b, by simp [cellsEq], by simpa using h, by simp, Nat.zero_le _⟩
  | x :: x1, x2, ys, b, h => by
    obtain ⟨y, r, e, e', rfl, h1, h2, rfl⟩ := cells_cons (xs := x1 ++ x2) h
    obtain ⟨b1, b2, g1, g2, rfl, g4⟩ := cellsEq_split h2
    refine ⟨e && b1, b2, ?_, g2, by rw [Bool.and_assoc], by simp only [List.length_cons]; omega⟩
    simp only [List.map_cons, List.length_cons, List.take_succ_cons, cellsEq, h1, g1, Option.bind_some, Option.map_some]
theorem fitL_split : ∀ {n : Nat} {zs : List SV} {us : List Value}, fitL zs (us.map .v) = true → fitL (zs.take n) ((us.take n).map .v) = true ∧ fitL (zs.drop n) ((us.drop n).map .v) = true ∧ us.length = zs.length
  | 0, zs, us, h => ⟨by simp [fitL], by simpa using h, by
    induction zs generalizing us with
    | nil => rw [fitL_nil h]; rfl
    | cons z zs ih => obtain ⟨x, r, rfl, _, h2⟩ := fitL_cons h; simp [ih _ h2]⟩
  | n + 1, [], us, h => by rw [fitL_nil h]; simp [fitL]
  | n + 1, z :: zs, us, h => by
    obtain ⟨x, r, rfl, h1, h2⟩ := fitL_cons h
    obtain ⟨g1, g2, g3⟩ := fitL_split (n := n) h2
    refine ⟨?_, g2, by simp [g3]⟩
    simp only [List.take_succ_cons, List.map_cons, fitL, h1, g1, Bool.and_self]
/-- Fields, one of which may be a struct of plain cells of type N. -/
def eqFs2 (P : Program) (N : TypeId) (sz : Nat) : Nat → List SV → List Field → Bool
  | _, zs, [] => zs.isEmpty
  | off, zs, f :: fs => f.name != "_" && decide (f.offset = off) &&
      (if f.type = N then decide (0 < sz ∧ sz ≤ zs.length) && eqFs P 0 (zs.take sz) (P.fieldsOf N).toList && eqFs2 P N sz (off + sz) (zs.drop sz) fs
       else decide (aggN P f.type = some none) && (match zs with | z :: r => kindOk P f.type z && eqFs2 P N sz (off + 1) r fs | [] => false))
theorem run_eqFs2 {P : Program} {N : TypeId} {sz d : Nat} {w : World} {cs ds : List Value} (hN : aggN P N = some (some sz)) (hu : P.underlying N = some (.struct (P.fieldsOf N))) (hp : P.stoodInHeld N = false) : ∀ {fs : List Field} {zs : List SV} {off : Nat} {us vs : List Value} {b : Bool},
    eqFs2 P N sz off zs fs = true → fitL zs (us.map .v) = true → cellsEq (us.map .v) (vs.map .v) = some b → cs.drop off = us → ds.drop off = vs → (Op.eqFields (d + 2) ⟨cs⟩ ⟨ds⟩ fs).run P w = .ok b w
  | [], zs, off, us, vs, b, h, hf, he, _, _ => by
    have : zs = [] := by simpa [eqFs2] using h
    subst this
    cases fitL_nil hf
    rw [List.map_nil] at he
    obtain ⟨_, rfl⟩ := cells_nil he
    rfl
  | f :: fs, zs, off, us, vs, b, h, hf, he, hus, hvs => by
    simp only [eqFs2, Bool.and_eq_true, decide_eq_true_eq, bne_iff_ne] at h
    obtain ⟨⟨h1, h2⟩, h3⟩ := h
    subst h2
    by_cases hT : f.type = N
    · rw [if_pos hT] at h3
      simp only [Bool.and_eq_true, decide_eq_true_eq] at h3
      obtain ⟨⟨k1, k2⟩, k3⟩ := h3
      obtain ⟨g1, g2, g3⟩ := fitL_split (n := sz) hf
      have hus2 : us = us.take sz ++ us.drop sz := (List.take_append_drop sz us).symm
      rw [hus2] at he
      obtain ⟨b1, b2, c1, c2, rfl, c4⟩ := cellsEq_split he
      have hlen : (us.take sz).length = sz := by rw [List.length_take]; omega
      rw [hlen] at c1 c2 c4
      have hcl : f.offset + sz ≤ cs.length := by have := congrArg List.length hus; rw [List.length_drop] at this; omega
      have hdl : f.offset + sz ≤ ds.length := by have := congrArg List.length hvs; rw [List.length_drop] at this; omega
      have p1 : (part f.type ⟨cs⟩ f.offset).run P w = .ok (.agg ⟨us.take sz⟩) w := by rw [hT]; exact run_part hN ⟨by rw [hus], hcl⟩
      have p2 : (part f.type ⟨ds⟩ f.offset).run P w = .ok (.agg ⟨vs.take sz⟩) w := by rw [hT]; exact run_part hN ⟨by rw [hvs], hdl⟩
      have p3 : (Op.equalIn (d + 2) f.type (.agg ⟨us.take sz⟩) (.agg ⟨vs.take sz⟩)).run P w = .ok b1 w := by
        rw [hT, run_equalIn_struct w (d + 1) N _ _ hu hp]
        exact run_eqFs (d := d) k2 g1 c1 rfl rfl
      simp only [Op.eqFields, if_pos h1, Sem.run_bind, p1, p2, Result.andThen_ok, p3]
      cases b1 with
      | false => simp
      | true =>
        simp only [Bool.not_true, Bool.false_eq_true, if_false, Bool.true_and]
        exact run_eqFs2 hN hu hp k3 g2 c2 (by rw [← List.drop_drop, hus]) (by rw [← List.drop_drop, hvs])
    · rw [if_neg hT] at h3
      simp only [Bool.and_eq_true, decide_eq_true_eq] at h3
      obtain ⟨k1, k2⟩ := h3
      cases zs with
      | nil => cases k2
      | cons z zs =>
        simp only [Bool.and_eq_true] at k2
        obtain ⟨x, us', rfl, g1, g2⟩ := fitL_cons hf
        obtain ⟨y, vs', e, e', rfl, g3, g4, rfl⟩ := cells_cons he
        have hx : cs[f.offset]? = some x := by
          have := congrArg (fun l : List Value => l[0]?) hus
          simpa using this
        have hy : ds[f.offset]? = some y := by
          have := congrArg (fun l : List Value => l[0]?) hvs
          simpa using this
        have hu' : cs.drop (f.offset + 1) = us' := by
          have := congrArg (List.drop 1) hus
          rw [List.drop_drop] at this
          simpa [Nat.add_comm] using this
        have hv' : ds.drop (f.offset + 1) = vs' := by
          have := congrArg (List.drop 1) hvs
          rw [List.drop_drop] at this
          simpa [Nat.add_comm] using this
        simp only [Op.eqFields, if_pos h1, Sem.run_bind, run_part k1 (show _ from hx), run_part k1 (show _ from hy), Result.andThen_ok, run_eqCell (d + 1) k2.1 g1 g3]
        cases e with
        | false => simp
        | true =>
          simp only [Bool.not_true, Bool.false_eq_true, if_false, Bool.true_and]
          exact run_eqFs2 hN hu hp k2.2 g2 g4 hu' hv'
theorem eqOk_of2 {P : Program} {t N : TypeId} {sz : Nat} {zs : List SV} {fs : List Field} (hN : aggN P N = some (some sz)) (huN : P.underlying N = some (.struct (P.fieldsOf N))) (hpN : P.stoodInHeld N = false) (hz : zeroO P t = some zs) (hg : P.eqGuardType P.depth t = false)
    (hu : P.underlying t = some (.struct (P.fieldsOf t))) (hp : P.stoodInHeld t = false) (hfs : (P.fieldsOf t).toList = fs) (h : eqFs2 P N sz 0 zs fs = true) : EqOk P t := by
  intro xs ys b w o o' op he hf
  rw [hz] at hf
  refine ⟨run_eqGuard_agg w op t o o' _ _ hg, ?_⟩
  show (Op.equalIn (9999 + 1) t _ _).run _ w = _
  rw [run_equalIn_struct w 9999 t _ _ hu hp, hfs]
  exact run_eqFs2 (d := 9997) hN huN hpN h hf he rfl rfl
theorem eqOkP : EqOk Tryz.prog 140 := eqOk_of2 (N := 29) aggT (by kernel_rfl) (by kernel_rfl) zeroPc (by kernel_rfl) (by kernel_rfl) (by kernel_rfl) rfl (by kernel_rfl)
theorem eqOkF : EqOk Tryz.prog 85 := eqOk_of2 (N := 29) aggT (by kernel_rfl) (by kernel_rfl) zeroFc (by kernel_rfl) (by kernel_rfl) (by kernel_rfl) rfl (by kernel_rfl)
end Go.Proofs.YtalalcpefggniaaGreatDoor.E

namespace Go.Proofs.YtalalcpefggniaaGreatDoor.E
open Go
def Ty.eq (x y : Ty) : Bool := decide (x.dim = y.dim) && (decide (x.base = y.base) && decide (x.name = y.name))
def Pc.eq (x y : Pc) : Bool := decide (x.ty.dim = y.ty.dim) && (decide (x.ty.base = y.ty.base) && (decide (x.ty.name = y.ty.name) && decide (x.name = y.name)))
def Fc.eq (x y : Fc) : Bool := decide (x.fl = y.fl) && (decide (x.ty.dim = y.ty.dim) && (decide (x.ty.base = y.ty.base) && (decide (x.ty.name = y.ty.name) && decide (x.name = y.name))))

theorem eqlPc (B : Nat → Bool) (a : Option Addr) (n c : Nat) (a2 : Option Addr) (n2 c2 : Nat) (xs ys : List Value) (m : Mem) (hr : Rds m a n 4 xs) (hr2 : Rds m a2 n2 4 ys) (hn : n ≤ big)
    (hx : ∀ i, i < n → n = n2 → ∃ X Y : Pc, (xs.drop (i * 4)).take 4 = X.cs ∧ (ys.drop (i * 4)).take 4 = Y.cs ∧ B i = Pc.eq X Y) :
    Ans 176 [.v (.slice a n c), .v (.slice a2 n2 c2)] m (.bool (decide (n = n2) && allB n B)) := by
  refine enter cfN puN Tryz.func176 rfl rfl (by kernel_rfl) rfl ?_ ?_
  · simp only [go_sem, ↓imp_tf, ↓imp_ft, ↓reduceIte]
  · simp only [go_sem, ↓imp_tf, ↓imp_ft, ↓reduceIte]
    refine ⟨fun hne => ?_, fun heq => ?_⟩
    · have : ¬ n = n2 := by clear hx; omega
      rw [decide_eq_false this]
      rfl
    · have heq : n = n2 := by clear hx; omega
      subst heq
      refine WP_loop puN (fun x : Nat => ⟨[⟨0, [], .v (.slice a n c)⟩, ⟨1, [], .v (.slice a2 n c2)⟩, ⟨12, [], .v (.int .i64 n)⟩, ⟨13, [], .v (.int .i64 x)⟩], [], [], [], 0, m⟩)
        (fun x => x ≤ n ∧ allB x B = true) (fun x => n - x) 0 (by kernel_rfl) (fun _ _ => Nat.le_refl _) (fun x hx => .inl rfl) (fun _ => ?_) ?_ ?_ ?_
      · simp only [go_sem, ↓imp_tf, ↓imp_ft, ↓reduceIte]
      · simp only [go_sem, ↓imp_tf, ↓imp_ft, ↓reduceIte]
        rfl
      · exact ⟨Nat.zero_le _, rfl⟩
      · rintro k ⟨h2, h3⟩
        have hy : ∀ (hk : k < n), ∃ X Y : Pc, (Rd m (ptrAt a (k * 4)) X.cs ∧ a ≠ none) ∧ (Rd m (ptrAt a2 (k * 4)) Y.cs ∧ a2 ≠ none) ∧ B k = Pc.eq X Y := fun hk => by
          obtain ⟨X, Y, e1, e2, e3⟩ := hx k hk rfl
          have r1 := Rds_cells hr hk
          have r2 := Rds_cells hr2 hk
          rw [e1] at r1
          rw [e2] at r2
          exact ⟨X, Y, r1, r2, e3⟩
        clear hx
        simp only [go_sem, ↓imp_tf, ↓imp_ft, ↓reduceIte]
        refine ⟨fun hlt => ?_, fun hge => ?_⟩
        · have hk : k < n := by clear hy; omega
          refine WP_drawQ puN (by kernel_rfl) (by kernel_rfl) (by kernel_rfl) ?_
          simp only [go_sem, ↓imp_tf, ↓imp_ft, ↓reduceIte]
          refine Exists.elim (hy hk) fun X hy' => Exists.elim hy' fun Y hy'' => ⟨⟨by clear hy hy' hy''; omega, hlt, hy''.1.2⟩, X.cs, ⟨hy''.1.1, rfl⟩, ?_⟩
          clear hy hy'
          have e := hy''.2.2
          refine ⟨⟨by clear hy''; omega, hlt, hy''.2.1.2⟩, Y.cs, ⟨hy''.2.1.1, rfl⟩, ?_⟩
          clear hy''
          simp only [go_sem, ↓imp_tf, ↓imp_ft, ↓reduceIte, Pc.cs, eqOkP]
          refine ⟨fun h => ?_, fun h => ?_⟩
          · cases hb : B k with
            | false => rw [allB_no hk hb]; simp
            | true =>
              rw [e] at hb
              simp only [Pc.eq, Bool.and_eq_true, decide_eq_true_eq] at hb
              exact absurd h (by simp [hb])
          · have hb : B k = true := by rw [e]; simp [Pc.eq, h]
            exact ⟨by unfold I64; simp only [big] at hn; omega, k + 1, by simp, ⟨by omega, by rw [allB_succ, h3, hb]; rfl⟩, by omega⟩
        · have : k = n := by clear hy; omega
          rw [← this, h3]; simp

theorem eqlFc (B : Nat → Bool) (a : Option Addr) (n c : Nat) (a2 : Option Addr) (n2 c2 : Nat) (xs ys : List Value) (m : Mem) (hr : Rds m a n 5 xs) (hr2 : Rds m a2 n2 5 ys) (hn : n ≤ big)
    (hx : ∀ i, i < n → n = n2 → ∃ X Y : Fc, (xs.drop (i * 5)).take 5 = X.cs ∧ (ys.drop (i * 5)).take 5 = Y.cs ∧ B i = Fc.eq X Y) :
    Ans 125 [.v (.slice a n c), .v (.slice a2 n2 c2)] m (.bool (decide (n = n2) && allB n B)) := by
  refine enter cfN puN Tryz.func125 rfl rfl (by kernel_rfl) rfl ?_ ?_
  · simp only [go_sem, ↓imp_tf, ↓imp_ft, ↓reduceIte]
  · simp only [go_sem, ↓imp_tf, ↓imp_ft, ↓reduceIte]
    refine ⟨fun hne => ?_, fun heq => ?_⟩
    · have : ¬ n = n2 := by clear hx; omega
      rw [decide_eq_false this]
      rfl
    · have heq : n = n2 := by clear hx; omega
      subst heq
      refine WP_loop puN (fun x : Nat => ⟨[⟨0, [], .v (.slice a n c)⟩, ⟨1, [], .v (.slice a2 n c2)⟩, ⟨12, [], .v (.int .i64 n)⟩, ⟨13, [], .v (.int .i64 x)⟩], [], [], [], 0, m⟩)
        (fun x => x ≤ n ∧ allB x B = true) (fun x => n - x) 0 (by kernel_rfl) (fun _ _ => Nat.le_refl _) (fun x hx => .inl rfl) (fun _ => ?_) ?_ ?_ ?_
      · simp only [go_sem, ↓imp_tf, ↓imp_ft, ↓reduceIte]
      · simp only [go_sem, ↓imp_tf, ↓imp_ft, ↓reduceIte]
        rfl
      · exact ⟨Nat.zero_le _, rfl⟩
      · rintro k ⟨h2, h3⟩
        have hy : ∀ (hk : k < n), ∃ X Y : Fc, (Rd m (ptrAt a (k * 5)) X.cs ∧ a ≠ none) ∧ (Rd m (ptrAt a2 (k * 5)) Y.cs ∧ a2 ≠ none) ∧ B k = Fc.eq X Y := fun hk => by
          obtain ⟨X, Y, e1, e2, e3⟩ := hx k hk rfl
          have r1 := Rds_cells hr hk
          have r2 := Rds_cells hr2 hk
          rw [e1] at r1
          rw [e2] at r2
          exact ⟨X, Y, r1, r2, e3⟩
        clear hx
        simp only [go_sem, ↓imp_tf, ↓imp_ft, ↓reduceIte]
        refine ⟨fun hlt => ?_, fun hge => ?_⟩
        · have hk : k < n := by clear hy; omega
          refine WP_drawQ puN (by kernel_rfl) (by kernel_rfl) (by kernel_rfl) ?_
          simp only [go_sem, ↓imp_tf, ↓imp_ft, ↓reduceIte]
          refine Exists.elim (hy hk) fun X hy' => Exists.elim hy' fun Y hy'' => ⟨⟨by clear hy hy' hy''; omega, hlt, hy''.1.2⟩, X.cs, ⟨hy''.1.1, rfl⟩, ?_⟩
          clear hy hy'
          have e := hy''.2.2
          refine ⟨⟨by clear hy''; omega, hlt, hy''.2.1.2⟩, Y.cs, ⟨hy''.2.1.1, rfl⟩, ?_⟩
          clear hy''
          simp only [go_sem, ↓imp_tf, ↓imp_ft, ↓reduceIte, Fc.cs, eqOkF]
          refine ⟨fun h => ?_, fun h => ?_⟩
          · cases hb : B k with
            | false => rw [allB_no hk hb]; simp
            | true =>
              rw [e] at hb
              simp only [Fc.eq, Bool.and_eq_true, decide_eq_true_eq] at hb
              exact absurd h (by simp [hb])
          · have hb : B k = true := by rw [e]; simp [Fc.eq, h]
            exact ⟨by unfold I64; simp only [big] at hn; omega, k + 1, by simp, ⟨by omega, by rw [allB_succ, h3, hb]; rfl⟩, by omega⟩
        · have : k = n := by clear hy; omega
          rw [← this, h3]; simp

theorem eqlS (l l2 : List (List UInt8)) (a : Option Addr) (n c : Nat) (a2 : Option Addr) (n2 c2 : Nat) (m : Mem) (hr : Rds m a n 1 (strs l)) (hr2 : Rds m a2 n2 1 (strs l2)) (hn : n ≤ big) :
    Ans 124 [.v (.slice a n c), .v (.slice a2 n2 c2)] m (.bool (decide (l = l2))) := by
  have hl : l.length = n := by have := hr.1; simpa [strs] using this
  have hl2 : l2.length = n2 := by have := hr2.1; simpa [strs] using this
  refine enter cfN puN Tryz.func124 rfl rfl (by kernel_rfl) rfl ?_ ?_
  · simp only [go_sem, ↓imp_tf, ↓imp_ft, ↓reduceIte]
  · simp only [go_sem, ↓imp_tf, ↓imp_ft, ↓reduceIte]
    refine ⟨fun hne => ?_, fun heq => ?_⟩
    · have : ¬ l = l2 := fun h => by subst h; omega
      rw [decide_eq_false this]
    · have heq : n = n2 := by omega
      subst heq
      refine WP_loop puN (fun x : Nat => ⟨[⟨0, [], .v (.slice a n c)⟩, ⟨1, [], .v (.slice a2 n c2)⟩, ⟨12, [], .v (.int .i64 n)⟩, ⟨13, [], .v (.int .i64 x)⟩], [], [], [], 0, m⟩)
        (fun x => x ≤ n ∧ l.take x = l2.take x) (fun x => n - x) 0 (by kernel_rfl) (fun _ _ => Nat.le_refl _) (fun x hx => .inl rfl) (fun _ => ?_) ?_ ?_ ?_
      · simp only [go_sem, ↓imp_tf, ↓imp_ft, ↓reduceIte]
      · simp only [go_sem, ↓imp_tf, ↓imp_ft, ↓reduceIte]
        rfl
      · exact ⟨Nat.zero_le _, rfl⟩
      · rintro k ⟨h2, h3⟩
        have hy : ∀ (hk : k < l.length) (hk2 : k < l2.length), (Rd m (ptrAt a k) [.string (bs l[k])] ∧ a ≠ none) ∧ (Rd m (ptrAt a2 k) [.string (bs l2[k])] ∧ a2 ≠ none) := fun hk hk2 => ⟨strs_rd hr hk, strs_rd hr2 hk2⟩
        simp only [go_sem, ↓imp_tf, ↓imp_ft, ↓reduceIte]
        refine ⟨fun hlt => ?_, fun hge => ?_⟩
        · have hk : k < l.length := by omega
          have hk2 : k < l2.length := by omega
          refine WP_drawQ puN (by kernel_rfl) (by kernel_rfl) (by kernel_rfl) ?_
          simp only [go_sem, ↓imp_tf, ↓imp_ft, ↓reduceIte]
          refine ⟨⟨by omega, hlt, (hy hk hk2).1.2⟩, _, (hy hk hk2).1.1, ?_⟩
          refine ⟨⟨by omega, hlt, (hy hk hk2).2.2⟩, _, (hy hk hk2).2.1, ?_⟩
          simp only [go_sem, ↓imp_tf, ↓imp_ft, ↓reduceIte]
          refine ⟨fun h => ?_, fun h => ?_⟩
          · rw [decide_eq_false (fun e => h (by subst e; rfl))]
          · exact ⟨by unfold I64; simp only [big] at hn; omega, k + 1, by simp, ⟨by omega, by rw [List.take_succ_eq_append_getElem hk, List.take_succ_eq_append_getElem hk2, h3, h]⟩, by omega⟩
        · rw [List.take_of_length_le (by omega), List.take_of_length_le (by omega)] at h3
          rw [h3]; simp

end Go.Proofs.YtalalcpefggniaaGreatDoor.E

namespace Go.Proofs.YtalalcpefggniaaGreatDoor.E
open Go

structure Md where
  fl : Int
  res : Ty
  name : List UInt8
  params : List Pc
  hb : Bool
  body : List St
structure Cd where
  fl : Int
  name : List UInt8
  super : List UInt8
  ifs : List (List UInt8)
  fields : List Fc
  methods : List Md
  init : List St
/-- Two lists, element by element. -/
def all2 {α : Type} (e : α → α → Bool) : List α → List α → Bool
  | [], [] => true
  | a :: r, b :: t => e a b && all2 e r t
  | _, _ => false
def atB {α : Type} (e : α → α → Bool) (l l2 : List α) (i : Nat) : Bool := match l[i]?, l2[i]? with | some a, some b => e a b | _, _ => false
theorem allB_zero {n : Nat} {B : Nat → Bool} : allB (n + 1) B = (B 0 && allB n fun i => B (i + 1)) := by
  simp only [allB, List.range_succ_eq_map, List.all_cons, List.all_map]
  rfl
theorem all2_allB {α : Type} (e : α → α → Bool) : ∀ (l l2 : List α), all2 e l l2 = (decide (l.length = l2.length) && allB l.length (atB e l l2))
  | [], [] => rfl
  | [], b :: t => by simp [all2]
  | a :: r, [] => by simp [all2]
  | a :: r, b :: t => by
    rw [all2, all2_allB e r t, List.length_cons, List.length_cons, allB_zero]
    have e1 : decide (r.length + 1 = t.length + 1) = decide (r.length = t.length) := by rw [decide_eq_decide]; omega
    have e2 : atB e (a :: r) (b :: t) 0 = e a b := rfl
    have e3 : (fun i => atB e (a :: r) (b :: t) (i + 1)) = atB e r t := by funext i; simp only [atB, List.getElem?_cons_succ]
    rw [e1, e2, e3]
    cases e a b <;> cases decide (r.length = t.length) <;> rfl
theorem atB_at {α : Type} {e : α → α → Bool} {l l2 : List α} {i : Nat} (h : i < l.length) (h2 : i < l2.length) : atB e l l2 i = e l[i] l2[i] := by
  simp only [atB, List.getElem?_eq_getElem h, List.getElem?_eq_getElem h2]
mutual
def eqE : Ex → Ex → Bool
  | .mk k n s c ty args, .mk k' n' s' c' ty' args' => decide (k = k') && decide (n = n') && decide (s = s') && decide (c = c') && Ty.eq ty ty' && eqEs args args'
def eqEs : List Ex → List Ex → Bool
  | [], [] => true
  | a :: r, b :: t => eqE a b && eqEs r t
  | [], _ :: _ => false
  | _ :: _, [] => false
end
theorem eqEs_all2 : ∀ (l l2 : List Ex), eqEs l l2 = all2 eqE l l2
  | [], [] => by simp only [eqEs, all2]
  | a :: r, b :: t => by simp only [eqEs, all2, eqEs_all2 r t]
  | [], _ :: _ => by simp only [eqEs, all2]
  | _ :: _, [] => by simp only [eqEs, all2]
mutual
def eqS : St → St → Bool
  | .mk k nm ty tg ex body alt, .mk k' nm' ty' tg' ex' body' alt' => decide (k = k') && decide (nm = nm') && Ty.eq ty ty' && eqE tg tg' && eqE ex ex' && eqSs body body' && eqSs alt alt'
def eqSs : List St → List St → Bool
  | [], [] => true
  | a :: r, b :: t => eqS a b && eqSs r t
  | [], _ :: _ => false
  | _ :: _, [] => false
end
theorem eqSs_all2 : ∀ (l l2 : List St), eqSs l l2 = all2 eqS l l2
  | [], [] => by simp only [eqSs, all2]
  | a :: r, b :: t => by simp only [eqSs, all2, eqSs_all2 r t]
  | [], _ :: _ => by simp only [eqSs, all2]
  | _ :: _, [] => by simp only [eqSs, all2]
def eqM (x y : Md) : Bool := decide (x.fl = y.fl) && Ty.eq x.res y.res && decide (x.name = y.name) && (x.hb == y.hb) && all2 Pc.eq x.params y.params && eqSs x.body y.body
def eqC (x y : Cd) : Bool := decide (x.fl = y.fl) && decide (x.name = y.name) && decide (x.super = y.super) && decide (x.ifs = y.ifs) && all2 Fc.eq x.fields y.fields && all2 eqM x.methods y.methods && eqSs x.init y.init

/-! In memory. -/
structure StOk (k : Int) (nm : List UInt8) (ty : Ty) (l l2 : Nat) : Prop where
  k : I64 k
  nm : nm.length ≤ big
  ty : TyOk ty
  l : l ≤ big
  l2 : l2 ≤ big
mutual
def stRep (m : Mem) : St → List Value → Prop
  | .mk k nm ty tg ex body alt, cs => ∃ x : Sd, (cs = x.cs ∧ x.k = k ∧ x.name = nm ∧ x.ty = ty) ∧ exRep m tg x.tg.cs ∧ exRep m ex x.ex.cs ∧ (x.l = body.length ∧ x.l ≤ x.cp ∧ x.l2 = alt.length ∧ x.l2 ≤ x.cp2) ∧ StOk k nm ty body.length alt.length ∧
      ∃ xs ys, Rds m x.a x.l 23 xs ∧ Rds m x.b x.l2 23 ys ∧ stsRep m body xs ∧ stsRep m alt ys
def stsRep (m : Mem) : List St → List Value → Prop
  | [], _ => True
  | e :: r, xs => stRep m e (xs.take 23) ∧ stsRep m r (xs.drop 23)
end
theorem sts_at {m : Mem} : ∀ {l : List St} {xs : List Value} {i : Nat} (_ : stsRep m l xs) (hi : i < l.length), stRep m l[i] ((xs.drop (i * 23)).take 23)
  | [], _, _, _, hi => absurd hi (Nat.not_lt_zero _)
  | e :: r, xs, 0, h, _ => by simp only [stsRep] at h; simpa using h.1
  | e :: r, xs, i + 1, h, hi => by
    simp only [stsRep] at h
    have := sts_at (i := i) h.2 (by simpa using hi)
    rw [List.drop_drop] at this
    rw [show (i + 1) * 23 = 23 + i * 23 by omega]
    exact this
mutual
theorem stRep_up {m m' : Mem} (hle : m.le m') : ∀ (e : St) (cs : List Value), stRep m e cs → stRep m' e cs
  | .mk k nm ty tg ex body alt, cs, h => by
    simp only [stRep] at h ⊢
    obtain ⟨x, h1, h2, h3, h4, h5, xs, ys, h6, h7, h8, h9⟩ := h
    exact ⟨x, h1, exRep_up hle _ _ h2, exRep_up hle _ _ h3, h4, h5, xs, ys, Rds_up hle h6, Rds_up hle h7, stsRep_up hle body xs h8, stsRep_up hle alt ys h9⟩
theorem stsRep_up {m m' : Mem} (hle : m.le m') : ∀ (l : List St) (xs : List Value), stsRep m l xs → stsRep m' l xs
  | [], _, _ => by simp only [stsRep]
  | e :: r, xs, h => by
    simp only [stsRep] at h ⊢
    exact ⟨stRep_up hle e _ h.1, stsRep_up hle r _ h.2⟩
end
theorem stsRep_upM {m m' : Mem} {l : List St} {cs : List Value} (hle : leM m m') (h : stsRep m l cs) : stsRep m' l cs := by
  rcases hle with rfl | hle
  · exact h
  · exact stsRep_up hle l cs h
theorem stRep_upM {m m' : Mem} {l : St} {cs : List Value} (hle : leM m m') (h : stRep m l cs) : stRep m' l cs := by
  rcases hle with rfl | hle
  · exact h
  · exact stRep_up hle l cs h
theorem stRep_sd {m : Mem} {e : St} {cs : List Value} (h : stRep m e cs) : ∃ x : Sd, cs = x.cs := by
  cases e with
  | mk k nm ty tg ex body alt =>
    simp only [stRep] at h
    obtain ⟨x, h1, _⟩ := h
    exact ⟨x, h1.1⟩
/-- Rows of elements of sz cells. -/
def lsRep {α : Type} (R : α → List Value → Prop) (sz : Nat) : List α → List Value → Prop
  | [], _ => True
  | e :: r, xs => R e (xs.take sz) ∧ lsRep R sz r (xs.drop sz)
theorem ls_at {α : Type} {R : α → List Value → Prop} {sz : Nat} : ∀ {l : List α} {xs : List Value} {i : Nat} (_ : lsRep R sz l xs) (hi : i < l.length), R l[i] ((xs.drop (i * sz)).take sz)
  | [], _, _, _, hi => absurd hi (Nat.not_lt_zero _)
  | e :: r, xs, 0, h, _ => by simpa using h.1
  | e :: r, xs, i + 1, h, hi => by
    have := ls_at (i := i) h.2 (by simpa using hi)
    rw [List.drop_drop] at this
    rw [show (i + 1) * sz = sz + i * sz by rw [Nat.succ_mul, Nat.add_comm]]
    exact this
theorem ls_up {α : Type} {R R' : α → List Value → Prop} {sz : Nat} (h : ∀ a cs, R a cs → R' a cs) : ∀ {l : List α} {xs : List Value}, lsRep R sz l xs → lsRep R' sz l xs
  | [], _, _ => trivial
  | _ :: _, _, hl => ⟨h _ _ hl.1, ls_up h hl.2⟩
def flat {α : Type} (f : α → List Value) (l : List α) : List Value := (l.map f).flatten
theorem flat_at {α : Type} {f : α → List Value} {sz : Nat} (hf : ∀ x, (f x).length = sz) : ∀ {l : List α} {i : Nat} (hi : i < l.length), ((flat f l).drop (i * sz)).take sz = f l[i]
  | [], _, hi => absurd hi (Nat.not_lt_zero _)
  | x :: r, 0, _ => by
    simp only [flat, List.map_cons, List.flatten_cons, Nat.zero_mul, List.drop_zero, List.getElem_cons_zero]
    rw [← hf x, List.take_left]
  | x :: r, i + 1, hi => by
    have := flat_at hf (l := r) (i := i) (by simpa using hi)
    simp only [List.getElem_cons_succ]
    rw [← this, Nat.succ_mul, Nat.add_comm, ← List.drop_drop]
    congr 2
    simp only [flat, List.map_cons, List.flatten_cons]
    rw [← hf x, List.drop_left]
structure PcOk (p : Pc) : Prop where
  ty : TyOk p.ty
  name : p.name.length ≤ big
structure FcOk (p : Fc) : Prop where
  fl : I64 p.fl
  ty : TyOk p.ty
  name : p.name.length ≤ big
structure MdOk (d : Md) : Prop where
  fl : I64 d.fl
  res : TyOk d.res
  name : d.name.length ≤ big
  pl : d.params.length ≤ big
  ps : ∀ p ∈ d.params, PcOk p
  l : d.body.length ≤ big
def mdRep (m : Mem) (d : Md) (cs : List Value) : Prop := ∃ x : Mc, (cs = x.cs ∧ x.fl = d.fl ∧ x.res = d.res ∧ x.name = d.name ∧ x.hb = d.hb) ∧ (x.pl = d.params.length ∧ x.pl ≤ x.pc ∧ x.l = d.body.length ∧ x.l ≤ x.cp) ∧ MdOk d ∧
  Rds m x.pa x.pl 4 (flat Pc.cs d.params) ∧ ∃ xs, Rds m x.a x.l 23 xs ∧ stsRep m d.body xs
structure CdOk (d : Cd) : Prop where
  fl : I64 d.fl
  name : d.name.length ≤ big
  super : d.super.length ≤ big
  il : d.ifs.length ≤ big
  ifs : ∀ s ∈ d.ifs, s.length ≤ big
  fn : d.fields.length ≤ big
  fs : ∀ s ∈ d.fields, FcOk s
  ml : d.methods.length ≤ big
  l : d.init.length ≤ big
def cdRep (m : Mem) (d : Cd) (cs : List Value) : Prop := ∃ x : Cc, (cs = x.cs ∧ x.fl = d.fl ∧ x.name = d.name ∧ x.super = d.super) ∧ (x.il = d.ifs.length ∧ x.il ≤ x.ic ∧ x.fn = d.fields.length ∧ x.fn ≤ x.fc ∧ x.ml = d.methods.length ∧ x.ml ≤ x.mc ∧ x.sl = d.init.length ∧ x.sl ≤ x.sc) ∧ CdOk d ∧
  Rds m x.ia x.il 1 (strs d.ifs) ∧ Rds m x.fa x.fn 5 (flat Fc.cs d.fields) ∧ ∃ xs ys, Rds m x.ma x.ml 8 xs ∧ lsRep (mdRep m) 8 d.methods xs ∧ Rds m x.sa x.sl 23 ys ∧ stsRep m d.init ys
theorem mdRep_up {m m' : Mem} (hle : leM m m') {d : Md} {cs : List Value} (h : mdRep m d cs) : mdRep m' d cs := by
  obtain ⟨x, h1, h2, h3, h4, xs, h5, h6⟩ := h
  exact ⟨x, h1, h2, h3, Rds_upM hle h4, xs, Rds_upM hle h5, stsRep_upM hle h6⟩
theorem cdRep_up {m m' : Mem} (hle : leM m m') {d : Cd} {cs : List Value} (h : cdRep m d cs) : cdRep m' d cs := by
  obtain ⟨x, h1, h2, h3, h4, h5, xs, ys, h6, h7, h8, h9⟩ := h
  exact ⟨x, h1, h2, h3, Rds_upM hle h4, Rds_upM hle h5, xs, ys, Rds_upM hle h6, ls_up (fun _ _ => mdRep_up hle) h7, Rds_upM hle h8, stsRep_upM hle h9⟩
/-- A program. -/
def prRep (m : Mem) (l : List Cd) (a : Option Addr) (n c : Nat) : Prop := n = l.length ∧ n ≤ c ∧ n ≤ big ∧ ∃ xs, Rds m a n 7 xs ∧ lsRep (cdRep m) 7 l xs
theorem prRep_up {m m' : Mem} (hle : leM m m') {l : List Cd} {a : Option Addr} {n c : Nat} (h : prRep m l a n c) : prRep m' l a n c := by
  obtain ⟨h1, h2, h3, xs, h4, h5⟩ := h
  exact ⟨h1, h2, h3, xs, Rds_upM hle h4, ls_up (fun _ _ => cdRep_up hle) h5⟩
mutual
def depthS : St → Nat
  | .mk _ _ _ _ _ body alt => max (depthSs body) (depthSs alt) + 1
def depthSs : List St → Nat
  | [] => 0
  | e :: r => max (depthS e) (depthSs r)
end
theorem depthSs_mem : ∀ {l : List St} {e : St}, e ∈ l → depthS e ≤ depthSs l
  | [], e, he => by cases he
  | x :: r, e, he => by
    simp only [depthSs]
    rcases List.mem_cons.1 he with rfl | he
    · omega
    · have := depthSs_mem he; omega
end Go.Proofs.YtalalcpefggniaaGreatDoor.E

namespace Go.Proofs.YtalalcpefggniaaGreatDoor.E
open Go

theorem ex_len {m : Mem} {e : Ex} {cs : List Value} (h : exRep m e cs) : cs.length = 8 := by
  obtain ⟨x, rfl⟩ := exRep_nd h; rfl
/-- The fact that EqualFunc asks. -/
theorem eqX_fact {m : Mem} {l l2 : List Ex} {xs ys : List Value} (h1 : exsRep m l xs) (h2 : exsRep m l2 ys) {f : FuncId} (hf : ∀ a ∈ l, ∀ b ∈ l2, ∀ ca cb m', leM m m' → exRep m' a ca → exRep m' b cb → Ans f [.v (.agg ⟨ca⟩), .v (.agg ⟨cb⟩)] m' (.bool (eqE a b))) :
    ∀ i, i < l.length → l.length = l2.length → ∃ X Y : Nd, (xs.drop (i * 8)).take 8 = X.cs ∧ (ys.drop (i * 8)).take 8 = Y.cs ∧ ∀ m', leM m m' → Ans f [.v (.agg ⟨X.cs⟩), .v (.agg ⟨Y.cs⟩)] m' (.bool (atB eqE l l2 i)) := fun i hi he => by
  have r1 := exs_at h1 hi
  have r2 := exs_at h2 (by omega : i < l2.length)
  obtain ⟨X, hX⟩ := exRep_nd r1
  obtain ⟨Y, hY⟩ := exRep_nd r2
  rw [hX] at r1
  rw [hY] at r2
  refine ⟨X, Y, hX, hY, fun m' hle => ?_⟩
  rw [atB_at hi (by omega)]
  exact hf _ (List.getElem_mem hi) _ (List.getElem_mem _) _ _ m' hle (exRep_upM hle r1) (exRep_upM hle r2)
theorem eqE_all : ∀ (h : Nat) (a b : Ex) (ca cb : List Value) (m : Mem), depthE a ≤ h → exRep m a ca → exRep m b cb → Ans 121 [.v (.agg ⟨ca⟩), .v (.agg ⟨cb⟩)] m (.bool (eqE a b))
  | 0, .mk k n s c ty args, b, ca, cb, m, hd, _, _ => by simp [depthE] at hd
  | h + 1, .mk k n s c ty args, .mk k' n' s' c' ty' args', ca, cb, m, hd, ha, hb => by
    simp only [exRep] at ha hb
    obtain ⟨a, cp, xs, rfl, hcp, hr, hok, hes⟩ := ha
    obtain ⟨a', cp', xs', rfl, hcp', hr', hok', hes'⟩ := hb
    simp only [depthE] at hd
    have hE := fun m' (hle : leM m m') => eqfNd 121 (atB eqE args args') a args.length cp a' args'.length cp' xs xs' m' (Rds_upM hle hr) (Rds_upM hle hr') hok.2.2.2.2.2 (by kernel_rfl)
      (eqX_fact (exsRep_upM hle hes) (exsRep_upM hle hes') fun x hx y hy cx cy m'' hle2 r1 r2 => eqE_all h x y cx cy m'' (by have := depthL_mem hx; omega) r1 r2)
    simp only [← all2_allB] at hE
    refine enter cfN puN Tryz.func121 rfl rfl (by kernel_rfl) rfl ?_ ?_
    · simp only [go_sem, ↓imp_tf, ↓imp_ft, ↓reduceIte, exC]
    · simp only [go_sem, ↓imp_tf, ↓imp_ft, ↓reduceIte, exC, eqOkT]
      refine ⟨fun h => ⟨by kernel_rfl, FnV_of ((hE m (.inl rfl)).mono ?_)⟩, fun h => ?_⟩
      · clear hE
        rintro r H' m2 hm2 ⟨hle2, rfl, rfl⟩
        simp only [go_sem, ↓imp_tf, ↓imp_ft, ↓reduceIte]
        refine ⟨hle2, ?_⟩
        simp only [eqE, eqEs_all2, Ty.eq, h, decide_true, Bool.true_and]
      · clear hE
        simp only [eqE, Ty.eq]
        rcases h with (((h | h) | h) | h) | h | h | h <;> simp [h]
/-- The fact that EqualFunc asks, for any rows. -/
theorem eq_fact {α N : Type} {R : Mem → α → List Value → Prop} {csN : N → List Value} {sz : Nat} {e : α → α → Bool} (hup : ∀ m m' a c, leM m m' → R m a c → R m' a c) (hN : ∀ m a c, R m a c → ∃ x : N, c = csN x) {m : Mem} {l l2 : List α} {xs ys : List Value}
    (h1 : ∀ i (hi : i < l.length), R m l[i] ((xs.drop (i * sz)).take sz)) (h2 : ∀ i (hi : i < l2.length), R m l2[i] ((ys.drop (i * sz)).take sz)) {f : FuncId} (hf : ∀ a ∈ l, ∀ b ∈ l2, ∀ ca cb m', leM m m' → R m' a ca → R m' b cb → Ans f [.v (.agg ⟨ca⟩), .v (.agg ⟨cb⟩)] m' (.bool (e a b))) :
    ∀ i, i < l.length → l.length = l2.length → ∃ X Y : N, (xs.drop (i * sz)).take sz = csN X ∧ (ys.drop (i * sz)).take sz = csN Y ∧ ∀ m', leM m m' → Ans f [.v (.agg ⟨csN X⟩), .v (.agg ⟨csN Y⟩)] m' (.bool (atB e l l2 i)) := fun i hi he => by
  have r1 := h1 i hi
  have r2 := h2 i (by omega : i < l2.length)
  obtain ⟨X, hX⟩ := hN _ _ _ r1
  obtain ⟨Y, hY⟩ := hN _ _ _ r2
  rw [hX] at r1
  rw [hY] at r2
  refine ⟨X, Y, hX, hY, fun m' hle => ?_⟩
  rw [atB_at hi (by omega)]
  exact hf _ (List.getElem_mem hi) _ (List.getElem_mem _) _ _ m' (hle) (hup _ _ _ _ hle r1) (hup _ _ _ _ hle r2)

theorem eqS_all : ∀ (h : Nat) (a b : St) (ca cb : List Value) (m : Mem), depthS a ≤ h → stRep m a ca → stRep m b cb → Ans 54 [.v (.agg ⟨ca⟩), .v (.agg ⟨cb⟩)] m (.bool (eqS a b))
  | 0, .mk k nm ty tg ex body alt, b, ca, cb, m, hd, _, _ => by simp [depthS] at hd
  | h + 1, .mk k nm ty tg ex body alt, .mk k' nm' ty' tg' ex' body' alt', ca, cb, m, hd, ha, hb => by
    simp only [stRep] at ha hb
    obtain ⟨x, ⟨rfl, rfl, rfl, rfl⟩, htg, hex, ⟨hl, hcp, hl2, hcp2⟩, hok, xs, ys, r1, r2, s1, s2⟩ := ha
    obtain ⟨x', ⟨rfl, rfl, rfl, rfl⟩, htg', hex', ⟨hl', hcp', hl2', hcp2'⟩, hok', xs', ys', r1', r2', s1', s2'⟩ := hb
    simp only [depthS] at hd
    have hT := fun m' (hle : leM m m') => eqE_all _ tg tg' x.tg.cs x'.tg.cs m' (Nat.le_refl _) (exRep_upM hle htg) (exRep_upM hle htg')
    have hX := fun m' (hle : leM m m') => eqE_all _ ex ex' x.ex.cs x'.ex.cs m' (Nat.le_refl _) (exRep_upM hle hex) (exRep_upM hle hex')
    have hB : ∀ m', leM m m' → Ans 122 [.v (.slice x.a x.l x.cp), .v (.slice x'.a x'.l x'.cp), .v (.func (.func 54) ⟨[]⟩ ⟨[]⟩)] m' (.bool (eqSs body body')) := fun m' hle => by
      have hf := eq_fact (R := stRep) (csN := Sd.cs) (e := eqS) (f := 54) (fun _ _ _ _ => stRep_upM) (fun _ _ _ => stRep_sd) (fun i hi => sts_at (stsRep_upM hle s1) hi) (fun i hi => sts_at (stsRep_upM hle s1') hi)
        (fun a ha b hb ca cb m2 hle2 => eqS_all h a b ca cb m2 (by have := depthSs_mem ha; omega))
      rw [eqSs_all2, all2_allB]
      rw [← hl, ← hl'] at hf ⊢
      exact eqfSd _ _ x.a x.l x.cp x'.a x'.l x'.cp xs xs' m' (Rds_upM hle r1) (Rds_upM hle r1') (by rw [hl]; exact hok.l) (by kernel_rfl) hf
    have hA : ∀ m', leM m m' → Ans 122 [.v (.slice x.b x.l2 x.cp2), .v (.slice x'.b x'.l2 x'.cp2), .v (.func (.func 54) ⟨[]⟩ ⟨[]⟩)] m' (.bool (eqSs alt alt')) := fun m' hle => by
      have hf := eq_fact (R := stRep) (csN := Sd.cs) (e := eqS) (f := 54) (fun _ _ _ _ => stRep_upM) (fun _ _ _ => stRep_sd) (fun i hi => sts_at (stsRep_upM hle s2) hi) (fun i hi => sts_at (stsRep_upM hle s2') hi)
        (fun a ha b hb ca cb m2 hle2 => eqS_all h a b ca cb m2 (by have := depthSs_mem ha; omega))
      rw [eqSs_all2, all2_allB]
      rw [← hl2, ← hl2'] at hf ⊢
      exact eqfSd _ _ x.b x.l2 x.cp2 x'.b x'.l2 x'.cp2 ys ys' m' (Rds_upM hle r2) (Rds_upM hle r2') (by rw [hl2]; exact hok.l2) (by kernel_rfl) hf
    clear s1 s2 s1' s2'
    refine enter cfN puN Tryz.func54 rfl rfl (by kernel_rfl) rfl ?_ ?_
    · simp only [go_sem, ↓imp_tf, ↓imp_ft, ↓reduceIte, Sd.cs, Nd.cs]
    · simp only [go_sem, ↓imp_tf, ↓imp_ft, ↓reduceIte, Sd.cs, Nd.cs, eqOkT]
      refine ⟨fun h => ⟨by kernel_rfl, FnV_of ((FnH_den (hT m (.inl rfl)) (fun V => rfl)).mono ?_)⟩, fun h => ?_⟩
      · clear hT
        rintro r H' m2 hm2 ⟨l2, rfl, rfl⟩
        simp only [go_sem, ↓imp_tf, ↓imp_ft, ↓reduceIte, Sd.cs, Nd.cs]
        have e0 : eqS (St.mk x.k x.name x.ty tg ex body alt) (St.mk x'.k x'.name x'.ty tg' ex' body' alt') = (eqE tg tg' && eqE ex ex' && eqSs body body' && eqSs alt alt') := by simp only [eqS, Ty.eq, h, decide_true, Bool.true_and]
        refine ⟨fun h1 => ⟨by kernel_rfl, FnV_of ((FnH_den (hX m2 l2) (fun V => rfl)).mono ?_)⟩, fun h1 => ?_⟩
        · clear hX
          rintro r H' m3 hm3 ⟨l3, rfl, rfl⟩
          simp only [go_sem, ↓imp_tf, ↓imp_ft, ↓reduceIte, Sd.cs, Nd.cs]
          refine ⟨fun h2 => ⟨by kernel_rfl, FnV_of ((hB m3 (leM_tr l2 l3)).mono ?_)⟩, fun h2 => ?_⟩
          · clear hB
            rintro r H' m4 hm4 ⟨l4, rfl, rfl⟩
            simp only [go_sem, ↓imp_tf, ↓imp_ft, ↓reduceIte, Sd.cs, Nd.cs]
            refine ⟨fun h3 => ⟨by kernel_rfl, FnV_of ((hA m4 (leM_tr (leM_tr l2 l3) l4)).mono ?_)⟩, fun h3 => ?_⟩
            · clear hA
              rintro r H' m5 hm5 ⟨l5, rfl, rfl⟩
              simp only [go_sem, ↓imp_tf, ↓imp_ft, ↓reduceIte, Sd.cs, Nd.cs]
              refine ⟨leM_tr (leM_tr (leM_tr l2 l3) l4) l5, ?_⟩
              rw [e0, h1, h2, h3]; rfl
            · refine ⟨leM_tr (leM_tr l2 l3) l4, ?_⟩
              rw [e0, h3, Bool.and_false]; rfl
          · refine ⟨leM_tr l2 l3, ?_⟩
            rw [e0, h2, Bool.and_false]; rfl
        · refine ⟨l2, ?_⟩
          rw [e0, h1]; rfl
      · clear hT hX hB hA
        simp only [eqS, Ty.eq]
        rcases h with (h | h) | h | h | h <;> simp [h]
theorem eqM_all (a b : Md) (ca cb : List Value) (m : Mem) (ha : mdRep m a ca) (hb : mdRep m b cb) : Ans 127 [.v (.agg ⟨ca⟩), .v (.agg ⟨cb⟩)] m (.bool (eqM a b)) := by
  obtain ⟨fl, res, name, params, hb, body⟩ := a
  obtain ⟨fl', res', name', params', hb', body'⟩ := b
  obtain ⟨x, ⟨rfl, rfl, rfl, rfl, rfl⟩, ⟨hpl, hpc, hl, hcp⟩, hok, r1, xs, r2, s2⟩ := ha
  obtain ⟨x', ⟨rfl, rfl, rfl, rfl, rfl⟩, ⟨hpl', hpc', hl', hcp'⟩, hok', r1', xs', r2', s2'⟩ := hb
  simp only at hpl hl hpl' hl' r1 r1' s2 s2'
  have hP : ∀ m', leM m m' → Ans 176 [.v (.slice x.pa x.pl x.pc), .v (.slice x'.pa x'.pl x'.pc)] m' (.bool (all2 Pc.eq params params')) := fun m' hle => by
    rw [all2_allB, ← hpl, ← hpl']
    refine eqlPc _ x.pa x.pl x.pc x'.pa x'.pl x'.pc _ _ m' (Rds_upM hle r1) (Rds_upM hle r1') (by rw [hpl]; exact hok.pl) fun i hi he => ?_
    exact ⟨params[i], params'[i], flat_at (f := Pc.cs) (sz := 4) (fun _ => rfl) (by omega), flat_at (f := Pc.cs) (sz := 4) (fun _ => rfl) (by omega), atB_at (by omega) (by omega)⟩
  have hB : ∀ m', leM m m' → Ans 122 [.v (.slice x.a x.l x.cp), .v (.slice x'.a x'.l x'.cp), .v (.func (.func 54) ⟨[]⟩ ⟨[]⟩)] m' (.bool (eqSs body body')) := fun m' hle => by
    have hf := eq_fact (R := stRep) (csN := Sd.cs) (e := eqS) (f := 54) (fun _ _ _ _ => stRep_upM) (fun _ _ _ => stRep_sd) (fun i hi => sts_at (stsRep_upM hle s2) hi) (fun i hi => sts_at (stsRep_upM hle s2') hi)
      (fun a ha b hb ca cb m2 hle2 => eqS_all _ a b ca cb m2 (Nat.le_refl _))
    rw [eqSs_all2, all2_allB]
    rw [← hl, ← hl'] at hf ⊢
    exact eqfSd _ _ x.a x.l x.cp x'.a x'.l x'.cp xs xs' m' (Rds_upM hle r2) (Rds_upM hle r2') (by rw [hl]; exact hok.l) (by kernel_rfl) hf
  clear s2 s2'
  refine enter cfN puN Tryz.func127 rfl rfl (by kernel_rfl) rfl ?_ ?_
  · simp only [go_sem, ↓imp_tf, ↓imp_ft, ↓reduceIte, Mc.cs]
  · simp only [go_sem, ↓imp_tf, ↓imp_ft, ↓reduceIte, Mc.cs, eqOkT]
    refine ⟨by kernel_rfl, fun h => ⟨by kernel_rfl, FnV_of ((hP m (.inl rfl)).mono ?_)⟩, fun h => ?_⟩
    · clear hP
      rintro r H' m2 hm2 ⟨l2, rfl, rfl⟩
      simp only [go_sem, ↓imp_tf, ↓imp_ft, ↓reduceIte, Mc.cs]
      have e0 : eqM ⟨x.fl, x.res, x.name, params, x.hb, body⟩ ⟨x'.fl, x'.res, x'.name, params', x'.hb, body'⟩ = (all2 Pc.eq params params' && eqSs body body') := by simp only [eqM, Ty.eq, h, decide_true, Bool.true_and]
      refine ⟨fun h1 => ⟨by kernel_rfl, FnV_of ((hB m2 l2).mono ?_)⟩, fun h1 => ?_⟩
      · clear hB
        rintro r H' m3 hm3 ⟨l3, rfl, rfl⟩
        simp only [go_sem, ↓imp_tf, ↓imp_ft, ↓reduceIte, Mc.cs]
        refine ⟨leM_tr l2 l3, ?_⟩
        rw [e0, h1]; rfl
      · refine ⟨l2, ?_⟩
        rw [e0, h1]; rfl
    · clear hP hB
      simp only [eqM, Ty.eq]
      rcases h with ((h | h | h | h) | h) | h <;> simp [h]
theorem mdRep_mc {m : Mem} {e : Md} {cs : List Value} (h : mdRep m e cs) : ∃ x : Mc, cs = x.cs := by
  obtain ⟨x, h1, _⟩ := h
  exact ⟨x, h1.1⟩
theorem cdRep_cc {m : Mem} {e : Cd} {cs : List Value} (h : cdRep m e cs) : ∃ x : Cc, cs = x.cs := by
  obtain ⟨x, h1, _⟩ := h
  exact ⟨x, h1.1⟩
theorem eqC_all (a b : Cd) (ca cb : List Value) (m : Mem) (ha : cdRep m a ca) (hb : cdRep m b cb) : Ans 59 [.v (.agg ⟨ca⟩), .v (.agg ⟨cb⟩)] m (.bool (eqC a b)) := by
  obtain ⟨fl, name, super, ifs, fields, methods, init⟩ := a
  obtain ⟨fl', name', super', ifs', fields', methods', init'⟩ := b
  obtain ⟨x, ⟨rfl, rfl, rfl, rfl⟩, ⟨hil, hic, hfn, hfc, hml, hmc, hsl, hsc⟩, hok, r1, r2, xs, ys, r3, s3, r4, s4⟩ := ha
  obtain ⟨x', ⟨rfl, rfl, rfl, rfl⟩, ⟨hil', hic', hfn', hfc', hml', hmc', hsl', hsc'⟩, hok', r1', r2', xs', ys', r3', s3', r4', s4'⟩ := hb
  simp only at hil hfn hml hsl r1 r2 s3 s4 hil' hfn' hml' hsl' r1' r2' s3' s4'
  have hI := fun m' (hle : leM m m') => eqlS ifs ifs' x.ia x.il x.ic x'.ia x'.il x'.ic m' (Rds_upM hle r1) (Rds_upM hle r1') (by rw [hil]; exact hok.il)
  have hF : ∀ m', leM m m' → Ans 125 [.v (.slice x.fa x.fn x.fc), .v (.slice x'.fa x'.fn x'.fc)] m' (.bool (all2 Fc.eq fields fields')) := fun m' hle => by
    rw [all2_allB, ← hfn, ← hfn']
    refine eqlFc _ x.fa x.fn x.fc x'.fa x'.fn x'.fc _ _ m' (Rds_upM hle r2) (Rds_upM hle r2') (by rw [hfn]; exact hok.fn) fun i hi he => ?_
    exact ⟨fields[i], fields'[i], flat_at (f := Fc.cs) (sz := 5) (fun _ => rfl) (by omega), flat_at (f := Fc.cs) (sz := 5) (fun _ => rfl) (by omega), atB_at (by omega) (by omega)⟩
  have hM : ∀ m', leM m m' → Ans 126 [.v (.slice x.ma x.ml x.mc), .v (.slice x'.ma x'.ml x'.mc), .v (.func (.func 127) ⟨[]⟩ ⟨[]⟩)] m' (.bool (all2 eqM methods methods')) := fun m' hle => by
    have hf := eq_fact (R := mdRep) (csN := Mc.cs) (e := eqM) (f := 127) (fun _ _ _ _ h => mdRep_up h) (fun _ _ _ => mdRep_mc) (fun i hi => mdRep_up hle (ls_at s3 hi)) (fun i hi => mdRep_up hle (ls_at s3' hi))
      (fun a ha b hb ca cb m2 hle2 => eqM_all a b ca cb m2)
    rw [all2_allB]
    rw [← hml, ← hml'] at hf ⊢
    exact eqfMc _ _ x.ma x.ml x.mc x'.ma x'.ml x'.mc xs xs' m' (Rds_upM hle r3) (Rds_upM hle r3') (by rw [hml]; exact hok.ml) (by kernel_rfl) hf
  have hB : ∀ m', leM m m' → Ans 122 [.v (.slice x.sa x.sl x.sc), .v (.slice x'.sa x'.sl x'.sc), .v (.func (.func 54) ⟨[]⟩ ⟨[]⟩)] m' (.bool (eqSs init init')) := fun m' hle => by
    have hf := eq_fact (R := stRep) (csN := Sd.cs) (e := eqS) (f := 54) (fun _ _ _ _ => stRep_upM) (fun _ _ _ => stRep_sd) (fun i hi => sts_at (stsRep_upM hle s4) hi) (fun i hi => sts_at (stsRep_upM hle s4') hi)
      (fun a ha b hb ca cb m2 hle2 => eqS_all _ a b ca cb m2 (Nat.le_refl _))
    rw [eqSs_all2, all2_allB]
    rw [← hsl, ← hsl'] at hf ⊢
    exact eqfSd _ _ x.sa x.sl x.sc x'.sa x'.sl x'.sc ys ys' m' (Rds_upM hle r4) (Rds_upM hle r4') (by rw [hsl]; exact hok.l) (by kernel_rfl) hf
  clear s3 s3' s4 s4'
  refine enter cfN puN Tryz.func59 rfl rfl (by kernel_rfl) rfl ?_ ?_
  · simp only [go_sem, ↓imp_tf, ↓imp_ft, ↓reduceIte, Cc.cs]
  · simp only [go_sem, ↓imp_tf, ↓imp_ft, ↓reduceIte, Cc.cs]
    refine ⟨fun h => ⟨by kernel_rfl, FnV_of ((hI m (.inl rfl)).mono ?_)⟩, fun h => ?_⟩
    · clear hI
      rintro r H' m2 hm2 ⟨l2, rfl, rfl⟩
      simp only [go_sem, ↓imp_tf, ↓imp_ft, ↓reduceIte, Cc.cs]
      have e0 : eqC ⟨x.fl, x.name, x.super, ifs, fields, methods, init⟩ ⟨x'.fl, x'.name, x'.super, ifs', fields', methods', init'⟩ = (decide (ifs = ifs') && all2 Fc.eq fields fields' && all2 eqM methods methods' && eqSs init init') := by simp only [eqC, h, decide_true, Bool.true_and]
      refine ⟨fun h1 => ⟨by kernel_rfl, FnV_of ((hF m2 l2).mono ?_)⟩, fun h1 => ?_⟩
      · clear hF
        rintro r H' m3 hm3 ⟨l3, rfl, rfl⟩
        simp only [go_sem, ↓imp_tf, ↓imp_ft, ↓reduceIte, Cc.cs]
        refine ⟨fun h2 => ⟨by kernel_rfl, FnV_of ((hM m3 (leM_tr l2 l3)).mono ?_)⟩, fun h2 => ?_⟩
        · clear hM
          rintro r H' m4 hm4 ⟨l4, rfl, rfl⟩
          simp only [go_sem, ↓imp_tf, ↓imp_ft, ↓reduceIte, Cc.cs]
          refine ⟨fun h3 => ⟨by kernel_rfl, FnV_of ((hB m4 (leM_tr (leM_tr l2 l3) l4)).mono ?_)⟩, fun h3 => ?_⟩
          · clear hB
            rintro r H' m5 hm5 ⟨l5, rfl, rfl⟩
            simp only [go_sem, ↓imp_tf, ↓imp_ft, ↓reduceIte, Cc.cs]
            refine ⟨leM_tr (leM_tr (leM_tr l2 l3) l4) l5, ?_⟩
            rw [e0, decide_eq_true h1, h2, h3]; rfl
          · refine ⟨leM_tr (leM_tr l2 l3) l4, ?_⟩
            rw [e0, h3, Bool.and_false]; rfl
        · refine ⟨leM_tr l2 l3, ?_⟩
          rw [e0, h2, Bool.and_false]; rfl
      · refine ⟨l2, ?_⟩
        rw [e0, decide_eq_false h1]; rfl
    · clear hI hF hM hB
      simp only [eqC]
      rcases h with (h | h) | h <;> simp [h]
theorem equal_spec (a b : List Cd) (p : Option Addr) (n c : Nat) (p' : Option Addr) (n' c' : Nat) (m : Mem) (ha : prRep m a p n c) (hb : prRep m b p' n' c') : Ans 25 [.v (.slice p n c), .v (.slice p' n' c')] m (.bool (all2 eqC a b)) := by
  obtain ⟨hl, hcp, hn, xs, r1, s1⟩ := ha
  obtain ⟨hl', hcp', hn', xs', r1', s1'⟩ := hb
  have hA : Ans 58 [.v (.slice p n c), .v (.slice p' n' c'), .v (.func (.func 59) ⟨[]⟩ ⟨[]⟩)] m (.bool (all2 eqC a b)) := by
    have hf := eq_fact (R := cdRep) (csN := Cc.cs) (e := eqC) (f := 59) (fun _ _ _ _ h => cdRep_up h) (fun _ _ _ => cdRep_cc) (fun i hi => ls_at s1 hi) (fun i hi => ls_at s1' hi)
      (fun a ha b hb ca cb m2 hle2 => eqC_all a b ca cb m2)
    rw [all2_allB]
    rw [← hl, ← hl'] at hf ⊢
    exact eqfCc _ _ p n c p' n' c' xs xs' m r1 r1' hn (by kernel_rfl) hf
  clear s1 s1'
  refine enter cfN puN Tryz.func25 rfl rfl (by kernel_rfl) rfl ?_ ?_
  · simp only [go_sem, ↓imp_tf, ↓imp_ft, ↓reduceIte]
  · simp only [go_sem, ↓imp_tf, ↓imp_ft, ↓reduceIte]
    refine ⟨by kernel_rfl, FnV_of (hA.mono ?_)⟩
    clear hA
    rintro r H' m2 hm2 ⟨l2, rfl, rfl⟩
    simp only [go_sem, ↓imp_tf, ↓imp_ft, ↓reduceIte]
    exact l2
end Go.Proofs.YtalalcpefggniaaGreatDoor.E

namespace Go.Proofs.YtalalcpefggniaaGreatDoor.E
open Go
def anyB (n : Nat) (B : Nat → Bool) : Bool := (List.range n).any B
theorem anyB_succ {n : Nat} {B : Nat → Bool} : anyB (n + 1) B = (anyB n B || B n) := by simp [anyB, List.range_succ, List.any_append]
theorem anyB_yes {n k : Nat} {B : Nat → Bool} (hk : k < n) (h : B k = true) : anyB n B = true := by
  simp only [anyB, List.any_eq_true, List.mem_range]
  exact ⟨k, hk, h⟩
theorem anyB_list {α : Type} (p : α → Bool) : ∀ (l : List α) (B : Nat → Bool), (∀ i (h : i < l.length), B i = p l[i]) → anyB l.length B = l.any p
  | [], _, _ => rfl
  | x :: r, B, h => by
    have h0 := h 0 (by simp)
    have hr := anyB_list p r (fun i => B (i + 1)) fun i hi => h (i + 1) (by simpa using hi)
    rw [List.any_cons, ← hr, List.length_cons]
    simp only [anyB, List.range_succ_eq_map, List.any_cons, List.any_map, h0, List.getElem_cons_zero]
    rfl

theorem ixfPc (f : FuncId) (B : Nat → Bool) (a : Option Addr) (n c : Nat) (xs : List Value) (m : Mem) (hr : Rds m a n 4 xs) (hn : n ≤ big) (hok : fnOk Tryz.prog f = true)
    (hx : ∀ i, i < n → ∃ X : Pc, (xs.drop (i * 4)).take 4 = X.cs ∧ ∀ m', leM m m' → Ans f [.v (.agg ⟨X.cs⟩)] m' (.bool (B i))) :
    FnH Tryz.prog 182 [.v (.slice a n c), .v (.func (.func f) ⟨[]⟩ ⟨[]⟩)] ⟨[], []⟩ m fun r H' m' => leM m m' ∧ H' = ⟨[], []⟩ ∧ ∃ i : Int, r = .v (.int .i64 i) ∧ decide (0 ≤ i) = anyB n B := by
  refine enter cfN puN Tryz.func182 rfl rfl (by kernel_rfl) rfl ?_ ?_
  · simp only [go_sem, ↓imp_tf, ↓imp_ft, ↓reduceIte]
  · simp only [go_sem, ↓imp_tf, ↓imp_ft, ↓reduceIte]
    refine WP_loop puN (fun x : Nat × Mem => ⟨[⟨0, [], .v (.slice a n c)⟩, ⟨1, [], .v (.func (.func f) ⟨[]⟩ ⟨[]⟩)⟩, ⟨7, [], .v (.int .i64 n)⟩, ⟨8, [], .v (.int .i64 x.1)⟩], [], [], [], 0, x.2⟩)
      (fun x => leM m x.2 ∧ x.1 ≤ n ∧ anyB x.1 B = false) (fun x => n - x.1) (0, m) (by kernel_rfl) (fun _ _ => Nat.le_refl _) (fun x hx => hx.1) (fun _ => ?_) ?_ ?_ ?_
    · simp only [go_sem, ↓imp_tf, ↓imp_ft, ↓reduceIte]
    · simp only [go_sem, ↓imp_tf, ↓imp_ft, ↓reduceIte]
      rfl
    · exact ⟨.inl rfl, Nat.zero_le _, rfl⟩
    · rintro ⟨k, mm⟩ ⟨h1, h2, h3⟩
      simp only at h1 h2 h3
      have hown : cfN.own f = false := rfl
      have hy : ∀ (hk : k < n), ∃ X : Pc, (Rd mm (ptrAt a (k * 4)) X.cs ∧ a ≠ none) ∧ Ans f [.v (.agg ⟨X.cs⟩)] mm (.bool (B k)) := fun hk => by
          obtain ⟨X, e1, e3⟩ := hx k hk
          have r1 := Rds_cells (Rds_upM h1 hr) hk
          rw [e1] at r1
          exact ⟨X, r1, e3 mm h1⟩
      clear hx
      simp only [go_sem, ↓imp_tf, ↓imp_ft, ↓reduceIte, hown]
      refine ⟨fun hlt => ?_, fun hge => ⟨h1, ?_⟩⟩
      · have hk : k < n := by clear hy; omega
        refine Exists.elim (hy hk) fun X hy' => ⟨⟨by clear hy hy'; omega, hlt, hy'.1.2⟩, X.cs, ⟨hy'.1.1, rfl⟩, ?_⟩
        clear hy
        have ha := hy'.2
        clear hy'
        simp only [go_sem, ↓imp_tf, ↓imp_ft, ↓reduceIte, hown, Pc.cs]
        refine ⟨hok, FnV_of ((FnH_den ha (fun V => rfl)).mono ?_)⟩
        clear ha
        rintro r H' m' hm ⟨hle, rfl, rfl⟩
        simp only [go_sem, ↓imp_tf, ↓imp_ft, ↓reduceIte]
        refine ⟨fun hb => ⟨leM_tr h1 hle, ?_⟩, fun hb => ⟨by unfold I64; simp only [big] at hn; omega, (k + 1, m'), ⟨by simp, .inl rfl⟩, ⟨leM_tr h1 hle, by simp only; omega, ?_⟩, by simp only; omega⟩⟩
        · rw [anyB_yes hk hb]
          simp
        · simp only
          rw [anyB_succ, h3, hb]
          rfl
      · have : k = n := by clear hy; omega
        rw [← this, h3]
        rfl
theorem ctfPc (f : FuncId) (B : Nat → Bool) (a : Option Addr) (n c : Nat) (xs : List Value) (m : Mem) (hr : Rds m a n 4 xs) (hn : n ≤ big) (hok : fnOk Tryz.prog f = true)
    (hx : ∀ i, i < n → ∃ X : Pc, (xs.drop (i * 4)).take 4 = X.cs ∧ ∀ m', leM m m' → Ans f [.v (.agg ⟨X.cs⟩)] m' (.bool (B i))) :
    Ans 147 [.v (.slice a n c), .v (.func (.func f) ⟨[]⟩ ⟨[]⟩)] m (.bool (anyB n B)) := by
  refine enter cfN puN Tryz.func147 rfl rfl (by kernel_rfl) rfl ?_ ?_
  · simp only [go_sem, ↓imp_tf, ↓imp_ft, ↓reduceIte]
  · simp only [go_sem, ↓imp_tf, ↓imp_ft, ↓reduceIte]
    refine ⟨by kernel_rfl, FnV_of ((ixfPc f B a n c xs m hr hn hok hx).mono ?_)⟩
    clear hx
    rintro r H' m' hm ⟨hle, rfl, i, rfl, hi⟩
    simp only [go_sem, ↓imp_tf, ↓imp_ft, ↓reduceIte]
    exact ⟨hle, hi⟩

theorem ixfFc (f : FuncId) (B : Nat → Bool) (a : Option Addr) (n c : Nat) (xs : List Value) (m : Mem) (hr : Rds m a n 5 xs) (hn : n ≤ big) (hok : fnOk Tryz.prog f = true)
    (hx : ∀ i, i < n → ∃ X : Fc, (xs.drop (i * 5)).take 5 = X.cs ∧ ∀ m', leM m m' → Ans f [.v (.agg ⟨X.cs⟩)] m' (.bool (B i))) :
    FnH Tryz.prog 149 [.v (.slice a n c), .v (.func (.func f) ⟨[]⟩ ⟨[]⟩)] ⟨[], []⟩ m fun r H' m' => leM m m' ∧ H' = ⟨[], []⟩ ∧ ∃ i : Int, r = .v (.int .i64 i) ∧ decide (0 ≤ i) = anyB n B := by
  refine enter cfN puN Tryz.func149 rfl rfl (by kernel_rfl) rfl ?_ ?_
  · simp only [go_sem, ↓imp_tf, ↓imp_ft, ↓reduceIte]
  · simp only [go_sem, ↓imp_tf, ↓imp_ft, ↓reduceIte]
    refine WP_loop puN (fun x : Nat × Mem => ⟨[⟨0, [], .v (.slice a n c)⟩, ⟨1, [], .v (.func (.func f) ⟨[]⟩ ⟨[]⟩)⟩, ⟨7, [], .v (.int .i64 n)⟩, ⟨8, [], .v (.int .i64 x.1)⟩], [], [], [], 0, x.2⟩)
      (fun x => leM m x.2 ∧ x.1 ≤ n ∧ anyB x.1 B = false) (fun x => n - x.1) (0, m) (by kernel_rfl) (fun _ _ => Nat.le_refl _) (fun x hx => hx.1) (fun _ => ?_) ?_ ?_ ?_
    · simp only [go_sem, ↓imp_tf, ↓imp_ft, ↓reduceIte]
    · simp only [go_sem, ↓imp_tf, ↓imp_ft, ↓reduceIte]
      rfl
    · exact ⟨.inl rfl, Nat.zero_le _, rfl⟩
    · rintro ⟨k, mm⟩ ⟨h1, h2, h3⟩
      simp only at h1 h2 h3
      have hown : cfN.own f = false := rfl
      have hy : ∀ (hk : k < n), ∃ X : Fc, (Rd mm (ptrAt a (k * 5)) X.cs ∧ a ≠ none) ∧ Ans f [.v (.agg ⟨X.cs⟩)] mm (.bool (B k)) := fun hk => by
          obtain ⟨X, e1, e3⟩ := hx k hk
          have r1 := Rds_cells (Rds_upM h1 hr) hk
          rw [e1] at r1
          exact ⟨X, r1, e3 mm h1⟩
      clear hx
      simp only [go_sem, ↓imp_tf, ↓imp_ft, ↓reduceIte, hown]
      refine ⟨fun hlt => ?_, fun hge => ⟨h1, ?_⟩⟩
      · have hk : k < n := by clear hy; omega
        refine Exists.elim (hy hk) fun X hy' => ⟨⟨by clear hy hy'; omega, hlt, hy'.1.2⟩, X.cs, ⟨hy'.1.1, rfl⟩, ?_⟩
        clear hy
        have ha := hy'.2
        clear hy'
        simp only [go_sem, ↓imp_tf, ↓imp_ft, ↓reduceIte, hown, Fc.cs]
        refine ⟨hok, FnV_of ((FnH_den ha (fun V => rfl)).mono ?_)⟩
        clear ha
        rintro r H' m' hm ⟨hle, rfl, rfl⟩
        simp only [go_sem, ↓imp_tf, ↓imp_ft, ↓reduceIte]
        refine ⟨fun hb => ⟨leM_tr h1 hle, ?_⟩, fun hb => ⟨by unfold I64; simp only [big] at hn; omega, (k + 1, m'), ⟨by simp, .inl rfl⟩, ⟨leM_tr h1 hle, by simp only; omega, ?_⟩, by simp only; omega⟩⟩
        · rw [anyB_yes hk hb]
          simp
        · simp only
          rw [anyB_succ, h3, hb]
          rfl
      · have : k = n := by clear hy; omega
        rw [← this, h3]
        rfl
theorem ctfFc (f : FuncId) (B : Nat → Bool) (a : Option Addr) (n c : Nat) (xs : List Value) (m : Mem) (hr : Rds m a n 5 xs) (hn : n ≤ big) (hok : fnOk Tryz.prog f = true)
    (hx : ∀ i, i < n → ∃ X : Fc, (xs.drop (i * 5)).take 5 = X.cs ∧ ∀ m', leM m m' → Ans f [.v (.agg ⟨X.cs⟩)] m' (.bool (B i))) :
    Ans 73 [.v (.slice a n c), .v (.func (.func f) ⟨[]⟩ ⟨[]⟩)] m (.bool (anyB n B)) := by
  refine enter cfN puN Tryz.func73 rfl rfl (by kernel_rfl) rfl ?_ ?_
  · simp only [go_sem, ↓imp_tf, ↓imp_ft, ↓reduceIte]
  · simp only [go_sem, ↓imp_tf, ↓imp_ft, ↓reduceIte]
    refine ⟨by kernel_rfl, FnV_of ((ixfFc f B a n c xs m hr hn hok hx).mono ?_)⟩
    clear hx
    rintro r H' m' hm ⟨hle, rfl, i, rfl, hi⟩
    simp only [go_sem, ↓imp_tf, ↓imp_ft, ↓reduceIte]
    exact ⟨hle, hi⟩

theorem ixfMc (f : FuncId) (B : Nat → Bool) (a : Option Addr) (n c : Nat) (xs : List Value) (m : Mem) (hr : Rds m a n 8 xs) (hn : n ≤ big) (hok : fnOk Tryz.prog f = true)
    (hx : ∀ i, i < n → ∃ X : Mc, (xs.drop (i * 8)).take 8 = X.cs ∧ ∀ m', leM m m' → Ans f [.v (.agg ⟨X.cs⟩)] m' (.bool (B i))) :
    FnH Tryz.prog 150 [.v (.slice a n c), .v (.func (.func f) ⟨[]⟩ ⟨[]⟩)] ⟨[], []⟩ m fun r H' m' => leM m m' ∧ H' = ⟨[], []⟩ ∧ ∃ i : Int, r = .v (.int .i64 i) ∧ decide (0 ≤ i) = anyB n B := by
  refine enter cfN puN Tryz.func150 rfl rfl (by kernel_rfl) rfl ?_ ?_
  · simp only [go_sem, ↓imp_tf, ↓imp_ft, ↓reduceIte]
  · simp only [go_sem, ↓imp_tf, ↓imp_ft, ↓reduceIte]
    refine WP_loop puN (fun x : Nat × Mem => ⟨[⟨0, [], .v (.slice a n c)⟩, ⟨1, [], .v (.func (.func f) ⟨[]⟩ ⟨[]⟩)⟩, ⟨7, [], .v (.int .i64 n)⟩, ⟨8, [], .v (.int .i64 x.1)⟩], [], [], [], 0, x.2⟩)
      (fun x => leM m x.2 ∧ x.1 ≤ n ∧ anyB x.1 B = false) (fun x => n - x.1) (0, m) (by kernel_rfl) (fun _ _ => Nat.le_refl _) (fun x hx => hx.1) (fun _ => ?_) ?_ ?_ ?_
    · simp only [go_sem, ↓imp_tf, ↓imp_ft, ↓reduceIte]
    · simp only [go_sem, ↓imp_tf, ↓imp_ft, ↓reduceIte]
      rfl
    · exact ⟨.inl rfl, Nat.zero_le _, rfl⟩
    · rintro ⟨k, mm⟩ ⟨h1, h2, h3⟩
      simp only at h1 h2 h3
      have hown : cfN.own f = false := rfl
      have hy : ∀ (hk : k < n), ∃ X : Mc, (Rd mm (ptrAt a (k * 8)) X.cs ∧ a ≠ none) ∧ Ans f [.v (.agg ⟨X.cs⟩)] mm (.bool (B k)) := fun hk => by
          obtain ⟨X, e1, e3⟩ := hx k hk
          have r1 := Rds_cells (Rds_upM h1 hr) hk
          rw [e1] at r1
          exact ⟨X, r1, e3 mm h1⟩
      clear hx
      simp only [go_sem, ↓imp_tf, ↓imp_ft, ↓reduceIte, hown]
      refine ⟨fun hlt => ?_, fun hge => ⟨h1, ?_⟩⟩
      · have hk : k < n := by clear hy; omega
        refine Exists.elim (hy hk) fun X hy' => ⟨⟨by clear hy hy'; omega, hlt, hy'.1.2⟩, X.cs, ⟨hy'.1.1, rfl⟩, ?_⟩
        clear hy
        have ha := hy'.2
        clear hy'
        simp only [go_sem, ↓imp_tf, ↓imp_ft, ↓reduceIte, hown, Mc.cs]
        refine ⟨hok, FnV_of ((FnH_den ha (fun V => rfl)).mono ?_)⟩
        clear ha
        rintro r H' m' hm ⟨hle, rfl, rfl⟩
        simp only [go_sem, ↓imp_tf, ↓imp_ft, ↓reduceIte]
        refine ⟨fun hb => ⟨leM_tr h1 hle, ?_⟩, fun hb => ⟨by unfold I64; simp only [big] at hn; omega, (k + 1, m'), ⟨by simp, .inl rfl⟩, ⟨leM_tr h1 hle, by simp only; omega, ?_⟩, by simp only; omega⟩⟩
        · rw [anyB_yes hk hb]
          simp
        · simp only
          rw [anyB_succ, h3, hb]
          rfl
      · have : k = n := by clear hy; omega
        rw [← this, h3]
        rfl
theorem ctfMc (f : FuncId) (B : Nat → Bool) (a : Option Addr) (n c : Nat) (xs : List Value) (m : Mem) (hr : Rds m a n 8 xs) (hn : n ≤ big) (hok : fnOk Tryz.prog f = true)
    (hx : ∀ i, i < n → ∃ X : Mc, (xs.drop (i * 8)).take 8 = X.cs ∧ ∀ m', leM m m' → Ans f [.v (.agg ⟨X.cs⟩)] m' (.bool (B i))) :
    Ans 74 [.v (.slice a n c), .v (.func (.func f) ⟨[]⟩ ⟨[]⟩)] m (.bool (anyB n B)) := by
  refine enter cfN puN Tryz.func74 rfl rfl (by kernel_rfl) rfl ?_ ?_
  · simp only [go_sem, ↓imp_tf, ↓imp_ft, ↓reduceIte]
  · simp only [go_sem, ↓imp_tf, ↓imp_ft, ↓reduceIte]
    refine ⟨by kernel_rfl, FnV_of ((ixfMc f B a n c xs m hr hn hok hx).mono ?_)⟩
    clear hx
    rintro r H' m' hm ⟨hle, rfl, i, rfl, hi⟩
    simp only [go_sem, ↓imp_tf, ↓imp_ft, ↓reduceIte]
    exact ⟨hle, hi⟩

theorem ixfS (f : FuncId) (B : Nat → Bool) (a : Option Addr) (n c : Nat) (xs : List Value) (m : Mem) (hr : Rds m a n 1 xs) (hn : n ≤ big) (hok : fnOk Tryz.prog f = true)
    (hx : ∀ i, i < n → ∃ s : List UInt8, xs[i]? = some (.string (bs s)) ∧ ∀ m', leM m m' → Ans f [.v (.string (bs s))] m' (.bool (B i))) :
    FnH Tryz.prog 148 [.v (.slice a n c), .v (.func (.func f) ⟨[]⟩ ⟨[]⟩)] ⟨[], []⟩ m fun r H' m' => leM m m' ∧ H' = ⟨[], []⟩ ∧ ∃ i : Int, r = .v (.int .i64 i) ∧ decide (0 ≤ i) = anyB n B := by
  refine enter cfN puN Tryz.func148 rfl rfl (by kernel_rfl) rfl ?_ ?_
  · simp only [go_sem, ↓imp_tf, ↓imp_ft, ↓reduceIte]
  · simp only [go_sem, ↓imp_tf, ↓imp_ft, ↓reduceIte]
    refine WP_loop puN (fun x : Nat × Mem => ⟨[⟨0, [], .v (.slice a n c)⟩, ⟨1, [], .v (.func (.func f) ⟨[]⟩ ⟨[]⟩)⟩, ⟨7, [], .v (.int .i64 n)⟩, ⟨8, [], .v (.int .i64 x.1)⟩], [], [], [], 0, x.2⟩)
      (fun x => leM m x.2 ∧ x.1 ≤ n ∧ anyB x.1 B = false) (fun x => n - x.1) (0, m) (by kernel_rfl) (fun _ _ => Nat.le_refl _) (fun x hx => hx.1) (fun _ => ?_) ?_ ?_ ?_
    · simp only [go_sem, ↓imp_tf, ↓imp_ft, ↓reduceIte]
    · simp only [go_sem, ↓imp_tf, ↓imp_ft, ↓reduceIte]
      rfl
    · exact ⟨.inl rfl, Nat.zero_le _, rfl⟩
    · rintro ⟨k, mm⟩ ⟨h1, h2, h3⟩
      simp only at h1 h2 h3
      have hown : cfN.own f = false := rfl
      have hy : ∀ (hk : k < n), ∃ s : List UInt8, (Rd mm (ptrAt a k) [.string (bs s)] ∧ a ≠ none) ∧ Ans f [.v (.string (bs s))] mm (.bool (B k)) := fun hk => by
          obtain ⟨s, e1, e3⟩ := hx k hk
          obtain ⟨hk', r1, hne⟩ := Rds_one (Rds_upM h1 hr) hk
          rw [List.getElem?_eq_getElem hk'] at e1
          rw [Option.some.inj e1] at r1
          exact ⟨s, ⟨r1, hne⟩, e3 mm h1⟩
      clear hx
      simp only [go_sem, ↓imp_tf, ↓imp_ft, ↓reduceIte, hown]
      refine ⟨fun hlt => ?_, fun hge => ⟨h1, ?_⟩⟩
      · have hk : k < n := by clear hy; omega
        refine Exists.elim (hy hk) fun s hy' => ⟨⟨by clear hy hy'; omega, hlt, hy'.1.2⟩, _, hy'.1.1, ?_⟩
        clear hy
        have ha := hy'.2
        clear hy'
        refine ⟨hok, FnV_of ((ha).mono ?_)⟩
        clear ha
        rintro r H' m' hm ⟨hle, rfl, rfl⟩
        simp only [go_sem, ↓imp_tf, ↓imp_ft, ↓reduceIte]
        refine ⟨fun hb => ⟨leM_tr h1 hle, ?_⟩, fun hb => ⟨by unfold I64; simp only [big] at hn; omega, (k + 1, m'), ⟨by simp, .inl rfl⟩, ⟨leM_tr h1 hle, by simp only; omega, ?_⟩, by simp only; omega⟩⟩
        · rw [anyB_yes hk hb]
          simp
        · simp only
          rw [anyB_succ, h3, hb]
          rfl
      · have : k = n := by clear hy; omega
        rw [← this, h3]
        rfl
theorem ctfS (f : FuncId) (B : Nat → Bool) (a : Option Addr) (n c : Nat) (xs : List Value) (m : Mem) (hr : Rds m a n 1 xs) (hn : n ≤ big) (hok : fnOk Tryz.prog f = true)
    (hx : ∀ i, i < n → ∃ s : List UInt8, xs[i]? = some (.string (bs s)) ∧ ∀ m', leM m m' → Ans f [.v (.string (bs s))] m' (.bool (B i))) :
    Ans 72 [.v (.slice a n c), .v (.func (.func f) ⟨[]⟩ ⟨[]⟩)] m (.bool (anyB n B)) := by
  refine enter cfN puN Tryz.func72 rfl rfl (by kernel_rfl) rfl ?_ ?_
  · simp only [go_sem, ↓imp_tf, ↓imp_ft, ↓reduceIte]
  · simp only [go_sem, ↓imp_tf, ↓imp_ft, ↓reduceIte]
    refine ⟨by kernel_rfl, FnV_of ((ixfS f B a n c xs m hr hn hok hx).mono ?_)⟩
    clear hx
    rintro r H' m' hm ⟨hle, rfl, i, rfl, hi⟩
    simp only [go_sem, ↓imp_tf, ↓imp_ft, ↓reduceIte]
    exact ⟨hle, hi⟩

end Go.Proofs.YtalalcpefggniaaGreatDoor.E

namespace Go.Proofs.YtalalcpefggniaaGreatDoor.E
open Go

/-- A token that has a text. -/
def FmtOk (t : Tk) : Prop := fmtL t ≠ none
theorem kw_cls : ∀ s ∈ keywordsL, isCls s = false := by decide +kernel
theorem fmt_nm {s : List UInt8} (h : isName s = true) (hk : keywordsL.contains s = false) : FmtOk (nm1 s) := by
  simp only [FmtOk, fmtL, nm1, if_true, h, hk, and_self, ne_eq, reduceCtorEq, not_false_eq_true]
theorem ident_name {s : List UInt8} (h : identL s = true) : isName s = true ∧ keywordsL.contains s = false := by
  simp only [identL, Bool.and_eq_true, decide_eq_true_eq, Bool.not_eq_true'] at h
  obtain ⟨⟨⟨h1, h2⟩, h3⟩, h4⟩ := h
  refine ⟨?_, h4⟩
  simp only [isMem, Bool.or_eq_true, Bool.and_eq_true, decide_eq_true_eq] at h1
  rcases h1 with (h1 | h1) | h1
  · subst h1; exact absurd rfl h2
  · subst h1; exact absurd rfl h2
  · exact h1.1
theorem fmt_ident {s : List UInt8} (h : identL s = true) : FmtOk (nm1 s) := fmt_nm (ident_name h).1 (ident_name h).2
theorem fmt_cls {s : List UInt8} (h : isCls s = true) : FmtOk (nm1 s) := by
  refine fmt_nm ?_ ?_
  · simp only [isCls, Bool.and_eq_true] at h; exact h.1.1
  · cases hc : keywordsL.contains s with
    | false => rfl
    | true =>
      have := kw_cls s (by simpa using hc)
      rw [this] at h; cases h
theorem fmt_sign {s : List UInt8} (h : signsL.contains s = true) : FmtOk (sg s) := by
  simp only [FmtOk, fmtL, sg, h, and_self, if_true, Int.reduceEq, if_false, ne_eq, reduceCtorEq, not_false_eq_true]
theorem fmt_word {s : List UInt8} (h : keywordsL.contains s = true) : FmtOk (kw s) := by
  simp only [FmtOk, fmtL, kw, h, and_self, if_true, Int.reduceEq, if_false, ne_eq, reduceCtorEq, not_false_eq_true]
theorem sgOk_fmt : SgOk FmtOk := by
  constructor <;> first | exact fmt_sign (by decide +kernel) | exact fmt_word (by decide +kernel)
theorem ops_sign : ∀ s ∈ opsL, signsL.contains s = true := by decide +kernel
theorem lit_ops {k n : Int} {s : List UInt8} (hk : k = 15 ∨ k = 16) (h : litL k n s = true) : FmtOk (sg s) := by
  rcases hk with rfl | rfl
  · simp only [litL, Int.reduceEq, if_true, if_false, Bool.and_eq_true, Bool.or_eq_true, decide_eq_true_eq] at h
    rcases h.2 with h | h <;> subst h <;> exact fmt_sign (by decide +kernel)
  · simp only [litL, Int.reduceEq, if_true, if_false, Bool.and_eq_true, decide_eq_true_eq] at h
    exact fmt_sign (ops_sign s (by simpa using h.2))
theorem ty_cls {d b : Int} {nm : List UInt8} (h : valueTy d b nm = true) (h1 : b ≠ 73) (h2 : b ≠ 74) (h3 : b ≠ 86) : isCls nm = true := by
  simp only [valueTy, Bool.and_eq_true, Bool.or_eq_true, decide_eq_true_eq] at h
  obtain ⟨⟨h4, _⟩, h5⟩ := h
  rcases h5 with h5 | h5
  · exfalso
    unfold validTy at h4
    split at h4
    · cases h4
    · rw [if_neg (by omega : ¬ (b = 73 ∨ b = 74))] at h4
      first | cases h4 | (rw [if_neg h3, if_neg h5] at h4; cases h4)
  · exact h5
mutual
theorem fmt_all : ∀ (e : Ex), validE e = true → AllT FmtOk (exprT e)
  | .mk k n s c ty args, h => by
    simp only [validE, Bool.and_eq_true] at h
    obtain ⟨h, ha⟩ := h
    simp only [nodeL, Bool.and_eq_true] at h
    obtain ⟨⟨⟨⟨⟨h1, h2⟩, h3⟩, h4⟩, h5⟩, h6⟩ := h
    simp only [exprT]
    refine node_all sgOk_fmt (fmts_all args ha) (fun e => ?_) (fun e => ?_) (fun e => ?_) (fun e => ?_) (fun e => ?_) (fun e => ?_) (fun e g1 g2 g3 => ?_)
    · subst e
      rw [if_neg (by decide)] at h4
      simp only [litL, if_true, Bool.and_eq_true, decide_eq_true_eq] at h4
      simp only [FmtOk, fmtL, Int.reduceEq, if_true, if_false, true_and]
      rw [if_pos ⟨h4.1.1, by omega⟩]; simp
    · subst e
      rw [if_neg (by decide)] at h4
      simp only [litL, Int.reduceEq, if_true, if_false, Bool.and_eq_true, decide_eq_true_eq] at h4
      simp only [FmtOk, fmtL, Int.reduceEq, if_true, if_false, true_and]
      rw [if_pos h4.1]; simp
    · subst e
      rw [if_neg (by decide)] at h4
      simp only [litL, Int.reduceEq, if_true, if_false, Bool.and_eq_true, decide_eq_true_eq, printL] at h4
      simp only [FmtOk, fmtL, Int.reduceEq, if_true, if_false, true_and]
      rw [if_pos h4.2.2]; simp
    · rw [if_pos e] at h4
      simp only [Bool.and_eq_true] at h4
      exact fmt_ident h4.1
    · rw [if_pos e] at h5
      exact fmt_cls h5
    · have hs : ¬ (shapeL k).1 = true := by rcases e with rfl | rfl <;> decide
      rw [if_neg hs] at h4
      exact lit_ops e h4
    · rw [if_pos e] at h6
      simp only [Bool.and_eq_true] at h6
      exact fmt_cls (ty_cls h6.1 g1 g2 g3)
theorem fmts_all : ∀ (l : List Ex), validEs l = true → ∀ x ∈ exprTs l, AllT FmtOk x.2
  | [], _ => fun x hx => by simp only [exprTs] at hx; cases hx
  | e :: r, h => by
    simp only [validEs, Bool.and_eq_true] at h
    intro x hx
    simp only [exprTs] at hx
    rcases List.mem_cons.1 hx with rfl | hx
    · exact fmt_all e h.1
    · exact fmts_all r h.2 x hx
end
theorem fmts_of : ∀ (l : List Tk), AllT FmtOk l → ∃ y, fmtsL l = some y ∧ y.length = l.length
  | [], _ => ⟨[], rfl, rfl⟩
  | t :: r, h => by
    obtain ⟨y, hy, hl⟩ := fmts_of r fun x hx => h x (List.mem_cons_of_mem _ hx)
    have ht : fmtL t ≠ none := h t List.mem_cons_self
    cases hf : fmtL t with
    | none => exact absurd hf ht
    | some x => exact ⟨x :: y, by simp only [fmtsL, hf, hy], by simp [hl]⟩
theorem fmts_app : ∀ {a b : List Tk} {x y : List (List UInt8)}, fmtsL a = some x → fmtsL b = some y → fmtsL (a ++ b) = some (x ++ y)
  | [], b, x, y, ha, hb => by cases ha; exact hb
  | t :: r, b, x, y, ha, hb => by
    simp only [fmtsL] at ha
    cases hf : fmtL t with
    | none => rw [hf] at ha; cases ha
    | some u =>
      rw [hf] at ha
      cases hr : fmtsL r with
      | none => rw [hr] at ha; cases ha
      | some v =>
        rw [hr] at ha
        cases ha
        simp only [List.cons_append, fmtsL, hf, fmts_app hr hb]
theorem joinL_of {ts : List Tk} {l : List (List UInt8)} (h : fmtsL ts = some l) : joinL ts = if 5000 < ts.length then ([], 5) else if 20000 < (Lib.join l [32]).length then ([], 8) else (Lib.join l [32], 0) := by
  simp only [joinL, h]
theorem join_end (x : List UInt8) (r : List (List UInt8)) (y : List UInt8) (sep : List UInt8) : Lib.join (x :: r ++ [y]) sep = Lib.join (x :: r) sep ++ sep ++ y := by
  rw [List.cons_append, Lib.join_cons, Lib.join_cons]
  simp [Lib.joinTail]
theorem join_pre (a x : List UInt8) (r : List (List UInt8)) (sep : List UInt8) : Lib.join (a :: x :: r) sep = a ++ sep ++ Lib.join (x :: r) sep := by
  rw [Lib.join_cons, Lib.join_cons]
  simp [Lib.joinTail]
theorem nodeT_ne {k n : Int} {s c : List UInt8} {ty : Ty} {ts : List (Bool × List Tk)} (hk : isKind k = true) : nodeT k n s c ty ts ≠ [] := by
  rcases kinds hk with h' | h' | h' | h' | h' | h' | h' | h' | h' | h' | h' | h' | h' | h' | h' | h' | h' | h' | h' | h' | h' <;> subst h' <;>
    simp [nodeT, listT]
theorem exprT_ne {e : Ex} (h : validE e = true) : exprT e ≠ [] := by
  cases e with
  | mk k n s c ty args =>
    simp only [validE, Bool.and_eq_true] at h
    simp only [exprT]
    exact nodeT_ne (node_kind h.1).1
def zTy : Ty := ⟨0, 0, []⟩
/-- The negation. -/
def negE (e : Ex) : Ex := .mk 15 0 [45] [] zTy [e]
theorem depth_neg (e : Ex) : depthE (negE e) = depthE e + 1 := by simp [negE, depthE, depthL]
theorem size_neg (e : Ex) : sizeE (negE e) = sizeE e + 1 := by simp [negE, sizeE, sizeL]
theorem valid_neg (e : Ex) : validE (negE e) = validE e := by
  simp only [negE, validE, validEs, Bool.and_true]
  have : nodeL 15 0 [45] [] zTy.dim zTy.base zTy.name [e].length = true := rfl
  rw [this, Bool.true_and]
theorem exprT_neg (e : Ex) : exprT (negE e) = sg [45] :: opdT (isOp e.k) (exprT e) := by
  simp only [negE, exprT, nodeT, exprTs, Int.reduceEq, if_true, if_false]
  rfl
/-- What the statement asks of the two errors, when one is not OK. -/
def errOk (f g : Int) : Prop := f = 0 ∧ (g = 9 ∨ g = 5 ∨ g = 8) ∨ f ≠ 0 ∧ g = f ∨ f = 8 ∧ g = 5 ∨ (f = 8 ∨ f = 5) ∧ g = 9
theorem deeper (e : Ex) : ((fmtE e).2 = 0 ∧ (fmtE (negE e)).2 = 0 → (fmtE (negE e)).1 = [45, 32] ++ (fmtE e).1 ∨ (fmtE (negE e)).1 = [45, 32, 40, 32] ++ (fmtE e).1 ++ [32, 41]) ∧ (¬ ((fmtE e).2 = 0 ∧ (fmtE (negE e)).2 = 0) → errOk (fmtE e).2 (fmtE (negE e)).2) := by
  simp only [fmtE, valid_neg, depth_neg]
  by_cases hv : validE e = true
  · rw [if_pos hv, if_pos hv]
    obtain ⟨l, hl, hll⟩ := fmts_of _ (fmt_all e hv)
    have hne := exprT_ne hv
    have hlne : ∃ x r, l = x :: r := by
      cases l with
      | nil => exact absurd (List.length_eq_zero_iff.1 hll.symm) hne
      | cons x r => exact ⟨x, r, rfl⟩
    obtain ⟨x, r, rfl⟩ := hlne
    have hj := joinL_of hl
    have hm : ∃ l2, fmtsL (exprT (negE e)) = some l2 ∧ (exprT e).length ≤ (exprT (negE e)).length ∧ (Lib.join (x :: r) [32]).length ≤ (Lib.join l2 [32]).length ∧ (Lib.join l2 [32] = [45, 32] ++ Lib.join (x :: r) [32] ∨ Lib.join l2 [32] = [45, 32, 40, 32] ++ Lib.join (x :: r) [32] ++ [32, 41]) := by
      rw [exprT_neg]
      have h1 : fmtsL [sg [45]] = some [[45]] := by decide +kernel
      have h2 : fmtsL [sg [40]] = some [[40]] := by decide +kernel
      have h3 : fmtsL [sg [41]] = some [[41]] := by decide +kernel
      cases hop : isOp e.k with
      | false =>
        have hj1 := join_pre [45] x r [32]
        refine ⟨[45] :: x :: r, fmts_app h1 hl, by simp [opdT], ?_, .inl ?_⟩
        · rw [hj1, List.length_append]; omega
        · rw [hj1]; rfl
      | true =>
        have e1 : sg [45] :: opdT true (exprT e) = [sg [45]] ++ ([sg [40]] ++ (exprT e ++ [sg [41]])) := by simp [opdT, listT, commaT]
        have hj1 : Lib.join ([45] :: [40] :: ((x :: r) ++ [[41]])) [32] = [45, 32, 40, 32] ++ Lib.join (x :: r) [32] ++ [32, 41] := by
          have g1 := join_pre [45] [40] ((x :: r) ++ [[41]]) [32]
          have g2 : Lib.join ([40] :: (x :: r ++ [[41]])) [32] = [40] ++ [32] ++ Lib.join (x :: r ++ [[41]]) [32] := by rw [List.cons_append]; exact join_pre [40] x (r ++ [[41]]) [32]
          have g3 := join_end x r [41] [32]
          rw [g1, g2, g3]
          simp
        refine ⟨[45] :: [40] :: ((x :: r) ++ [[41]]), ?_, ?_, ?_, .inr hj1⟩
        · rw [e1]
          exact fmts_app h1 (fmts_app h2 (fmts_app hl h3))
        · rw [e1]; simp only [List.length_append, List.length_singleton]; omega
        · rw [hj1]; simp only [List.length_append]; omega
    obtain ⟨l2, hl2, hlen, hjl, htx⟩ := hm
    have hj2 := joinL_of hl2
    rw [hj, hj2]
    by_cases hd : 24 < depthE e
    · rw [if_pos hd, if_pos (by omega : 24 < depthE e + 1)]
      exact ⟨fun h => absurd h.1 (by decide), fun _ => .inr (.inl ⟨by decide, rfl⟩)⟩
    · rw [if_neg hd]
      by_cases hd2 : 24 < depthE e + 1
      · rw [if_pos hd2]
        refine ⟨fun h => absurd h.2 (by decide), fun _ => ?_⟩
        by_cases h5 : 5000 < (exprT e).length
        · rw [if_pos h5]; exact .inr (.inr (.inr ⟨.inr rfl, rfl⟩))
        · rw [if_neg h5]
          by_cases h8 : 20000 < (Lib.join (x :: r) [32]).length
          · rw [if_pos h8]; exact .inr (.inr (.inr ⟨.inl rfl, rfl⟩))
          · rw [if_neg h8]; exact .inl ⟨rfl, .inl rfl⟩
      · rw [if_neg hd2]
        by_cases h5 : 5000 < (exprT e).length
        · rw [if_pos h5, if_pos (by omega : 5000 < (exprT (negE e)).length)]
          exact ⟨fun h => absurd h.1 (by decide), fun _ => .inr (.inl ⟨by decide, rfl⟩)⟩
        · rw [if_neg h5]
          by_cases h8 : 20000 < (Lib.join (x :: r) [32]).length
          · rw [if_pos h8]
            refine ⟨fun h => absurd h.1 (by decide), fun _ => ?_⟩
            by_cases g5 : 5000 < (exprT (negE e)).length
            · rw [if_pos g5]; exact .inr (.inr (.inl ⟨rfl, rfl⟩))
            · rw [if_neg g5, if_pos (by omega : 20000 < (Lib.join l2 [32]).length)]
              exact .inr (.inl ⟨by decide, rfl⟩)
          · rw [if_neg h8]
            by_cases g5 : 5000 < (exprT (negE e)).length
            · rw [if_pos g5]
              exact ⟨fun h => absurd h.2 (by decide), fun _ => .inl ⟨rfl, .inr (.inl rfl)⟩⟩
            · rw [if_neg g5]
              by_cases g8 : 20000 < (Lib.join l2 [32]).length
              · rw [if_pos g8]
                exact ⟨fun h => absurd h.2 (by decide), fun _ => .inl ⟨rfl, .inr (.inr rfl)⟩⟩
              · rw [if_neg g8]
                exact ⟨fun _ => htx, fun h => absurd ⟨rfl, rfl⟩ h⟩
  · rw [if_neg hv, if_neg hv]
    exact ⟨fun h => absurd h.1 (by decide), fun _ => .inr (.inl ⟨by decide, rfl⟩)⟩
end Go.Proofs.YtalalcpefggniaaGreatDoor.E

namespace Go.Proofs.YtalalcpefggniaaGreatDoor.E
open Go

def zE : Ex := .mk 0 0 [] [] zTy []
def emptyL (k n : Int) (s c : List UInt8) (ty : Ty) (l : Nat) : Bool := decide (l = 0) && decide (k = 0) && decide (n = 0) && decide (s = []) && decide (c = []) && Ty.eq ty zTy
/-- The zero expression. -/
def emptyE : Ex → Bool | .mk k n s c ty args => emptyL k n s c ty args.length
def superE : Ex → Bool | .mk k n s c ty args => emptyL k n s c ty 0 && decide (args.length ≤ 16) && validEs args
def targetE (e : Ex) : Bool := (decide (e.k = 6) || decide (e.k = 7) || decide (e.k = 8) || decide (e.k = 9)) && validE e
def callE (e : Ex) : Bool := (decide (e.k = 10) || decide (e.k = 11) || decide (e.k = 12) || decide (e.k = 13)) && validE e
def St.k : St → Int | .mk k _ _ _ _ _ _ => k
def usedS (k : Int) (nm : List UInt8) (ty : Ty) (tg ex : Ex) (body alt : List St) : St :=
  if k = 1 then .mk k nm ty zE ex [] []
  else if k = 2 then .mk k [] zTy tg ex [] []
  else if k = 4 then .mk k [] zTy zE ex body alt
  else if k = 5 ∨ k = 9 then .mk k [] zTy zE ex body []
  else if k = 8 then .mk k nm ty zE zE body alt
  else if k = 10 then .mk k [] zTy zE zE body []
  else .mk k [] zTy zE ex [] []
def okStm (k : Int) (nm : List UInt8) (ty : Ty) (tg ex : Ex) (B : Bool) : Bool :=
  if k = 1 then identL nm && valueTy ty.dim ty.base ty.name && validE ex
  else if k = 2 then targetE tg && validE ex
  else if k = 3 then callE ex
  else if k = 4 ∨ k = 5 ∨ k = 9 then B && validE ex
  else if k = 6 then emptyE ex || validE ex
  else if k = 7 then validE ex
  else if k = 8 then B && identL nm && valueTy ty.dim ty.base ty.name
  else if k = 10 then B
  else if k = 11 then superE ex
  else false
mutual
/-- Well-formed. -/
def validS : St → Bool
  | .mk k nm ty tg ex body alt => okStm k nm ty tg ex (decide (body.length ≤ 32) && validSs false body && (decide (alt.length ≤ 32) && validSs false alt)) && eqS (.mk k nm ty tg ex body alt) (usedS k nm ty tg ex body alt)
def validSs : Bool → List St → Bool
  | _, [] => true
  | sup, e :: r => (!decide (e.k = 11) || sup) && validS e && validSs false r
end
def blockL (sup : Bool) (l : List St) : Bool := decide (l.length ≤ 32) && validSs sup l
def blk1 (sup : Bool) (i : Nat) (e : St) : Bool := (!decide (e.k = 11) || (sup && decide (i = 0))) && validS e
theorem validSs_take : ∀ {l : List St} {sup : Bool} {i : Nat} (hi : i < l.length), validSs sup (l.take (i + 1)) = (validSs sup (l.take i) && blk1 sup i l[i])
  | [], _, _, hi => absurd hi (Nat.not_lt_zero _)
  | e :: r, sup, 0, _ => by simp [validSs, blk1]
  | e :: r, sup, i + 1, hi => by
    have := validSs_take (l := r) (sup := false) (i := i) (by simpa using hi)
    simp only [List.take_succ_cons, validSs, this, List.getElem_cons_succ]
    simp only [blk1, Bool.false_and, Nat.add_one_ne_zero, decide_false, Bool.and_false, Bool.and_assoc]
theorem validSs_no : ∀ {l : List St} {sup : Bool} {i : Nat} (hi : i < l.length), blk1 sup i l[i] = false → validSs sup l = false := fun {l sup i} hi h => by
  have h1 := validSs_take (sup := sup) hi
  rw [h, Bool.and_false] at h1
  have : ∀ (l : List St) (sup : Bool) (j : Nat), validSs sup (l.take j) = false → validSs sup l = false := by
    intro l
    induction l with
    | nil => intro sup j h; simpa using h
    | cons e r ih =>
      intro sup j h
      cases j with
      | zero => simp [validSs] at h
      | succ j =>
        simp only [List.take_succ_cons, validSs] at h ⊢
        cases h2 : validSs false (r.take j) with
        | false => rw [ih false j h2, Bool.and_false]
        | true => rw [h2, Bool.and_true] at h; rw [h, Bool.false_and]
  exact this l sup (i + 1) h1
theorem empty_spec (x : Nd) (m : Mem) : Ans 52 [.v (.agg ⟨x.cs⟩)] m (.bool (emptyL x.k x.n x.s x.c x.ty x.l)) := by
  refine enter cfN puN Tryz.func52 rfl rfl (by kernel_rfl) rfl ?_ ?_
  · simp only [go_sem, ↓imp_tf, ↓imp_ft, ↓reduceIte, Nd.cs]
  · simp only [go_sem, ↓imp_tf, ↓imp_ft, ↓reduceIte, Nd.cs, eqOkT]
    have e0 : decide ((x.l : Int) = 0) = decide (x.l = 0) := by rw [decide_eq_decide]; omega
    rw [e0]
    rfl
/-- What is asked of an expression's cells. -/
theorem ex_parts {m : Mem} {k n : Int} {s c : List UInt8} {ty : Ty} {args : List Ex} {cs : List Value} (h : exRep m (.mk k n s c ty args) cs) : ∃ x : Nd, cs = x.cs ∧ x.k = k ∧ x.n = n ∧ x.s = s ∧ x.c = c ∧ x.ty = ty ∧ x.l = args.length ∧ x.l ≤ x.cp ∧ x.l ≤ big ∧ ∃ xs, Rds m x.a x.l 8 xs ∧ exsRep m args xs := by
  simp only [exRep] at h
  obtain ⟨a, cp, xs, rfl, h1, h2, h3, h4⟩ := h
  exact ⟨⟨k, n, s, c, ty, a, args.length, cp⟩, rfl, rfl, rfl, rfl, rfl, rfl, rfl, h1, h3.2.2.2.2.2, xs, h2, h4⟩
theorem bad_spec (e : Ex) (cs : List Value) (m : Mem) (hg : Glob m) (he : exRep m e cs) : Ans 120 [.v (.agg ⟨cs⟩)] m (.bool (!validE e)) := by
  have hV := valid_all _ e cs m (Nat.le_refl _) hg he
  obtain ⟨x, rfl⟩ := exRep_nd he
  refine enter cfN puN Tryz.func120 rfl rfl (by kernel_rfl) rfl ?_ ?_
  · simp only [go_sem, ↓imp_tf, ↓imp_ft, ↓reduceIte, Nd.cs]
  · simp only [go_sem, ↓imp_tf, ↓imp_ft, ↓reduceIte, Nd.cs]
    refine ⟨by kernel_rfl, FnV_of ((FnH_den hV (fun V => rfl)).mono ?_)⟩
    rintro r H' m2 hm2 ⟨hle2, rfl, rfl⟩
    simp only [go_sem, ↓imp_tf, ↓imp_ft, ↓reduceIte]
    exact hle2
theorem super_spec (e : Ex) (cs : List Value) (m : Mem) (hg : Glob m) (he : exRep m e cs) : Ans 53 [.v (.agg ⟨cs⟩)] m (.bool (superE e)) := by
  cases e with
  | mk k n s c ty args =>
    obtain ⟨x, rfl, rfl, rfl, rfl, rfl, rfl, hl, hcp, hn, xs, hr, hes⟩ := ex_parts he
    have hE := empty_spec ⟨x.k, x.n, x.s, x.c, x.ty, none, 0, 0⟩ m
    have hv := fun m' (hm : leM m m') => containsX_spec 120 (fun e => !validE e) args x.a x.l x.cp xs m' hl.symm (Rds_upM hm hr) (exsRep_upM hm hes) hn (by kernel_rfl) (fun i hi cs m2 hle hrep => bad_spec _ cs m2 (hg.upM (leM_tr hm hle)) hrep)
    refine enter cfN puN Tryz.func53 rfl rfl (by kernel_rfl) rfl ?_ ?_
    · simp only [go_sem, ↓imp_tf, ↓imp_ft, ↓reduceIte, Nd.cs]
    · simp only [go_sem, ↓imp_tf, ↓imp_ft, ↓reduceIte, Nd.cs]
      refine ⟨by kernel_rfl, FnV_of ((FnH_den hE (fun V => rfl)).mono ?_)⟩
      clear hE
      rintro r H' m2 hm2 ⟨hle2, rfl, rfl⟩
      simp only [go_sem, ↓imp_tf, ↓imp_ft, ↓reduceIte]
      have e0 : superE (Ex.mk x.k x.n x.s x.c x.ty args) = (emptyL x.k x.n x.s x.c x.ty 0 && decide (args.length ≤ 16) && validEs args) := rfl
      refine ⟨fun h => ⟨by kernel_rfl, FnV_of ((hv m2 hle2).mono ?_)⟩, fun h => ⟨hle2, ?_⟩⟩
      · clear hv
        rintro r H' m3 hm3 ⟨hle3, rfl, rfl⟩
        simp only [go_sem, ↓imp_tf, ↓imp_ft, ↓reduceIte]
        refine ⟨leM_tr hle2 hle3, ?_⟩
        rw [e0, h.1, decide_eq_true (by omega : args.length ≤ 16), validEs_any]
        rfl
      · clear hv
        rw [e0]
        rcases h with h | h
        · rw [h]; rfl
        · rw [decide_eq_false (by omega : ¬ args.length ≤ 16), Bool.and_false]; rfl
theorem target_spec (e : Ex) (cs : List Value) (m : Mem) (hg : Glob m) (he : exRep m e cs) : Ans 50 [.v (.agg ⟨cs⟩)] m (.bool (targetE e)) := by
  have hV := valid_all _ e cs m (Nat.le_refl _) hg he
  cases e with
  | mk k n s c ty args =>
    obtain ⟨x, rfl, rfl, rfl, rfl, rfl, rfl, hl, hcp, hn, xs, hr, hes⟩ := ex_parts he
    refine enter cfN puN Tryz.func50 rfl rfl (by kernel_rfl) rfl ?_ ?_
    · simp only [go_sem, ↓imp_tf, ↓imp_ft, ↓reduceIte, Nd.cs]
    · simp only [go_sem, ↓imp_tf, ↓imp_ft, ↓reduceIte, Nd.cs]
      refine ⟨fun e0 => ⟨fun _ => ⟨by kernel_rfl, FnV_of ((FnH_den hV (fun V => rfl)).mono ?_)⟩, fun n => absurd e0 n⟩, fun n0 => ⟨fun e1 => ⟨fun _ => ⟨by kernel_rfl, FnV_of ((FnH_den hV (fun V => rfl)).mono ?_)⟩, fun n => absurd e1 n⟩, fun n1 => ⟨fun e2 => ⟨fun _ => ⟨by kernel_rfl, FnV_of ((FnH_den hV (fun V => rfl)).mono ?_)⟩, fun n => absurd e2 n⟩, fun n2 => ⟨fun e3 => ⟨by kernel_rfl, FnV_of ((FnH_den hV (fun V => rfl)).mono ?_)⟩, fun n3 => ?_⟩⟩⟩⟩
      · clear hV
        rintro r H' m2 hm2 ⟨hle2, rfl, rfl⟩
        simp only [go_sem, ↓imp_tf, ↓imp_ft, ↓reduceIte]
        refine ⟨hle2, ?_⟩
        simp [targetE, Ex.k, e0]
      · clear hV
        rintro r H' m2 hm2 ⟨hle2, rfl, rfl⟩
        simp only [go_sem, ↓imp_tf, ↓imp_ft, ↓reduceIte]
        refine ⟨hle2, ?_⟩
        simp [targetE, Ex.k, e1]
      · clear hV
        rintro r H' m2 hm2 ⟨hle2, rfl, rfl⟩
        simp only [go_sem, ↓imp_tf, ↓imp_ft, ↓reduceIte]
        refine ⟨hle2, ?_⟩
        simp [targetE, Ex.k, e2]
      · clear hV
        rintro r H' m2 hm2 ⟨hle2, rfl, rfl⟩
        simp only [go_sem, ↓imp_tf, ↓imp_ft, ↓reduceIte]
        refine ⟨hle2, ?_⟩
        simp [targetE, Ex.k, e3]
      · clear hV
        simp [targetE, Ex.k, n0, n1, n2, n3]
theorem call_spec (e : Ex) (cs : List Value) (m : Mem) (hg : Glob m) (he : exRep m e cs) : Ans 51 [.v (.agg ⟨cs⟩)] m (.bool (callE e)) := by
  have hV := valid_all _ e cs m (Nat.le_refl _) hg he
  cases e with
  | mk k n s c ty args =>
    obtain ⟨x, rfl, rfl, rfl, rfl, rfl, rfl, hl, hcp, hn, xs, hr, hes⟩ := ex_parts he
    refine enter cfN puN Tryz.func51 rfl rfl (by kernel_rfl) rfl ?_ ?_
    · simp only [go_sem, ↓imp_tf, ↓imp_ft, ↓reduceIte, Nd.cs]
    · simp only [go_sem, ↓imp_tf, ↓imp_ft, ↓reduceIte, Nd.cs]
      refine ⟨fun e0 => ⟨fun _ => ⟨by kernel_rfl, FnV_of ((FnH_den hV (fun V => rfl)).mono ?_)⟩, fun n => absurd e0 n⟩, fun n0 => ⟨fun e1 => ⟨fun _ => ⟨by kernel_rfl, FnV_of ((FnH_den hV (fun V => rfl)).mono ?_)⟩, fun n => absurd e1 n⟩, fun n1 => ⟨fun e2 => ⟨fun _ => ⟨by kernel_rfl, FnV_of ((FnH_den hV (fun V => rfl)).mono ?_)⟩, fun n => absurd e2 n⟩, fun n2 => ⟨fun e3 => ⟨by kernel_rfl, FnV_of ((FnH_den hV (fun V => rfl)).mono ?_)⟩, fun n3 => ?_⟩⟩⟩⟩
      · clear hV
        rintro r H' m2 hm2 ⟨hle2, rfl, rfl⟩
        simp only [go_sem, ↓imp_tf, ↓imp_ft, ↓reduceIte]
        refine ⟨hle2, ?_⟩
        simp [callE, Ex.k, e0]
      · clear hV
        rintro r H' m2 hm2 ⟨hle2, rfl, rfl⟩
        simp only [go_sem, ↓imp_tf, ↓imp_ft, ↓reduceIte]
        refine ⟨hle2, ?_⟩
        simp [callE, Ex.k, e1]
      · clear hV
        rintro r H' m2 hm2 ⟨hle2, rfl, rfl⟩
        simp only [go_sem, ↓imp_tf, ↓imp_ft, ↓reduceIte]
        refine ⟨hle2, ?_⟩
        simp [callE, Ex.k, e2]
      · clear hV
        rintro r H' m2 hm2 ⟨hle2, rfl, rfl⟩
        simp only [go_sem, ↓imp_tf, ↓imp_ft, ↓reduceIte]
        refine ⟨hle2, ?_⟩
        simp [callE, Ex.k, e3]
      · clear hV
        simp [callE, Ex.k, n0, n1, n2, n3]
/-- What is asked of a statement's cells. -/
theorem st_parts {m : Mem} {k : Int} {nm : List UInt8} {ty : Ty} {tg ex : Ex} {body alt : List St} {cs : List Value} (h : stRep m (.mk k nm ty tg ex body alt) cs) :
    ∃ x : Sd, cs = x.cs ∧ x.k = k ∧ x.name = nm ∧ x.ty = ty ∧ exRep m tg x.tg.cs ∧ exRep m ex x.ex.cs ∧ x.l = body.length ∧ x.l ≤ x.cp ∧ x.l2 = alt.length ∧ x.l2 ≤ x.cp2 ∧ StOk k nm ty body.length alt.length ∧ ∃ xs ys, Rds m x.a x.l 23 xs ∧ Rds m x.b x.l2 23 ys ∧ stsRep m body xs ∧ stsRep m alt ys := by
  simp only [stRep] at h
  obtain ⟨x, ⟨h1, h2, h3, h4⟩, h5, h6, ⟨h7, h8, h9, h10⟩, h11, xs, ys, h12, h13, h14, h15⟩ := h
  exact ⟨x, h1, h2, h3, h4, h5, h6, h7, h8, h9, h10, h11, xs, ys, h12, h13, h14, h15⟩
theorem block_spec (sup : Bool) (l : List St) (a : Option Addr) (n c : Nat) (xs : List Value) (m : Mem) (hl : n = l.length) (hr : Rds m a n 23 xs) (hs : stsRep m l xs) (hn : n ≤ big)
    (hV : ∀ e ∈ l, ∀ cs m', leM m m' → stRep m' e cs → Ans 21 [.v (.agg ⟨cs⟩)] m' (.bool (validS e))) :
    Ans 47 [.v (.slice a n c), .v (.bool sup)] m (.bool (decide (l.length ≤ 32) && validSs sup l)) := by
  refine enter cfN puN Tryz.func47 rfl rfl (by kernel_rfl) rfl ?_ ?_
  · simp only [go_sem, ↓imp_tf, ↓imp_ft, ↓reduceIte]
  · simp only [go_sem, ↓imp_tf, ↓imp_ft, ↓reduceIte]
    refine ⟨fun h => ?_, fun h => ?_⟩
    · rw [decide_eq_false (by clear hV; omega)]; rfl
    · have hE : (decide (l.length ≤ 32) && validSs sup l) = validSs sup l := by rw [decide_eq_true (by clear hV; omega)]; rfl
      rw [hE]
      clear hE
      refine WP_loop puN (fun x : Nat × Mem => ⟨[⟨1, [], .v (.bool sup)⟩, ⟨10, [], .v (.slice a n c)⟩, ⟨11, [], .v (.int .i64 n)⟩, ⟨12, [], .v (.int .i64 x.1)⟩], [], [], [], 0, x.2⟩)
        (fun x => leM m x.2 ∧ x.1 ≤ n ∧ validSs sup (l.take x.1) = true) (fun x => n - x.1) (0, m) (by kernel_rfl) (fun _ _ => Nat.le_refl _) (fun x hx => hx.1) (fun _ => ?_) ?_ ?_ ?_
      · simp only [go_sem, ↓imp_tf, ↓imp_ft, ↓reduceIte]
      · simp only [go_sem, ↓imp_tf, ↓imp_ft, ↓reduceIte]
        rfl
      · exact ⟨.inl rfl, Nat.zero_le _, by simp [validSs]⟩
      · rintro ⟨k, mm⟩ ⟨h1, h2, h3⟩
        simp only at h1 h2 h3
        have hy : ∀ (hk : k < l.length), ∃ X : Sd, (Rd mm (ptrAt a (k * 23)) X.cs ∧ a ≠ none) ∧ X.k = l[k].k ∧ Ans 21 [.v (.agg ⟨X.cs⟩)] mm (.bool (validS l[k])) := fun hk => by
          have hrep := stRep_upM h1 (sts_at hs hk)
          have hkx : ∃ X : Sd, (xs.drop (k * 23)).take 23 = X.cs ∧ X.k = l[k].k := by
            cases hlk : l[k] with
            | mk k' nm ty tg ex body alt =>
              rw [hlk] at hrep
              obtain ⟨X, e1, e2, _⟩ := st_parts hrep
              exact ⟨X, e1, e2⟩
          obtain ⟨X, e1, e2⟩ := hkx
          have r1 := Rds_cells (Rds_upM h1 hr) (by omega : k < n)
          rw [e1] at r1 hrep
          exact ⟨X, r1, e2, hV _ (List.getElem_mem hk) _ _ h1 hrep⟩
        clear hV
        simp only [go_sem, ↓imp_tf, ↓imp_ft, ↓reduceIte]
        refine ⟨fun hlt => ?_, fun hge => ⟨h1, ?_⟩⟩
        · have hk : k < l.length := by clear hy; omega
          refine Exists.elim (hy hk) fun X hy' => ⟨⟨by clear hy hy'; omega, hlt, hy'.1.2⟩, X.cs, ⟨hy'.1.1, rfl⟩, ?_⟩
          clear hy
          have hkk := hy'.2.1
          have ha := hy'.2.2
          clear hy'
          simp only [go_sem, ↓imp_tf, ↓imp_ft, ↓reduceIte, Sd.cs, Nd.cs]
          refine ⟨fun hc => ⟨by kernel_rfl, FnV_of ((FnH_den ha (fun V => rfl)).mono ?_)⟩, fun hc => ⟨h1, ?_⟩⟩
          · clear ha
            have hb : blk1 sup k l[k] = validS l[k] := by
              rw [hkk] at hc
              rcases hc with hc | hc
              · simp [blk1, hc]
              · have : k = 0 := by omega
                simp [blk1, hc.1, this]
            rintro r H' m2 hm2 ⟨hle2, rfl, rfl⟩
            simp only [go_sem, ↓imp_tf, ↓imp_ft, ↓reduceIte]
            refine ⟨fun hv => ⟨leM_tr h1 hle2, ?_⟩, fun hv => ⟨by unfold I64; simp only [big] at hn; omega, (k + 1, m2), ⟨by simp, .inl rfl⟩, ⟨leM_tr h1 hle2, by simp only; omega, ?_⟩, by simp only; omega⟩⟩
            · rw [validSs_no hk (by rw [hb]; exact hv)]
            · simp only
              rw [validSs_take hk, h3, hb, hv]
              rfl
          · clear ha
            rw [hkk] at hc
            rw [validSs_no hk]
            rcases hc.2 with h0 | h0
            · simp [blk1, hc.1, h0]
            · have : ¬ k = 0 := by omega
              simp [blk1, hc.1, this]
        · have : k = n := by clear hy; omega
          rw [List.take_of_length_le (by clear hy; omega)] at h3
          rw [h3]
end Go.Proofs.YtalalcpefggniaaGreatDoor.E

namespace Go.Proofs.YtalalcpefggniaaGreatDoor.E
open Go

def zNd : Nd := ⟨0, 0, [], [], zTy, none, 0, 0⟩
theorem Rds_nil {m : Mem} {sz : Nat} : Rds m none 0 sz [] := ⟨by simp, fun h => absurd h (Nat.lt_irrefl _)⟩
theorem z_ok : TyOk zTy := ⟨by unfold I64; decide, by decide, by decide⟩
theorem z_rep {m : Mem} : exRep m zE zNd.cs := by
  simp only [zE, exRep]
  exact ⟨none, 0, [], rfl, Nat.le_refl _, Rds_nil, ⟨by unfold I64; decide, by unfold I64; decide, by decide, by decide, z_ok, by decide⟩, by simp only [exsRep]⟩
theorem st_mk {m : Mem} (U : Sd) {tg ex : Ex} {body alt : List St} {xs ys : List Value} (htg : exRep m tg U.tg.cs) (hex : exRep m ex U.ex.cs) (hl : U.l = body.length) (hcp : U.l ≤ U.cp) (hl2 : U.l2 = alt.length) (hcp2 : U.l2 ≤ U.cp2) (hok : StOk U.k U.name U.ty body.length alt.length)
    (r1 : Rds m U.a U.l 23 xs) (r2 : Rds m U.b U.l2 23 ys) (s1 : stsRep m body xs) (s2 : stsRep m alt ys) : stRep m (.mk U.k U.name U.ty tg ex body alt) U.cs := by
  simp only [stRep]
  exact ⟨U, ⟨rfl, rfl, rfl, rfl⟩, htg, hex, ⟨hl, hcp, hl2, hcp2⟩, hok, xs, ys, r1, r2, s1, s2⟩
theorem nd_inj {x y : Nd} (h : x.cs = y.cs) : x = y := by
  obtain ⟨k, n, s, c, ⟨d, b, nm⟩, a, l, cp⟩ := x
  obtain ⟨k', n', s', c', ⟨d', b', nm'⟩, a', l', cp'⟩ := y
  simp only [Nd.cs, List.cons.injEq, Value.int.injEq, Value.string.injEq, Value.slice.injEq, and_true, true_and] at h
  obtain ⟨h1, h2, h3, h4, h5, h6, h7, h8, h9, h10⟩ := h
  rw [h1, h2, bs_inj h3, bs_inj h4, h5, h6, bs_inj h7, h8, h9, h10]
theorem empty_of {m : Mem} {e : Ex} {x : Nd} (h : exRep m e x.cs) (m' : Mem) : Ans 52 [.v (.agg ⟨x.cs⟩)] m' (.bool (emptyE e)) := by
  cases e with
  | mk k n s c ty args =>
    obtain ⟨y, hy, h1, h2, h3, h4, h5, h6, _⟩ := ex_parts h
    have := empty_spec x m'
    rw [nd_inj hy] at this ⊢
    rw [h1, h2, h3, h4, h5, h6] at this
    exact this
theorem sts_nil {m : Mem} : stsRep m [] [] := by simp only [stsRep]

theorem vst1 (nm : List UInt8) (ty : Ty) (tN eN : Nd) (a : Option Addr) (l cp : Nat) (b : Option Addr) (l2 cp2 : Nat) (tg ex : Ex) (body alt : List St) (xs ys : List Value) (m : Mem) (hg : Glob m)
    (htg : exRep m tg tN.cs) (hex : exRep m ex eN.cs) (hl : l = body.length) (hcp : l ≤ cp) (hl2 : l2 = alt.length) (hcp2 : l2 ≤ cp2) (hok : StOk 1 nm ty body.length alt.length) (r1 : Rds m a l 23 xs) (r2 : Rds m b l2 23 ys) (s1 : stsRep m body xs) (s2 : stsRep m alt ys) (B1 B2 B V : Bool)
    (hB : ∀ m', leM m m' → Ans 47 [.v (.slice a l cp), .v (.bool false)] m' (.bool B1)) (hA : ∀ m', leM m m' → Ans 47 [.v (.slice b l2 cp2), .v (.bool false)] m' (.bool B2)) (hBB : B = (B1 && B2))
    (e0 : V = ((identL nm && valueTy ty.dim ty.base ty.name && validE ex) && eqS (St.mk 1 nm ty tg ex body alt) (St.mk 1 nm ty zE ex [] []))) : Ans 21 [.v (.agg ⟨Sd.cs ⟨1, nm, ty, tN, eN, a, l, cp, b, l2, cp2⟩⟩)] m (.bool V) := by
  have hQ : ∀ m', leM m m' → Ans 54 [.v (.agg ⟨Sd.cs ⟨1, nm, ty, tN, eN, a, l, cp, b, l2, cp2⟩⟩), .v (.agg ⟨Sd.cs ⟨1, nm, ty, zNd, eN, none, 0, 0, none, 0, 0⟩⟩)] m' (.bool (eqS (St.mk 1 nm ty tg ex body alt) (St.mk 1 nm ty zE ex [] []))) := fun m' hle =>
    eqS_all _ _ _ _ _ m' (Nat.le_refl _) (st_mk (m := m') (⟨1, nm, ty, tN, eN, a, l, cp, b, l2, cp2⟩ : Sd) (exRep_upM hle htg) (exRep_upM hle hex) hl hcp hl2 hcp2 hok (Rds_upM hle r1) (Rds_upM hle r2) (stsRep_upM hle s1) (stsRep_upM hle s2))
      (st_mk (m := m') (⟨1, nm, ty, zNd, eN, none, 0, 0, none, 0, 0⟩ : Sd) z_rep (exRep_upM hle hex) rfl (Nat.le_refl _) rfl (Nat.le_refl _) ⟨hok.k, hok.nm, hok.ty, Nat.zero_le _, Nat.zero_le _⟩ Rds_nil Rds_nil sts_nil sts_nil )
  have hBL1 : BL nm := Nat.le_trans hok.nm (by decide)
  have hBL2 : BL ty.name := Nat.le_trans hok.ty.2.2 (by decide)
  have hX := fun m' (hle : leM m m') => valid_all _ ex eN.cs m' (Nat.le_refl _) (hg.upM hle) (exRep_upM hle hex)
  clear s1 s2 r1 r2
  refine enter cfV puV Tryz.func21 rfl rfl (by kernel_rfl) rfl ?_ ?_
  · simp only [go_sem, ↓imp_tf, ↓imp_ft, ↓reduceIte, Sd.cs, Nd.cs, zNd, zTy, Int.reduceEq, decide_true, decide_false]
  · simp only [go_sem, ↓imp_tf, ↓imp_ft, ↓reduceIte, Sd.cs, Nd.cs, zNd, zTy, Int.reduceEq, decide_true, decide_false]
    refine ⟨by kernel_rfl, FnV_of ((hB m (.inl rfl)).mono ?_)⟩
    clear hB
    rintro r H' m1 hm1 ⟨l1, rfl, rfl⟩
    simp only [go_sem, ↓imp_tf, ↓imp_ft, ↓reduceIte, Sd.cs, Nd.cs, zNd, zTy, Int.reduceEq, decide_true, decide_false]
    refine ⟨fun b1 => ⟨by kernel_rfl, FnV_of ((hA m1 l1).mono ?_)⟩, fun b1 => ?_⟩
    · clear hA
      rintro r H' m2 hm2 ⟨l2', rfl, rfl⟩
      have lm2 := leM_tr l1 l2'
      simp only [go_sem, ↓imp_tf, ↓imp_ft, ↓reduceIte, Sd.cs, Nd.cs, zNd, zTy, Int.reduceEq, decide_true, decide_false]
      refine ⟨hBL1, fun _ => hBL2, fun c => ?_, fun c => ?_⟩
      · refine ⟨by kernel_rfl, FnV_of ((FnH_den (hX m2 lm2) (fun V => rfl)).mono ?_)⟩
        clear hX
        rintro r H' w1 hw1 ⟨lw1, rfl, rfl⟩
        simp only [go_sem, ↓imp_tf, ↓imp_ft, ↓reduceIte, Sd.cs, Nd.cs, zNd, zTy, Int.reduceEq, decide_true, decide_false]
        refine ⟨fun c1 => ?_, fun c1 => ?_⟩
        · refine ⟨by kernel_rfl, FnV_of ((FnH_den (hQ w1 (leM_tr lm2 lw1)) (fun V => rfl)).mono ?_)⟩
          clear hQ
          rintro r H' w2 hw2 ⟨lw2, rfl, rfl⟩
          simp only [go_sem, ↓imp_tf, ↓imp_ft, ↓reduceIte, Sd.cs, Nd.cs, zNd, zTy, Int.reduceEq, decide_true, decide_false]
          refine ⟨leM_tr (leM_tr lm2 lw1) lw2, ?_⟩
          rw [e0, c.1, c.2, c1]
          rfl
        · refine ⟨(leM_tr lm2 lw1), ?_⟩
          rw [e0, c.1, c.2, c1]
          rfl
      · refine ⟨lm2, ?_⟩
        rw [e0]
        rcases c with c | c <;> simp [c]
    · clear hA
      refine ⟨hBL1, fun _ => hBL2, fun c => ?_, fun c => ?_⟩
      · refine ⟨by kernel_rfl, FnV_of ((FnH_den (hX m1 l1) (fun V => rfl)).mono ?_)⟩
        clear hX
        rintro r H' w3 hw3 ⟨lw3, rfl, rfl⟩
        simp only [go_sem, ↓imp_tf, ↓imp_ft, ↓reduceIte, Sd.cs, Nd.cs, zNd, zTy, Int.reduceEq, decide_true, decide_false]
        refine ⟨fun c3 => ?_, fun c3 => ?_⟩
        · refine ⟨by kernel_rfl, FnV_of ((FnH_den (hQ w3 (leM_tr l1 lw3)) (fun V => rfl)).mono ?_)⟩
          clear hQ
          rintro r H' w4 hw4 ⟨lw4, rfl, rfl⟩
          simp only [go_sem, ↓imp_tf, ↓imp_ft, ↓reduceIte, Sd.cs, Nd.cs, zNd, zTy, Int.reduceEq, decide_true, decide_false]
          refine ⟨leM_tr (leM_tr l1 lw3) lw4, ?_⟩
          rw [e0, c.1, c.2, c3]
          rfl
        · refine ⟨(leM_tr l1 lw3), ?_⟩
          rw [e0, c.1, c.2, c3]
          rfl
      · refine ⟨l1, ?_⟩
        rw [e0]
        rcases c with c | c <;> simp [c]

theorem vst2 (nm : List UInt8) (ty : Ty) (tN eN : Nd) (a : Option Addr) (l cp : Nat) (b : Option Addr) (l2 cp2 : Nat) (tg ex : Ex) (body alt : List St) (xs ys : List Value) (m : Mem) (hg : Glob m)
    (htg : exRep m tg tN.cs) (hex : exRep m ex eN.cs) (hl : l = body.length) (hcp : l ≤ cp) (hl2 : l2 = alt.length) (hcp2 : l2 ≤ cp2) (hok : StOk 2 nm ty body.length alt.length) (r1 : Rds m a l 23 xs) (r2 : Rds m b l2 23 ys) (s1 : stsRep m body xs) (s2 : stsRep m alt ys) (B1 B2 B V : Bool)
    (hB : ∀ m', leM m m' → Ans 47 [.v (.slice a l cp), .v (.bool false)] m' (.bool B1)) (hA : ∀ m', leM m m' → Ans 47 [.v (.slice b l2 cp2), .v (.bool false)] m' (.bool B2)) (hBB : B = (B1 && B2))
    (e0 : V = ((targetE tg && validE ex) && eqS (St.mk 2 nm ty tg ex body alt) (St.mk 2 [] zTy tg ex [] []))) : Ans 21 [.v (.agg ⟨Sd.cs ⟨2, nm, ty, tN, eN, a, l, cp, b, l2, cp2⟩⟩)] m (.bool V) := by
  have hQ : ∀ m', leM m m' → Ans 54 [.v (.agg ⟨Sd.cs ⟨2, nm, ty, tN, eN, a, l, cp, b, l2, cp2⟩⟩), .v (.agg ⟨Sd.cs ⟨2, [], zTy, tN, eN, none, 0, 0, none, 0, 0⟩⟩)] m' (.bool (eqS (St.mk 2 nm ty tg ex body alt) (St.mk 2 [] zTy tg ex [] []))) := fun m' hle =>
    eqS_all _ _ _ _ _ m' (Nat.le_refl _) (st_mk (m := m') (⟨2, nm, ty, tN, eN, a, l, cp, b, l2, cp2⟩ : Sd) (exRep_upM hle htg) (exRep_upM hle hex) hl hcp hl2 hcp2 hok (Rds_upM hle r1) (Rds_upM hle r2) (stsRep_upM hle s1) (stsRep_upM hle s2))
      (st_mk (m := m') (⟨2, [], zTy, tN, eN, none, 0, 0, none, 0, 0⟩ : Sd) (exRep_upM hle htg) (exRep_upM hle hex) rfl (Nat.le_refl _) rfl (Nat.le_refl _) ⟨hok.k, Nat.zero_le _, z_ok, Nat.zero_le _, Nat.zero_le _⟩ Rds_nil Rds_nil sts_nil sts_nil )
  have hX := fun m' (hle : leM m m') => valid_all _ ex eN.cs m' (Nat.le_refl _) (hg.upM hle) (exRep_upM hle hex)
  have hT := fun m' (hle : leM m m') => target_spec tg tN.cs m' (hg.upM hle) (exRep_upM hle htg)
  clear s1 s2 r1 r2
  refine enter cfV puV Tryz.func21 rfl rfl (by kernel_rfl) rfl ?_ ?_
  · simp only [go_sem, ↓imp_tf, ↓imp_ft, ↓reduceIte, Sd.cs, Nd.cs, zNd, zTy, Int.reduceEq, decide_true, decide_false]
  · simp only [go_sem, ↓imp_tf, ↓imp_ft, ↓reduceIte, Sd.cs, Nd.cs, zNd, zTy, Int.reduceEq, decide_true, decide_false]
    refine ⟨by kernel_rfl, FnV_of ((hB m (.inl rfl)).mono ?_)⟩
    clear hB
    rintro r H' m1 hm1 ⟨l1, rfl, rfl⟩
    simp only [go_sem, ↓imp_tf, ↓imp_ft, ↓reduceIte, Sd.cs, Nd.cs, zNd, zTy, Int.reduceEq, decide_true, decide_false]
    refine ⟨fun b1 => ⟨by kernel_rfl, FnV_of ((hA m1 l1).mono ?_)⟩, fun b1 => ?_⟩
    · clear hA
      rintro r H' m2 hm2 ⟨l2', rfl, rfl⟩
      have lm2 := leM_tr l1 l2'
      simp only [go_sem, ↓imp_tf, ↓imp_ft, ↓reduceIte, Sd.cs, Nd.cs, zNd, zTy, Int.reduceEq, decide_true, decide_false]
      refine ⟨by kernel_rfl, FnV_of ((FnH_den (hT m2 lm2) (fun V => rfl)).mono ?_)⟩
      clear hT
      rintro r H' w1 hw1 ⟨lw1, rfl, rfl⟩
      simp only [go_sem, ↓imp_tf, ↓imp_ft, ↓reduceIte, Sd.cs, Nd.cs, zNd, zTy, Int.reduceEq, decide_true, decide_false]
      refine ⟨fun c => ?_, fun c => ?_⟩
      · refine ⟨by kernel_rfl, FnV_of ((FnH_den (hX w1 (leM_tr lm2 lw1)) (fun V => rfl)).mono ?_)⟩
        clear hX
        rintro r H' w2 hw2 ⟨lw2, rfl, rfl⟩
        simp only [go_sem, ↓imp_tf, ↓imp_ft, ↓reduceIte, Sd.cs, Nd.cs, zNd, zTy, Int.reduceEq, decide_true, decide_false]
        refine ⟨fun c2 => ?_, fun c2 => ?_⟩
        · refine ⟨by kernel_rfl, FnV_of ((FnH_den (hQ w2 (leM_tr (leM_tr lm2 lw1) lw2)) (fun V => rfl)).mono ?_)⟩
          clear hQ
          rintro r H' w3 hw3 ⟨lw3, rfl, rfl⟩
          simp only [go_sem, ↓imp_tf, ↓imp_ft, ↓reduceIte, Sd.cs, Nd.cs, zNd, zTy, Int.reduceEq, decide_true, decide_false]
          refine ⟨leM_tr (leM_tr (leM_tr lm2 lw1) lw2) lw3, ?_⟩
          rw [e0, c, c2]
          rfl
        · refine ⟨(leM_tr (leM_tr lm2 lw1) lw2), ?_⟩
          rw [e0, c, c2]
          rfl
      · refine ⟨(leM_tr lm2 lw1), ?_⟩
        rw [e0, c]
        rfl
    · clear hA
      refine ⟨by kernel_rfl, FnV_of ((FnH_den (hT m1 l1) (fun V => rfl)).mono ?_)⟩
      clear hT
      rintro r H' w4 hw4 ⟨lw4, rfl, rfl⟩
      simp only [go_sem, ↓imp_tf, ↓imp_ft, ↓reduceIte, Sd.cs, Nd.cs, zNd, zTy, Int.reduceEq, decide_true, decide_false]
      refine ⟨fun c => ?_, fun c => ?_⟩
      · refine ⟨by kernel_rfl, FnV_of ((FnH_den (hX w4 (leM_tr l1 lw4)) (fun V => rfl)).mono ?_)⟩
        clear hX
        rintro r H' w5 hw5 ⟨lw5, rfl, rfl⟩
        simp only [go_sem, ↓imp_tf, ↓imp_ft, ↓reduceIte, Sd.cs, Nd.cs, zNd, zTy, Int.reduceEq, decide_true, decide_false]
        refine ⟨fun c5 => ?_, fun c5 => ?_⟩
        · refine ⟨by kernel_rfl, FnV_of ((FnH_den (hQ w5 (leM_tr (leM_tr l1 lw4) lw5)) (fun V => rfl)).mono ?_)⟩
          clear hQ
          rintro r H' w6 hw6 ⟨lw6, rfl, rfl⟩
          simp only [go_sem, ↓imp_tf, ↓imp_ft, ↓reduceIte, Sd.cs, Nd.cs, zNd, zTy, Int.reduceEq, decide_true, decide_false]
          refine ⟨leM_tr (leM_tr (leM_tr l1 lw4) lw5) lw6, ?_⟩
          rw [e0, c, c5]
          rfl
        · refine ⟨(leM_tr (leM_tr l1 lw4) lw5), ?_⟩
          rw [e0, c, c5]
          rfl
      · refine ⟨(leM_tr l1 lw4), ?_⟩
        rw [e0, c]
        rfl

theorem vst3 (nm : List UInt8) (ty : Ty) (tN eN : Nd) (a : Option Addr) (l cp : Nat) (b : Option Addr) (l2 cp2 : Nat) (tg ex : Ex) (body alt : List St) (xs ys : List Value) (m : Mem) (hg : Glob m)
    (htg : exRep m tg tN.cs) (hex : exRep m ex eN.cs) (hl : l = body.length) (hcp : l ≤ cp) (hl2 : l2 = alt.length) (hcp2 : l2 ≤ cp2) (hok : StOk 3 nm ty body.length alt.length) (r1 : Rds m a l 23 xs) (r2 : Rds m b l2 23 ys) (s1 : stsRep m body xs) (s2 : stsRep m alt ys) (B1 B2 B V : Bool)
    (hB : ∀ m', leM m m' → Ans 47 [.v (.slice a l cp), .v (.bool false)] m' (.bool B1)) (hA : ∀ m', leM m m' → Ans 47 [.v (.slice b l2 cp2), .v (.bool false)] m' (.bool B2)) (hBB : B = (B1 && B2))
    (e0 : V = (callE ex && eqS (St.mk 3 nm ty tg ex body alt) (St.mk 3 [] zTy zE ex [] []))) : Ans 21 [.v (.agg ⟨Sd.cs ⟨3, nm, ty, tN, eN, a, l, cp, b, l2, cp2⟩⟩)] m (.bool V) := by
  have hQ : ∀ m', leM m m' → Ans 54 [.v (.agg ⟨Sd.cs ⟨3, nm, ty, tN, eN, a, l, cp, b, l2, cp2⟩⟩), .v (.agg ⟨Sd.cs ⟨3, [], zTy, zNd, eN, none, 0, 0, none, 0, 0⟩⟩)] m' (.bool (eqS (St.mk 3 nm ty tg ex body alt) (St.mk 3 [] zTy zE ex [] []))) := fun m' hle =>
    eqS_all _ _ _ _ _ m' (Nat.le_refl _) (st_mk (m := m') (⟨3, nm, ty, tN, eN, a, l, cp, b, l2, cp2⟩ : Sd) (exRep_upM hle htg) (exRep_upM hle hex) hl hcp hl2 hcp2 hok (Rds_upM hle r1) (Rds_upM hle r2) (stsRep_upM hle s1) (stsRep_upM hle s2))
      (st_mk (m := m') (⟨3, [], zTy, zNd, eN, none, 0, 0, none, 0, 0⟩ : Sd) z_rep (exRep_upM hle hex) rfl (Nat.le_refl _) rfl (Nat.le_refl _) ⟨hok.k, Nat.zero_le _, z_ok, Nat.zero_le _, Nat.zero_le _⟩ Rds_nil Rds_nil sts_nil sts_nil )
  have hX := fun m' (hle : leM m m') => call_spec ex eN.cs m' (hg.upM hle) (exRep_upM hle hex)
  clear s1 s2 r1 r2
  refine enter cfV puV Tryz.func21 rfl rfl (by kernel_rfl) rfl ?_ ?_
  · simp only [go_sem, ↓imp_tf, ↓imp_ft, ↓reduceIte, Sd.cs, Nd.cs, zNd, zTy, Int.reduceEq, decide_true, decide_false]
  · simp only [go_sem, ↓imp_tf, ↓imp_ft, ↓reduceIte, Sd.cs, Nd.cs, zNd, zTy, Int.reduceEq, decide_true, decide_false]
    refine ⟨by kernel_rfl, FnV_of ((hB m (.inl rfl)).mono ?_)⟩
    clear hB
    rintro r H' m1 hm1 ⟨l1, rfl, rfl⟩
    simp only [go_sem, ↓imp_tf, ↓imp_ft, ↓reduceIte, Sd.cs, Nd.cs, zNd, zTy, Int.reduceEq, decide_true, decide_false]
    refine ⟨fun b1 => ⟨by kernel_rfl, FnV_of ((hA m1 l1).mono ?_)⟩, fun b1 => ?_⟩
    · clear hA
      rintro r H' m2 hm2 ⟨l2', rfl, rfl⟩
      have lm2 := leM_tr l1 l2'
      simp only [go_sem, ↓imp_tf, ↓imp_ft, ↓reduceIte, Sd.cs, Nd.cs, zNd, zTy, Int.reduceEq, decide_true, decide_false]
      refine ⟨by kernel_rfl, FnV_of ((FnH_den (hX m2 lm2) (fun V => rfl)).mono ?_)⟩
      clear hX
      rintro r H' w1 hw1 ⟨lw1, rfl, rfl⟩
      simp only [go_sem, ↓imp_tf, ↓imp_ft, ↓reduceIte, Sd.cs, Nd.cs, zNd, zTy, Int.reduceEq, decide_true, decide_false]
      refine ⟨fun c1 => ?_, fun c1 => ?_⟩
      · refine ⟨by kernel_rfl, FnV_of ((FnH_den (hQ w1 (leM_tr lm2 lw1)) (fun V => rfl)).mono ?_)⟩
        clear hQ
        rintro r H' w2 hw2 ⟨lw2, rfl, rfl⟩
        simp only [go_sem, ↓imp_tf, ↓imp_ft, ↓reduceIte, Sd.cs, Nd.cs, zNd, zTy, Int.reduceEq, decide_true, decide_false]
        refine ⟨leM_tr (leM_tr lm2 lw1) lw2, ?_⟩
        rw [e0, c1]
        rfl
      · refine ⟨(leM_tr lm2 lw1), ?_⟩
        rw [e0, c1]
        rfl
    · clear hA
      refine ⟨by kernel_rfl, FnV_of ((FnH_den (hX m1 l1) (fun V => rfl)).mono ?_)⟩
      clear hX
      rintro r H' w3 hw3 ⟨lw3, rfl, rfl⟩
      simp only [go_sem, ↓imp_tf, ↓imp_ft, ↓reduceIte, Sd.cs, Nd.cs, zNd, zTy, Int.reduceEq, decide_true, decide_false]
      refine ⟨fun c3 => ?_, fun c3 => ?_⟩
      · refine ⟨by kernel_rfl, FnV_of ((FnH_den (hQ w3 (leM_tr l1 lw3)) (fun V => rfl)).mono ?_)⟩
        clear hQ
        rintro r H' w4 hw4 ⟨lw4, rfl, rfl⟩
        simp only [go_sem, ↓imp_tf, ↓imp_ft, ↓reduceIte, Sd.cs, Nd.cs, zNd, zTy, Int.reduceEq, decide_true, decide_false]
        refine ⟨leM_tr (leM_tr l1 lw3) lw4, ?_⟩
        rw [e0, c3]
        rfl
      · refine ⟨(leM_tr l1 lw3), ?_⟩
        rw [e0, c3]
        rfl

theorem vst4 (nm : List UInt8) (ty : Ty) (tN eN : Nd) (a : Option Addr) (l cp : Nat) (b : Option Addr) (l2 cp2 : Nat) (tg ex : Ex) (body alt : List St) (xs ys : List Value) (m : Mem) (hg : Glob m)
    (htg : exRep m tg tN.cs) (hex : exRep m ex eN.cs) (hl : l = body.length) (hcp : l ≤ cp) (hl2 : l2 = alt.length) (hcp2 : l2 ≤ cp2) (hok : StOk 4 nm ty body.length alt.length) (r1 : Rds m a l 23 xs) (r2 : Rds m b l2 23 ys) (s1 : stsRep m body xs) (s2 : stsRep m alt ys) (B1 B2 B V : Bool)
    (hB : ∀ m', leM m m' → Ans 47 [.v (.slice a l cp), .v (.bool false)] m' (.bool B1)) (hA : ∀ m', leM m m' → Ans 47 [.v (.slice b l2 cp2), .v (.bool false)] m' (.bool B2)) (hBB : B = (B1 && B2))
    (e0 : V = ((B && validE ex) && eqS (St.mk 4 nm ty tg ex body alt) (St.mk 4 [] zTy zE ex body alt))) : Ans 21 [.v (.agg ⟨Sd.cs ⟨4, nm, ty, tN, eN, a, l, cp, b, l2, cp2⟩⟩)] m (.bool V) := by
  have hQ : ∀ m', leM m m' → Ans 54 [.v (.agg ⟨Sd.cs ⟨4, nm, ty, tN, eN, a, l, cp, b, l2, cp2⟩⟩), .v (.agg ⟨Sd.cs ⟨4, [], zTy, zNd, eN, a, l, cp, b, l2, cp2⟩⟩)] m' (.bool (eqS (St.mk 4 nm ty tg ex body alt) (St.mk 4 [] zTy zE ex body alt))) := fun m' hle =>
    eqS_all _ _ _ _ _ m' (Nat.le_refl _) (st_mk (m := m') (⟨4, nm, ty, tN, eN, a, l, cp, b, l2, cp2⟩ : Sd) (exRep_upM hle htg) (exRep_upM hle hex) hl hcp hl2 hcp2 hok (Rds_upM hle r1) (Rds_upM hle r2) (stsRep_upM hle s1) (stsRep_upM hle s2))
      (st_mk (m := m') (⟨4, [], zTy, zNd, eN, a, l, cp, b, l2, cp2⟩ : Sd) z_rep (exRep_upM hle hex) hl hcp hl2 hcp2 ⟨hok.k, Nat.zero_le _, z_ok, hok.l, hok.l2⟩ (Rds_upM hle r1) (Rds_upM hle r2) (stsRep_upM hle s1) (stsRep_upM hle s2) )
  have hX := fun m' (hle : leM m m') => valid_all _ ex eN.cs m' (Nat.le_refl _) (hg.upM hle) (exRep_upM hle hex)
  clear s1 s2 r1 r2
  refine enter cfV puV Tryz.func21 rfl rfl (by kernel_rfl) rfl ?_ ?_
  · simp only [go_sem, ↓imp_tf, ↓imp_ft, ↓reduceIte, Sd.cs, Nd.cs, zNd, zTy, Int.reduceEq, decide_true, decide_false]
  · simp only [go_sem, ↓imp_tf, ↓imp_ft, ↓reduceIte, Sd.cs, Nd.cs, zNd, zTy, Int.reduceEq, decide_true, decide_false]
    refine ⟨by kernel_rfl, FnV_of ((hB m (.inl rfl)).mono ?_)⟩
    clear hB
    rintro r H' m1 hm1 ⟨l1, rfl, rfl⟩
    simp only [go_sem, ↓imp_tf, ↓imp_ft, ↓reduceIte, Sd.cs, Nd.cs, zNd, zTy, Int.reduceEq, decide_true, decide_false]
    refine ⟨fun b1 => ⟨by kernel_rfl, FnV_of ((hA m1 l1).mono ?_)⟩, fun b1 => ?_⟩
    · clear hA
      rintro r H' m2 hm2 ⟨l2', rfl, rfl⟩
      have lm2 := leM_tr l1 l2'
      simp only [go_sem, ↓imp_tf, ↓imp_ft, ↓reduceIte, Sd.cs, Nd.cs, zNd, zTy, Int.reduceEq, decide_true, decide_false]
      refine ⟨fun b2 => ?_, fun b2 => ?_⟩
      · refine ⟨by kernel_rfl, FnV_of ((FnH_den (hX m2 lm2) (fun V => rfl)).mono ?_)⟩
        clear hX
        rintro r H' w1 hw1 ⟨lw1, rfl, rfl⟩
        simp only [go_sem, ↓imp_tf, ↓imp_ft, ↓reduceIte, Sd.cs, Nd.cs, zNd, zTy, Int.reduceEq, decide_true, decide_false]
        refine ⟨fun c1 => ?_, fun c1 => ?_⟩
        · refine ⟨by kernel_rfl, FnV_of ((FnH_den (hQ w1 (leM_tr lm2 lw1)) (fun V => rfl)).mono ?_)⟩
          clear hQ
          rintro r H' w2 hw2 ⟨lw2, rfl, rfl⟩
          simp only [go_sem, ↓imp_tf, ↓imp_ft, ↓reduceIte, Sd.cs, Nd.cs, zNd, zTy, Int.reduceEq, decide_true, decide_false]
          refine ⟨leM_tr (leM_tr lm2 lw1) lw2, ?_⟩
          rw [e0, hBB, b1, b2, c1]
          rfl
        · refine ⟨(leM_tr lm2 lw1), ?_⟩
          rw [e0, hBB, b1, b2, c1]
          rfl
      · refine ⟨lm2, ?_⟩
        rw [e0, hBB, b1, b2]
        rfl
    · clear hA
      refine ⟨l1, ?_⟩
      rw [e0, hBB, b1]
      rfl

theorem vst5 (nm : List UInt8) (ty : Ty) (tN eN : Nd) (a : Option Addr) (l cp : Nat) (b : Option Addr) (l2 cp2 : Nat) (tg ex : Ex) (body alt : List St) (xs ys : List Value) (m : Mem) (hg : Glob m)
    (htg : exRep m tg tN.cs) (hex : exRep m ex eN.cs) (hl : l = body.length) (hcp : l ≤ cp) (hl2 : l2 = alt.length) (hcp2 : l2 ≤ cp2) (hok : StOk 5 nm ty body.length alt.length) (r1 : Rds m a l 23 xs) (r2 : Rds m b l2 23 ys) (s1 : stsRep m body xs) (s2 : stsRep m alt ys) (B1 B2 B V : Bool)
    (hB : ∀ m', leM m m' → Ans 47 [.v (.slice a l cp), .v (.bool false)] m' (.bool B1)) (hA : ∀ m', leM m m' → Ans 47 [.v (.slice b l2 cp2), .v (.bool false)] m' (.bool B2)) (hBB : B = (B1 && B2))
    (e0 : V = ((B && validE ex) && eqS (St.mk 5 nm ty tg ex body alt) (St.mk 5 [] zTy zE ex body []))) : Ans 21 [.v (.agg ⟨Sd.cs ⟨5, nm, ty, tN, eN, a, l, cp, b, l2, cp2⟩⟩)] m (.bool V) := by
  have hQ : ∀ m', leM m m' → Ans 54 [.v (.agg ⟨Sd.cs ⟨5, nm, ty, tN, eN, a, l, cp, b, l2, cp2⟩⟩), .v (.agg ⟨Sd.cs ⟨5, [], zTy, zNd, eN, a, l, cp, none, 0, 0⟩⟩)] m' (.bool (eqS (St.mk 5 nm ty tg ex body alt) (St.mk 5 [] zTy zE ex body []))) := fun m' hle =>
    eqS_all _ _ _ _ _ m' (Nat.le_refl _) (st_mk (m := m') (⟨5, nm, ty, tN, eN, a, l, cp, b, l2, cp2⟩ : Sd) (exRep_upM hle htg) (exRep_upM hle hex) hl hcp hl2 hcp2 hok (Rds_upM hle r1) (Rds_upM hle r2) (stsRep_upM hle s1) (stsRep_upM hle s2))
      (st_mk (m := m') (⟨5, [], zTy, zNd, eN, a, l, cp, none, 0, 0⟩ : Sd) z_rep (exRep_upM hle hex) hl hcp rfl (Nat.le_refl _) ⟨hok.k, Nat.zero_le _, z_ok, hok.l, Nat.zero_le _⟩ (Rds_upM hle r1) Rds_nil (stsRep_upM hle s1) sts_nil )
  have hX := fun m' (hle : leM m m') => valid_all _ ex eN.cs m' (Nat.le_refl _) (hg.upM hle) (exRep_upM hle hex)
  clear s1 s2 r1 r2
  refine enter cfV puV Tryz.func21 rfl rfl (by kernel_rfl) rfl ?_ ?_
  · simp only [go_sem, ↓imp_tf, ↓imp_ft, ↓reduceIte, Sd.cs, Nd.cs, zNd, zTy, Int.reduceEq, decide_true, decide_false]
  · simp only [go_sem, ↓imp_tf, ↓imp_ft, ↓reduceIte, Sd.cs, Nd.cs, zNd, zTy, Int.reduceEq, decide_true, decide_false]
    refine ⟨by kernel_rfl, FnV_of ((hB m (.inl rfl)).mono ?_)⟩
    clear hB
    rintro r H' m1 hm1 ⟨l1, rfl, rfl⟩
    simp only [go_sem, ↓imp_tf, ↓imp_ft, ↓reduceIte, Sd.cs, Nd.cs, zNd, zTy, Int.reduceEq, decide_true, decide_false]
    refine ⟨fun b1 => ⟨by kernel_rfl, FnV_of ((hA m1 l1).mono ?_)⟩, fun b1 => ?_⟩
    · clear hA
      rintro r H' m2 hm2 ⟨l2', rfl, rfl⟩
      have lm2 := leM_tr l1 l2'
      simp only [go_sem, ↓imp_tf, ↓imp_ft, ↓reduceIte, Sd.cs, Nd.cs, zNd, zTy, Int.reduceEq, decide_true, decide_false]
      refine ⟨fun b2 => ?_, fun b2 => ?_⟩
      · refine ⟨by kernel_rfl, FnV_of ((FnH_den (hX m2 lm2) (fun V => rfl)).mono ?_)⟩
        clear hX
        rintro r H' w1 hw1 ⟨lw1, rfl, rfl⟩
        simp only [go_sem, ↓imp_tf, ↓imp_ft, ↓reduceIte, Sd.cs, Nd.cs, zNd, zTy, Int.reduceEq, decide_true, decide_false]
        refine ⟨fun c1 => ?_, fun c1 => ?_⟩
        · refine ⟨by kernel_rfl, FnV_of ((FnH_den (hQ w1 (leM_tr lm2 lw1)) (fun V => rfl)).mono ?_)⟩
          clear hQ
          rintro r H' w2 hw2 ⟨lw2, rfl, rfl⟩
          simp only [go_sem, ↓imp_tf, ↓imp_ft, ↓reduceIte, Sd.cs, Nd.cs, zNd, zTy, Int.reduceEq, decide_true, decide_false]
          refine ⟨leM_tr (leM_tr lm2 lw1) lw2, ?_⟩
          rw [e0, hBB, b1, b2, c1]
          rfl
        · refine ⟨(leM_tr lm2 lw1), ?_⟩
          rw [e0, hBB, b1, b2, c1]
          rfl
      · refine ⟨lm2, ?_⟩
        rw [e0, hBB, b1, b2]
        rfl
    · clear hA
      refine ⟨l1, ?_⟩
      rw [e0, hBB, b1]
      rfl

theorem vst6 (nm : List UInt8) (ty : Ty) (tN eN : Nd) (a : Option Addr) (l cp : Nat) (b : Option Addr) (l2 cp2 : Nat) (tg ex : Ex) (body alt : List St) (xs ys : List Value) (m : Mem) (hg : Glob m)
    (htg : exRep m tg tN.cs) (hex : exRep m ex eN.cs) (hl : l = body.length) (hcp : l ≤ cp) (hl2 : l2 = alt.length) (hcp2 : l2 ≤ cp2) (hok : StOk 6 nm ty body.length alt.length) (r1 : Rds m a l 23 xs) (r2 : Rds m b l2 23 ys) (s1 : stsRep m body xs) (s2 : stsRep m alt ys) (B1 B2 B V : Bool)
    (hB : ∀ m', leM m m' → Ans 47 [.v (.slice a l cp), .v (.bool false)] m' (.bool B1)) (hA : ∀ m', leM m m' → Ans 47 [.v (.slice b l2 cp2), .v (.bool false)] m' (.bool B2)) (hBB : B = (B1 && B2))
    (e0 : V = ((emptyE ex || validE ex) && eqS (St.mk 6 nm ty tg ex body alt) (St.mk 6 [] zTy zE ex [] []))) : Ans 21 [.v (.agg ⟨Sd.cs ⟨6, nm, ty, tN, eN, a, l, cp, b, l2, cp2⟩⟩)] m (.bool V) := by
  have hQ : ∀ m', leM m m' → Ans 54 [.v (.agg ⟨Sd.cs ⟨6, nm, ty, tN, eN, a, l, cp, b, l2, cp2⟩⟩), .v (.agg ⟨Sd.cs ⟨6, [], zTy, zNd, eN, none, 0, 0, none, 0, 0⟩⟩)] m' (.bool (eqS (St.mk 6 nm ty tg ex body alt) (St.mk 6 [] zTy zE ex [] []))) := fun m' hle =>
    eqS_all _ _ _ _ _ m' (Nat.le_refl _) (st_mk (m := m') (⟨6, nm, ty, tN, eN, a, l, cp, b, l2, cp2⟩ : Sd) (exRep_upM hle htg) (exRep_upM hle hex) hl hcp hl2 hcp2 hok (Rds_upM hle r1) (Rds_upM hle r2) (stsRep_upM hle s1) (stsRep_upM hle s2))
      (st_mk (m := m') (⟨6, [], zTy, zNd, eN, none, 0, 0, none, 0, 0⟩ : Sd) z_rep (exRep_upM hle hex) rfl (Nat.le_refl _) rfl (Nat.le_refl _) ⟨hok.k, Nat.zero_le _, z_ok, Nat.zero_le _, Nat.zero_le _⟩ Rds_nil Rds_nil sts_nil sts_nil )
  have hX := fun m' (hle : leM m m') => valid_all _ ex eN.cs m' (Nat.le_refl _) (hg.upM hle) (exRep_upM hle hex)
  have hZ := fun m' (_ : leM m m') => empty_of hex m'
  clear s1 s2 r1 r2
  refine enter cfV puV Tryz.func21 rfl rfl (by kernel_rfl) rfl ?_ ?_
  · simp only [go_sem, ↓imp_tf, ↓imp_ft, ↓reduceIte, Sd.cs, Nd.cs, zNd, zTy, Int.reduceEq, decide_true, decide_false]
  · simp only [go_sem, ↓imp_tf, ↓imp_ft, ↓reduceIte, Sd.cs, Nd.cs, zNd, zTy, Int.reduceEq, decide_true, decide_false]
    refine ⟨by kernel_rfl, FnV_of ((hB m (.inl rfl)).mono ?_)⟩
    clear hB
    rintro r H' m1 hm1 ⟨l1, rfl, rfl⟩
    simp only [go_sem, ↓imp_tf, ↓imp_ft, ↓reduceIte, Sd.cs, Nd.cs, zNd, zTy, Int.reduceEq, decide_true, decide_false]
    refine ⟨fun b1 => ⟨by kernel_rfl, FnV_of ((hA m1 l1).mono ?_)⟩, fun b1 => ?_⟩
    · clear hA
      rintro r H' m2 hm2 ⟨l2', rfl, rfl⟩
      have lm2 := leM_tr l1 l2'
      simp only [go_sem, ↓imp_tf, ↓imp_ft, ↓reduceIte, Sd.cs, Nd.cs, zNd, zTy, Int.reduceEq, decide_true, decide_false]
      refine ⟨by kernel_rfl, FnV_of ((FnH_den (hZ m2 lm2) (fun V => rfl)).mono ?_)⟩
      clear hZ
      rintro r H' w1 hw1 ⟨lw1, rfl, rfl⟩
      simp only [go_sem, ↓imp_tf, ↓imp_ft, ↓reduceIte, Sd.cs, Nd.cs, zNd, zTy, Int.reduceEq, decide_true, decide_false]
      refine ⟨fun c => ?_, fun c => ?_⟩
      · refine ⟨by kernel_rfl, FnV_of ((FnH_den (hX w1 (leM_tr lm2 lw1)) (fun V => rfl)).mono ?_)⟩
        clear hX
        rintro r H' w2 hw2 ⟨lw2, rfl, rfl⟩
        simp only [go_sem, ↓imp_tf, ↓imp_ft, ↓reduceIte, Sd.cs, Nd.cs, zNd, zTy, Int.reduceEq, decide_true, decide_false]
        refine ⟨fun c2 => ?_, fun c2 => ?_⟩
        · refine ⟨by kernel_rfl, FnV_of ((FnH_den (hQ w2 (leM_tr (leM_tr lm2 lw1) lw2)) (fun V => rfl)).mono ?_)⟩
          clear hQ
          rintro r H' w3 hw3 ⟨lw3, rfl, rfl⟩
          simp only [go_sem, ↓imp_tf, ↓imp_ft, ↓reduceIte, Sd.cs, Nd.cs, zNd, zTy, Int.reduceEq, decide_true, decide_false]
          refine ⟨leM_tr (leM_tr (leM_tr lm2 lw1) lw2) lw3, ?_⟩
          rw [e0, c, c2]
          rfl
        · refine ⟨(leM_tr (leM_tr lm2 lw1) lw2), ?_⟩
          rw [e0, c, c2]
          rfl
      · refine ⟨by kernel_rfl, FnV_of ((FnH_den (hQ w1 (leM_tr lm2 lw1)) (fun V => rfl)).mono ?_)⟩
        clear hQ
        rintro r H' w4 hw4 ⟨lw4, rfl, rfl⟩
        simp only [go_sem, ↓imp_tf, ↓imp_ft, ↓reduceIte, Sd.cs, Nd.cs, zNd, zTy, Int.reduceEq, decide_true, decide_false]
        refine ⟨leM_tr (leM_tr lm2 lw1) lw4, ?_⟩
        rw [e0, c]
        rfl
    · clear hA
      refine ⟨by kernel_rfl, FnV_of ((FnH_den (hZ m1 l1) (fun V => rfl)).mono ?_)⟩
      clear hZ
      rintro r H' w5 hw5 ⟨lw5, rfl, rfl⟩
      simp only [go_sem, ↓imp_tf, ↓imp_ft, ↓reduceIte, Sd.cs, Nd.cs, zNd, zTy, Int.reduceEq, decide_true, decide_false]
      refine ⟨fun c => ?_, fun c => ?_⟩
      · refine ⟨by kernel_rfl, FnV_of ((FnH_den (hX w5 (leM_tr l1 lw5)) (fun V => rfl)).mono ?_)⟩
        clear hX
        rintro r H' w6 hw6 ⟨lw6, rfl, rfl⟩
        simp only [go_sem, ↓imp_tf, ↓imp_ft, ↓reduceIte, Sd.cs, Nd.cs, zNd, zTy, Int.reduceEq, decide_true, decide_false]
        refine ⟨fun c6 => ?_, fun c6 => ?_⟩
        · refine ⟨by kernel_rfl, FnV_of ((FnH_den (hQ w6 (leM_tr (leM_tr l1 lw5) lw6)) (fun V => rfl)).mono ?_)⟩
          clear hQ
          rintro r H' w7 hw7 ⟨lw7, rfl, rfl⟩
          simp only [go_sem, ↓imp_tf, ↓imp_ft, ↓reduceIte, Sd.cs, Nd.cs, zNd, zTy, Int.reduceEq, decide_true, decide_false]
          refine ⟨leM_tr (leM_tr (leM_tr l1 lw5) lw6) lw7, ?_⟩
          rw [e0, c, c6]
          rfl
        · refine ⟨(leM_tr (leM_tr l1 lw5) lw6), ?_⟩
          rw [e0, c, c6]
          rfl
      · refine ⟨by kernel_rfl, FnV_of ((FnH_den (hQ w5 (leM_tr l1 lw5)) (fun V => rfl)).mono ?_)⟩
        clear hQ
        rintro r H' w8 hw8 ⟨lw8, rfl, rfl⟩
        simp only [go_sem, ↓imp_tf, ↓imp_ft, ↓reduceIte, Sd.cs, Nd.cs, zNd, zTy, Int.reduceEq, decide_true, decide_false]
        refine ⟨leM_tr (leM_tr l1 lw5) lw8, ?_⟩
        rw [e0, c]
        rfl

theorem vst7 (nm : List UInt8) (ty : Ty) (tN eN : Nd) (a : Option Addr) (l cp : Nat) (b : Option Addr) (l2 cp2 : Nat) (tg ex : Ex) (body alt : List St) (xs ys : List Value) (m : Mem) (hg : Glob m)
    (htg : exRep m tg tN.cs) (hex : exRep m ex eN.cs) (hl : l = body.length) (hcp : l ≤ cp) (hl2 : l2 = alt.length) (hcp2 : l2 ≤ cp2) (hok : StOk 7 nm ty body.length alt.length) (r1 : Rds m a l 23 xs) (r2 : Rds m b l2 23 ys) (s1 : stsRep m body xs) (s2 : stsRep m alt ys) (B1 B2 B V : Bool)
    (hB : ∀ m', leM m m' → Ans 47 [.v (.slice a l cp), .v (.bool false)] m' (.bool B1)) (hA : ∀ m', leM m m' → Ans 47 [.v (.slice b l2 cp2), .v (.bool false)] m' (.bool B2)) (hBB : B = (B1 && B2))
    (e0 : V = (validE ex && eqS (St.mk 7 nm ty tg ex body alt) (St.mk 7 [] zTy zE ex [] []))) : Ans 21 [.v (.agg ⟨Sd.cs ⟨7, nm, ty, tN, eN, a, l, cp, b, l2, cp2⟩⟩)] m (.bool V) := by
  have hQ : ∀ m', leM m m' → Ans 54 [.v (.agg ⟨Sd.cs ⟨7, nm, ty, tN, eN, a, l, cp, b, l2, cp2⟩⟩), .v (.agg ⟨Sd.cs ⟨7, [], zTy, zNd, eN, none, 0, 0, none, 0, 0⟩⟩)] m' (.bool (eqS (St.mk 7 nm ty tg ex body alt) (St.mk 7 [] zTy zE ex [] []))) := fun m' hle =>
    eqS_all _ _ _ _ _ m' (Nat.le_refl _) (st_mk (m := m') (⟨7, nm, ty, tN, eN, a, l, cp, b, l2, cp2⟩ : Sd) (exRep_upM hle htg) (exRep_upM hle hex) hl hcp hl2 hcp2 hok (Rds_upM hle r1) (Rds_upM hle r2) (stsRep_upM hle s1) (stsRep_upM hle s2))
      (st_mk (m := m') (⟨7, [], zTy, zNd, eN, none, 0, 0, none, 0, 0⟩ : Sd) z_rep (exRep_upM hle hex) rfl (Nat.le_refl _) rfl (Nat.le_refl _) ⟨hok.k, Nat.zero_le _, z_ok, Nat.zero_le _, Nat.zero_le _⟩ Rds_nil Rds_nil sts_nil sts_nil )
  have hX := fun m' (hle : leM m m') => valid_all _ ex eN.cs m' (Nat.le_refl _) (hg.upM hle) (exRep_upM hle hex)
  clear s1 s2 r1 r2
  refine enter cfV puV Tryz.func21 rfl rfl (by kernel_rfl) rfl ?_ ?_
  · simp only [go_sem, ↓imp_tf, ↓imp_ft, ↓reduceIte, Sd.cs, Nd.cs, zNd, zTy, Int.reduceEq, decide_true, decide_false]
  · simp only [go_sem, ↓imp_tf, ↓imp_ft, ↓reduceIte, Sd.cs, Nd.cs, zNd, zTy, Int.reduceEq, decide_true, decide_false]
    refine ⟨by kernel_rfl, FnV_of ((hB m (.inl rfl)).mono ?_)⟩
    clear hB
    rintro r H' m1 hm1 ⟨l1, rfl, rfl⟩
    simp only [go_sem, ↓imp_tf, ↓imp_ft, ↓reduceIte, Sd.cs, Nd.cs, zNd, zTy, Int.reduceEq, decide_true, decide_false]
    refine ⟨fun b1 => ⟨by kernel_rfl, FnV_of ((hA m1 l1).mono ?_)⟩, fun b1 => ?_⟩
    · clear hA
      rintro r H' m2 hm2 ⟨l2', rfl, rfl⟩
      have lm2 := leM_tr l1 l2'
      simp only [go_sem, ↓imp_tf, ↓imp_ft, ↓reduceIte, Sd.cs, Nd.cs, zNd, zTy, Int.reduceEq, decide_true, decide_false]
      refine ⟨by kernel_rfl, FnV_of ((FnH_den (hX m2 lm2) (fun V => rfl)).mono ?_)⟩
      clear hX
      rintro r H' w1 hw1 ⟨lw1, rfl, rfl⟩
      simp only [go_sem, ↓imp_tf, ↓imp_ft, ↓reduceIte, Sd.cs, Nd.cs, zNd, zTy, Int.reduceEq, decide_true, decide_false]
      refine ⟨fun c1 => ?_, fun c1 => ?_⟩
      · refine ⟨by kernel_rfl, FnV_of ((FnH_den (hQ w1 (leM_tr lm2 lw1)) (fun V => rfl)).mono ?_)⟩
        clear hQ
        rintro r H' w2 hw2 ⟨lw2, rfl, rfl⟩
        simp only [go_sem, ↓imp_tf, ↓imp_ft, ↓reduceIte, Sd.cs, Nd.cs, zNd, zTy, Int.reduceEq, decide_true, decide_false]
        refine ⟨leM_tr (leM_tr lm2 lw1) lw2, ?_⟩
        rw [e0, c1]
        rfl
      · refine ⟨(leM_tr lm2 lw1), ?_⟩
        rw [e0, c1]
        rfl
    · clear hA
      refine ⟨by kernel_rfl, FnV_of ((FnH_den (hX m1 l1) (fun V => rfl)).mono ?_)⟩
      clear hX
      rintro r H' w3 hw3 ⟨lw3, rfl, rfl⟩
      simp only [go_sem, ↓imp_tf, ↓imp_ft, ↓reduceIte, Sd.cs, Nd.cs, zNd, zTy, Int.reduceEq, decide_true, decide_false]
      refine ⟨fun c3 => ?_, fun c3 => ?_⟩
      · refine ⟨by kernel_rfl, FnV_of ((FnH_den (hQ w3 (leM_tr l1 lw3)) (fun V => rfl)).mono ?_)⟩
        clear hQ
        rintro r H' w4 hw4 ⟨lw4, rfl, rfl⟩
        simp only [go_sem, ↓imp_tf, ↓imp_ft, ↓reduceIte, Sd.cs, Nd.cs, zNd, zTy, Int.reduceEq, decide_true, decide_false]
        refine ⟨leM_tr (leM_tr l1 lw3) lw4, ?_⟩
        rw [e0, c3]
        rfl
      · refine ⟨(leM_tr l1 lw3), ?_⟩
        rw [e0, c3]
        rfl

theorem vst8 (nm : List UInt8) (ty : Ty) (tN eN : Nd) (a : Option Addr) (l cp : Nat) (b : Option Addr) (l2 cp2 : Nat) (tg ex : Ex) (body alt : List St) (xs ys : List Value) (m : Mem) (hg : Glob m)
    (htg : exRep m tg tN.cs) (hex : exRep m ex eN.cs) (hl : l = body.length) (hcp : l ≤ cp) (hl2 : l2 = alt.length) (hcp2 : l2 ≤ cp2) (hok : StOk 8 nm ty body.length alt.length) (r1 : Rds m a l 23 xs) (r2 : Rds m b l2 23 ys) (s1 : stsRep m body xs) (s2 : stsRep m alt ys) (B1 B2 B V : Bool)
    (hB : ∀ m', leM m m' → Ans 47 [.v (.slice a l cp), .v (.bool false)] m' (.bool B1)) (hA : ∀ m', leM m m' → Ans 47 [.v (.slice b l2 cp2), .v (.bool false)] m' (.bool B2)) (hBB : B = (B1 && B2))
    (e0 : V = ((B && identL nm && valueTy ty.dim ty.base ty.name) && eqS (St.mk 8 nm ty tg ex body alt) (St.mk 8 nm ty zE zE body alt))) : Ans 21 [.v (.agg ⟨Sd.cs ⟨8, nm, ty, tN, eN, a, l, cp, b, l2, cp2⟩⟩)] m (.bool V) := by
  have hQ : ∀ m', leM m m' → Ans 54 [.v (.agg ⟨Sd.cs ⟨8, nm, ty, tN, eN, a, l, cp, b, l2, cp2⟩⟩), .v (.agg ⟨Sd.cs ⟨8, nm, ty, zNd, zNd, a, l, cp, b, l2, cp2⟩⟩)] m' (.bool (eqS (St.mk 8 nm ty tg ex body alt) (St.mk 8 nm ty zE zE body alt))) := fun m' hle =>
    eqS_all _ _ _ _ _ m' (Nat.le_refl _) (st_mk (m := m') (⟨8, nm, ty, tN, eN, a, l, cp, b, l2, cp2⟩ : Sd) (exRep_upM hle htg) (exRep_upM hle hex) hl hcp hl2 hcp2 hok (Rds_upM hle r1) (Rds_upM hle r2) (stsRep_upM hle s1) (stsRep_upM hle s2))
      (st_mk (m := m') (⟨8, nm, ty, zNd, zNd, a, l, cp, b, l2, cp2⟩ : Sd) z_rep z_rep hl hcp hl2 hcp2 ⟨hok.k, hok.nm, hok.ty, hok.l, hok.l2⟩ (Rds_upM hle r1) (Rds_upM hle r2) (stsRep_upM hle s1) (stsRep_upM hle s2) )
  have hBL1 : BL nm := Nat.le_trans hok.nm (by decide)
  have hBL2 : BL ty.name := Nat.le_trans hok.ty.2.2 (by decide)
  clear s1 s2 r1 r2
  refine enter cfV puV Tryz.func21 rfl rfl (by kernel_rfl) rfl ?_ ?_
  · simp only [go_sem, ↓imp_tf, ↓imp_ft, ↓reduceIte, Sd.cs, Nd.cs, zNd, zTy, Int.reduceEq, decide_true, decide_false]
  · simp only [go_sem, ↓imp_tf, ↓imp_ft, ↓reduceIte, Sd.cs, Nd.cs, zNd, zTy, Int.reduceEq, decide_true, decide_false]
    refine ⟨by kernel_rfl, FnV_of ((hB m (.inl rfl)).mono ?_)⟩
    clear hB
    rintro r H' m1 hm1 ⟨l1, rfl, rfl⟩
    simp only [go_sem, ↓imp_tf, ↓imp_ft, ↓reduceIte, Sd.cs, Nd.cs, zNd, zTy, Int.reduceEq, decide_true, decide_false]
    refine ⟨fun b1 => ⟨by kernel_rfl, FnV_of ((hA m1 l1).mono ?_)⟩, fun b1 => ?_⟩
    · clear hA
      rintro r H' m2 hm2 ⟨l2', rfl, rfl⟩
      have lm2 := leM_tr l1 l2'
      simp only [go_sem, ↓imp_tf, ↓imp_ft, ↓reduceIte, Sd.cs, Nd.cs, zNd, zTy, Int.reduceEq, decide_true, decide_false]
      refine ⟨fun _ => hBL1, fun _ => hBL2, fun c => ?_, fun c => ?_⟩
      · refine ⟨by kernel_rfl, FnV_of ((FnH_den (hQ m2 lm2) (fun V => rfl)).mono ?_)⟩
        clear hQ
        rintro r H' w1 hw1 ⟨lw1, rfl, rfl⟩
        simp only [go_sem, ↓imp_tf, ↓imp_ft, ↓reduceIte, Sd.cs, Nd.cs, zNd, zTy, Int.reduceEq, decide_true, decide_false]
        refine ⟨leM_tr lm2 lw1, ?_⟩
        rw [e0, hBB, b1, c.1.1, c.1.2, c.2]
        rfl
      · refine ⟨lm2, ?_⟩
        rw [e0, hBB, b1]
        rcases c with (c | c) | c <;> simp [c]
    · clear hA
      refine ⟨l1, ?_⟩
      rw [e0, hBB, b1]
      rfl

theorem vst9 (nm : List UInt8) (ty : Ty) (tN eN : Nd) (a : Option Addr) (l cp : Nat) (b : Option Addr) (l2 cp2 : Nat) (tg ex : Ex) (body alt : List St) (xs ys : List Value) (m : Mem) (hg : Glob m)
    (htg : exRep m tg tN.cs) (hex : exRep m ex eN.cs) (hl : l = body.length) (hcp : l ≤ cp) (hl2 : l2 = alt.length) (hcp2 : l2 ≤ cp2) (hok : StOk 9 nm ty body.length alt.length) (r1 : Rds m a l 23 xs) (r2 : Rds m b l2 23 ys) (s1 : stsRep m body xs) (s2 : stsRep m alt ys) (B1 B2 B V : Bool)
    (hB : ∀ m', leM m m' → Ans 47 [.v (.slice a l cp), .v (.bool false)] m' (.bool B1)) (hA : ∀ m', leM m m' → Ans 47 [.v (.slice b l2 cp2), .v (.bool false)] m' (.bool B2)) (hBB : B = (B1 && B2))
    (e0 : V = ((B && validE ex) && eqS (St.mk 9 nm ty tg ex body alt) (St.mk 9 [] zTy zE ex body []))) : Ans 21 [.v (.agg ⟨Sd.cs ⟨9, nm, ty, tN, eN, a, l, cp, b, l2, cp2⟩⟩)] m (.bool V) := by
  have hQ : ∀ m', leM m m' → Ans 54 [.v (.agg ⟨Sd.cs ⟨9, nm, ty, tN, eN, a, l, cp, b, l2, cp2⟩⟩), .v (.agg ⟨Sd.cs ⟨9, [], zTy, zNd, eN, a, l, cp, none, 0, 0⟩⟩)] m' (.bool (eqS (St.mk 9 nm ty tg ex body alt) (St.mk 9 [] zTy zE ex body []))) := fun m' hle =>
    eqS_all _ _ _ _ _ m' (Nat.le_refl _) (st_mk (m := m') (⟨9, nm, ty, tN, eN, a, l, cp, b, l2, cp2⟩ : Sd) (exRep_upM hle htg) (exRep_upM hle hex) hl hcp hl2 hcp2 hok (Rds_upM hle r1) (Rds_upM hle r2) (stsRep_upM hle s1) (stsRep_upM hle s2))
      (st_mk (m := m') (⟨9, [], zTy, zNd, eN, a, l, cp, none, 0, 0⟩ : Sd) z_rep (exRep_upM hle hex) hl hcp rfl (Nat.le_refl _) ⟨hok.k, Nat.zero_le _, z_ok, hok.l, Nat.zero_le _⟩ (Rds_upM hle r1) Rds_nil (stsRep_upM hle s1) sts_nil )
  have hX := fun m' (hle : leM m m') => valid_all _ ex eN.cs m' (Nat.le_refl _) (hg.upM hle) (exRep_upM hle hex)
  clear s1 s2 r1 r2
  refine enter cfV puV Tryz.func21 rfl rfl (by kernel_rfl) rfl ?_ ?_
  · simp only [go_sem, ↓imp_tf, ↓imp_ft, ↓reduceIte, Sd.cs, Nd.cs, zNd, zTy, Int.reduceEq, decide_true, decide_false]
  · simp only [go_sem, ↓imp_tf, ↓imp_ft, ↓reduceIte, Sd.cs, Nd.cs, zNd, zTy, Int.reduceEq, decide_true, decide_false]
    refine ⟨by kernel_rfl, FnV_of ((hB m (.inl rfl)).mono ?_)⟩
    clear hB
    rintro r H' m1 hm1 ⟨l1, rfl, rfl⟩
    simp only [go_sem, ↓imp_tf, ↓imp_ft, ↓reduceIte, Sd.cs, Nd.cs, zNd, zTy, Int.reduceEq, decide_true, decide_false]
    refine ⟨fun b1 => ⟨by kernel_rfl, FnV_of ((hA m1 l1).mono ?_)⟩, fun b1 => ?_⟩
    · clear hA
      rintro r H' m2 hm2 ⟨l2', rfl, rfl⟩
      have lm2 := leM_tr l1 l2'
      simp only [go_sem, ↓imp_tf, ↓imp_ft, ↓reduceIte, Sd.cs, Nd.cs, zNd, zTy, Int.reduceEq, decide_true, decide_false]
      refine ⟨fun b2 => ?_, fun b2 => ?_⟩
      · refine ⟨by kernel_rfl, FnV_of ((FnH_den (hX m2 lm2) (fun V => rfl)).mono ?_)⟩
        clear hX
        rintro r H' w1 hw1 ⟨lw1, rfl, rfl⟩
        simp only [go_sem, ↓imp_tf, ↓imp_ft, ↓reduceIte, Sd.cs, Nd.cs, zNd, zTy, Int.reduceEq, decide_true, decide_false]
        refine ⟨fun c1 => ?_, fun c1 => ?_⟩
        · refine ⟨by kernel_rfl, FnV_of ((FnH_den (hQ w1 (leM_tr lm2 lw1)) (fun V => rfl)).mono ?_)⟩
          clear hQ
          rintro r H' w2 hw2 ⟨lw2, rfl, rfl⟩
          simp only [go_sem, ↓imp_tf, ↓imp_ft, ↓reduceIte, Sd.cs, Nd.cs, zNd, zTy, Int.reduceEq, decide_true, decide_false]
          refine ⟨leM_tr (leM_tr lm2 lw1) lw2, ?_⟩
          rw [e0, hBB, b1, b2, c1]
          rfl
        · refine ⟨(leM_tr lm2 lw1), ?_⟩
          rw [e0, hBB, b1, b2, c1]
          rfl
      · refine ⟨lm2, ?_⟩
        rw [e0, hBB, b1, b2]
        rfl
    · clear hA
      refine ⟨l1, ?_⟩
      rw [e0, hBB, b1]
      rfl

theorem vst10 (nm : List UInt8) (ty : Ty) (tN eN : Nd) (a : Option Addr) (l cp : Nat) (b : Option Addr) (l2 cp2 : Nat) (tg ex : Ex) (body alt : List St) (xs ys : List Value) (m : Mem) (hg : Glob m)
    (htg : exRep m tg tN.cs) (hex : exRep m ex eN.cs) (hl : l = body.length) (hcp : l ≤ cp) (hl2 : l2 = alt.length) (hcp2 : l2 ≤ cp2) (hok : StOk 10 nm ty body.length alt.length) (r1 : Rds m a l 23 xs) (r2 : Rds m b l2 23 ys) (s1 : stsRep m body xs) (s2 : stsRep m alt ys) (B1 B2 B V : Bool)
    (hB : ∀ m', leM m m' → Ans 47 [.v (.slice a l cp), .v (.bool false)] m' (.bool B1)) (hA : ∀ m', leM m m' → Ans 47 [.v (.slice b l2 cp2), .v (.bool false)] m' (.bool B2)) (hBB : B = (B1 && B2))
    (e0 : V = (B && eqS (St.mk 10 nm ty tg ex body alt) (St.mk 10 [] zTy zE zE body []))) : Ans 21 [.v (.agg ⟨Sd.cs ⟨10, nm, ty, tN, eN, a, l, cp, b, l2, cp2⟩⟩)] m (.bool V) := by
  have hQ : ∀ m', leM m m' → Ans 54 [.v (.agg ⟨Sd.cs ⟨10, nm, ty, tN, eN, a, l, cp, b, l2, cp2⟩⟩), .v (.agg ⟨Sd.cs ⟨10, [], zTy, zNd, zNd, a, l, cp, none, 0, 0⟩⟩)] m' (.bool (eqS (St.mk 10 nm ty tg ex body alt) (St.mk 10 [] zTy zE zE body []))) := fun m' hle =>
    eqS_all _ _ _ _ _ m' (Nat.le_refl _) (st_mk (m := m') (⟨10, nm, ty, tN, eN, a, l, cp, b, l2, cp2⟩ : Sd) (exRep_upM hle htg) (exRep_upM hle hex) hl hcp hl2 hcp2 hok (Rds_upM hle r1) (Rds_upM hle r2) (stsRep_upM hle s1) (stsRep_upM hle s2))
      (st_mk (m := m') (⟨10, [], zTy, zNd, zNd, a, l, cp, none, 0, 0⟩ : Sd) z_rep z_rep hl hcp rfl (Nat.le_refl _) ⟨hok.k, Nat.zero_le _, z_ok, hok.l, Nat.zero_le _⟩ (Rds_upM hle r1) Rds_nil (stsRep_upM hle s1) sts_nil )
  clear s1 s2 r1 r2
  refine enter cfV puV Tryz.func21 rfl rfl (by kernel_rfl) rfl ?_ ?_
  · simp only [go_sem, ↓imp_tf, ↓imp_ft, ↓reduceIte, Sd.cs, Nd.cs, zNd, zTy, Int.reduceEq, decide_true, decide_false]
  · simp only [go_sem, ↓imp_tf, ↓imp_ft, ↓reduceIte, Sd.cs, Nd.cs, zNd, zTy, Int.reduceEq, decide_true, decide_false]
    refine ⟨by kernel_rfl, FnV_of ((hB m (.inl rfl)).mono ?_)⟩
    clear hB
    rintro r H' m1 hm1 ⟨l1, rfl, rfl⟩
    simp only [go_sem, ↓imp_tf, ↓imp_ft, ↓reduceIte, Sd.cs, Nd.cs, zNd, zTy, Int.reduceEq, decide_true, decide_false]
    refine ⟨fun b1 => ⟨by kernel_rfl, FnV_of ((hA m1 l1).mono ?_)⟩, fun b1 => ?_⟩
    · clear hA
      rintro r H' m2 hm2 ⟨l2', rfl, rfl⟩
      have lm2 := leM_tr l1 l2'
      simp only [go_sem, ↓imp_tf, ↓imp_ft, ↓reduceIte, Sd.cs, Nd.cs, zNd, zTy, Int.reduceEq, decide_true, decide_false]
      refine ⟨fun b2 => ?_, fun b2 => ?_⟩
      · refine ⟨by kernel_rfl, FnV_of ((FnH_den (hQ m2 lm2) (fun V => rfl)).mono ?_)⟩
        clear hQ
        rintro r H' w1 hw1 ⟨lw1, rfl, rfl⟩
        simp only [go_sem, ↓imp_tf, ↓imp_ft, ↓reduceIte, Sd.cs, Nd.cs, zNd, zTy, Int.reduceEq, decide_true, decide_false]
        refine ⟨leM_tr lm2 lw1, ?_⟩
        rw [e0, hBB, b1, b2]
        rfl
      · refine ⟨lm2, ?_⟩
        rw [e0, hBB, b1, b2]
        rfl
    · clear hA
      refine ⟨l1, ?_⟩
      rw [e0, hBB, b1]
      rfl

theorem vst11 (nm : List UInt8) (ty : Ty) (tN eN : Nd) (a : Option Addr) (l cp : Nat) (b : Option Addr) (l2 cp2 : Nat) (tg ex : Ex) (body alt : List St) (xs ys : List Value) (m : Mem) (hg : Glob m)
    (htg : exRep m tg tN.cs) (hex : exRep m ex eN.cs) (hl : l = body.length) (hcp : l ≤ cp) (hl2 : l2 = alt.length) (hcp2 : l2 ≤ cp2) (hok : StOk 11 nm ty body.length alt.length) (r1 : Rds m a l 23 xs) (r2 : Rds m b l2 23 ys) (s1 : stsRep m body xs) (s2 : stsRep m alt ys) (B1 B2 B V : Bool)
    (hB : ∀ m', leM m m' → Ans 47 [.v (.slice a l cp), .v (.bool false)] m' (.bool B1)) (hA : ∀ m', leM m m' → Ans 47 [.v (.slice b l2 cp2), .v (.bool false)] m' (.bool B2)) (hBB : B = (B1 && B2))
    (e0 : V = (superE ex && eqS (St.mk 11 nm ty tg ex body alt) (St.mk 11 [] zTy zE ex [] []))) : Ans 21 [.v (.agg ⟨Sd.cs ⟨11, nm, ty, tN, eN, a, l, cp, b, l2, cp2⟩⟩)] m (.bool V) := by
  have hQ : ∀ m', leM m m' → Ans 54 [.v (.agg ⟨Sd.cs ⟨11, nm, ty, tN, eN, a, l, cp, b, l2, cp2⟩⟩), .v (.agg ⟨Sd.cs ⟨11, [], zTy, zNd, eN, none, 0, 0, none, 0, 0⟩⟩)] m' (.bool (eqS (St.mk 11 nm ty tg ex body alt) (St.mk 11 [] zTy zE ex [] []))) := fun m' hle =>
    eqS_all _ _ _ _ _ m' (Nat.le_refl _) (st_mk (m := m') (⟨11, nm, ty, tN, eN, a, l, cp, b, l2, cp2⟩ : Sd) (exRep_upM hle htg) (exRep_upM hle hex) hl hcp hl2 hcp2 hok (Rds_upM hle r1) (Rds_upM hle r2) (stsRep_upM hle s1) (stsRep_upM hle s2))
      (st_mk (m := m') (⟨11, [], zTy, zNd, eN, none, 0, 0, none, 0, 0⟩ : Sd) z_rep (exRep_upM hle hex) rfl (Nat.le_refl _) rfl (Nat.le_refl _) ⟨hok.k, Nat.zero_le _, z_ok, Nat.zero_le _, Nat.zero_le _⟩ Rds_nil Rds_nil sts_nil sts_nil )
  have hX := fun m' (hle : leM m m') => super_spec ex eN.cs m' (hg.upM hle) (exRep_upM hle hex)
  clear s1 s2 r1 r2
  refine enter cfV puV Tryz.func21 rfl rfl (by kernel_rfl) rfl ?_ ?_
  · simp only [go_sem, ↓imp_tf, ↓imp_ft, ↓reduceIte, Sd.cs, Nd.cs, zNd, zTy, Int.reduceEq, decide_true, decide_false]
  · simp only [go_sem, ↓imp_tf, ↓imp_ft, ↓reduceIte, Sd.cs, Nd.cs, zNd, zTy, Int.reduceEq, decide_true, decide_false]
    refine ⟨by kernel_rfl, FnV_of ((hB m (.inl rfl)).mono ?_)⟩
    clear hB
    rintro r H' m1 hm1 ⟨l1, rfl, rfl⟩
    simp only [go_sem, ↓imp_tf, ↓imp_ft, ↓reduceIte, Sd.cs, Nd.cs, zNd, zTy, Int.reduceEq, decide_true, decide_false]
    refine ⟨fun b1 => ⟨by kernel_rfl, FnV_of ((hA m1 l1).mono ?_)⟩, fun b1 => ?_⟩
    · clear hA
      rintro r H' m2 hm2 ⟨l2', rfl, rfl⟩
      have lm2 := leM_tr l1 l2'
      simp only [go_sem, ↓imp_tf, ↓imp_ft, ↓reduceIte, Sd.cs, Nd.cs, zNd, zTy, Int.reduceEq, decide_true, decide_false]
      refine ⟨by kernel_rfl, FnV_of ((FnH_den (hX m2 lm2) (fun V => rfl)).mono ?_)⟩
      clear hX
      rintro r H' w1 hw1 ⟨lw1, rfl, rfl⟩
      simp only [go_sem, ↓imp_tf, ↓imp_ft, ↓reduceIte, Sd.cs, Nd.cs, zNd, zTy, Int.reduceEq, decide_true, decide_false]
      refine ⟨fun c1 => ?_, fun c1 => ?_⟩
      · refine ⟨by kernel_rfl, FnV_of ((FnH_den (hQ w1 (leM_tr lm2 lw1)) (fun V => rfl)).mono ?_)⟩
        clear hQ
        rintro r H' w2 hw2 ⟨lw2, rfl, rfl⟩
        simp only [go_sem, ↓imp_tf, ↓imp_ft, ↓reduceIte, Sd.cs, Nd.cs, zNd, zTy, Int.reduceEq, decide_true, decide_false]
        refine ⟨leM_tr (leM_tr lm2 lw1) lw2, ?_⟩
        rw [e0, c1]
        rfl
      · refine ⟨(leM_tr lm2 lw1), ?_⟩
        rw [e0, c1]
        rfl
    · clear hA
      refine ⟨by kernel_rfl, FnV_of ((FnH_den (hX m1 l1) (fun V => rfl)).mono ?_)⟩
      clear hX
      rintro r H' w3 hw3 ⟨lw3, rfl, rfl⟩
      simp only [go_sem, ↓imp_tf, ↓imp_ft, ↓reduceIte, Sd.cs, Nd.cs, zNd, zTy, Int.reduceEq, decide_true, decide_false]
      refine ⟨fun c3 => ?_, fun c3 => ?_⟩
      · refine ⟨by kernel_rfl, FnV_of ((FnH_den (hQ w3 (leM_tr l1 lw3)) (fun V => rfl)).mono ?_)⟩
        clear hQ
        rintro r H' w4 hw4 ⟨lw4, rfl, rfl⟩
        simp only [go_sem, ↓imp_tf, ↓imp_ft, ↓reduceIte, Sd.cs, Nd.cs, zNd, zTy, Int.reduceEq, decide_true, decide_false]
        refine ⟨leM_tr (leM_tr l1 lw3) lw4, ?_⟩
        rw [e0, c3]
        rfl
      · refine ⟨(leM_tr l1 lw3), ?_⟩
        rw [e0, c3]
        rfl

theorem vst0 (k : Int) (nm : List UInt8) (ty : Ty) (tN eN : Nd) (a : Option Addr) (l cp : Nat) (b : Option Addr) (l2 cp2 : Nat) (m : Mem) (B1 B2 : Bool) (e : ∀ j : Int, 1 ≤ j → j ≤ 11 → (k = j) = False)
    (hB : ∀ m', leM m m' → Ans 47 [.v (.slice a l cp), .v (.bool false)] m' (.bool B1)) (hA : ∀ m', leM m m' → Ans 47 [.v (.slice b l2 cp2), .v (.bool false)] m' (.bool B2)) :
    Ans 21 [.v (.agg ⟨Sd.cs ⟨k, nm, ty, tN, eN, a, l, cp, b, l2, cp2⟩⟩)] m (.bool false) := by
  have e1 := e 1 (by decide) (by decide)
  have e2 := e 2 (by decide) (by decide)
  have e3 := e 3 (by decide) (by decide)
  have e4 := e 4 (by decide) (by decide)
  have e5 := e 5 (by decide) (by decide)
  have e6 := e 6 (by decide) (by decide)
  have e7 := e 7 (by decide) (by decide)
  have e8 := e 8 (by decide) (by decide)
  have e9 := e 9 (by decide) (by decide)
  have e10 := e 10 (by decide) (by decide)
  have e11 := e 11 (by decide) (by decide)
  refine enter cfV puV Tryz.func21 rfl rfl (by kernel_rfl) rfl ?_ ?_
  · simp only [go_sem, ↓imp_tf, ↓imp_ft, ↓reduceIte, Sd.cs, Nd.cs]
  · simp only [go_sem, ↓imp_tf, ↓imp_ft, ↓reduceIte, Sd.cs, Nd.cs]
    refine ⟨by kernel_rfl, FnV_of ((hB m (.inl rfl)).mono ?_)⟩
    clear hB
    rintro r H' m1 hm1 ⟨l1, rfl, rfl⟩
    simp only [go_sem, ↓imp_tf, ↓imp_ft, ↓reduceIte, Sd.cs, Nd.cs, e1, e2, e3, e4, e5, e6, e7, e8, e9, e10, e11, decide_false]
    refine ⟨fun b1 => ⟨by kernel_rfl, FnV_of ((hA m1 l1).mono ?_)⟩, fun b1 => l1⟩
    clear hA
    rintro r H' m2 hm2 ⟨l2', rfl, rfl⟩
    simp only [go_sem, ↓imp_tf, ↓imp_ft, ↓reduceIte, Sd.cs, Nd.cs, e1, e2, e3, e4, e5, e6, e7, e8, e9, e10, e11, decide_false]
    exact leM_tr l1 l2'
theorem kinds_or {k : Int} : (k = 1 ∨ k = 2 ∨ k = 3 ∨ k = 4 ∨ k = 5 ∨ k = 6 ∨ k = 7 ∨ k = 8 ∨ k = 9 ∨ k = 10 ∨ k = 11) ∨ ∀ j : Int, 1 ≤ j → j ≤ 11 → (k = j) = False := by
  by_cases h : 1 ≤ k ∧ k ≤ 11
  · left; omega
  · right; intro j h1 h2; exact eq_false fun e => h (by omega)
theorem validS_all : ∀ (h : Nat) (e : St) (cs : List Value) (m : Mem), depthS e ≤ h → Glob m → stRep m e cs → Ans 21 [.v (.agg ⟨cs⟩)] m (.bool (validS e))
  | 0, .mk k nm ty tg ex body alt, cs, m, hd, _, _ => by simp [depthS] at hd
  | h + 1, .mk k nm ty tg ex body alt, cs, m, hd, hg, he => by
    obtain ⟨⟨k, nm, ty, tN, eN, a, l, cp, b, l2, cp2⟩, rfl, rfl, rfl, rfl, htg, hex, hl, hcp, hl2, hcp2, hok, xs, ys, r1, r2, s1, s2⟩ := st_parts he
    simp only [depthS] at hd
    simp only at htg hex hl hcp hl2 hcp2 hok r1 r2
    have hB := fun m' (hle : leM m m') => block_spec false body a l cp xs m' hl (Rds_upM hle r1) (stsRep_upM hle s1) (by rw [hl]; exact hok.l) fun e he cs m2 hle2 hrep => validS_all h e cs m2 (by have := depthSs_mem he; omega) (hg.upM (leM_tr hle hle2)) hrep
    have hA := fun m' (hle : leM m m') => block_spec false alt b l2 cp2 ys m' hl2 (Rds_upM hle r2) (stsRep_upM hle s2) (by rw [hl2]; exact hok.l2) fun e he cs m2 hle2 hrep => validS_all h e cs m2 (by have := depthSs_mem he; omega) (hg.upM (leM_tr hle hle2)) hrep
    simp only
    rcases kinds_or (k := k) with hk | hk
    · rcases hk with rfl | rfl | rfl | rfl | rfl | rfl | rfl | rfl | rfl | rfl | rfl
      · exact vst1 nm ty tN eN a l cp b l2 cp2 tg ex body alt xs ys m hg htg hex hl hcp hl2 hcp2 hok r1 r2 s1 s2 _ _ _ _ hB hA rfl (by simp only [validS, okStm, usedS, Int.reduceEq, or_false, or_true, false_or, true_or, if_true, if_false])
      · exact vst2 nm ty tN eN a l cp b l2 cp2 tg ex body alt xs ys m hg htg hex hl hcp hl2 hcp2 hok r1 r2 s1 s2 _ _ _ _ hB hA rfl (by simp only [validS, okStm, usedS, Int.reduceEq, or_false, or_true, false_or, true_or, if_true, if_false])
      · exact vst3 nm ty tN eN a l cp b l2 cp2 tg ex body alt xs ys m hg htg hex hl hcp hl2 hcp2 hok r1 r2 s1 s2 _ _ _ _ hB hA rfl (by simp only [validS, okStm, usedS, Int.reduceEq, or_false, or_true, false_or, true_or, if_true, if_false])
      · exact vst4 nm ty tN eN a l cp b l2 cp2 tg ex body alt xs ys m hg htg hex hl hcp hl2 hcp2 hok r1 r2 s1 s2 _ _ _ _ hB hA rfl (by simp only [validS, okStm, usedS, Int.reduceEq, or_false, or_true, false_or, true_or, if_true, if_false])
      · exact vst5 nm ty tN eN a l cp b l2 cp2 tg ex body alt xs ys m hg htg hex hl hcp hl2 hcp2 hok r1 r2 s1 s2 _ _ _ _ hB hA rfl (by simp only [validS, okStm, usedS, Int.reduceEq, or_false, or_true, false_or, true_or, if_true, if_false])
      · exact vst6 nm ty tN eN a l cp b l2 cp2 tg ex body alt xs ys m hg htg hex hl hcp hl2 hcp2 hok r1 r2 s1 s2 _ _ _ _ hB hA rfl (by simp only [validS, okStm, usedS, Int.reduceEq, or_false, or_true, false_or, true_or, if_true, if_false])
      · exact vst7 nm ty tN eN a l cp b l2 cp2 tg ex body alt xs ys m hg htg hex hl hcp hl2 hcp2 hok r1 r2 s1 s2 _ _ _ _ hB hA rfl (by simp only [validS, okStm, usedS, Int.reduceEq, or_false, or_true, false_or, true_or, if_true, if_false])
      · exact vst8 nm ty tN eN a l cp b l2 cp2 tg ex body alt xs ys m hg htg hex hl hcp hl2 hcp2 hok r1 r2 s1 s2 _ _ _ _ hB hA rfl (by simp only [validS, okStm, usedS, Int.reduceEq, or_false, or_true, false_or, true_or, if_true, if_false])
      · exact vst9 nm ty tN eN a l cp b l2 cp2 tg ex body alt xs ys m hg htg hex hl hcp hl2 hcp2 hok r1 r2 s1 s2 _ _ _ _ hB hA rfl (by simp only [validS, okStm, usedS, Int.reduceEq, or_false, or_true, false_or, true_or, if_true, if_false])
      · exact vst10 nm ty tN eN a l cp b l2 cp2 tg ex body alt xs ys m hg htg hex hl hcp hl2 hcp2 hok r1 r2 s1 s2 _ _ _ _ hB hA rfl (by simp only [validS, okStm, usedS, Int.reduceEq, or_false, or_true, false_or, true_or, if_true, if_false])
      · exact vst11 nm ty tN eN a l cp b l2 cp2 tg ex body alt xs ys m hg htg hex hl hcp hl2 hcp2 hok r1 r2 s1 s2 _ _ _ _ hB hA rfl (by simp only [validS, okStm, usedS, Int.reduceEq, or_false, or_true, false_or, true_or, if_true, if_false])
    · have hv := vst0 k nm ty tN eN a l cp b l2 cp2 m _ _ hk hB hA
      have : validS (.mk k nm ty tg ex body alt) = false := by
        have e : ∀ j : Int, 1 ≤ j → j ≤ 11 → ¬ k = j := fun j h1 h2 h3 => by have := hk j h1 h2; rw [this] at h3; exact h3
        simp only [validS, okStm, hk 1 (by decide) (by decide), hk 2 (by decide) (by decide), hk 3 (by decide) (by decide), hk 4 (by decide) (by decide), hk 5 (by decide) (by decide), hk 6 (by decide) (by decide), hk 7 (by decide) (by decide), hk 8 (by decide) (by decide), hk 9 (by decide) (by decide), hk 10 (by decide) (by decide), hk 11 (by decide) (by decide), or_false, if_false, Bool.false_and]
      rw [this]
      exact hv
theorem block_all (sup : Bool) (l : List St) (a : Option Addr) (n c : Nat) (xs : List Value) (m : Mem) (hg : Glob m) (hl : n = l.length) (hr : Rds m a n 23 xs) (hs : stsRep m l xs) (hn : n ≤ big) :
    Ans 47 [.v (.slice a n c), .v (.bool sup)] m (.bool (blockL sup l)) :=
  block_spec sup l a n c xs m hl hr hs hn fun e _ cs m' hle hrep => validS_all _ e cs m' (Nat.le_refl _) (hg.upM hle) hrep

end Go.Proofs.YtalalcpefggniaaGreatDoor.E

namespace Go.Proofs.YtalalcpefggniaaGreatDoor.E
open Go

def hasB (fl m : Int) : Bool := !decide (bits .and .i64 fl m = 0)
def visL (fl : Int) : Bool := decide (bits .and .i64 fl 7 = 0) || decide (bits .and .i64 fl 7 = 1) || decide (bits .and .i64 fl 7 = 2) || decide (bits .and .i64 fl 7 = 4)
def onlyL (fl al : Int) : Bool := decide (bits .andNot .i64 fl al = 0)
def mflagsL (fl : Int) : Bool := visL fl && onlyL fl 1087 && !(hasB fl 1024 && hasB fl 58) && (!hasB fl 32 || !hasB fl 8)
def fieldL (f : Fc) : Bool := valueTy f.ty.dim f.ty.base f.ty.name && identL f.name && visL f.fl && onlyL f.fl 31
def paramL (p : Pc) : Bool := valueTy p.ty.dim p.ty.base p.ty.name && identL p.name
def voidTy (t : Ty) : Bool := decide (t.dim = 0) && (decide (t.base = 86) && decide (t.name = []))
def mHead (m : Md) : Bool := if m.name = initS then voidTy m.res && m.hb && onlyL m.fl 7 else identL m.name && (voidTy m.res || valueTy m.res.dim m.res.base m.res.name)
def mMid (m : Md) : Bool := mflagsL m.fl && !(m.hb == hasB m.fl 1024) && (m.hb || decide (m.body.length = 0)) && decide (m.params.length ≤ 16)
def methodL (m : Md) : Bool := mHead m && mMid m && !(m.params.any fun p => !paramL p) && blockL (decide (m.name = initS)) m.body
def objS : List UInt8 := [108, 97, 110, 103, 47, 79, 98, 106, 101, 99, 116]
def badM (m : Md) : Bool := !decide (m.fl = 1) && !decide (m.fl = 1025) || decide (m.name = initS)
def ifaceL (d : Cd) : Bool := onlyL d.fl 1537 && hasB d.fl 1024 && decide (d.super = objS) && decide (d.fields.length + d.init.length = 0) && !(d.methods.any badM)
def cHead (d : Cd) : Bool := if hasB d.fl 512 = true then ifaceL d else onlyL d.fl 1041 && !(hasB d.fl 16 && hasB d.fl 1024)
def cNames (d : Cd) : Bool := isCls d.name && isCls d.super && decide (d.ifs.length ≤ 8)
def cLens (d : Cd) : Bool := decide (d.fields.length ≤ 64) && decide (d.methods.length ≤ 64)
def classL (d : Cd) : Bool := cHead d && (cNames d && !(d.ifs.any fun s => !isCls s) && cLens d && !(d.fields.any fun f => !fieldL f) && !(d.methods.any fun f => !methodL f) && blockL false d.init)
def pI1 (F : Int → Bool) : List Value → Option (Prop × Value)
  | [.int .i64 c] => some (True, .bool (F c))
  | _ => none
theorem pureI1 {P : Program} {f : FuncId} {F : Int → Bool} (h : ∀ c m, FnH P f [.v (.int .i64 c)] ⟨[], []⟩ m fun r H' _ => r = .v (.bool (F c)) ∧ H' = ⟨[], []⟩) : Pure0 P f (pI1 F) := fun vals y hy _ m => by
  unfold pI1 at hy
  split at hy
  · cases hy; exact h _ m
  · cases hy
def pI2 (F : Int → Int → Bool) : List Value → Option (Prop × Value)
  | [.int .i64 c, .int .i64 d] => some (True, .bool (F c d))
  | _ => none
theorem pureI2 {P : Program} {f : FuncId} {F : Int → Int → Bool} (h : ∀ c d m, FnH P f [.v (.int .i64 c), .v (.int .i64 d)] ⟨[], []⟩ m fun r H' _ => r = .v (.bool (F c d)) ∧ H' = ⟨[], []⟩) : Pure0 P f (pI2 F) := fun vals y hy _ m => by
  unfold pI2 at hy
  split at hy
  · cases hy; exact h _ _ m
  · cases hy
attribute [go_sem] pI1 pI2
theorem vis_spec (fl : Int) (m : Mem) : FnH Tryz.prog 144 [.v (.int .i64 fl)] ⟨[], []⟩ m fun r H' _ => r = .v (.bool (visL fl)) ∧ H' = ⟨[], []⟩ := by
  refine enter cfN puN Tryz.func144 rfl rfl (by kernel_rfl) rfl ?_ ?_
  · simp only [go_sem, ↓imp_tf, ↓imp_ft, ↓reduceIte]
  · simp only [go_sem, ↓imp_tf, ↓imp_ft, ↓reduceIte]
    refine ⟨fun a => ⟨fun _ => by simp [visL, a], fun n => absurd a n⟩, fun a => ⟨fun b => ⟨fun _ => by simp [visL, b], fun n => absurd b n⟩, fun b => ⟨fun c => ⟨fun _ => by simp [visL, c], fun n => absurd c n⟩, fun c => ⟨fun d => by simp [visL, d], fun d => by simp [visL, a, b, c, d]⟩⟩⟩⟩
theorem only_spec (fl al : Int) (m : Mem) : FnH Tryz.prog 65 [.v (.int .i64 fl), .v (.int .i64 al)] ⟨[], []⟩ m fun r H' _ => r = .v (.bool (onlyL fl al)) ∧ H' = ⟨[], []⟩ := by
  refine enter cfN puN Tryz.func65 rfl rfl (by kernel_rfl) rfl ?_ ?_
  · simp only [go_sem, ↓imp_tf, ↓imp_ft, ↓reduceIte]
  · simp only [go_sem, ↓imp_tf, ↓imp_ft, ↓reduceIte]
    rfl
abbrev cfF : Cfg := mkCf (fun _ => false) [(144, pI1 visL), (65, pI2 onlyL), (48, pS1 BL fun s => .bool (identL s)), (49, pTy valueTy), (67, pS1 BL fun s => .bool (isCls s))]
theorem puF : PureOk cfF Tryz.prog := pure_cons (by kernel_rfl) (pureI1 vis_spec) (pure_cons (by kernel_rfl) (pureI2 only_spec) (pure_cons (by kernel_rfl) (pureS ident_spec) (pure_cons (by kernel_rfl) (pureTy value_spec) (pure_cons (by kernel_rfl) (pureS isCls_spec) pure_nil))))
theorem mflags_spec (fl : Int) (m : Mem) : FnH Tryz.prog 145 [.v (.int .i64 fl)] ⟨[], []⟩ m fun r H' _ => r = .v (.bool (mflagsL fl)) ∧ H' = ⟨[], []⟩ := by
  refine enter cfF puF Tryz.func145 rfl rfl (by kernel_rfl) rfl ?_ ?_
  · simp only [go_sem, ↓imp_tf, ↓imp_ft, ↓reduceIte]
  · simp only [go_sem, ↓imp_tf, ↓imp_ft, ↓reduceIte]
    refine ⟨fun h => ?_, fun h => ⟨fun g => ?_, fun g => ?_⟩⟩
    · rcases h with h | h <;> simp [mflagsL, h]
    · simp [mflagsL, hasB, g.1, g.2]
    · rcases g with g | g <;> simp [mflagsL, hasB, h.1, h.2, g]
theorem field_spec (f : Fc) (m : Mem) (h : FcOk f) : Ans 69 [.v (.agg ⟨f.cs⟩)] m (.bool (fieldL f)) := by
  have h1 : BL f.name := Nat.le_trans h.name (by decide)
  have h2 : BL f.ty.name := Nat.le_trans h.ty.2.2 (by decide)
  refine enter cfF puF Tryz.func69 rfl rfl (by kernel_rfl) rfl ?_ ?_
  · simp only [go_sem, ↓imp_tf, ↓imp_ft, ↓reduceIte, Fc.cs]
  · simp only [go_sem, ↓imp_tf, ↓imp_ft, ↓reduceIte, Fc.cs]
    exact ⟨h2, fun _ => h1, rfl⟩
theorem badF_spec (f : Fc) (m : Mem) (h : FcOk f) : Ans 68 [.v (.agg ⟨f.cs⟩)] m (.bool (!fieldL f)) := by
  have hF := field_spec f m h
  refine enter cfF puF Tryz.func68 rfl rfl (by kernel_rfl) rfl ?_ ?_
  · simp only [go_sem, ↓imp_tf, ↓imp_ft, ↓reduceIte, Fc.cs]
  · simp only [go_sem, ↓imp_tf, ↓imp_ft, ↓reduceIte, Fc.cs]
    refine ⟨by kernel_rfl, FnV_of ((FnH_den hF (fun V => rfl)).mono ?_)⟩
    rintro r H' m2 hm2 ⟨hle2, rfl, rfl⟩
    simp only [go_sem, ↓imp_tf, ↓imp_ft, ↓reduceIte]
    exact hle2
theorem badS_spec (s : List UInt8) (m : Mem) (h : BL s) : Ans 66 [.v (.string (bs s))] m (.bool (!isCls s)) := by
  refine enter cfF puF Tryz.func66 rfl rfl (by kernel_rfl) rfl ?_ ?_
  · simp only [go_sem, ↓imp_tf, ↓imp_ft, ↓reduceIte]
  · simp only [go_sem, ↓imp_tf, ↓imp_ft, ↓reduceIte]
    exact h
theorem badP_spec (f : Pc) (m : Mem) (h : PcOk f) : Ans 146 [.v (.agg ⟨f.cs⟩)] m (.bool (!paramL f)) := by
  have h1 : BL f.name := Nat.le_trans h.name (by decide)
  have h2 : BL f.ty.name := Nat.le_trans h.ty.2.2 (by decide)
  refine enter cfF puF Tryz.func146 rfl rfl (by kernel_rfl) rfl ?_ ?_
  · simp only [go_sem, ↓imp_tf, ↓imp_ft, ↓reduceIte, Pc.cs]
  · simp only [go_sem, ↓imp_tf, ↓imp_ft, ↓reduceIte, Pc.cs]
    exact ⟨h2, fun _ => h1, by rw [paramL, Bool.not_and]⟩
theorem badI_spec (x : Mc) (m : Mem) : Ans 141 [.v (.agg ⟨x.cs⟩)] m (.bool (!decide (x.fl = 1) && !decide (x.fl = 1025) || decide (x.name = initS))) := by
  refine enter cfF puF Tryz.func141 rfl rfl (by kernel_rfl) rfl ?_ ?_
  · simp only [go_sem, ↓imp_tf, ↓imp_ft, ↓reduceIte, Mc.cs]
  · simp only [go_sem, ↓imp_tf, ↓imp_ft, ↓reduceIte, Mc.cs]
    rfl
theorem any_of {α : Type} {p : α → Bool} {l : List α} {n : Nat} (hn : n = l.length) {B : Nat → Bool} (h : ∀ i (hi : i < l.length), B i = p l[i]) : anyB n B = l.any p := by
  subst hn; exact anyB_list p l B h
def atP {α : Type} (p : α → Bool) (l : List α) (i : Nat) : Bool := match l[i]? with | some a => p a | none => false
theorem atP_at {α : Type} {p : α → Bool} {l : List α} {i : Nat} (h : i < l.length) : atP p l i = p l[i] := by simp only [atP, List.getElem?_eq_getElem h]
/-- The parts of a method's cells. -/
theorem md_parts {m : Mem} {d : Md} {cs : List Value} (h : mdRep m d cs) : ∃ x : Mc, (cs = x.cs ∧ x.fl = d.fl ∧ x.res = d.res ∧ x.name = d.name ∧ x.hb = d.hb) ∧ (x.pl = d.params.length ∧ x.pl ≤ x.pc ∧ x.l = d.body.length ∧ x.l ≤ x.cp) ∧ MdOk d ∧ Rds m x.pa x.pl 4 (flat Pc.cs d.params) ∧ ∃ xs, Rds m x.a x.l 23 xs ∧ stsRep m d.body xs := h
theorem method_spec (d : Md) (cs : List Value) (m : Mem) (hg : Glob m) (h : mdRep m d cs) : Ans 71 [.v (.agg ⟨cs⟩)] m (.bool (methodL d)) := by
  obtain ⟨fl, res, name, params, hb, body⟩ := d
  obtain ⟨x, ⟨rfl, rfl, rfl, rfl, rfl⟩, ⟨hpl, hpc, hl, hcp⟩, hok, r1, xs, r2, s2⟩ := h
  simp only at hpl hl r1 s2
  have h1 : BL x.name := Nat.le_trans hok.name (by decide)
  have h2 : BL x.res.name := Nat.le_trans hok.res.2.2 (by decide)
  have hP : ∀ m', leM m m' → Ans 147 [.v (.slice x.pa x.pl x.pc), .v (.func (.func 146) ⟨[]⟩ ⟨[]⟩)] m' (.bool (params.any fun p => !paramL p)) := fun m' hle => by
    have := ctfPc 146 (atP (fun p => !paramL p) params) x.pa x.pl x.pc _ m' (Rds_upM hle r1) (by rw [hpl]; exact hok.pl) (by kernel_rfl) fun i hi => ⟨params[i]'(by omega), flat_at (f := Pc.cs) (sz := 4) (fun _ => rfl) (by omega), fun m2 _ => by
      rw [atP_at (by omega)]; exact badP_spec _ m2 (hok.ps _ (List.getElem_mem _))⟩
    rw [any_of hpl (p := fun p => !paramL p) fun i hi => atP_at hi] at this
    exact this
  have hB := fun m' (hle : leM m m') => block_all (decide (x.name = initS)) body x.a x.l x.cp xs m' (hg.upM hle) hl (Rds_upM hle r2) (stsRep_upM hle s2) (by rw [hl]; exact hok.l)
  clear s2
  refine enter (mkCf (fun _ => false) [(145, pI1 mflagsL), (65, pI2 onlyL), (48, pS1 BL fun s => .bool (identL s)), (49, pTy valueTy)])
    (pure_cons (by kernel_rfl) (pureI1 mflags_spec) (pure_cons (by kernel_rfl) (pureI2 only_spec) (pure_cons (by kernel_rfl) (pureS ident_spec) (pure_cons (by kernel_rfl) (pureTy value_spec) pure_nil)))) Tryz.func71 rfl rfl (by kernel_rfl) rfl ?_ ?_
  · simp only [go_sem, ↓imp_tf, ↓imp_ft, ↓reduceIte, Mc.cs]
  · simp only [go_sem, ↓imp_tf, ↓imp_ft, ↓reduceIte, Mc.cs, eqOkT]
    have e1 : ∀ (d : Md), mHead d = true → mMid d = true → methodL d = (!(d.params.any fun p => !paramL p) && blockL (decide (d.name = initS)) d.body) := fun d a b => by rw [methodL, a, b]; rfl
    have g0 : ∀ (d : Md), ((mflagsL d.fl = false ∨ (d.hb == !decide (bits .and .i64 d.fl 1024 = 0)) = true) ∨ d.hb = false ∧ 0 < d.body.length) ∨ 16 < d.params.length → false = methodL d := fun d g => by
      have : mMid d = false := by
        rcases g with ((g | g) | g) | g
        · simp [mMid, g]
        · simp only [mMid, hasB, g, Bool.not_true, Bool.and_false, Bool.false_and]
        · simp only [mMid, g.1, Bool.false_or, decide_eq_false (by omega : ¬ d.body.length = 0), Bool.and_false, Bool.false_and]
        · simp only [mMid, decide_eq_false (by omega : ¬ d.params.length ≤ 16), Bool.and_false]
      rw [methodL, this, Bool.and_false]; rfl
    have g1 : ∀ (d : Md), ((mflagsL d.fl = true ∧ (d.hb == !decide (bits .and .i64 d.fl 1024 = 0)) = false) ∧ (d.hb = true ∨ ¬ 0 < d.body.length)) ∧ ¬ 16 < d.params.length → mMid d = true := fun d g => by
      simp only [mMid, hasB, g.1.1.1, g.1.1.2, decide_eq_true (by omega : d.params.length ≤ 16), Bool.not_false, Bool.and_true, Bool.true_and]
      rcases g.1.2 with h | h
      · rw [h]; rfl
      · rw [decide_eq_true (by omega : d.body.length = 0), Bool.or_true]
    have g0' := g0 ⟨x.fl, x.res, x.name, params, x.hb, body⟩
    have g1' := g1 ⟨x.fl, x.res, x.name, params, x.hb, body⟩
    have e1' := e1 ⟨x.fl, x.res, x.name, params, x.hb, body⟩
    clear g0 g1 e1
    simp only at g0' g1' e1'
    have gx : ∀ {A B : Prop}, (A ∨ B ∧ 0 < (x.l : Int)) ∨ 16 < (x.pl : Int) → (A ∨ B ∧ 0 < body.length) ∨ 16 < params.length := fun g => by
      clear hP hB
      rcases g with (g | g) | g
      · exact .inl (.inl g)
      · exact .inl (.inr ⟨g.1, by omega⟩)
      · exact .inr (by omega)
    have gy : ∀ {A B : Prop}, (A ∧ (B ∨ ¬ 0 < (x.l : Int))) ∧ ¬ 16 < (x.pl : Int) → (A ∧ (B ∨ ¬ 0 < body.length)) ∧ ¬ 16 < params.length := fun g => by
      clear hP hB
      refine ⟨⟨g.1.1, ?_⟩, by omega⟩
      rcases g.1.2 with h | h
      · exact .inl h
      · exact .inr (by omega)
    refine ⟨fun hn => ⟨fun c => ?_, fun c => ⟨by kernel_rfl, fun g => g0' (gx g), fun g => ⟨by kernel_rfl, FnV_of ((hP m (.inl rfl)).mono ?_)⟩⟩⟩,
      fun hn => ⟨h1, fun _ => h2, fun c => ?_, fun c => ⟨by kernel_rfl, fun g => g0' (gx g), fun g => ⟨by kernel_rfl, FnV_of ((hP m (.inl rfl)).mono ?_)⟩⟩⟩⟩
    · clear hP hB
      have : mHead ⟨x.fl, x.res, x.name, params, x.hb, body⟩ = false := by
        simp only [mHead, voidTy]
        rw [if_pos (show x.name = initS from hn)]
        rcases c with ((c | c | c) | c) | c <;> simp [c]
      rw [methodL, this]; rfl
    · have g2 := g1' (gy g)
      have hh : mHead ⟨x.fl, x.res, x.name, params, x.hb, body⟩ = true := by
        clear hP hB
        simp only [mHead, voidTy]
        rw [if_pos (show x.name = initS from hn)]
        simp [c.1.1.1, c.1.1.2.1, c.1.1.2.2, c.1.2, c.2]
      have e2 := e1' hh g2
      clear hP
      rintro r H' m2 hm2 ⟨hle2, rfl, rfl⟩
      simp only [go_sem, ↓imp_tf, ↓imp_ft, ↓reduceIte, Mc.cs]
      refine ⟨fun b1 => ⟨by kernel_rfl, FnV_of ((hB m2 hle2).mono ?_)⟩, fun b1 => ?_⟩
      · clear hB
        rintro r H' m3 hm3 ⟨hle3, rfl, rfl⟩
        simp only [go_sem, ↓imp_tf, ↓imp_ft, ↓reduceIte, Mc.cs]
        refine ⟨leM_tr hle2 hle3, ?_⟩
        rw [e2, b1]; rfl
      · refine ⟨hle2, ?_⟩
        rw [e2, b1]; rfl
    · clear hP hB
      have : mHead ⟨x.fl, x.res, x.name, params, x.hb, body⟩ = false := by
        simp only [mHead, voidTy]
        rw [if_neg (show ¬ x.name = initS from hn)]
        rcases c with c | c
        · simp [c]
        · rw [c.2]
          rcases c.1 with c | c | c <;> simp [c]
      rw [methodL, this]; rfl
    · have g2 := g1' (gy g)
      have hh : mHead ⟨x.fl, x.res, x.name, params, x.hb, body⟩ = true := by
        clear hP hB
        simp only [mHead, voidTy]
        rw [if_neg (show ¬ x.name = initS from hn), c.1]
        rcases c.2 with c | c <;> simp [c]
      have e2 := e1' hh g2
      clear hP
      rintro r H' m2 hm2 ⟨hle2, rfl, rfl⟩
      simp only [go_sem, ↓imp_tf, ↓imp_ft, ↓reduceIte, Mc.cs]
      refine ⟨fun b1 => ⟨by kernel_rfl, FnV_of ((hB m2 hle2).mono ?_)⟩, fun b1 => ?_⟩
      · clear hB
        rintro r H' m3 hm3 ⟨hle3, rfl, rfl⟩
        simp only [go_sem, ↓imp_tf, ↓imp_ft, ↓reduceIte, Mc.cs]
        refine ⟨leM_tr hle2 hle3, ?_⟩
        rw [e2, b1]; rfl
      · refine ⟨hle2, ?_⟩
        rw [e2, b1]; rfl
end Go.Proofs.YtalalcpefggniaaGreatDoor.E

namespace Go.Proofs.YtalalcpefggniaaGreatDoor.E
open Go

theorem badN_spec (d : Md) (cs : List Value) (m : Mem) (hg : Glob m) (h : mdRep m d cs) : Ans 70 [.v (.agg ⟨cs⟩)] m (.bool (!methodL d)) := by
  have hM := method_spec d cs m hg h
  obtain ⟨x, rfl⟩ := mdRep_mc h
  refine enter cfN puN Tryz.func70 rfl rfl (by kernel_rfl) rfl ?_ ?_
  · simp only [go_sem, ↓imp_tf, ↓imp_ft, ↓reduceIte, Mc.cs]
  · simp only [go_sem, ↓imp_tf, ↓imp_ft, ↓reduceIte, Mc.cs]
    refine ⟨by kernel_rfl, FnV_of ((FnH_den hM (fun V => rfl)).mono ?_)⟩
    rintro r H' m2 hm2 ⟨hle2, rfl, rfl⟩
    simp only [go_sem, ↓imp_tf, ↓imp_ft, ↓reduceIte]
    exact hle2
theorem badI_of (d : Md) (cs : List Value) (m m' : Mem) (h : mdRep m d cs) : Ans 141 [.v (.agg ⟨cs⟩)] m' (.bool (badM d)) := by
  obtain ⟨x, ⟨rfl, h1, h2, h3, h4⟩, _⟩ := h
  have := badI_spec x m'
  rw [h1, h3] at this
  exact this
/-- ContainsFunc over methods. -/
theorem ctM (f : FuncId) (p : Md → Bool) (l : List Md) (a : Option Addr) (n c : Nat) (xs : List Value) (m : Mem) (hl : n = l.length) (hr : Rds m a n 8 xs) (hs : lsRep (mdRep m) 8 l xs) (hn : n ≤ big) (hok : fnOk Tryz.prog f = true)
    (hf : ∀ d ∈ l, ∀ cs m', leM m m' → mdRep m' d cs → Ans f [.v (.agg ⟨cs⟩)] m' (.bool (p d))) :
    Ans 74 [.v (.slice a n c), .v (.func (.func f) ⟨[]⟩ ⟨[]⟩)] m (.bool (l.any p)) := by
  have := ctfMc f (atP p l) a n c xs m hr hn hok fun i hi => by
    have hil : i < l.length := by omega
    have hrep := ls_at hs hil
    obtain ⟨X, hX⟩ := mdRep_mc hrep
    rw [hX] at hrep
    refine ⟨X, hX, fun m' hle => ?_⟩
    rw [atP_at hil]
    exact hf _ (List.getElem_mem hil) _ m' hle (mdRep_up hle hrep)
  rw [any_of hl (p := p) fun i hi => atP_at hi] at this
  exact this
theorem ctF (f : FuncId) (p : Fc → Bool) (l : List Fc) (a : Option Addr) (n c : Nat) (m : Mem) (hl : n = l.length) (hr : Rds m a n 5 (flat Fc.cs l)) (hn : n ≤ big) (hok : fnOk Tryz.prog f = true)
    (hf : ∀ d ∈ l, ∀ m', leM m m' → Ans f [.v (.agg ⟨d.cs⟩)] m' (.bool (p d))) :
    Ans 73 [.v (.slice a n c), .v (.func (.func f) ⟨[]⟩ ⟨[]⟩)] m (.bool (l.any p)) := by
  have := ctfFc f (atP p l) a n c _ m hr hn hok fun i hi => by
    have hil : i < l.length := by omega
    refine ⟨l[i], flat_at (f := Fc.cs) (sz := 5) (fun _ => rfl) hil, fun m' hle => ?_⟩
    rw [atP_at hil]
    exact hf _ (List.getElem_mem hil) m' hle
  rw [any_of hl (p := p) fun i hi => atP_at hi] at this
  exact this
theorem ctS (f : FuncId) (p : List UInt8 → Bool) (l : List (List UInt8)) (a : Option Addr) (n c : Nat) (m : Mem) (hl : n = l.length) (hr : Rds m a n 1 (strs l)) (hn : n ≤ big) (hok : fnOk Tryz.prog f = true)
    (hf : ∀ d ∈ l, ∀ m', leM m m' → Ans f [.v (.string (bs d))] m' (.bool (p d))) :
    Ans 72 [.v (.slice a n c), .v (.func (.func f) ⟨[]⟩ ⟨[]⟩)] m (.bool (l.any p)) := by
  have := ctfS f (atP p l) a n c _ m hr hn hok fun i hi => by
    have hil : i < l.length := by omega
    refine ⟨l[i], ?_, fun m' hle => ?_⟩
    · rw [strs, List.getElem?_map, List.getElem?_eq_getElem hil]; rfl
    · rw [atP_at hil]
      exact hf _ (List.getElem_mem hil) m' hle
  rw [any_of hl (p := p) fun i hi => atP_at hi] at this
  exact this
theorem iface_spec (d : Cd) (cs : List Value) (m : Mem) (h : cdRep m d cs) : Ans 64 [.v (.agg ⟨cs⟩)] m (.bool (ifaceL d)) := by
  obtain ⟨fl, name, super, ifs, fields, methods, init⟩ := d
  obtain ⟨x, ⟨rfl, rfl, rfl, rfl⟩, ⟨hil, hic, hfn, hfc, hml, hmc, hsl, hsc⟩, hok, r1, r2, xs, ys, r3, s3, r4, s4⟩ := h
  simp only at hil hfn hml hsl r1 r2 s3 s4
  have hM := ctM 141 badM methods x.ma x.ml x.mc xs m hml r3 s3 (by rw [hml]; exact hok.ml) (by kernel_rfl) fun d _ cs m' hle hrep => badI_of d cs m' m' hrep
  have b1 := hok.fn
  have b2 := hok.l
  clear s3 s4
  refine enter cfF puF Tryz.func64 rfl rfl (by kernel_rfl) rfl ?_ ?_
  · simp only [go_sem, ↓imp_tf, ↓imp_ft, ↓reduceIte, Cc.cs]
  · simp only [go_sem, ↓imp_tf, ↓imp_ft, ↓reduceIte, Cc.cs]
    have e0 : ifaceL ⟨x.fl, x.name, x.super, ifs, fields, methods, init⟩ = (onlyL x.fl 1537 && hasB x.fl 1024 && decide (x.super = objS) && decide (fields.length + init.length = 0) && !(methods.any badM)) := rfl
    simp only at b1 b2
    refine ⟨fun _ => by clear hM; unfold I64; simp only [big] at b1 b2; omega, fun c => ⟨by kernel_rfl, FnV_of (hM.mono ?_)⟩, fun c => ?_⟩
    · have g : fields.length + init.length = 0 := by clear hM; omega
      clear hM
      rintro r H' m2 hm2 ⟨hle2, rfl, rfl⟩
      simp only [go_sem, ↓imp_tf, ↓imp_ft, ↓reduceIte, Cc.cs]
      refine ⟨hle2, ?_⟩
      rw [e0, c.1.1.1, hasB, decide_eq_false c.1.1.2, decide_eq_true (show x.super = objS from c.1.2), decide_eq_true g]
      rfl
    · clear hM
      rw [e0]
      rcases c with ((c | c) | c) | c
      · simp [c]
      · simp [hasB, c]
      · rw [decide_eq_false (show ¬ x.super = objS from c)]; simp
      · rw [decide_eq_false (by omega : ¬ fields.length + init.length = 0)]; simp
theorem class_spec2 (d : Cd) (cs : List Value) (m : Mem) (hg : Glob m) (h : cdRep m d cs) : Ans 32 [.v (.agg ⟨cs⟩)] m (.bool (classL d)) := by
  have hI := iface_spec d cs m h
  obtain ⟨fl, name, super, ifs, fields, methods, init⟩ := d
  obtain ⟨x, ⟨rfl, rfl, rfl, rfl⟩, ⟨hil, hic, hfn, hfc, hml, hmc, hsl, hsc⟩, hok, r1, r2, xs, ys, r3, s3, r4, s4⟩ := h
  simp only at hil hfn hml hsl r1 r2 s3 s4
  have hM := fun m' (hle : leM m m') => ctM 70 (fun d => !methodL d) methods x.ma x.ml x.mc xs m' hml (Rds_upM hle r3) (ls_up (fun _ _ => mdRep_up hle) s3) (by rw [hml]; exact hok.ml) (by kernel_rfl) fun d _ cs m2 hle2 hrep => badN_spec d cs m2 (hg.upM (leM_tr hle hle2)) hrep
  have hF := fun m' (hle : leM m m') => ctF 68 (fun d => !fieldL d) fields x.fa x.fn x.fc m' hfn (Rds_upM hle r2) (by rw [hfn]; exact hok.fn) (by kernel_rfl) fun d hd m2 hle2 => badF_spec d m2 (hok.fs d hd)
  have hS := fun m' (hle : leM m m') => ctS 66 (fun d => !isCls d) ifs x.ia x.il x.ic m' hil (Rds_upM hle r1) (by rw [hil]; exact hok.il) (by kernel_rfl) fun d hd m2 hle2 => badS_spec d m2 (Nat.le_trans (hok.ifs d hd) (by decide))
  have hB := fun m' (hle : leM m m') => block_all false init x.sa x.sl x.sc ys m' (hg.upM hle) hsl (Rds_upM hle r4) (stsRep_upM hle s4) (by rw [hsl]; exact hok.l)
  have h1 : BL x.name := Nat.le_trans hok.name (by decide)
  have h2 : BL x.super := Nat.le_trans hok.super (by decide)
  clear s3 s4
  refine enter cfF puF Tryz.func32 rfl rfl (by kernel_rfl) rfl ?_ ?_
  · simp only [go_sem, ↓imp_tf, ↓imp_ft, ↓reduceIte, Cc.cs]
  · simp only [go_sem, ↓imp_tf, ↓imp_ft, ↓reduceIte, Cc.cs]
    have e0 : cHead ⟨x.fl, x.name, x.super, ifs, fields, methods, init⟩ = true → classL ⟨x.fl, x.name, x.super, ifs, fields, methods, init⟩ = (cNames ⟨x.fl, x.name, x.super, ifs, fields, methods, init⟩ && !(ifs.any fun s => !isCls s) && cLens ⟨x.fl, x.name, x.super, ifs, fields, methods, init⟩ && !(fields.any fun f => !fieldL f) && !(methods.any fun f => !methodL f) && blockL false init) := fun h => by rw [classL, h]; rfl
    refine ⟨fun b => ⟨by kernel_rfl, FnV_of ((FnH_den hI (fun V => rfl)).mono ?_)⟩, fun b => ⟨fun c => ?_, fun c => ?_⟩⟩
    · clear hI
      rintro r H' m1 hm1 ⟨l1, rfl, rfl⟩
      simp only [go_sem, ↓imp_tf, ↓imp_ft, ↓reduceIte, Cc.cs]
      have g : hasB x.fl 512 = true := by rw [hasB, decide_eq_false b]; rfl
      refine ⟨fun c => ?_, fun c => ?_⟩
      · refine ⟨l1, ?_⟩
        rw [classL, cHead, if_pos g, c]; rfl
      · have hH : cHead ⟨x.fl, x.name, x.super, ifs, fields, methods, init⟩ = true := by rw [cHead, if_pos g, c]
        refine ⟨h1, fun _ => h2, fun c => ⟨by kernel_rfl, FnV_of ((hS m1 l1).mono ?_)⟩, fun c => ?_⟩
        · clear hS
          rintro r H' n1 hn1 ⟨k1, rfl, rfl⟩
          simp only [go_sem, ↓imp_tf, ↓imp_ft, ↓reduceIte, Cc.cs]
          have hN : cNames ⟨x.fl, x.name, x.super, ifs, fields, methods, init⟩ = true := by clear hF hM hB; simp only [cNames, c.1.1, c.1.2, decide_eq_true (by omega : ifs.length ≤ 8)]; rfl
          refine ⟨fun d => ⟨by kernel_rfl, FnV_of ((hF n1 (leM_tr l1 k1)).mono ?_)⟩, fun d => ?_⟩
          · clear hF
            rintro r H' n2 hn2 ⟨k2, rfl, rfl⟩
            simp only [go_sem, ↓imp_tf, ↓imp_ft, ↓reduceIte, Cc.cs]
            have hL : cLens ⟨x.fl, x.name, x.super, ifs, fields, methods, init⟩ = true := by clear hM hB; simp only [cLens, decide_eq_true (by omega : fields.length ≤ 64), decide_eq_true (by omega : methods.length ≤ 64)]; rfl
            refine ⟨fun e => ⟨by kernel_rfl, FnV_of ((hM n2 (leM_tr (leM_tr l1 k1) k2)).mono ?_)⟩, fun e => ?_⟩
            · clear hM
              rintro r H' n3 hn3 ⟨k3, rfl, rfl⟩
              simp only [go_sem, ↓imp_tf, ↓imp_ft, ↓reduceIte, Cc.cs]
              refine ⟨fun f => ⟨by kernel_rfl, FnV_of ((hB n3 (leM_tr (leM_tr (leM_tr l1 k1) k2) k3)).mono ?_)⟩, fun f => ?_⟩
              · clear hB
                rintro r H' n4 hn4 ⟨k4, rfl, rfl⟩
                simp only [go_sem, ↓imp_tf, ↓imp_ft, ↓reduceIte, Cc.cs]
                refine ⟨leM_tr (leM_tr (leM_tr (leM_tr l1 k1) k2) k3) k4, ?_⟩
                rw [e0 hH, hN, d.1.1, hL, e, f]
                rfl
              · refine ⟨leM_tr (leM_tr (leM_tr l1 k1) k2) k3, ?_⟩
                rw [e0 hH, f]; simp
            · refine ⟨leM_tr (leM_tr l1 k1) k2, ?_⟩
              rw [e0 hH, e]; simp
          · refine ⟨leM_tr l1 k1, ?_⟩
            clear hF hM hB
            rw [e0 hH]
            rcases d with (d | d) | d
            · rw [d]; simp
            · simp only [cLens, decide_eq_false (by omega : ¬ fields.length ≤ 64), Bool.false_and, Bool.and_false]
            · simp only [cLens, decide_eq_false (by omega : ¬ methods.length ≤ 64), Bool.false_and, Bool.and_false]
        · clear hS hF hM hB
          refine ⟨l1, ?_⟩
          rw [e0 hH]
          rcases c with (c | c) | c
          · simp only [cNames, c, Bool.false_and]
          · simp only [cNames, c, Bool.false_and, Bool.and_false]
          · simp only [cNames, decide_eq_false (by omega : ¬ ifs.length ≤ 8), Bool.false_and, Bool.and_false]
    · clear hI hM hF hS hB
      have g : ¬ hasB x.fl 512 = true := by rw [hasB, decide_eq_true b]; decide
      have : cHead ⟨x.fl, x.name, x.super, ifs, fields, methods, init⟩ = false := by
        rw [cHead, if_neg g]
        rcases c with c | c
        · simp [c]
        · simp [hasB, c]
      rw [classL, this]; rfl
    · clear hI
      have g : ¬ hasB x.fl 512 = true := by rw [hasB, decide_eq_true b]; decide
      have hH : cHead ⟨x.fl, x.name, x.super, ifs, fields, methods, init⟩ = true := by
        clear hM hF hS hB
        rw [cHead, if_neg g]
        rcases c with ⟨c1, c | c⟩ <;> simp [hasB, c1, c]
      clear c
      refine ⟨h1, fun _ => h2, fun c => ⟨by kernel_rfl, FnV_of ((hS m (.inl rfl : leM m m)).mono ?_)⟩, fun c => ?_⟩
      · clear hS
        rintro r H' n1 hn1 ⟨k1, rfl, rfl⟩
        simp only [go_sem, ↓imp_tf, ↓imp_ft, ↓reduceIte, Cc.cs]
        have hN : cNames ⟨x.fl, x.name, x.super, ifs, fields, methods, init⟩ = true := by clear hF hM hB; simp only [cNames, c.1.1, c.1.2, decide_eq_true (by omega : ifs.length ≤ 8)]; rfl
        refine ⟨fun d => ⟨by kernel_rfl, FnV_of ((hF n1 (leM_tr (.inl rfl : leM m m) k1)).mono ?_)⟩, fun d => ?_⟩
        · clear hF
          rintro r H' n2 hn2 ⟨k2, rfl, rfl⟩
          simp only [go_sem, ↓imp_tf, ↓imp_ft, ↓reduceIte, Cc.cs]
          have hL : cLens ⟨x.fl, x.name, x.super, ifs, fields, methods, init⟩ = true := by clear hM hB; simp only [cLens, decide_eq_true (by omega : fields.length ≤ 64), decide_eq_true (by omega : methods.length ≤ 64)]; rfl
          refine ⟨fun e => ⟨by kernel_rfl, FnV_of ((hM n2 (leM_tr (leM_tr (.inl rfl : leM m m) k1) k2)).mono ?_)⟩, fun e => ?_⟩
          · clear hM
            rintro r H' n3 hn3 ⟨k3, rfl, rfl⟩
            simp only [go_sem, ↓imp_tf, ↓imp_ft, ↓reduceIte, Cc.cs]
            refine ⟨fun f => ⟨by kernel_rfl, FnV_of ((hB n3 (leM_tr (leM_tr (leM_tr (.inl rfl : leM m m) k1) k2) k3)).mono ?_)⟩, fun f => ?_⟩
            · clear hB
              rintro r H' n4 hn4 ⟨k4, rfl, rfl⟩
              simp only [go_sem, ↓imp_tf, ↓imp_ft, ↓reduceIte, Cc.cs]
              refine ⟨leM_tr (leM_tr (leM_tr (leM_tr (.inl rfl : leM m m) k1) k2) k3) k4, ?_⟩
              rw [e0 hH, hN, d.1.1, hL, e, f]
              rfl
            · refine ⟨leM_tr (leM_tr (leM_tr (.inl rfl : leM m m) k1) k2) k3, ?_⟩
              rw [e0 hH, f]; simp
          · refine ⟨leM_tr (leM_tr (.inl rfl : leM m m) k1) k2, ?_⟩
            rw [e0 hH, e]; simp
        · refine ⟨leM_tr (.inl rfl : leM m m) k1, ?_⟩
          clear hF hM hB
          rw [e0 hH]
          rcases d with (d | d) | d
          · rw [d]; simp
          · simp only [cLens, decide_eq_false (by omega : ¬ fields.length ≤ 64), Bool.false_and, Bool.and_false]
          · simp only [cLens, decide_eq_false (by omega : ¬ methods.length ≤ 64), Bool.false_and, Bool.and_false]
      · clear hS hF hM hB
        rw [e0 hH]
        rcases c with (c | c) | c
        · simp only [cNames, c, Bool.false_and]
        · simp only [cNames, c, Bool.false_and, Bool.and_false]
        · simp only [cNames, decide_eq_false (by omega : ¬ ifs.length ≤ 8), Bool.false_and, Bool.and_false]
end Go.Proofs.YtalalcpefggniaaGreatDoor.E

namespace Go.Proofs.YtalalcpefggniaaGreatDoor.E
open Go

def argsD : Ex → Nat | .mk _ _ _ _ _ args => depthL args
mutual
/-- The largest depth of the expressions. -/
def exprD : St → Nat
  | .mk k _ _ tg ex body alt => max (max (exprDs body) (exprDs alt)) (max (depthE tg) (if k = 11 then argsD ex else depthE ex))
def exprDs : List St → Nat
  | [] => 0
  | e :: r => max (exprD e) (exprDs r)
end
theorem depthSs_take : ∀ {l : List St} {k : Nat} (hk : k < l.length), depthSs (l.take (k + 1)) = max (depthSs (l.take k)) (depthS l[k])
  | [], _, hk => absurd hk (Nat.not_lt_zero _)
  | e :: r, 0, _ => by simp [depthSs]
  | e :: r, k + 1, hk => by
    have := depthSs_take (l := r) (k := k) (by simpa using hk)
    simp only [List.take_succ_cons, depthSs, this, List.getElem_cons_succ, Nat.max_assoc]
theorem exprDs_take : ∀ {l : List St} {k : Nat} (hk : k < l.length), exprDs (l.take (k + 1)) = max (exprDs (l.take k)) (exprD l[k])
  | [], _, hk => absurd hk (Nat.not_lt_zero _)
  | e :: r, 0, _ => by simp [exprDs]
  | e :: r, k + 1, hk => by
    have := exprDs_take (l := r) (k := k) (by simpa using hk)
    simp only [List.take_succ_cons, exprDs, this, List.getElem_cons_succ, Nat.max_assoc]
theorem depthSs_le : ∀ (l : List St) (k : Nat), depthSs (l.take k) ≤ depthSs l
  | [], k => by simp
  | e :: r, 0 => by simp [depthSs]
  | e :: r, k + 1 => by
    have := depthSs_le r k
    simp only [List.take_succ_cons, depthSs]
    omega
theorem exprDs_le : ∀ (l : List St) (k : Nat), exprDs (l.take k) ≤ exprDs l
  | [], k => by simp
  | e :: r, 0 => by simp [exprDs]
  | e :: r, k + 1 => by
    have := exprDs_le r k
    simp only [List.take_succ_cons, exprDs]
    omega
theorem exprDs_mem : ∀ {l : List St} {e : St}, e ∈ l → exprD e ≤ exprDs l
  | [], e, he => by cases he
  | x :: r, e, he => by
    simp only [exprDs]
    rcases List.mem_cons.1 he with rfl | he
    · omega
    · have := exprDs_mem he; omega
theorem depthL_le : ∀ (l : List Ex) (k : Nat), depthL (l.take k) ≤ depthL l
  | [], k => by simp
  | e :: r, 0 => by simp [depthL]
  | e :: r, k + 1 => by
    have := depthL_le r k
    simp only [List.take_succ_cons, depthL]
    omega
/-- The answer of depths. -/
def DepR (args : List SV) (m : Mem) (v1 v2 : Nat) : Prop := FnH Tryz.prog 75 args ⟨[], []⟩ m fun r H' m' => leM m m' ∧ H' = ⟨[], []⟩ ∧ r = .tup [.v (.int .i64 v1), .v (.int .i64 v2)]
/-- The numbers of one statement. -/
structure DepN where
  b1 : Nat
  b2 : Nat
  a1 : Nat
  a2 : Nat
  t : Nat
  x : Nat
  dl : Nat → Nat
structure DepIt (X : Sd) (N : DepN) (mm : Mem) : Prop where
  body : ∀ m', leM mm m' → DepR [.v (.slice X.a X.l X.cp)] m' N.b1 N.b2
  alt : ∀ m', leM mm m' → DepR [.v (.slice X.b X.l2 X.cp2)] m' N.a1 N.a2
  tg : ∀ m', leM mm m' → Ans 23 [.v (.agg ⟨X.tg.cs⟩)] m' (.int .i64 N.t)
  ex : ¬ X.k = 11 → ∀ m', leM mm m' → Ans 23 [.v (.agg ⟨X.ex.cs⟩)] m' (.int .i64 N.x)
  arg : X.k = 11 → ∀ m', leM mm m' → ∀ j, j < X.ex.l → ∃ (Y : Nd) (d : Nat), (Rd m' (ptrAt X.ex.a (j * 8)) Y.cs ∧ X.ex.a ≠ none) ∧ Ans 23 [.v (.agg ⟨Y.cs⟩)] m' (.int .i64 d) ∧ N.dl (j + 1) = max (N.dl j) d
  dl0 : N.dl 0 = 0
  ln : X.ex.l ≤ big
theorem dep_it {h : Nat} (ih : ∀ h', h' < h → ∀ (l : List St) (a : Option Addr) (n c : Nat) (xs : List Value) (m : Mem), depthSs l ≤ h' → h' ≤ big → exprDs l ≤ big → n = l.length → n ≤ big → Rds m a n 23 xs → stsRep m l xs → DepR [.v (.slice a n c)] m (depthSs l) (exprDs l))
    {e : St} {cs : List Value} {mm : Mem} (hd : depthS e ≤ h) (hb : h ≤ big) (hx : exprD e ≤ big) (hrep : stRep mm e cs) :
    ∃ (X : Sd) (N : DepN), cs = X.cs ∧ DepIt X N mm ∧ depthS e = max N.b1 N.a1 + 1 ∧ exprD e = max (max N.b2 N.a2) (max N.t (if X.k = 11 then N.dl X.ex.l else N.x)) := by
  cases e with
  | mk k nm ty tg ex body alt =>
    obtain ⟨X, rfl, rfl, rfl, rfl, htg, hex, hl, hcp, hl2, hcp2, hok, xs, ys, r1, r2, s1, s2⟩ := st_parts hrep
    simp only [depthS] at hd
    simp only [exprD] at hx
    cases ex with
    | mk xk xn xss xc xty args =>
      obtain ⟨y, hy, h1, h2, h3, h4, h5, h6, h7, h8, zs, r3, s3⟩ := ex_parts hex
      have hy := nd_inj hy
      subst hy
      refine ⟨X, ⟨depthSs body, exprDs body, depthSs alt, exprDs alt, depthE tg, depthE (.mk xk xn xss xc xty args), fun j => depthL (args.take j)⟩, rfl, ⟨fun m' hle => ?_, fun m' hle => ?_, fun m' hle => ?_, fun hk m' hle => ?_, fun hk m' hle j hj => ?_, by simp [depthL], h8⟩, by simp only [depthS], ?_⟩
      · exact ih (depthSs body) (by omega) body X.a X.l X.cp xs m' (Nat.le_refl _) (by omega) (by omega) hl (by rw [hl]; exact hok.l) (Rds_upM hle r1) (stsRep_upM hle s1)
      · exact ih (depthSs alt) (by omega) alt X.b X.l2 X.cp2 ys m' (Nat.le_refl _) (by omega) (by omega) hl2 (by rw [hl2]; exact hok.l2) (Rds_upM hle r2) (stsRep_upM hle s2)
      · exact depth_all _ tg _ m' (Nat.le_refl _) (by omega) (exRep_upM hle htg)
      · rw [if_neg hk] at hx
        exact depth_all _ _ _ m' (Nat.le_refl _) (by omega) (exRep_upM hle hex)
      · rw [if_pos hk] at hx
        simp only [argsD] at hx
        have hja : j < args.length := by omega
        have hrepj := exRep_upM hle (exs_at s3 hja)
        obtain ⟨Y, hY⟩ := exRep_nd hrepj
        have hrd := Rds_cells (Rds_upM hle r3) hj
        rw [hY] at hrd hrepj
        exact ⟨Y, depthE args[j], hrd, depth_all _ _ _ m' (Nat.le_refl _) (by have := depth_mem hja; omega) hrepj, depth_take hja⟩
      · simp only [exprD, argsD]
        rw [List.take_of_length_le (by omega : args.length ≤ X.ex.l)]
theorem depths_all : ∀ (h : Nat) (l : List St) (a : Option Addr) (n c : Nat) (xs : List Value) (m : Mem), depthSs l ≤ h → h ≤ big → exprDs l ≤ big → n = l.length → n ≤ big → Rds m a n 23 xs → stsRep m l xs → DepR [.v (.slice a n c)] m (depthSs l) (exprDs l) := by
  intro h
  induction h using Nat.strongRecOn with
  | ind h ih =>
    intro l a n c xs m hd hb hx hl hn hr hs
    refine enter cfN puN Tryz.func75 rfl rfl (by kernel_rfl) rfl ?_ ?_
    · simp only [go_sem, ↓imp_tf, ↓imp_ft, ↓reduceIte]
    · simp only [go_sem, ↓imp_tf, ↓imp_ft, ↓reduceIte]
      refine WP_loop puN (fun x : Nat × Int × Int × Mem => ⟨[⟨4, [], .v (.int .i64 x.2.1)⟩, ⟨5, [], .v (.int .i64 x.2.2.1)⟩, ⟨14, [], .v (.slice a n c)⟩, ⟨15, [], .v (.int .i64 n)⟩, ⟨16, [], .v (.int .i64 x.1)⟩], [], [], [], 0, x.2.2.2⟩)
        (fun x => leM m x.2.2.2 ∧ x.1 ≤ n ∧ x.2.1 = depthSs (l.take x.1) ∧ x.2.2.1 = exprDs (l.take x.1)) (fun x => n - x.1) (0, 0, 0, m) (by kernel_rfl) (fun _ _ => Nat.le_refl _) (fun x hx => hx.1) (fun _ => ?_) ?_ ?_ ?_
      · simp only [go_sem, ↓imp_tf, ↓imp_ft, ↓reduceIte]
      · simp only [go_sem, ↓imp_tf, ↓imp_ft, ↓reduceIte]
        rfl
      · exact ⟨.inl rfl, Nat.zero_le _, by simp [depthSs], by simp [exprDs]⟩
      · rintro ⟨k, s, e, mm⟩ ⟨h1, h2, h3, h4⟩
        simp only at h1 h2 h3 h4
        have hy : ∀ (hk : k < l.length), ∃ (X : Sd) (N : DepN), (Rd mm (ptrAt a (k * 23)) X.cs ∧ a ≠ none) ∧ DepIt X N mm ∧ depthS l[k] = max N.b1 N.a1 + 1 ∧ exprD l[k] = max (max N.b2 N.a2) (max N.t (if X.k = 11 then N.dl X.ex.l else N.x)) := fun hk => by
          have hrep := stRep_upM h1 (sts_at hs hk)
          have q1 := depthSs_mem (List.getElem_mem hk)
          have q2 := exprDs_mem (List.getElem_mem hk)
          obtain ⟨X, N, hX, hD, e1, e2⟩ := dep_it ih (by omega) hb (by omega) hrep
          have hrd := Rds_cells (Rds_upM h1 hr) (by omega : k < n)
          rw [hX] at hrd
          exact ⟨X, N, hrd, hD, e1, e2⟩
        have hq1 := depthSs_le l k
        have hq2 := exprDs_le l k
        have hq3 : ∀ (hk : k < l.length), depthSs (l.take (k + 1)) = max (depthSs (l.take k)) (depthS l[k]) ∧ depthSs (l.take (k + 1)) ≤ depthSs l := fun hk => ⟨depthSs_take hk, depthSs_le l _⟩
        have hq4 : ∀ (hk : k < l.length), exprDs (l.take (k + 1)) = max (exprDs (l.take k)) (exprD l[k]) ∧ exprDs (l.take (k + 1)) ≤ exprDs l := fun hk => ⟨exprDs_take hk, exprDs_le l _⟩
        clear ih
        simp only [go_sem, ↓imp_tf, ↓imp_ft, ↓reduceIte]
        refine ⟨fun hlt => ?_, fun hge => ?_⟩
        · have hk : k < l.length := by clear hy; omega
          have g3 := hq3 hk
          have g4 := hq4 hk
          refine Exists.elim (hy hk) fun X hy' => Exists.elim hy' fun N hy'' => ⟨⟨by clear hy hy' hy''; omega, hlt, hy''.1.2⟩, X.cs, ⟨hy''.1.1, rfl⟩, ?_⟩
          clear hy hy'
          have hD := hy''.2.1
          have e1 := hy''.2.2.1
          have e2 := hy''.2.2.2
          rw [e1] at g3
          rw [e2] at g4
          clear hy'' e1 e2
          simp only [go_sem, ↓imp_tf, ↓imp_ft, ↓reduceIte, Sd.cs, Nd.cs]
          refine ⟨by kernel_rfl, FnV_of ((hD.body mm (.inl rfl)).mono ?_)⟩
          rintro r H' n1 hn1 ⟨k1, rfl, rfl⟩
          simp only [go_sem, ↓imp_tf, ↓imp_ft, ↓reduceIte, Sd.cs, Nd.cs]
          refine ⟨by kernel_rfl, FnV_of ((hD.alt n1 k1).mono ?_)⟩
          rintro r H' n2 hn2 ⟨k2, rfl, rfl⟩
          have kk2 := leM_tr k1 k2
          simp only [go_sem, ↓imp_tf, ↓imp_ft, ↓reduceIte, Sd.cs, Nd.cs]
          refine ⟨by clear hD; unfold I64; simp only [big] at hb; split <;> omega, by kernel_rfl, FnV_of ((FnH_den (hD.tg n2 kk2) (fun V => rfl)).mono ?_)⟩
          rintro r H' n3 hn3 ⟨k3, rfl, rfl⟩
          have kk3 := leM_tr kk2 k3
          simp only [go_sem, ↓imp_tf, ↓imp_ft, ↓reduceIte, Sd.cs, Nd.cs]
          have hS : (if s < 1 + (if (N.b1 : Int) < N.a1 then (N.a1 : Int) else N.b1) then 1 + (if (N.b1 : Int) < N.a1 then (N.a1 : Int) else N.b1) else s) = ((depthSs (l.take (k + 1)) : Nat) : Int) := by
            clear hD hq3 hq4
            rw [g3.1, h3]
            split <;> split <;> omega
          have hB0 : mx (mx (mx e N.b2) N.a2) N.t = ((max (max (max (exprDs (l.take k)) N.b2) N.a2) N.t : Nat) : Int) := by
            clear hD hq3 hq4 hS
            simp only [mx, h4]
            (repeat' split) <;> omega
          refine Exists.elim (Exists.intro (max (max (max (exprDs (l.take k)) N.b2) N.a2) N.t) rfl : ∃ B0 : Nat, max (max (max (exprDs (l.take k)) N.b2) N.a2) N.t = B0) fun B0 hB => ?_
          rw [hB] at hB0
          refine ⟨fun hk11 => ?_, fun hk11 => ?_⟩
          · refine ⟨by kernel_rfl, FnV_of ((FnH_den (hD.ex hk11 n3 kk3) (fun V => rfl)).mono ?_)⟩
            clear hD
            rintro r H' n4 hn4 ⟨k4, rfl, rfl⟩
            simp only [go_sem, ↓imp_tf, ↓imp_ft, ↓reduceIte, Sd.cs, Nd.cs]
            rw [if_neg hk11] at g4
            refine ⟨by unfold I64; simp only [big] at hn; omega, (k + 1, ((depthSs (l.take (k + 1)) : Nat) : Int), ((exprDs (l.take (k + 1)) : Nat) : Int), n4), ⟨⟨hS, ?_, by simp⟩, .inl rfl⟩, ⟨leM_tr h1 (leM_tr kk3 k4), by simp only; omega, rfl, rfl⟩, by simp only; omega⟩
            simp only
            rw [hB0, g4.1]
            clear hS hB0 hq3 hq4 g3 h3 h4
            split <;> omega
          · rw [if_pos hk11] at g4
            refine WP_loop puN (fun x' : Nat × Int × Mem => ⟨[⟨4, [], .v (.int .i64 (depthSs (l.take (k + 1)) : Nat))⟩, ⟨5, [], .v (.int .i64 x'.2.1)⟩, ⟨14, [], .v (.slice a n c)⟩, ⟨15, [], .v (.int .i64 n)⟩, ⟨16, [], .v (.int .i64 k)⟩, ⟨55, [], .v (.slice X.ex.a X.ex.l X.ex.cp)⟩, ⟨56, [], .v (.int .i64 X.ex.l)⟩, ⟨57, [], .v (.int .i64 x'.1)⟩], [], [], [], 1, x'.2.2⟩)
              (fun x' => leM n3 x'.2.2 ∧ x'.1 ≤ X.ex.l ∧ x'.2.1 = ((max B0 (N.dl x'.1) : Nat) : Int)) (fun x' => X.ex.l - x'.1) (0, (B0 : Int), n3) (by kernel_rfl) (fun _ _ => Nat.le_refl _) (fun x hx => hx.1) (fun _ => ?_) ?_ ?_ ?_
            · simp only [go_sem, ↓imp_tf, ↓imp_ft, ↓reduceIte]
            · simp only [go_sem, ↓imp_tf, ↓imp_ft, ↓reduceIte]
              exact ⟨hS, hB0, rfl⟩
            · exact ⟨.inl rfl, Nat.zero_le _, by rw [hD.dl0, Nat.max_zero]⟩
            · rintro ⟨j, e', mj⟩ ⟨q1, q2, q3⟩
              simp only at q1 q2 q3
              have hz := hD.arg hk11 mj (leM_tr kk3 q1) j
              have hln := hD.ln
              clear hD
              simp only [go_sem, ↓imp_tf, ↓imp_ft, ↓reduceIte]
              refine ⟨fun hlt' => ?_, fun hge' => ?_⟩
              · refine Exists.elim (hz (by clear hz; omega)) fun Y hz1 => Exists.elim hz1 fun dj hz2 => ⟨⟨by clear hz hz1 hz2; omega, hlt', hz2.1.2⟩, Y.cs, ⟨hz2.1.1, rfl⟩, ?_⟩
                clear hz hz1
                have hDj := hz2.2.1
                have hdj := hz2.2.2
                clear hz2
                simp only [go_sem, ↓imp_tf, ↓imp_ft, ↓reduceIte, Nd.cs]
                refine ⟨by kernel_rfl, FnV_of ((FnH_den hDj (fun V => rfl)).mono ?_)⟩
                clear hDj
                rintro r H' n5 hn5 ⟨k5, rfl, rfl⟩
                simp only [go_sem, ↓imp_tf, ↓imp_ft, ↓reduceIte]
                refine ⟨by unfold I64; simp only [big] at hln; omega, (j + 1, ((max B0 (N.dl (j + 1)) : Nat) : Int), n5), ⟨⟨?_, by simp⟩, .inl rfl⟩, ⟨leM_tr q1 k5, by simp only; omega, by simp only [Nat.max_def]⟩, by simp only; omega⟩
                simp only
                rw [hdj, q3]
                clear hS hB0 hq3 hq4 g3 g4 h3 h4 hB
                (repeat' split) <;> omega
              · clear hz
                have hj : j = X.ex.l := by omega
                refine ⟨by unfold I64; simp only [big] at hn; omega, (k + 1, ((depthSs (l.take (k + 1)) : Nat) : Int), ((exprDs (l.take (k + 1)) : Nat) : Int), mj), ⟨⟨rfl, ?_, by simp⟩, .inl rfl⟩, ⟨leM_tr h1 (leM_tr kk3 q1), by simp only; omega, rfl, rfl⟩, by simp only; omega⟩
                simp only
                rw [q3, g4.1, hj]
                clear hS hB0 hq3 hq4 g3 h3 h4
                (repeat' split) <;> omega
        · clear hy hq3 hq4
          have : l.take k = l := List.take_of_length_le (by omega)
          rw [this] at h3 h4
          rw [h3, h4]
          exact ⟨h1, rfl⟩
end Go.Proofs.YtalalcpefggniaaGreatDoor.E

namespace Go.Proofs.YtalalcpefggniaaGreatDoor.E
open Go

def mdsS : List Md → Nat
  | [] => 0
  | e :: r => max (depthSs e.body) (mdsS r)
def mdsE : List Md → Nat
  | [] => 0
  | e :: r => max (exprDs e.body) (mdsE r)
def deepL (d : Cd) : Bool := decide (24 < max (depthSs d.init) (mdsS d.methods)) || decide (24 < max (exprDs d.init) (mdsE d.methods))
structure CdB (d : Cd) : Prop where
  s : depthSs d.init ≤ big
  e : exprDs d.init ≤ big
  ms : mdsS d.methods ≤ big
  me : mdsE d.methods ≤ big
theorem mdsS_take : ∀ {l : List Md} {k : Nat} (hk : k < l.length), mdsS (l.take (k + 1)) = max (mdsS (l.take k)) (depthSs l[k].body)
  | [], _, hk => absurd hk (Nat.not_lt_zero _)
  | e :: r, 0, _ => by simp [mdsS]
  | e :: r, k + 1, hk => by
    have := mdsS_take (l := r) (k := k) (by simpa using hk)
    simp only [List.take_succ_cons, mdsS, this, List.getElem_cons_succ, Nat.max_assoc]
theorem mdsE_take : ∀ {l : List Md} {k : Nat} (hk : k < l.length), mdsE (l.take (k + 1)) = max (mdsE (l.take k)) (exprDs l[k].body)
  | [], _, hk => absurd hk (Nat.not_lt_zero _)
  | e :: r, 0, _ => by simp [mdsE]
  | e :: r, k + 1, hk => by
    have := mdsE_take (l := r) (k := k) (by simpa using hk)
    simp only [List.take_succ_cons, mdsE, this, List.getElem_cons_succ, Nat.max_assoc]
theorem mdsS_mem : ∀ {l : List Md} {e : Md}, e ∈ l → depthSs e.body ≤ mdsS l
  | [], e, he => by cases he
  | x :: r, e, he => by
    simp only [mdsS]
    rcases List.mem_cons.1 he with rfl | he
    · omega
    · have := mdsS_mem he; omega
theorem mdsE_mem : ∀ {l : List Md} {e : Md}, e ∈ l → exprDs e.body ≤ mdsE l
  | [], e, he => by cases he
  | x :: r, e, he => by
    simp only [mdsE]
    rcases List.mem_cons.1 he with rfl | he
    · omega
    · have := mdsE_mem he; omega
theorem deep_spec (d : Cd) (cs : List Value) (m : Mem) (hB : CdB d) (h : cdRep m d cs) : Ans 33 [.v (.agg ⟨cs⟩)] m (.bool (deepL d)) := by
  obtain ⟨fl, name, super, ifs, fields, methods, init⟩ := d
  obtain ⟨x, ⟨rfl, rfl, rfl, rfl⟩, ⟨hil, hic, hfn, hfc, hml, hmc, hsl, hsc⟩, hok, r1, r2, xs, ys, r3, s3, r4, s4⟩ := h
  simp only at hil hfn hml hsl r1 r2 s3 s4
  obtain ⟨b1, b2, b3, b4⟩ := hB
  simp only at b1 b2 b3 b4
  have hI := depths_all (depthSs init) init x.sa x.sl x.sc ys m (Nat.le_refl _) b1 b2 hsl (by rw [hsl]; exact hok.l) r4 s4
  have hmb : x.ml ≤ big := by rw [hml]; exact hok.ml
  refine enter cfN puN Tryz.func33 rfl rfl (by kernel_rfl) rfl ?_ ?_
  · simp only [go_sem, ↓imp_tf, ↓imp_ft, ↓reduceIte, Cc.cs]
  · simp only [go_sem, ↓imp_tf, ↓imp_ft, ↓reduceIte, Cc.cs]
    refine ⟨by kernel_rfl, FnV_of (hI.mono ?_)⟩
    clear hI
    rintro r H' m1 hm1 ⟨l1, rfl, rfl⟩
    simp only [go_sem, ↓imp_tf, ↓imp_ft, ↓reduceIte, Cc.cs]
    refine WP_loop puN (fun x' : Nat × Int × Int × Mem => ⟨[⟨3, [], .v (.int .i64 x'.2.1)⟩, ⟨4, [], .v (.int .i64 x'.2.2.1)⟩, ⟨16, [], .v (.slice x.ma x.ml x.mc)⟩, ⟨17, [], .v (.int .i64 x.ml)⟩, ⟨18, [], .v (.int .i64 x'.1)⟩], [], [], [], 1, x'.2.2.2⟩)
      (fun x' => leM m1 x'.2.2.2 ∧ x'.1 ≤ x.ml ∧ x'.2.1 = max (depthSs init) (mdsS (methods.take x'.1)) ∧ x'.2.2.1 = max (exprDs init) (mdsE (methods.take x'.1))) (fun x' => x.ml - x'.1) (0, depthSs init, exprDs init, m1) (by kernel_rfl) (fun _ _ => Nat.le_refl _) (fun x hx => hx.1) (fun _ => ?_) ?_ ?_ ?_
    · simp only [go_sem, ↓imp_tf, ↓imp_ft, ↓reduceIte]
    · simp only [go_sem, ↓imp_tf, ↓imp_ft, ↓reduceIte]
      rfl
    · exact ⟨.inl rfl, Nat.zero_le _, by simp [mdsS], by simp [mdsE]⟩
    · rintro ⟨k, s, e, mm⟩ ⟨h1, h2, h3, h4⟩
      simp only at h1 h2 h3 h4
      have hy : ∀ (hk : k < methods.length), ∃ (X : Mc) (v1 v2 : Nat), (Rd mm (ptrAt x.ma (k * 8)) X.cs ∧ x.ma ≠ none) ∧ DepR [.v (.slice X.a X.l X.cp)] mm v1 v2 ∧ (mdsS (methods.take (k + 1)) = max (mdsS (methods.take k)) v1 ∧ mdsE (methods.take (k + 1)) = max (mdsE (methods.take k)) v2) ∧ v1 ≤ big ∧ v2 ≤ big := fun hk => by
        have hrep := mdRep_up (leM_tr l1 h1) (ls_at s3 hk)
        have q1 := mdsS_mem (List.getElem_mem hk)
        have q2 := mdsE_mem (List.getElem_mem hk)
        have hrd := Rds_cells (Rds_upM (leM_tr l1 h1) r3) (by omega : k < x.ml)
        have t1 := mdsS_take hk
        have t2 := mdsE_take hk
        obtain ⟨X, ⟨e1, _⟩, ⟨e2, e3, e4, e5⟩, hk2, _, zs, r5, s5⟩ := md_parts hrep
        rw [e1] at hrd
        exact ⟨X, _, _, hrd, depths_all _ _ X.a X.l X.cp zs mm (Nat.le_refl _) (by omega) (by omega) e4 (by rw [e4]; exact hk2.l) r5 s5, ⟨t1, t2⟩, by omega, by omega⟩
      simp only [go_sem, ↓imp_tf, ↓imp_ft, ↓reduceIte]
      refine ⟨fun hlt => ?_, fun hge => ?_⟩
      · have hk : k < methods.length := by clear hy; omega
        refine Exists.elim (hy hk) fun X hy1 => Exists.elim hy1 fun v1 hy2 => Exists.elim hy2 fun v2 hy3 => ⟨⟨by clear hy hy1 hy2 hy3; omega, hlt, hy3.1.2⟩, X.cs, ⟨hy3.1.1, rfl⟩, ?_⟩
        clear hy hy1 hy2
        have hD := hy3.2.1
        have e1 := hy3.2.2.1.1
        have e2 := hy3.2.2.1.2
        clear hy3
        simp only [go_sem, ↓imp_tf, ↓imp_ft, ↓reduceIte, Mc.cs]
        refine ⟨by kernel_rfl, FnV_of (hD.mono ?_)⟩
        clear hD
        rintro r H' m2 hm2 ⟨l2, rfl, rfl⟩
        simp only [go_sem, ↓imp_tf, ↓imp_ft, ↓reduceIte]
        refine ⟨by unfold I64; simp only [big] at hmb; omega, (k + 1, ((max (depthSs init) (mdsS (methods.take (k + 1))) : Nat) : Int), ((max (exprDs init) (mdsE (methods.take (k + 1))) : Nat) : Int), m2), ⟨⟨?_, ?_, by simp⟩, .inl rfl⟩, ⟨leM_tr h1 l2, by simp only; omega, by simp only [Nat.max_def], by simp only [Nat.max_def]⟩, by simp only; omega⟩
        · simp only
          rw [e1, h3]
          clear h3 h4 e1 e2
          (repeat' split) <;> omega
        · simp only
          rw [e2, h4]
          clear h3 h4 e1 e2
          (repeat' split) <;> omega
      · clear hy
        have : methods.take k = methods := List.take_of_length_le (by omega)
        rw [this] at h3 h4
        have e0 : deepL ⟨x.fl, x.name, x.super, ifs, fields, methods, init⟩ = (decide (24 < max (depthSs init) (mdsS methods)) || decide (24 < max (exprDs init) (mdsE methods))) := rfl
        refine ⟨leM_tr l1 h1, ?_⟩
        rw [e0]
        congr 1
        · rw [decide_eq_decide]; omega
        · rw [decide_eq_decide]; omega
end Go.Proofs.YtalalcpefggniaaGreatDoor.E

namespace Go.Proofs.YtalalcpefggniaaGreatDoor.E
open Go

/-- Does an element occur twice? -/
def dupB {α : Type} [BEq α] : List α → List α → Bool
  | _, [] => false
  | seen, a :: r => seen.contains a || dupB (seen ++ [a]) r
def dupL (d : Cd) : Bool := dupB [] d.ifs || dupB [] (d.fields.map (·.name)) || dupB [] (d.methods.map fun m => (m.name, m.params.length))
/-- The entries of a map from texts, all true. -/
def entS (l : List (List UInt8)) : List Value := (l.map fun s => [.string (bs s), .bool true]).flatten
theorem plains_map : ∀ (l : List Value), plains (l.map .v) = some l
  | [] => rfl
  | x :: r => by simp [plains, plain, plains_map r]
theorem okL_map {n : Nat} {vc : List Vc} : ∀ (l : List Value), okL n vc (l.map .v) = True
  | [] => rfl
  | x :: r => by simp [okL, okA, okL_map r]
theorem str_eq {a b : List UInt8} : (Value.string (bs a) = Value.string (bs b)) = (a = b) := propext ⟨fun h => bs_inj (Value.string.inj h), fun h => by rw [h]⟩
theorem findE_seen (s : List UInt8) : ∀ (l : List (List UInt8)), isT (findE (entS l) (.string (bs s))) = l.contains s
  | [] => rfl
  | a :: r => by
    have e : entS (a :: r) = .string (bs a) :: .bool true :: entS r := rfl
    rw [e, findE, str_eq, List.contains_cons]
    by_cases h : a = s
    · rw [if_pos h]; subst h; simp [isT]
    · rw [if_neg h, findE_seen s r, (beq_eq_false_iff_ne.2 fun e => h e.symm : (s == a) = false), Bool.false_or]
theorem putE_new (s : List UInt8) : ∀ (l : List (List UInt8)), l.contains s = false → putE (entS l) (.string (bs s)) (.bool true) = entS (l ++ [s])
  | [], _ => rfl
  | a :: r, h => by
    have e : entS (a :: r) = .string (bs a) :: .bool true :: entS r := rfl
    rw [List.contains_cons, Bool.or_eq_false_iff] at h
    have hn : ¬ a = s := fun e => (beq_eq_false_iff_ne.1 h.1) e.symm
    rw [e, putE, str_eq, if_neg hn, putE_new s r h.2]
    rfl
abbrev MKey := List UInt8 × Nat
def keyV (k : MKey) : Value := .agg ⟨[.string (bs k.1), .int .i64 k.2]⟩
theorem keyG_k (k : MKey) : keyG 1000001 (keyV k) = True := keyG_1 _ _
/-- The entries of a map from texts and numbers, all true. -/
def entK (l : List MKey) : List Value := (l.map fun k => [keyV k, .bool true]).flatten
theorem keyV_eq {a b : MKey} : (keyV a = keyV b) = (a = b) := propext ⟨fun h => by
  obtain ⟨a1, a2⟩ := a
  obtain ⟨b1, b2⟩ := b
  simp only [keyV, Value.agg.injEq, Array.mk.injEq, List.cons.injEq, Value.string.injEq, Value.int.injEq, true_and, and_true] at h
  rw [bs_inj h.1, show a2 = b2 by omega], fun h => by rw [h]⟩
theorem findE_keys (k : MKey) : ∀ (l : List MKey), isT (findE (entK l) (keyV k)) = l.contains k
  | [] => rfl
  | a :: r => by
    have e : entK (a :: r) = keyV a :: .bool true :: entK r := rfl
    rw [e, findE, keyV_eq, List.contains_cons]
    by_cases h : a = k
    · rw [if_pos h]; subst h; simp [isT]
    · rw [if_neg h, findE_keys k r, (beq_eq_false_iff_ne.2 fun e => h e.symm : (k == a) = false), Bool.false_or]
theorem putE_keys (k : MKey) : ∀ (l : List MKey), l.contains k = false → putE (entK l) (keyV k) (.bool true) = entK (l ++ [k])
  | [], _ => rfl
  | a :: r, h => by
    have e : entK (a :: r) = keyV a :: .bool true :: entK r := rfl
    rw [List.contains_cons, Bool.or_eq_false_iff] at h
    have hn : ¬ a = k := fun e => (beq_eq_false_iff_ne.1 h.1) e.symm
    rw [e, putE, keyV_eq, if_neg hn, putE_keys k r h.2]
    rfl
theorem Rds_take {m : Mem} {a : Option Addr} {n k c : Nat} {l : List (List UInt8)} (h : Rds m a n 1 (strs l)) (hk : k ≤ n) : Rds m (if c = 0 then a else a.map (·.add (0 * 1))) (k - 0) 1 (strs (l.take k)) := by
  have hl := h.1
  simp only [strs, List.length_map, Nat.mul_one] at hl
  refine ⟨by simp [strs]; omega, fun h0 => ?_⟩
  obtain ⟨ad, rfl, hs, hcell⟩ := h.2 (by omega)
  have e : (if c = 0 then some ad else (some ad).map (·.add (0 * 1))) = some ad := by
    by_cases hc : c = 0
    · rw [if_pos hc]
    · rw [if_neg hc]; rfl
  refine ⟨ad, e, hs, fun j hj => ?_⟩
  obtain ⟨h1, h2⟩ := hcell j (by omega)
  refine ⟨?_, h2⟩
  rw [h1]
  simp only [strs, List.getElem?_map, List.getElem?_take]
  rw [if_pos (by omega)]
theorem dup_step {α : Type} [BEq α] {l : List α} {k : Nat} (hk : k < l.length) : dupB (l.take k) (l.drop k) = ((l.take k).contains l[k] || dupB (l.take (k + 1)) (l.drop (k + 1))) := by
  rw [List.drop_eq_getElem_cons hk, dupB, List.take_succ_eq_append_getElem hk]
/-! The types of the maps. -/
theorem mapD60 : mapD Tryz.prog 60 = (1000000, none) := by kernel_rfl
theorem mapD95 : mapD Tryz.prog 95 = (1000001, none) := by kernel_rfl
theorem mapOk60 : MapOk Tryz.prog 60 :=
  mapOk_str (k := 9) (e := 4) (by kernel_rfl) (by kernel_rfl) (by rw [mapD60]; decide) fun w => by
    rw [mapD60]
    exact zeroV_run (i := (Tryz.prog.info? 4).getD default) (by kernel_rfl) (by kernel_rfl) w
theorem zeroSg : zeroO Tryz.prog 97 = some [.v (.string (bs [])), .v (.int .i64 0)] := by kernel_rfl
theorem aggSg : aggN Tryz.prog 97 = some (some 2) := by kernel_rfl
theorem szSg : szT Tryz.prog 97 = 2 := by kernel_rfl
theorem fldSg_0 : fldO Tryz.prog 97 0 = some (0, none, 1) := by kernel_rfl
theorem fldSg_1 : fldO Tryz.prog 97 1 = some (1, none, 1) := by kernel_rfl
theorem bldSg : bldOk Tryz.prog 97 = true := by kernel_rfl
theorem eqOkSg : EqOk Tryz.prog 97 := eqOk_of zeroSg (by kernel_rfl) (by kernel_rfl) (by kernel_rfl) rfl (by kernel_rfl)
attribute [go_sem] mapD60 mapD95 zeroSg aggSg szSg fldSg_0 fldSg_1 bldSg
theorem tl_iff {a b : ByteArray} : tl a = tl b ↔ a = b := ⟨fun h => by have := congrArg bs h; rwa [bs_tl, bs_tl] at this, fun h => by rw [h]⟩
theorem findAsk {s : ByteArray} {n : Int} (w : World) : ∀ (es : List MapEntry) (i : Nat), (∀ x ∈ es, ∃ a k, x.key = .agg ⟨[.string a, .int .i64 k]⟩) →
    (Instr.findAsking 97 (.agg ⟨[.string s, .int .i64 n]⟩) es i).run Tryz.prog w = .ok (ixE es (.agg ⟨[.string s, .int .i64 n]⟩) i) w
  | [], _, _ => rfl
  | e :: es, i, h => by
    obtain ⟨a, k, ha⟩ := h e (List.mem_cons_self ..)
    have ih := findAsk (s := s) (n := n) w es (i + 1) fun x hx => h x (List.mem_cons_of_mem _ hx)
    have he := (eqOkSg [.string s, .int .i64 n] [.string a, .int .i64 k] (decide (tl s = tl a) && (decide (n = k) && true)) w (.const undef) (.const undef) .eql rfl (by rw [zeroSg]; rfl)).2
    simp only [Instr.findAsking, Sem.run_bind, ha, ixE]
    rw [show (Array.mk [Value.string s, Value.int .i64 n]) = [Value.string s, Value.int .i64 n].toArray from rfl, show (Array.mk [Value.string a, Value.int .i64 k]) = [Value.string a, Value.int .i64 k].toArray from rfl, he]
    simp only [Result.andThen_ok]
    by_cases hk : (Value.agg [Value.string a, Value.int .i64 k].toArray = Value.agg [Value.string s, Value.int .i64 n].toArray)
    · rw [if_pos (ha.trans hk)]
      simp only [Value.agg.injEq, Array.mk.injEq, List.cons.injEq, Value.string.injEq, Value.int.injEq, true_and, and_true] at hk
      obtain ⟨rfl, rfl⟩ := hk
      simp
    · rw [if_neg fun e => hk (ha.symm.trans e)]
      have : (decide (tl s = tl a) && (decide (n = k) && true)) = false := by
        simp only [Value.agg.injEq, Array.mk.injEq, List.cons.injEq, Value.string.injEq, Value.int.injEq, true_and, and_true] at hk
        simp only [Bool.and_true, Bool.and_eq_false_iff, decide_eq_false_iff_not, tl_iff]
        by_cases h1 : s = a
        · exact .inr fun h2 => hk ⟨h1.symm, h2.symm⟩
        · exact .inl h1
      rw [this]
      exact ih
theorem mapOk95 : MapOk Tryz.prog 95 := by
  refine ⟨by rw [mapD95]; decide, 97, 4, by kernel_rfl, fun w key em n hk => ?_, fun w key es hk hes => ?_, fun w => ?_⟩
  · rw [mapD95] at hk
    unfold keyG at hk
    rw [if_pos rfl] at hk
    obtain ⟨s, k, rfl⟩ := hk
    have hu : Tryz.prog.underlying 97 = some (.struct (Tryz.prog.fieldsOf 97)) := by kernel_rfl
    have hfs : Tryz.prog.fieldsOf 97 = #[(Tryz.prog.fieldsOf 97).getD 0 default, (Tryz.prog.fieldsOf 97).getD 1 default] := by kernel_rfl
    rw [hfs] at hu
    have n0 : ((Tryz.prog.fieldsOf 97).getD 0 default).name = "name" := by kernel_rfl
    have n1 : ((Tryz.prog.fieldsOf 97).getD 1 default).name = "params" := by kernel_rfl
    have t0 : ((Tryz.prog.fieldsOf 97).getD 0 default).type = 9 := by kernel_rfl
    have t1 : ((Tryz.prog.fieldsOf 97).getD 1 default).type = 3 := by kernel_rfl
    have o0 : ((Tryz.prog.fieldsOf 97).getD 0 default).offset = 0 := by kernel_rfl
    have o1 : ((Tryz.prog.fieldsOf 97).getD 1 default).offset = 1 := by kernel_rfl
    have p0 := run_part_plain (P := Tryz.prog) (w := w) (e := 9) (by kernel_rfl) (xs := #[.string s, .int .i64 k]) (off := 0) (v := .string s) rfl
    have p1 := run_part_plain (P := Tryz.prog) (w := w) (e := 3) (by kernel_rfl) (xs := #[.string s, .int .i64 k]) (off := 1) (v := .int .i64 k) rfl
    have c0 := MapKept.run_checkKey (P := Tryz.prog) (w := w) (kt := 9) (d := .string) (k := .string s) (by kernel_rfl) (by simp [MapKept.IsKey]) em n
    have c1 := MapKept.run_checkKey (P := Tryz.prog) (w := w) (kt := 3) (d := .int .i64) (k := .int .i64 k) (by kernel_rfl) (by simp [MapKept.IsKey]) em n
    generalize (Tryz.prog.fieldsOf 97).getD 0 default = f0 at *
    generalize (Tryz.prog.fieldsOf 97).getD 1 default = f1 at *
    rw [Instr.checkKey]
    simp [run_underlying hu, Result.andThen, n0, n1, t0, t1, o0, o1, p0, p1, c0, c1]
  · rw [mapD95] at hk hes
    unfold keyG at hk hes
    simp only [if_true] at hk hes
    obtain ⟨s, k, rfl⟩ := hk
    rw [run_findKey_eq w (by kernel_rfl)]
    exact findAsk w es 0 hes
  · rw [mapD95]
    exact zeroV_run (i := (Tryz.prog.info? 4).getD default) (by kernel_rfl) (by kernel_rfl) w
attribute [go_sem] mapOk60 mapOk95
theorem dup_spec (d : Cd) (cs : List Value) (m : Mem) (h : cdRep m d cs) : Ans 34 [.v (.agg ⟨cs⟩)] m (.bool (dupL d)) := by
  obtain ⟨fl, name, super, ifs, fields, methods, init⟩ := d
  obtain ⟨x, ⟨rfl, rfl, rfl, rfl⟩, ⟨hil, hic, hfn, hfc, hml, hmc, hsl, hsc⟩, hok, r1, r2, xs, ys, r3, s3, r4, s4⟩ := h
  simp only at hil hfn hml hsl r1 r2 r3 s3 r4 s4
  have hib : x.il ≤ big := by rw [hil]; exact hok.il
  have hfb : x.fn ≤ big := by rw [hfn]; exact hok.fn
  have hmb : x.ml ≤ big := by rw [hml]; exact hok.ml
  clear r4 s4
  refine enter cfN puN Tryz.func34 rfl rfl (by kernel_rfl) rfl ?_ ?_
  · simp only [go_sem, ↓imp_tf, ↓imp_ft, ↓reduceIte, Cc.cs]
  · simp only [go_sem, ↓imp_tf, ↓imp_ft, ↓reduceIte, Cc.cs]
    refine WP_loop puN (fun x' : Nat × Mem => ⟨[⟨1, [], .box 0 0⟩, ⟨13, [], .v (.slice x.ia x.il x.ic)⟩, ⟨14, [], .v (.int .i64 x.il)⟩, ⟨15, [], .v (.int .i64 x'.1)⟩], [], [⟨0, 55, x.cs.map .v⟩], [], 1, x'.2⟩)
      (fun x' => leM m x'.2 ∧ x'.1 ≤ x.il ∧ dupB [] ifs = dupB (ifs.take x'.1) (ifs.drop x'.1)) (fun x' => x.il - x'.1) (0, m) (by kernel_rfl) (fun _ _ => Nat.le_refl _) (fun x hx => hx.1) (fun _ => ?_) ?_ ?_ ?_
    · simp only [go_sem, ↓imp_tf, ↓imp_ft, ↓reduceIte, Cc.cs]
    · simp only [go_sem, ↓imp_tf, ↓imp_ft, ↓reduceIte, Cc.cs]
      rfl
    · exact ⟨.inl rfl, Nat.zero_le _, rfl⟩
    · rintro ⟨k, mm⟩ ⟨h1, h2, h3⟩
      simp only at h1 h2 h3
      have hy : ∀ (hk : k < ifs.length), (Rd mm (ptrAt x.ia k) [.string (bs ifs[k])] ∧ x.ia ≠ none) ∧ FnH Tryz.prog 76 [.v (slv x.ia x.ic 0 k 1), .v (.string (bs ifs[k]))] ⟨[], []⟩ mm fun r H' _ => r = .v (.bool ((ifs.take k).contains ifs[k])) ∧ H' = ⟨[], []⟩ := fun hk =>
        ⟨strs_rd (Rds_upM h1 r1) hk, contains_spec (ifs.take k) ifs[k] _ (k - 0) (x.ic - 0) mm (Rds_take (Rds_upM h1 r1) (by omega)) (by simp only [big] at hib; omega)⟩
      simp only [go_sem, ↓imp_tf, ↓imp_ft, ↓reduceIte, Cc.cs]
      refine ⟨fun hlt => ?_, fun hge => ?_⟩
      · have hk : k < ifs.length := by clear hy; omega
        have hy' := hy hk
        clear hy
        refine ⟨⟨by clear hy'; omega, hlt, hy'.1.2⟩, _, hy'.1.1, ?_⟩
        simp only [go_sem, ↓imp_tf, ↓imp_ft, ↓reduceIte, Cc.cs]
        have hds := dup_step hk
        refine ⟨⟨Int.le_refl _, by clear hy'; omega, by clear hy'; omega⟩, by kernel_rfl, FnV_of (hy'.2.mono ?_)⟩
        clear hy'
        rintro r H' m2 hm2 ⟨rfl, rfl⟩
        simp only [go_sem, ↓imp_tf, ↓imp_ft, ↓reduceIte, Cc.cs]
        refine ⟨fun hc => ⟨leM_tr h1 (.inr hm2), ?_⟩, fun hc => ⟨by unfold I64; simp only [big] at hib; omega, (k + 1, m2), ⟨by simp, .inl rfl⟩, ⟨leM_tr h1 (.inr hm2), by simp only; omega, ?_⟩, by simp only; omega⟩⟩
        · simp only [dupL, h3, hds, hc, Bool.true_or]
        · simp only
          rw [h3, hds, hc, Bool.false_or]
      · clear hy
        have hI : dupB [] ifs = false := by
          rw [h3, List.drop_of_length_le (by omega)]
          rfl
        refine WP_loop puN (fun x' : Nat × Mem => ⟨[⟨1, [], .box 0 0⟩, ⟨5, [], .mp 1⟩, ⟨29, [], .v (.slice x.fa x.fn x.fc)⟩, ⟨30, [], .v (.int .i64 x.fn)⟩, ⟨31, [], .v (.int .i64 x'.1)⟩], [], [⟨1, 1000000, (entS ((fields.map (·.name)).take x'.1)).map .v⟩, ⟨0, 55, x.cs.map .v⟩], [], 2, x'.2⟩)
          (fun x' => leM mm x'.2 ∧ x'.1 ≤ x.fn ∧ dupB [] (fields.map (·.name)) = dupB ((fields.map (·.name)).take x'.1) ((fields.map (·.name)).drop x'.1)) (fun x' => x.fn - x'.1) (0, mm) (by kernel_rfl) (fun _ _ => Nat.le_refl _) (fun x hx => ?_) (fun _ => ?_) ?_ ?_ ?_
        · exact hx.1
        · simp only [go_sem, ↓imp_tf, ↓imp_ft, ↓reduceIte, Cc.cs, okL_map]
        · simp only [go_sem, ↓imp_tf, ↓imp_ft, ↓reduceIte, Cc.cs]
          exact ⟨rfl, rfl⟩
        · exact ⟨.inl rfl, Nat.zero_le _, rfl⟩
        · rintro ⟨j, mj⟩ ⟨q1, q2, q3⟩
          simp only at q1 q2 q3
          have hy : ∀ (hj : j < fields.length), Rd mj (ptrAt x.fa (j * 5)) (fields[j]).cs ∧ x.fa ≠ none := fun hj => by
            have := Rds_cells (Rds_upM (leM_tr h1 q1) r2) (by omega : j < x.fn)
            rw [flat_at (f := Fc.cs) (sz := 5) (fun _ => rfl) hj] at this
            exact this
          simp only [go_sem, ↓imp_tf, ↓imp_ft, ↓reduceIte, Cc.cs]
          refine ⟨fun hlt => ?_, fun hge => ?_⟩
          · have hj : j < fields.length := by omega
            refine ⟨⟨by omega, hlt, (hy hj).2⟩, (fields[j]).cs, ⟨(hy hj).1, rfl⟩, ?_⟩
            simp only [go_sem, ↓imp_tf, ↓imp_ft, ↓reduceIte, Cc.cs, Fc.cs, plains_map, findE_seen]
            have hjl : j < (fields.map (·.name)).length := by simpa using hj
            have hds := dup_step hjl
            have hget : (fields.map (·.name))[j] = fields[j].name := by simp
            rw [hget] at hds
            refine ⟨fun hc => ⟨leM_tr h1 q1, ?_⟩, fun hc => ⟨by unfold I64; simp only [big] at hfb; omega, (j + 1, mj), ⟨by simp, ?_, .inl rfl⟩, ⟨q1, by simp only; omega, ?_⟩, by simp only; omega⟩⟩
            · simp only [dupL, q3, hds, hc, Bool.true_or, Bool.or_true]
            · simp only
              rw [putE_new _ _ hc, List.take_succ_eq_append_getElem hjl, hget]
            · simp only
              rw [q3, hds, hc, Bool.false_or]
          · have hF : dupB [] (fields.map (·.name)) = false := by
              rw [q3, List.drop_of_length_le (by simp; omega)]
              rfl
            refine WP_loop puN (fun x' : Nat × Mem => ⟨[⟨1, [], .box 0 0⟩, ⟨8, [], .mp 2⟩, ⟨45, [], .v (.slice x.ma x.ml x.mc)⟩, ⟨46, [], .v (.int .i64 x.ml)⟩, ⟨47, [], .v (.int .i64 x'.1)⟩], [], [⟨2, 1000001, (entK ((methods.map fun m => (m.name, m.params.length)).take x'.1)).map .v⟩, ⟨0, 55, x.cs.map .v⟩], [], 3, x'.2⟩)
              (fun x' => leM mj x'.2 ∧ x'.1 ≤ x.ml ∧ dupB [] (methods.map fun m => (m.name, m.params.length)) = dupB ((methods.map fun m => (m.name, m.params.length)).take x'.1) ((methods.map fun m => (m.name, m.params.length)).drop x'.1)) (fun x' => x.ml - x'.1) (0, mj) (by kernel_rfl) (fun _ _ => Nat.le_refl _) (fun x hx => hx.1) (fun _ => ?_) ?_ ?_ ?_
            · simp only [go_sem, ↓imp_tf, ↓imp_ft, ↓reduceIte, Cc.cs, okL_map]
            · simp only [go_sem, ↓imp_tf, ↓imp_ft, ↓reduceIte, Cc.cs]
              exact ⟨rfl, rfl⟩
            · exact ⟨.inl rfl, Nat.zero_le _, rfl⟩
            · rintro ⟨k, mk⟩ ⟨p1, p2, p3⟩
              simp only at p1 p2 p3
              have hy : ∀ (hj : k < methods.length), ∃ X : Mc, (Rd mk (ptrAt x.ma (k * 8)) X.cs ∧ x.ma ≠ none) ∧ X.name = methods[k].name ∧ X.pl = methods[k].params.length := fun hj => by
                have hrep := mdRep_up (leM_tr h1 (leM_tr q1 p1)) (ls_at s3 hj)
                have hrd := Rds_cells (Rds_upM (leM_tr h1 (leM_tr q1 p1)) r3) (by omega : k < x.ml)
                obtain ⟨X, e1, e2, _⟩ := hrep
                rw [e1.1] at hrd
                exact ⟨X, hrd, e1.2.2.2.1, e2.1⟩
              simp only [go_sem, ↓imp_tf, ↓imp_ft, ↓reduceIte, Cc.cs]
              refine ⟨fun hlt => ?_, fun hge => ?_⟩
              · have hj : k < methods.length := by omega
                refine Exists.elim (hy hj) fun X hX => ⟨⟨by clear hX hy; omega, hlt, hX.1.2⟩, X.cs, ⟨hX.1.1, rfl⟩, ?_⟩
                clear hy
                have hnm := hX.2.1
                have hpl := hX.2.2
                clear hX
                have hkv : Value.agg ⟨[.string (bs X.name), .int .i64 X.pl]⟩ = keyV (X.name, X.pl) := rfl
                simp only [go_sem, ↓imp_tf, ↓imp_ft, ↓reduceIte, Cc.cs, Mc.cs, plains_map, hkv, keyG_k, findE_keys]
                have hjl : k < (methods.map fun m => (m.name, m.params.length)).length := by simpa using hj
                have hds := dup_step hjl
                have hget : (methods.map fun m => (m.name, m.params.length))[k] = (X.name, X.pl) := by simp [hnm, hpl]
                rw [hget] at hds
                refine ⟨fun hc => ⟨leM_tr h1 (leM_tr q1 p1), ?_⟩, fun hc => ⟨by unfold I64; simp only [big] at hmb; omega, (k + 1, mk), ⟨by simp, ?_, .inl rfl⟩, ⟨p1, by simp only; omega, ?_⟩, by simp only; omega⟩⟩
                · simp only [dupL, p3, hds, hc, Bool.true_or, Bool.or_true]
                · simp only
                  rw [putE_keys _ _ hc, List.take_succ_eq_append_getElem hjl, hget]
                · simp only
                  rw [p3, hds, hc, Bool.false_or]
              · have hM : dupB [] (methods.map fun m => (m.name, m.params.length)) = false := by
                  rw [p3, List.drop_of_length_le (by simp; omega)]
                  rfl
                exact ⟨leM_tr h1 (leM_tr q1 p1), by simp only [dupL, hI, hF, hM, Bool.or_false]⟩
end Go.Proofs.YtalalcpefggniaaGreatDoor.E

namespace Go.Proofs.YtalalcpefggniaaGreatDoor.E
open Go

/-- What Check returns. -/
def checkL : List (List UInt8) → List Cd → List UInt8 × Int
  | _, [] => ([], 0)
  | seen, d :: r => if classL d = true then (if deepL d = true then (d.name, 9) else if (seen.contains d.name || dupL d) = true then (d.name, 6) else checkL (seen ++ [d.name]) r) else (d.name, 4)
theorem check_spec (l : List Cd) (p : Option Addr) (n c : Nat) (m : Mem) (hg : Glob m) (hC : ∀ d ∈ l, CdB d) (h : prRep m l p n c) :
    FnH Tryz.prog 11 [.v (.slice p n c)] ⟨[], []⟩ m fun r H' m' => leM m m' ∧ H' = ⟨[], []⟩ ∧ r = .tup [.v (.string (bs (checkL [] l).1)), .v (.int .i64 (checkL [] l).2)] := by
  obtain ⟨hl, hcp, hn, xs, r1, s1⟩ := h
  refine enter cfN puN Tryz.func11 rfl rfl (by kernel_rfl) rfl ?_ ?_
  · simp only [go_sem, ↓imp_tf, ↓imp_ft, ↓reduceIte]
  · simp only [go_sem, ↓imp_tf, ↓imp_ft, ↓reduceIte]
    refine WP_loop puN (fun x : Nat × Mem => ⟨[⟨4, [], .mp 0⟩, ⟨8, [], .v (.slice p n c)⟩, ⟨9, [], .v (.int .i64 n)⟩, ⟨10, [], .v (.int .i64 x.1)⟩], [], [⟨0, 1000000, (entS ((l.map (·.name)).take x.1)).map .v⟩], [], 1, x.2⟩)
      (fun x => leM m x.2 ∧ x.1 ≤ n ∧ checkL [] l = checkL ((l.map (·.name)).take x.1) (l.drop x.1)) (fun x => n - x.1) (0, m) (by kernel_rfl) (fun _ _ => Nat.le_refl _) (fun x hx => hx.1) (fun _ => ?_) ?_ ?_ ?_
    · simp only [go_sem, ↓imp_tf, ↓imp_ft, ↓reduceIte, okL_map]
    · simp only [go_sem, ↓imp_tf, ↓imp_ft, ↓reduceIte]
      exact ⟨rfl, rfl⟩
    · exact ⟨.inl rfl, Nat.zero_le _, rfl⟩
    · rintro ⟨k, mm⟩ ⟨h1, h2, h3⟩
      simp only at h1 h2 h3
      have hy : ∀ (hk : k < l.length), ∃ X : Cc, (Rd mm (ptrAt p (k * 7)) X.cs ∧ p ≠ none) ∧ X.name = l[k].name ∧
          (Ans 32 [.v (.agg ⟨X.cs⟩)] mm (.bool (classL l[k]))) ∧ (∀ m', leM mm m' → Ans 33 [.v (.agg ⟨X.cs⟩)] m' (.bool (deepL l[k]))) ∧ (∀ m', leM mm m' → Ans 34 [.v (.agg ⟨X.cs⟩)] m' (.bool (dupL l[k]))) := fun hk => by
        have hrep := cdRep_up h1 (ls_at s1 hk)
        have hrd := Rds_cells (Rds_upM h1 r1) (by omega : k < n)
        have hX : ∃ X : Cc, (xs.drop (k * 7)).take 7 = X.cs ∧ X.name = l[k].name := by
          obtain ⟨X, e1, _⟩ := hrep
          exact ⟨X, e1.1, e1.2.2.1⟩
        obtain ⟨X, e1, e2⟩ := hX
        rw [e1] at hrd hrep
        have hok := hC _ (List.getElem_mem hk)
        exact ⟨X, hrd, e2, class_spec2 _ _ mm (hg.upM h1) hrep, fun m' hle => deep_spec _ _ m' hok (cdRep_up hle hrep), fun m' hle => dup_spec _ _ m' (cdRep_up hle hrep)⟩
      have hst : ∀ (hk : k < l.length), checkL [] l = (if classL l[k] = true then (if deepL l[k] = true then (l[k].name, 9) else if (((l.map (·.name)).take k).contains l[k].name || dupL l[k]) = true then (l[k].name, 6) else checkL ((l.map (·.name)).take (k + 1)) (l.drop (k + 1))) else (l[k].name, 4)) := fun hk => by
        rw [h3, List.drop_eq_getElem_cons hk, checkL]
        have : (l.map (·.name)).take (k + 1) = (l.map (·.name)).take k ++ [l[k].name] := by
          rw [List.take_succ_eq_append_getElem (by simpa using hk)]
          simp
        rw [this]
      clear hC
      simp only [go_sem, ↓imp_tf, ↓imp_ft, ↓reduceIte]
      refine ⟨fun hlt => ?_, fun hge => ?_⟩
      · have hk : k < l.length := by clear hy; omega
        have hst' := hst hk
        clear hst
        refine Exists.elim (hy hk) fun X hy' => ⟨⟨by clear hy hy'; omega, hlt, hy'.1.2⟩, X.cs, ⟨hy'.1.1, rfl⟩, ?_⟩
        clear hy
        have hnm := hy'.2.1
        have hV := hy'.2.2.1
        have hDp := hy'.2.2.2.1
        have hDu := hy'.2.2.2.2
        clear hy'
        simp only [go_sem, ↓imp_tf, ↓imp_ft, ↓reduceIte, Cc.cs]
        refine ⟨by kernel_rfl, FnV_of ((FnH_den hV (fun V => rfl)).mono ?_)⟩
        clear hV
        rintro r H' m2 hm2 ⟨l2, rfl, rfl⟩
        simp only [go_sem, ↓imp_tf, ↓imp_ft, ↓reduceIte, Cc.cs]
        refine ⟨fun b1 => ⟨leM_tr h1 l2, ?_⟩, fun b1 => ⟨by kernel_rfl, FnV_of ((FnH_den (hDp m2 l2) (fun V => rfl)).mono ?_)⟩⟩
        · clear hDp hDu
          rw [hst', if_neg (by rw [b1]; decide), hnm]
        · clear hDp
          rw [if_pos b1] at hst'
          rintro r H' m3 hm3 ⟨l3, rfl, rfl⟩
          have l23 := leM_tr l2 l3
          simp only [go_sem, ↓imp_tf, ↓imp_ft, ↓reduceIte, Cc.cs, plains_map, findE_seen]
          refine ⟨fun b2 => ⟨leM_tr h1 l23, ?_⟩, fun b2 => ?_⟩
          · clear hDu
            rw [hst', if_pos b2, hnm]
          · rw [if_neg (by rw [b2]; decide)] at hst'
            refine ⟨fun b3 => ⟨by kernel_rfl, FnV_of ((FnH_den (hDu m3 l23) (fun V => rfl)).mono ?_)⟩, fun b3 => ⟨leM_tr h1 l23, ?_⟩⟩
            · clear hDu
              rw [← hnm, b3, Bool.false_or] at hst'
              rintro r H' m4 hm4 ⟨l4, rfl, rfl⟩
              have l24 := leM_tr l23 l4
              simp only [go_sem, ↓imp_tf, ↓imp_ft, ↓reduceIte, Cc.cs, plains_map, findE_seen]
              refine ⟨fun b4 => ⟨leM_tr h1 l24, ?_⟩, fun b4 => ⟨by unfold I64; simp only [big] at hn; omega, (k + 1, m4), ⟨by simp, ?_, .inl rfl⟩, ⟨leM_tr h1 l24, by simp only; omega, ?_⟩, by simp only; omega⟩⟩
              · rw [hst', if_pos b4]
              · have hkl : k < (l.map (·.name)).length := by simpa using hk
                simp only
                rw [putE_new _ _ b3, List.take_succ_eq_append_getElem hkl, hnm]
                simp
              · simp only
                rw [hst', if_neg (by rw [b4]; decide)]
            · clear hDu
              rw [hst', ← hnm, b3, if_pos (by simp)]
      · clear hy
        rw [h3, List.drop_of_length_le (by omega), checkL]
        exact ⟨h1, rfl⟩
end Go.Proofs.YtalalcpefggniaaGreatDoor.E

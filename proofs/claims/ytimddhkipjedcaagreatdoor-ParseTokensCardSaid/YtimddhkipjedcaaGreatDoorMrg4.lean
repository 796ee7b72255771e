/- Several texts in one: AstD, AstE, AstF, AstG, AstH, AstI, AstJ, AstK, AstN, AstO, AstP, AstQ, AstR, AstDa, AstS, AstT, AstU, AstUa, AstW, AstWa, AstWb, AstWc, AstX, AstXa, AstXb, AstXc, AstXd, AstXe, AstY, AstZ, AstCardE, AstSa, AstSc, AstCardQ, AstSd, AstCardP, AstXf, AstPa. -/
import Derived.WideKeyRuns
import Derived.Test.YtimddhkipjedcaaGreatDoorMrg3
set_option linter.unusedSimpArgs false
set_option linter.unusedVariables false
set_option maxHeartbeats 4000000
set_option maxRecDepth 20000
namespace Go.Proofs.YtimddhkipjedcaaGreatDoor.E
open Go
structure Ty where
 dim : Int
 base : Int
 name : List UInt8
inductive Ex where
 | mk (k n : Int) (s c : List UInt8) (ty : Ty) (args : List Ex)
inductive St where
 | mk (k : Int) (name : List UInt8) (ty : Ty) (tg ex : Ex) (body alt : List St)
abbrev big : Nat := 2000000
def TyOk (t : Ty) : Prop := I64 t.dim ∧ (0 ≤ t.base ∧ t.base < 256) ∧ t.name.length ≤ big
def exC (k n : Int) (s c : List UInt8) (ty : Ty) (sl : Value) : List Value := [.int .i64 k, .int .i64 n, .string (bs s), .string (bs c), .int .i64 ty.dim, .int .u8 ty.base, .string (bs ty.name), sl]
def ExOk (k n : Int) (s c : List UInt8) (ty : Ty) (l : Nat) : Prop := I64 k ∧ I64 n ∧ s.length ≤ big ∧ c.length ≤ big ∧ TyOk ty ∧ l ≤ big
mutual
def exRep (m : Mem) : Ex → List Value → Prop
 | .mk k n s c ty args, cs => ∃ a cp xs, cs = exC k n s c ty (.slice a args.length cp) ∧ args.length ≤ cp ∧ Rds m a args.length 8 xs ∧ ExOk k n s c ty args.length ∧ exsRep m args xs
def exsRep (m : Mem) : List Ex → List Value → Prop
 | [], _ => True
 | e :: r, xs => exRep m e (xs.take 8) ∧ exsRep m r (xs.drop 8)
end
theorem exs_at {m : Mem} : ∀ {l : List Ex} {xs : List Value} {i : Nat} (_ : exsRep m l xs) (hi : i < l.length), exRep m l[i] ((xs.drop (i * 8)).take 8)
 | [], _, _, _, hi => absurd hi (Nat.not_lt_zero _)
 | e :: r, xs, 0, h, _ => by simp only [exsRep] at h; simpa using h.1
 | e :: r, xs, i + 1, h, hi => by
  simp only [exsRep] at h
  have := exs_at (i := i) h.2 (by simpa using hi)
  rw [List.drop_drop] at this
  rw [show (i + 1) * 8 = 8 + i * 8 by omega]
  exact this
mutual
theorem exRep_up {m m' : Mem} (hle : m.le m') : ∀ (e : Ex) (cs : List Value), exRep m e cs → exRep m' e cs
 | .mk k n s c ty args, cs, h => by
  simp only [exRep] at h ⊢
  obtain ⟨a, cp, xs, h1, h2, h3, h4, h5⟩ := h
  exact ⟨a, cp, xs, h1, h2, Rds_up hle h3, h4, exsRep_up hle args xs h5⟩
theorem exsRep_up {m m' : Mem} (hle : m.le m') : ∀ (l : List Ex) (xs : List Value), exsRep m l xs → exsRep m' l xs
 | [], _, _ => by simp only [exsRep]
 | e :: r, xs, h => by
  simp only [exsRep] at h ⊢
  exact ⟨exRep_up hle e _ h.1, exsRep_up hle r _ h.2⟩
end
mutual
def depthE : Ex → Nat
 | .mk _ _ _ _ _ args => depthL args + 1
def depthL : List Ex → Nat
 | [] => 0
 | e :: r => max (depthE e) (depthL r)
end
theorem depth_mem : ∀ {l : List Ex} {i : Nat} (hi : i < l.length), depthE l[i] ≤ depthL l
 | [], _, hi => absurd hi (Nat.not_lt_zero _)
 | e :: r, 0, _ => by simp only [depthL]; exact Nat.le_max_left _ _
 | e :: r, i + 1, hi => by
  have := depth_mem (l := r) (i := i) (by simpa using hi)
  simp only [depthL]
  exact Nat.le_trans this (Nat.le_max_right _ _)
theorem depth_take : ∀ {l : List Ex} {i : Nat} (hi : i < l.length), depthL (l.take (i + 1)) = max (depthL (l.take i)) (depthE l[i])
 | [], _, hi => absurd hi (Nat.not_lt_zero _)
 | e :: r, 0, _ => by simp [depthL]
 | e :: r, i + 1, hi => by
  have := depth_take (l := r) (i := i) (by simpa using hi)
  simp only [List.take_succ_cons, depthL, this]
  rw [List.getElem_cons_succ, Nat.max_assoc]
def Ans (f : FuncId) (args : List SV) (m : Mem) (v : Value) : Prop := FnH Tryz.prog f args ⟨[], []⟩ m fun r H' m' => leM m m' ∧ H' = ⟨[], []⟩ ∧ r = .v v
theorem take_any {α : Type} {l : List α} {B : α → Bool} {k : Nat} (h : k < l.length) : (l.take (k + 1)).any B = ((l.take k).any B || B l[k]) := by
 rw [List.take_succ_eq_append_getElem h, List.any_append]
 simp
theorem Glob.upM {m m' : Mem} (h : Glob m) (hm : leM m m') : Glob m' := by
 rcases hm with rfl | hm
 ·exact h
 ·exact h.up hm
theorem exRep_upM {m m' : Mem} {e : Ex} {cs : List Value} (hle : leM m m') (h : exRep m e cs) : exRep m' e cs := by
 rcases hle with rfl | hle
 ·exact h
 ·exact exRep_up hle e cs h
theorem exsRep_upM {m m' : Mem} {l : List Ex} {cs : List Value} (hle : leM m m') (h : exsRep m l cs) : exsRep m' l cs := by
 rcases hle with rfl | hle
 ·exact h
 ·exact exsRep_up hle l cs h
theorem Rds_upM {m m' : Mem} {a : Option Addr} {n sz : Nat} {xs : List Value} (hle : leM m m') (h : Rds m a n sz xs) : Rds m' a n sz xs := by
 rcases hle with rfl | hle
 ·exact h
 ·exact Rds_up hle h
theorem leM_tr {m m' m'' : Mem} (h : leM m m') (h' : leM m' m'') : leM m m'' := by
 rcases h with rfl | h
 ·exact h'
 ·rcases h' with rfl | h'
  ·exact .inr h
  ·exact .inr (Mem.le_trans h h')
theorem indexX_spec (f : FuncId) (B : Ex → Bool) (l : List Ex) (a : Option Addr) (n c : Nat) (xs : List Value) (m : Mem) (hl : l.length = n) (hr : Rds m a n 8 xs) (he : exsRep m l xs) (hn : n ≤ big) (hok : fnOk Tryz.prog f = true)
  (hf : ∀ i (hi : i < l.length) cs m', leM m m' → exRep m' l[i] cs → Ans f [.v (.agg ⟨cs⟩)] m' (.bool (B l[i]))) :
  FnH Tryz.prog 158 [.v (.slice a n c), .v (.func (.func f) ⟨[]⟩ ⟨[]⟩)] ⟨[], []⟩ m fun r H' m' => leM m m' ∧ H' = ⟨[], []⟩ ∧ ∃ i : Int, r = .v (.int .i64 i) ∧ decide (0 ≤ i) = l.any B := by
 refine enter cfN puN Tryz.func158 rfl rfl (by kernel_rfl) rfl ?_ ?_
 ·simp only [go_sem, ↓tfi, ↓fti, ↓reduceIte]
 ·simp only [go_sem, ↓tfi, ↓fti, ↓reduceIte]
  refine WP_loop puN (fun x : Nat × Mem => ⟨[⟨0, [], .v (.slice a n c)⟩, ⟨1, [], .v (.func (.func f) ⟨[]⟩ ⟨[]⟩)⟩, ⟨7, [], .v (.int .i64 n)⟩, ⟨8, [], .v (.int .i64 x.1)⟩], [], [], [], 0, x.2⟩)
   (fun x => leM m x.2 ∧ x.1 ≤ n ∧ (l.take x.1).any B = false) (fun x => n - x.1) (0, m) (by kernel_rfl) (fun _ _ => Nnr _) (fun x hx => hx.1) (fun _ => ?_) ?_ ?_ ?_
  ·simp only [go_sem, ↓tfi, ↓fti, ↓reduceIte]
  ·simp only [go_sem, ↓tfi, ↓fti, ↓reduceIte]
   rfl
  ·exact ⟨.inl rfl, Nat.zero_le _, rfl⟩
  ·rintro ⟨k, mm⟩ ⟨h1, h2, h3⟩
   simp only at h1 h2 h3
   have hown : cfN.own f = false := rfl
   have hrk : ∀ (hk : k < n), Rd mm (ptrAt a (k * 8)) ((xs.drop (k * 8)).take 8) ∧ a ≠ none := fun hk => Rds_cells (Rds_upM h1 hr) hk
   have hln : ∀ (hk : k < n), ((xs.drop (k * 8)).take 8).length = 8 := fun hk => by
    have := hr.1
    have hm : (k + 1) * 8 ≤ n * 8 := Nat.mul_le_mul_right _ hk
    rw [List.length_take, List.length_drop]; omega
   simp only [go_sem, ↓tfi, ↓fti, ↓reduceIte, hown]
   refine ⟨fun hlt => ?_, fun hge => ⟨h1, ?_⟩⟩
   ·have hk : k < n := by clear hf; omega
    have hkl : k < l.length := by clear hf; omega
    refine ⟨⟨by clear hf; omega, hlt, (hrk hk).2⟩, _, ⟨(hrk hk).1, hln hk⟩, hok, FnV_of ((hf k hkl _ mm h1 (exRep_upM h1 (exs_at he hkl))).mono ?_)⟩
    clear hf
    rintro r H' m' hm ⟨hle, rfl, rfl⟩
    simp only [go_sem, ↓tfi, ↓fti, ↓reduceIte]
    refine ⟨fun hb => ⟨leM_tr h1 hle, ?_⟩, fun hb => ⟨by unfold I64; simp only [big] at hn; omega, (k + 1, m'), ⟨by simp, .inl rfl⟩, ⟨leM_tr h1 hle, by simp only; omega, ?_⟩, by simp only; omega⟩⟩
    ·have : l.any B = true := List.any_eq_true.2 ⟨_, List.getElem_mem hkl, hb⟩
     rw [this]
     simp
    ·simp only
     rw [take_any hkl, h3, hb]
     rfl
   ·rw [List.take_of_length_le (by clear hf; omega)] at h3
    rw [h3]
    rfl
theorem containsX_spec (f : FuncId) (B : Ex → Bool) (l : List Ex) (a : Option Addr) (n c : Nat) (xs : List Value) (m : Mem) (hl : l.length = n) (hr : Rds m a n 8 xs) (he : exsRep m l xs) (hn : n ≤ big) (hok : fnOk Tryz.prog f = true)
  (hf : ∀ i (hi : i < l.length) cs m', leM m m' → exRep m' l[i] cs → Ans f [.v (.agg ⟨cs⟩)] m' (.bool (B l[i]))) :
  Ans 65 [.v (.slice a n c), .v (.func (.func f) ⟨[]⟩ ⟨[]⟩)] m (.bool (l.any B)) := by
 refine enter cfN puN Tryz.func65 rfl rfl (by kernel_rfl) rfl ?_ ?_
 ·simp only [go_sem, ↓tfi, ↓fti, ↓reduceIte]
 ·simp only [go_sem, ↓tfi, ↓fti, ↓reduceIte]
  refine cvl ((indexX_spec f B l a n c xs m hl hr he hn hok hf).mono ?_)
  clear hf
  rintro r H' m' hm ⟨hle, rfl, i, rfl, hi⟩
  simp only [go_sem, ↓tfi, ↓fti, ↓reduceIte]
  exact ⟨hle, hi⟩
mutual
def validE : Ex → Bool
 | .mk k n s c ty args => nodeL k n s c ty.dim ty.base ty.name args.length && validEs args
def validEs : List Ex → Bool
 | [] => true
 | e :: r => validE e && validEs r
end
theorem validEs_any : ∀ (l : List Ex), (!l.any fun e => !validE e) = validEs l
 | [] => rfl
 | e :: r => by
  simp only [List.any_cons, validEs, ← validEs_any r]
  cases validE e <;> simp
theorem valid_all : ∀ (h : Nat) (e : Ex) (cs : List Value) (m : Mem), depthE e ≤ h → Glob m → exRep m e cs → Ans 33 [.v (.agg ⟨cs⟩)] m (.bool (validE e))
 | 0, .mk k n s c ty args, cs, m, hd, _, _ => by simp [depthE] at hd
 | h + 1, .mk k n s c ty args, cs, m, hd, hg, he => by
  simp only [exRep] at he
  obtain ⟨a, cp, xs, rfl, hcp, hr, hok, hes⟩ := he
  have hn := hok.2.2.2.2.2
  simp only [depthE] at hd
  have hf : ∀ i (hi : i < args.length) cs m', leM m m' → exRep m' args[i] cs → Ans 66 [.v (.agg ⟨cs⟩)] m' (.bool (!validE args[i])) := fun i hi cs m' hle hrep => by
   have hlen : ∃ c0 c1 c2 c3 c4 c5 c6 c7, cs = [c0, c1, c2, c3, c4, c5, c6, c7] := by
    cases hargs : args[i] with
    | mk k n s c ty args =>
     rw [hargs] at hrep
     simp only [exRep] at hrep
     obtain ⟨a, cp, xs, rfl, _⟩ := hrep
     exact ⟨_, _, _, _, _, _, _, _, rfl⟩
   have ih := valid_all h args[i] cs m' (by have := depth_mem hi; omega) (hg.upM hle) hrep
   obtain ⟨c0, c1, c2, c3, c4, c5, c6, c7, rfl⟩ := hlen
   refine enter cfN puN Tryz.func66 rfl rfl (by kernel_rfl) rfl ?_ ?_
   ·simp only [go_sem, ↓tfi, ↓fti, ↓reduceIte]
   ·simp only [go_sem, ↓tfi, ↓fti, ↓reduceIte]
    refine cvl ((FnH_den ih (fun V => rfl)).mono ?_)
    rintro r H' m2 hm2 ⟨hle2, rfl, rfl⟩
    simp only [go_sem, ↓tfi, ↓fti, ↓reduceIte]
    exact hle2
  have hv := fun m' (hm : leM m m') => containsX_spec 66 (fun e => !validE e) args a args.length cp xs m' rfl (Rds_upM hm hr) (exsRep_upM hm hes) hn (by kernel_rfl) (fun i hi cs m2 hle => hf i hi cs m2 (leM_tr hm hle))
  have hnode := node_spec k n s c ty.dim ty.base ty.name a args.length cp m hg (Nat.le_trans hok.2.2.1 (by decide)) (Nat.le_trans hok.2.2.2.1 (by decide)) (Nat.le_trans hok.2.2.2.2.1.2.2 (by decide))
  clear hf
  refine enter cfN puN Tryz.func33 rfl rfl (by kernel_rfl) rfl ?_ ?_
  ·simp only [go_sem, ↓tfi, ↓fti, ↓reduceIte, exC]
  ·simp only [go_sem, ↓tfi, ↓fti, ↓reduceIte, exC]
   refine cvl ((FnH_den hnode (fun V => rfl)).mono ?_)
   rintro r H' m2 hm2 ⟨hle, rfl, rfl⟩
   simp only [go_sem, ↓tfi, ↓fti, ↓reduceIte]
   refine ⟨fun hb => cvl ((hv m2 hle).mono ?_), fun hb => ⟨hle, ?_⟩⟩
   ·clear hv
    rintro r H' m3 hm3 ⟨hle3, rfl, rfl⟩
    simp only [go_sem, ↓tfi, ↓fti, ↓reduceIte]
    refine ⟨leM_tr hle hle3, ?_⟩
    rw [validEs_any, validE, hb, Bool.true_and]
   ·rw [validE, hb, Bool.false_and]
structure Nd where
 k : Int
 n : Int
 s : List UInt8
 c : List UInt8
 ty : Ty
 a : Option Addr
 l : Nat
 cp : Nat
def Nd.cs (x : Nd) : List Value := [.int .i64 x.k, .int .i64 x.n, .string (bs x.s), .string (bs x.c), .int .i64 x.ty.dim, .int .u8 x.ty.base, .string (bs x.ty.name), .slice x.a x.l x.cp]
theorem exRep_nd {m : Mem} {e : Ex} {cs : List Value} (h : exRep m e cs) : ∃ x : Nd, cs = x.cs := by
 cases e with
 | mk k n s c ty args =>
  simp only [exRep] at h
  obtain ⟨a, cp, xs, rfl, _⟩ := h
  exact ⟨⟨k, n, s, c, ty, a, args.length, cp⟩, rfl⟩
theorem depth_all : ∀ (h : Nat) (e : Ex) (cs : List Value) (m : Mem), depthE e ≤ h → h ≤ big → exRep m e cs → Ans 34 [.v (.agg ⟨cs⟩)] m (.int .i64 (depthE e))
 | 0, .mk k n s c ty args, cs, m, hd, _, _ => by simp [depthE] at hd
 | h + 1, .mk k n s c ty args, cs, m, hd, hb, he => by
  simp only [exRep] at he
  obtain ⟨a, cp, xs, rfl, hcp, hr, hok, hes⟩ := he
  have hn := hok.2.2.2.2.2
  simp only [depthE] at hd
  refine enter cfN puN Tryz.func34 rfl rfl (by kernel_rfl) rfl ?_ ?_
  ·simp only [go_sem, ↓tfi, ↓fti, ↓reduceIte, exC]
  ·simp only [go_sem, ↓tfi, ↓fti, ↓reduceIte, exC]
   refine WP_loop puN (fun x : Nat × Mem => ⟨[⟨3, [], .v (.int .i64 (depthL (args.take x.1)))⟩, ⟨7, [], .v (.slice a args.length cp)⟩, ⟨8, [], .v (.int .i64 args.length)⟩, ⟨9, [], .v (.int .i64 x.1)⟩], [], [], [], 1, x.2⟩)
    (fun x => leM m x.2 ∧ x.1 ≤ args.length) (fun x => args.length - x.1) (0, m) (by kernel_rfl) (fun _ _ => Nnr _) (fun x hx => hx.1) (fun _ => ?_) ?_ ?_ ?_
   ·simp only [go_sem, ↓tfi, ↓fti, ↓reduceIte]
   ·simp only [go_sem, ↓tfi, ↓fti, ↓reduceIte]
    exact ⟨rfl, rfl⟩
   ·exact ⟨.inl rfl, Nat.zero_le _⟩
   ·rintro ⟨i, mm⟩ ⟨h1, h2⟩
    simp only at h1 h2
    have hx : ∀ (hi : i < args.length), ∃ x : Nd, Rd mm (ptrAt a (i * 8)) x.cs ∧ a ≠ none ∧ Ans 34 [.v (.agg ⟨x.cs⟩)] mm (.int .i64 (depthE args[i])) := fun hi => by
     have hrep := exRep_upM h1 (exs_at hes hi)
     obtain ⟨x, hx⟩ := exRep_nd hrep
     have hrd := Rds_cells (Rds_upM h1 hr) hi
     rw [hx] at hrep hrd
     exact ⟨x, hrd.1, hrd.2, depth_all h args[i] x.cs mm (by have := depth_mem hi; omega) (by omega) hrep⟩
    simp only [go_sem, ↓tfi, ↓fti, ↓reduceIte]
    refine ⟨fun hlt => ?_, fun hge => ?_⟩
    ·refine Exists.elim (hx (by clear hx; omega)) fun x hx' => ⟨⟨by clear hx hx'; omega, hlt, hx'.2.1⟩, x.cs, ⟨hx'.1, rfl⟩, ?_⟩
     clear hx
     have ha := hx'.2.2
     simp only [go_sem, ↓tfi, ↓fti, ↓reduceIte, Nd.cs]
     refine cvl ((FnH_den ha (fun V => rfl)).mono ?_)
     clear hx' ha
     rintro r H' m2 hm2 ⟨hle2, rfl, rfl⟩
     simp only [go_sem, ↓tfi, ↓fti, ↓reduceIte]
     have hi : i < args.length := by omega
     have hdt := depth_take hi
     refine ⟨by unfold I64; simp only [big] at hn; omega, (i + 1, m2), ⟨⟨?_, by simp⟩, .inl rfl⟩, ⟨leM_tr h1 hle2, by simp only; omega⟩, by simp only; omega⟩
     simp only
     rw [hdt]
     split <;> omega
    ·clear hx
     have : args.take i = args := List.take_of_length_le (by omega)
     rw [this]
     simp only [depthE]
     exact ⟨by unfold I64; simp only [big] at hb; omega, h1, by omega⟩
mutual
def sizeE : Ex → Nat
 | .mk _ _ _ _ _ args => sizeL args + 1
def sizeL : List Ex → Nat
 | [] => 0
 | e :: r => sizeE e + sizeL r
end
theorem aggLT : aggN Tryz.prog 45 = some none := by kernel_rfl
theorem szLT : szT Tryz.prog 45 = 1 := by kernel_rfl
attribute [go_sem] aggLT szLT
def sg (s : List UInt8) : Tk := ⟨6, s, 0, 0⟩
def kw (s : List UInt8) : Tk := ⟨2, s, 0, 0⟩
def nm1 (s : List UInt8) : Tk := ⟨1, s, 0, 0⟩
theorem strs_rd {l : List (List UInt8)} {a : Option Addr} {n : Nat} {m : Mem} (hr : Rds m a n 1 (strs l)) {k : Nat} (hk : k < l.length) : Rd m (ptrAt a k) [.string (bs l[k])] ∧ a ≠ none := by
 have hl : l.length = n := by have := hr.1; simpa [strs] using this
 obtain ⟨hx, h, hne⟩ := Rds_one hr (by omega : k < n)
 have e : (strs l)[k] = .string (bs l[k]) := by simp [strs]
 rw [e] at h
 exact ⟨h, hne⟩
def intS : List UInt8 := [105, 110, 116]
def longS : List UInt8 := [108, 111, 110, 103]
def voidS : List UInt8 := [118, 111, 105, 100]
def baseT (b : Int) (nm : List UInt8) : Tk := if b = 73 then kw intS else if b = 74 then kw longS else if b = 86 then kw voidS else nm1 nm
def dimT (d : Int) : List Tk := (List.replicate d.toNat [sg [91], sg [93]]).flatten
def typT (d b : Int) (nm : List UInt8) : List Tk := baseT b nm :: dimT d
def commaT : Bool → List (List Tk) → List Tk
 | _, [] => []
 | f, t :: r => (if f = true then t else sg [44] :: t) ++ commaT false r
def listT (l : List (List Tk)) : List Tk := sg [40] :: (commaT true l ++ [sg [41]])
def isOp (k : Int) : Bool := decide (k = 15) || decide (k = 16) || decide (k = 17) || decide (k = 18)
def opdT (b : Bool) (t : List Tk) : List Tk := if b = true then listT [t] else t
def tAt (ts : List (Bool × List Tk)) (i : Nat) : List Tk := (ts.getD i (false, [])).2
def oAt (ts : List (Bool × List Tk)) (i : Nat) : List Tk := opdT (ts.getD i (false, [])).1 (ts.getD i (false, [])).2
def nodeT (k n : Int) (s c : List UInt8) (ty : Ty) (ts : List (Bool × List Tk)) : List Tk :=
 if k = 1 then [⟨3, [], n, 0⟩]
 else if k = 2 then [⟨4, [], n, 0⟩]
 else if k = 3 then [⟨5, s, 0, 0⟩]
 else if k = 4 then [kw [110, 117, 108, 108]]
 else if k = 5 then [kw [116, 104, 105, 115]]
 else if k = 6 then [nm1 s]
 else if k = 7 then oAt ts 0 ++ [sg [46]] ++ [nm1 s]
 else if k = 8 then [nm1 c] ++ [sg [46]] ++ [nm1 s]
 else if k = 9 then oAt ts 0 ++ [sg [91]] ++ tAt ts 1 ++ [sg [93]]
 else if k = 10 then oAt ts 0 ++ [sg [46]] ++ [nm1 s] ++ listT ((ts.drop 1).map (·.2))
 else if k = 11 then [nm1 c] ++ [sg [46]] ++ [nm1 s] ++ listT (ts.map (·.2))
 else if k = 12 then [kw [115, 117, 112, 101, 114]] ++ [sg [46]] ++ [nm1 s] ++ listT (ts.map (·.2))
 else if k = 13 then [kw [110, 101, 119]] ++ [nm1 c] ++ listT (ts.map (·.2))
 else if k = 14 then [kw [110, 101, 119]] ++ typT ty.dim ty.base ty.name ++ [sg [91]] ++ tAt ts 0 ++ [sg [93]]
 else if k = 15 then [sg s] ++ oAt ts 0
 else if k = 16 then oAt ts 0 ++ [sg s] ++ oAt ts 1
 else if k = 17 then oAt ts 0 ++ [kw [97, 115]] ++ typT ty.dim ty.base ty.name
 else if k = 18 then oAt ts 0 ++ [kw [105, 115]] ++ typT ty.dim ty.base ty.name
 else if k = 19 then [kw [108, 101, 110]] ++ listT [tAt ts 0]
 else if k = 20 then [kw intS] ++ listT [tAt ts 0]
 else if k = 21 then [kw longS] ++ listT [tAt ts 0]
 else []
def Ex.k : Ex → Int | .mk k _ _ _ _ _ => k
mutual
def exprT : Ex → List Tk
 | .mk k n s c ty args => nodeT k n s c ty (exprTs args)
def exprTs : List Ex → List (Bool × List Tk)
 | [] => []
 | e :: r => (isOp e.k, exprT e) :: exprTs r
end
abbrev cap : Nat := 800000000
theorem depthL_mem : ∀ {l : List Ex} {e : Ex}, e ∈ l → depthE e ≤ depthL l
 | [], e, he => by cases he
 | x :: r, e, he => by
  simp only [depthL]
  rcases List.mem_cons.1 he with rfl | he
  ·omega
  ·have := depthL_mem he; omega
def fmtE (e : Ex) : List UInt8 × Int := if validE e = true then (if 24 < depthE e then ([], 9) else joinL (exprT e)) else ([], 4)
structure Sd where
 k : Int
 name : List UInt8
 ty : Ty
 tg : Nd
 ex : Nd
 a : Option Addr
 l : Nat
 cp : Nat
 b : Option Addr
 l2 : Nat
 cp2 : Nat
def Sd.cs (x : Sd) : List Value := [.int .i64 x.k, .string (bs x.name), .int .i64 x.ty.dim, .int .u8 x.ty.base, .string (bs x.ty.name), .int .i64 x.tg.k, .int .i64 x.tg.n, .string (bs x.tg.s), .string (bs x.tg.c), .int .i64 x.tg.ty.dim, .int .u8 x.tg.ty.base, .string (bs x.tg.ty.name), .slice x.tg.a x.tg.l x.tg.cp, .int .i64 x.ex.k, .int .i64 x.ex.n, .string (bs x.ex.s), .string (bs x.ex.c), .int .i64 x.ex.ty.dim, .int .u8 x.ex.ty.base, .string (bs x.ex.ty.name), .slice x.ex.a x.ex.l x.ex.cp, .slice x.a x.l x.cp, .slice x.b x.l2 x.cp2]
theorem aggSd : aggN Tryz.prog 73 = some (some 23) := by kernel_rfl
theorem szSd : szT Tryz.prog 73 = 23 := by kernel_rfl
theorem zeroSd : zeroO Tryz.prog 73 = some [.v (.int .i64 0), .v (.string (bs [])), .v (.int .i64 0), .v (.int .u8 0), .v (.string (bs [])), .v (.int .i64 0), .v (.int .i64 0), .v (.string (bs [])), .v (.string (bs [])), .v (.int .i64 0), .v (.int .u8 0), .v (.string (bs [])), .v (.slice none 0 0), .v (.int .i64 0), .v (.int .i64 0), .v (.string (bs [])), .v (.string (bs [])), .v (.int .i64 0), .v (.int .u8 0), .v (.string (bs [])), .v (.slice none 0 0), .v (.slice none 0 0), .v (.slice none 0 0)] := by kernel_rfl
theorem bldSd : bldOk Tryz.prog 73 = true := by kernel_rfl
theorem aggLSd : aggN Tryz.prog 36 = some none := by kernel_rfl
theorem szLSd : szT Tryz.prog 36 = 1 := by kernel_rfl
theorem elLSd : elT Tryz.prog 36 = some 73 := by kernel_rfl
theorem fldSd_0 : fldO Tryz.prog 73 0 = some (0, none, 1) := by kernel_rfl
theorem fldSd_1 : fldO Tryz.prog 73 1 = some (1, none, 1) := by kernel_rfl
theorem fldSd_2 : fldO Tryz.prog 73 2 = some (2, some 3, 3) := by kernel_rfl
theorem fldSd_3 : fldO Tryz.prog 73 3 = some (5, some 8, 8) := by kernel_rfl
theorem fldSd_4 : fldO Tryz.prog 73 4 = some (13, some 8, 8) := by kernel_rfl
theorem fldSd_5 : fldO Tryz.prog 73 5 = some (21, none, 1) := by kernel_rfl
theorem fldSd_6 : fldO Tryz.prog 73 6 = some (22, none, 1) := by kernel_rfl
structure Mc where
 fl : Int
 res : Ty
 name : List UInt8
 pa : Option Addr
 pl : Nat
 pc : Nat
 hb : Bool
 a : Option Addr
 l : Nat
 cp : Nat
def Mc.cs (x : Mc) : List Value := [.int .i64 x.fl, .int .i64 x.res.dim, .int .u8 x.res.base, .string (bs x.res.name), .string (bs x.name), .slice x.pa x.pl x.pc, .bool x.hb, .slice x.a x.l x.cp]
theorem aggMc : aggN Tryz.prog 98 = some (some 8) := by kernel_rfl
theorem szMc : szT Tryz.prog 98 = 8 := by kernel_rfl
theorem zeroMc : zeroO Tryz.prog 98 = some [.v (.int .i64 0), .v (.int .i64 0), .v (.int .u8 0), .v (.string (bs [])), .v (.string (bs [])), .v (.slice none 0 0), .v (.bool false), .v (.slice none 0 0)] := by kernel_rfl
theorem bldMc : bldOk Tryz.prog 98 = true := by kernel_rfl
theorem aggLMc : aggN Tryz.prog 57 = some none := by kernel_rfl
theorem szLMc : szT Tryz.prog 57 = 1 := by kernel_rfl
theorem elLMc : elT Tryz.prog 57 = some 98 := by kernel_rfl
theorem fldMc_0 : fldO Tryz.prog 98 0 = some (0, none, 1) := by kernel_rfl
theorem fldMc_1 : fldO Tryz.prog 98 1 = some (1, some 3, 3) := by kernel_rfl
theorem fldMc_2 : fldO Tryz.prog 98 2 = some (4, none, 1) := by kernel_rfl
theorem fldMc_3 : fldO Tryz.prog 98 3 = some (5, none, 1) := by kernel_rfl
theorem fldMc_4 : fldO Tryz.prog 98 4 = some (6, none, 1) := by kernel_rfl
theorem fldMc_5 : fldO Tryz.prog 98 5 = some (7, none, 1) := by kernel_rfl
structure Cc where
 fl : Int
 name : List UInt8
 super : List UInt8
 ia : Option Addr
 il : Nat
 ic : Nat
 fa : Option Addr
 fn : Nat
 fc : Nat
 ma : Option Addr
 ml : Nat
 mc : Nat
 sa : Option Addr
 sl : Nat
 sc : Nat
def Cc.cs (x : Cc) : List Value := [.int .i64 x.fl, .string (bs x.name), .string (bs x.super), .slice x.ia x.il x.ic, .slice x.fa x.fn x.fc, .slice x.ma x.ml x.mc, .slice x.sa x.sl x.sc]
theorem aggCc : aggN Tryz.prog 59 = some (some 7) := by kernel_rfl
theorem szCc : szT Tryz.prog 59 = 7 := by kernel_rfl
theorem zeroCc : zeroO Tryz.prog 59 = some [.v (.int .i64 0), .v (.string (bs [])), .v (.string (bs [])), .v (.slice none 0 0), .v (.slice none 0 0), .v (.slice none 0 0), .v (.slice none 0 0)] := by kernel_rfl
theorem bldCc : bldOk Tryz.prog 59 = true := by kernel_rfl
theorem aggLCc : aggN Tryz.prog 23 = some none := by kernel_rfl
theorem szLCc : szT Tryz.prog 23 = 1 := by kernel_rfl
theorem elLCc : elT Tryz.prog 23 = some 59 := by kernel_rfl
theorem fldCc_0 : fldO Tryz.prog 59 0 = some (0, none, 1) := by kernel_rfl
theorem fldCc_1 : fldO Tryz.prog 59 1 = some (1, none, 1) := by kernel_rfl
theorem fldCc_2 : fldO Tryz.prog 59 2 = some (2, none, 1) := by kernel_rfl
theorem fldCc_3 : fldO Tryz.prog 59 3 = some (3, none, 1) := by kernel_rfl
theorem fldCc_4 : fldO Tryz.prog 59 4 = some (4, none, 1) := by kernel_rfl
theorem fldCc_5 : fldO Tryz.prog 59 5 = some (5, none, 1) := by kernel_rfl
theorem fldCc_6 : fldO Tryz.prog 59 6 = some (6, none, 1) := by kernel_rfl
structure Pc where
 ty : Ty
 name : List UInt8
def Pc.cs (x : Pc) : List Value := [.int .i64 x.ty.dim, .int .u8 x.ty.base, .string (bs x.ty.name), .string (bs x.name)]
theorem aggPc : aggN Tryz.prog 160 = some (some 4) := by kernel_rfl
theorem szPc : szT Tryz.prog 160 = 4 := by kernel_rfl
theorem zeroPc : zeroO Tryz.prog 160 = some [.v (.int .i64 0), .v (.int .u8 0), .v (.string (bs [])), .v (.string (bs []))] := by kernel_rfl
theorem bldPc : bldOk Tryz.prog 160 = true := by kernel_rfl
theorem aggLPc : aggN Tryz.prog 96 = some none := by kernel_rfl
theorem szLPc : szT Tryz.prog 96 = 1 := by kernel_rfl
theorem elLPc : elT Tryz.prog 96 = some 160 := by kernel_rfl
theorem fldPc_0 : fldO Tryz.prog 160 0 = some (0, some 3, 3) := by kernel_rfl
theorem fldPc_1 : fldO Tryz.prog 160 1 = some (3, none, 1) := by kernel_rfl
structure Fc where
 fl : Int
 ty : Ty
 name : List UInt8
def Fc.cs (x : Fc) : List Value := [.int .i64 x.fl, .int .i64 x.ty.dim, .int .u8 x.ty.base, .string (bs x.ty.name), .string (bs x.name)]
theorem aggFc : aggN Tryz.prog 94 = some (some 5) := by kernel_rfl
theorem szFc : szT Tryz.prog 94 = 5 := by kernel_rfl
theorem zeroFc : zeroO Tryz.prog 94 = some [.v (.int .i64 0), .v (.int .i64 0), .v (.int .u8 0), .v (.string (bs [])), .v (.string (bs []))] := by kernel_rfl
theorem bldFc : bldOk Tryz.prog 94 = true := by kernel_rfl
theorem aggLFc : aggN Tryz.prog 56 = some none := by kernel_rfl
theorem szLFc : szT Tryz.prog 56 = 1 := by kernel_rfl
theorem elLFc : elT Tryz.prog 56 = some 94 := by kernel_rfl
theorem fldFc_0 : fldO Tryz.prog 94 0 = some (0, none, 1) := by kernel_rfl
theorem fldFc_1 : fldO Tryz.prog 94 1 = some (1, some 3, 3) := by kernel_rfl
theorem fldFc_2 : fldO Tryz.prog 94 2 = some (4, none, 1) := by kernel_rfl
theorem szLs : szT Tryz.prog 55 = 1 := by kernel_rfl
attribute [go_sem] aggSd szSd zeroSd bldSd aggLSd szLSd elLSd fldSd_0 fldSd_1 fldSd_2 fldSd_3 fldSd_4 fldSd_5 fldSd_6 aggMc szMc zeroMc bldMc aggLMc szLMc elLMc fldMc_0 fldMc_1 fldMc_2 fldMc_3 fldMc_4 fldMc_5 aggCc szCc zeroCc bldCc aggLCc szLCc elLCc fldCc_0 fldCc_1 fldCc_2 fldCc_3 fldCc_4 fldCc_5 fldCc_6 aggPc szPc zeroPc bldPc aggLPc szLPc elLPc fldPc_0 fldPc_1 aggFc szFc zeroFc bldFc aggLFc szLFc elLFc fldFc_0 fldFc_1 fldFc_2 szLs
def allB (n : Nat) (B : Nat → Bool) : Bool := (List.range n).all B
theorem allB_succ {n : Nat} {B : Nat → Bool} : allB (n + 1) B = (allB n B && B n) := by simp [allB, List.range_succ, List.all_append]
theorem allB_no {n k : Nat} {B : Nat → Bool} (hk : k < n) (h : B k = false) : allB n B = false := by
 simp only [allB, List.all_eq_false, List.mem_range]
 exact ⟨k, hk, by simp [h]⟩
theorem eqfNd (f : FuncId) (B : Nat → Bool) (a : Option Addr) (n c : Nat) (a2 : Option Addr) (n2 c2 : Nat) (xs ys : List Value) (m : Mem) (hr : Rds m a n 8 xs) (hr2 : Rds m a2 n2 8 ys) (hn : n ≤ big) (hok : fnOk Tryz.prog f = true)
  (hx : ∀ i, i < n → n = n2 → ∃ X Y : Nd, (xs.drop (i * 8)).take 8 = X.cs ∧ (ys.drop (i * 8)).take 8 = Y.cs ∧ ∀ m', leM m m' → Ans f [.v (.agg ⟨X.cs⟩), .v (.agg ⟨Y.cs⟩)] m' (.bool (B i))) :
  Ans 266 [.v (.slice a n c), .v (.slice a2 n2 c2), .v (.func (.func f) ⟨[]⟩ ⟨[]⟩)] m (.bool (decide (n = n2) && allB n B)) := by
 refine enter cfN puN Tryz.func266 rfl rfl (by kernel_rfl) rfl ?_ ?_
 ·simp only [go_sem, ↓tfi, ↓fti, ↓reduceIte]
 ·simp only [go_sem, ↓tfi, ↓fti, ↓reduceIte]
  refine ⟨fun hne => ?_, fun heq => ?_⟩
  ·have : ¬ n = n2 := by clear hx; omega
   rw [decide_eq_false this]
   rfl
  ·have heq : n = n2 := by clear hx; omega
   subst heq
   refine WP_loop puN (fun x : Nat × Mem => ⟨[⟨1, [], .v (.slice a2 n c2)⟩, ⟨2, [], .v (.func (.func f) ⟨[]⟩ ⟨[]⟩)⟩, ⟨15, [], .v (.slice a n c)⟩, ⟨16, [], .v (.int .i64 n)⟩, ⟨17, [], .v (.int .i64 x.1)⟩], [], [], [], 0, x.2⟩)
    (fun x => leM m x.2 ∧ x.1 ≤ n ∧ allB x.1 B = true) (fun x => n - x.1) (0, m) (by kernel_rfl) (fun _ _ => Nnr _) (fun x hx => hx.1) (fun _ => ?_) ?_ ?_ ?_
   ·simp only [go_sem, ↓tfi, ↓fti, ↓reduceIte]
   ·simp only [go_sem, ↓tfi, ↓fti, ↓reduceIte]
    rfl
   ·exact ⟨.inl rfl, Nat.zero_le _, rfl⟩
   ·rintro ⟨k, mm⟩ ⟨h1, h2, h3⟩
    simp only at h1 h2 h3
    have hown : cfN.own f = false := rfl
    have hy : ∀ (hk : k < n), ∃ X Y : Nd, (Rd mm (ptrAt a (k * 8)) X.cs ∧ a ≠ none) ∧ (Rd mm (ptrAt a2 (k * 8)) Y.cs ∧ a2 ≠ none) ∧ Ans f [.v (.agg ⟨X.cs⟩), .v (.agg ⟨Y.cs⟩)] mm (.bool (B k)) := fun hk => by
     obtain ⟨X, Y, e1, e2, e3⟩ := hx k hk rfl
     have r1 := Rds_cells (Rds_upM h1 hr) hk
     have r2 := Rds_cells (Rds_upM h1 hr2) hk
     rw [e1] at r1
     rw [e2] at r2
     exact ⟨X, Y, r1, r2, e3 mm h1⟩
    clear hx
    simp only [go_sem, ↓tfi, ↓fti, ↓reduceIte, hown]
    refine ⟨fun hlt => ?_, fun hge => ⟨h1, ?_⟩⟩
    ·have hk : k < n := by clear hy; omega
     refine Exists.elim (hy hk) fun X hy' => Exists.elim hy' fun Y hy'' => ⟨⟨by clear hy hy' hy''; omega, hlt, hy''.1.2⟩, X.cs, ⟨hy''.1.1, rfl⟩, ?_⟩
     clear hy hy'
     have ha := hy''.2.2
     simp only [go_sem, ↓tfi, ↓fti, ↓reduceIte, hown, Nd.cs]
     refine ⟨⟨by clear hy'' ha; omega, hlt, hy''.2.1.2⟩, Y.cs, ⟨hy''.2.1.1, rfl⟩, ?_⟩
     clear hy''
     simp only [go_sem, ↓tfi, ↓fti, ↓reduceIte, hown, Nd.cs]
     refine ⟨hok, FnV_of ((FnH_den ha (fun V => rfl)).mono ?_)⟩
     clear ha
     rintro r H' m2 hm2 ⟨hle2, rfl, rfl⟩
     simp only [go_sem, ↓tfi, ↓fti, ↓reduceIte]
     refine ⟨fun hb => ⟨leM_tr h1 hle2, ?_⟩, fun hb => ⟨by unfold I64; simp only [big] at hn; omega, (k + 1, m2), ⟨by simp, .inl rfl⟩, ⟨leM_tr h1 hle2, by simp only; omega, ?_⟩, by simp only; omega⟩⟩
     ·rw [allB_no hk hb]; simp
     ·simp only
      rw [allB_succ, h3, hb]
      rfl
    ·have : k = n := by clear hy; omega
     rw [← this, h3]; simp
theorem eqfSd (f : FuncId) (B : Nat → Bool) (a : Option Addr) (n c : Nat) (a2 : Option Addr) (n2 c2 : Nat) (xs ys : List Value) (m : Mem) (hr : Rds m a n 23 xs) (hr2 : Rds m a2 n2 23 ys) (hn : n ≤ big) (hok : fnOk Tryz.prog f = true)
  (hx : ∀ i, i < n → n = n2 → ∃ X Y : Sd, (xs.drop (i * 23)).take 23 = X.cs ∧ (ys.drop (i * 23)).take 23 = Y.cs ∧ ∀ m', leM m m' → Ans f [.v (.agg ⟨X.cs⟩), .v (.agg ⟨Y.cs⟩)] m' (.bool (B i))) :
  Ans 252 [.v (.slice a n c), .v (.slice a2 n2 c2), .v (.func (.func f) ⟨[]⟩ ⟨[]⟩)] m (.bool (decide (n = n2) && allB n B)) := by
 refine enter cfN puN Tryz.func252 rfl rfl (by kernel_rfl) rfl ?_ ?_
 ·simp only [go_sem, ↓tfi, ↓fti, ↓reduceIte]
 ·simp only [go_sem, ↓tfi, ↓fti, ↓reduceIte]
  refine ⟨fun hne => ?_, fun heq => ?_⟩
  ·have : ¬ n = n2 := by clear hx; omega
   rw [decide_eq_false this]
   rfl
  ·have heq : n = n2 := by clear hx; omega
   subst heq
   refine WP_loop puN (fun x : Nat × Mem => ⟨[⟨1, [], .v (.slice a2 n c2)⟩, ⟨2, [], .v (.func (.func f) ⟨[]⟩ ⟨[]⟩)⟩, ⟨15, [], .v (.slice a n c)⟩, ⟨16, [], .v (.int .i64 n)⟩, ⟨17, [], .v (.int .i64 x.1)⟩], [], [], [], 0, x.2⟩)
    (fun x => leM m x.2 ∧ x.1 ≤ n ∧ allB x.1 B = true) (fun x => n - x.1) (0, m) (by kernel_rfl) (fun _ _ => Nnr _) (fun x hx => hx.1) (fun _ => ?_) ?_ ?_ ?_
   ·simp only [go_sem, ↓tfi, ↓fti, ↓reduceIte]
   ·simp only [go_sem, ↓tfi, ↓fti, ↓reduceIte]
    rfl
   ·exact ⟨.inl rfl, Nat.zero_le _, rfl⟩
   ·rintro ⟨k, mm⟩ ⟨h1, h2, h3⟩
    simp only at h1 h2 h3
    have hown : cfN.own f = false := rfl
    have hy : ∀ (hk : k < n), ∃ X Y : Sd, (Rd mm (ptrAt a (k * 23)) X.cs ∧ a ≠ none) ∧ (Rd mm (ptrAt a2 (k * 23)) Y.cs ∧ a2 ≠ none) ∧ Ans f [.v (.agg ⟨X.cs⟩), .v (.agg ⟨Y.cs⟩)] mm (.bool (B k)) := fun hk => by
     obtain ⟨X, Y, e1, e2, e3⟩ := hx k hk rfl
     have r1 := Rds_cells (Rds_upM h1 hr) hk
     have r2 := Rds_cells (Rds_upM h1 hr2) hk
     rw [e1] at r1
     rw [e2] at r2
     exact ⟨X, Y, r1, r2, e3 mm h1⟩
    clear hx
    simp only [go_sem, ↓tfi, ↓fti, ↓reduceIte, hown]
    refine ⟨fun hlt => ?_, fun hge => ⟨h1, ?_⟩⟩
    ·have hk : k < n := by clear hy; omega
     refine Exists.elim (hy hk) fun X hy' => Exists.elim hy' fun Y hy'' => ⟨⟨by clear hy hy' hy''; omega, hlt, hy''.1.2⟩, X.cs, ⟨hy''.1.1, rfl⟩, ?_⟩
     clear hy hy'
     have ha := hy''.2.2
     simp only [go_sem, ↓tfi, ↓fti, ↓reduceIte, hown, Sd.cs]
     refine ⟨⟨by clear hy'' ha; omega, hlt, hy''.2.1.2⟩, Y.cs, ⟨hy''.2.1.1, rfl⟩, ?_⟩
     clear hy''
     simp only [go_sem, ↓tfi, ↓fti, ↓reduceIte, hown, Sd.cs]
     refine ⟨hok, FnV_of ((FnH_den ha (fun V => rfl)).mono ?_)⟩
     clear ha
     rintro r H' m2 hm2 ⟨hle2, rfl, rfl⟩
     simp only [go_sem, ↓tfi, ↓fti, ↓reduceIte]
     refine ⟨fun hb => ⟨leM_tr h1 hle2, ?_⟩, fun hb => ⟨by unfold I64; simp only [big] at hn; omega, (k + 1, m2), ⟨by simp, .inl rfl⟩, ⟨leM_tr h1 hle2, by simp only; omega, ?_⟩, by simp only; omega⟩⟩
     ·rw [allB_no hk hb]; simp
     ·simp only
      rw [allB_succ, h3, hb]
      rfl
    ·have : k = n := by clear hy; omega
     rw [← this, h3]; simp
theorem cellsEq_split : ∀ {x1 x2 ys : List Value} {b : Bool}, cellsEq ((x1 ++ x2).map .v) (ys.map .v) = some b → ∃ b1 b2, cellsEq (x1.map .v) ((ys.take x1.length).map .v) = some b1 ∧ cellsEq (x2.map .v) ((ys.drop x1.length).map .v) = some b2 ∧ b = (b1 && b2) ∧ x1.length ≤ ys.length
 | [], x2, ys, b, h => ⟨true, b, by simp [cellsEq], by simpa using h, by simp, Nat.zero_le _⟩
 | x :: x1, x2, ys, b, h => by
  obtain ⟨y, r, e, e', rfl, h1, h2, rfl⟩ := cells_cons (xs := x1 ++ x2) h
  obtain ⟨b1, b2, g1, g2, rfl, g4⟩ := cellsEq_split h2
  refine ⟨e && b1, b2, ?_, g2, by rw [Bool.and_assoc], by simp only [Llc]; omega⟩
  simp only [List.map_cons, Llc, List.take_succ_cons, cellsEq, h1, g1, Option.bind_some, Option.map_some]
theorem fitL_split : ∀ {n : Nat} {zs : List SV} {us : List Value}, fitL zs (us.map .v) = true → fitL (zs.take n) ((us.take n).map .v) = true ∧ fitL (zs.drop n) ((us.drop n).map .v) = true ∧ us.length = zs.length
 | 0, zs, us, h => ⟨by simp [fitL], by simpa using h, by
  induction zs generalizing us with
  | nil => rw [fitL_nil h]; rfl
  | cons z zs ih => obtain ⟨x, r, rfl, _, h2⟩ := fitL_cons h; simp [ih _ h2]⟩
 | n + 1, [], us, h => by rw [fitL_nil h]; simp [fitL]
 | n + 1, z :: zs, us, h => by
  obtain ⟨x, r, rfl, h1, h2⟩ := fitL_cons h
  obtain ⟨g1, g2, g3⟩ := fitL_split (n := n) h2
  refine ⟨?_, g2, by simp [g3]⟩
  simp only [List.take_succ_cons, List.map_cons, fitL, h1, g1, Bool.and_self]
def eqFs2 (P : Program) (N : TypeId) (sz : Nat) : Nat → List SV → List Field → Bool
  | _, zs, [] => zs.isEmpty
  | off, zs, f :: fs => f.name != "_" && decide (f.offset = off) &&
      (if f.type = N then decide (0 < sz ∧ sz ≤ zs.length) && eqFs P 0 (zs.take sz) (P.fieldsOf N).toList && eqFs2 P N sz (off + sz) (zs.drop sz) fs
       else decide (aggN P f.type = some none) && (match zs with | z :: r => kindOk P f.type z && eqFs2 P N sz (off + 1) r fs | [] => false))
theorem run_eqFs2 {P : Program} {N : TypeId} {sz d : Nat} {w : World} {cs ds : List Value} (hN : aggN P N = some (some sz)) (hu : P.underlying N = some (.struct (P.fieldsOf N))) (hp : P.stoodInHeld N = false) : ∀ {fs : List Field} {zs : List SV} {off : Nat} {us vs : List Value} {b : Bool},
  eqFs2 P N sz off zs fs = true → fitL zs (us.map .v) = true → cellsEq (us.map .v) (vs.map .v) = some b → cs.drop off = us → ds.drop off = vs → (Op.eqFields (d + 2) ⟨cs⟩ ⟨ds⟩ fs).run P w = .ok b w
 | [], zs, off, us, vs, b, h, hf, he, _, _ => by
  have : zs = [] := by simpa [eqFs2] using h
  subst this
  cases fitL_nil hf
  rw [List.map_nil] at he
  obtain ⟨_, rfl⟩ := cells_nil he
  rfl
 | f :: fs, zs, off, us, vs, b, h, hf, he, hus, hvs => by
  simp only [eqFs2, Bbt, decide_eq_true_eq, bne_iff_ne] at h
  obtain ⟨⟨h1, h2⟩, h3⟩ := h
  subst h2
  by_cases hT : f.type = N
  ·rw [if_pos hT] at h3
   simp only [Bbt, decide_eq_true_eq] at h3
   obtain ⟨⟨k1, k2⟩, k3⟩ := h3
   obtain ⟨g1, g2, g3⟩ := fitL_split (n := sz) hf
   have hus2 : us = us.take sz ++ us.drop sz := (List.take_append_drop sz us).symm
   rw [hus2] at he
   obtain ⟨b1, b2, c1, c2, rfl, c4⟩ := cellsEq_split he
   have hlen : (us.take sz).length = sz := by rw [List.length_take]; omega
   rw [hlen] at c1 c2 c4
   have hcl : f.offset + sz ≤ cs.length := by have := congrArg List.length hus; rw [List.length_drop] at this; omega
   have hdl : f.offset + sz ≤ ds.length := by have := congrArg List.length hvs; rw [List.length_drop] at this; omega
   have p1 : (part f.type ⟨cs⟩ f.offset).run P w = .ok (.agg ⟨us.take sz⟩) w := by rw [hT]; exact run_part hN ⟨by rw [hus], hcl⟩
   have p2 : (part f.type ⟨ds⟩ f.offset).run P w = .ok (.agg ⟨vs.take sz⟩) w := by rw [hT]; exact run_part hN ⟨by rw [hvs], hdl⟩
   have p3 : (Op.equalIn (d + 2) f.type (.agg ⟨us.take sz⟩) (.agg ⟨vs.take sz⟩)).run P w = .ok b1 w := by
    rw [hT, run_equalIn_struct w (d + 1) N _ _ hu hp]
    exact run_eqFs (d := d) k2 g1 c1 rfl rfl
   simp only [Op.eqFields, if_pos h1, Sem.run_bind, p1, p2, Result.andThen_ok, p3]
   cases b1 with
   | false => simp
   | true =>
    simp only [Bool.not_true, Bool.false_eq_true, if_false, Bool.true_and]
    exact run_eqFs2 hN hu hp k3 g2 c2 (by rw [← List.drop_drop, hus]) (by rw [← List.drop_drop, hvs])
  ·rw [if_neg hT] at h3
   simp only [Bbt, decide_eq_true_eq] at h3
   obtain ⟨k1, k2⟩ := h3
   cases zs with
   | nil => cases k2
   | cons z zs =>
    simp only [Bbt] at k2
    obtain ⟨x, us', rfl, g1, g2⟩ := fitL_cons hf
    obtain ⟨y, vs', e, e', rfl, g3, g4, rfl⟩ := cells_cons he
    have hx : cs[f.offset]? = some x := by
     have := congrArg (fun l : List Value => l[0]?) hus
     simpa using this
    have hy : ds[f.offset]? = some y := by
     have := congrArg (fun l : List Value => l[0]?) hvs
     simpa using this
    have hu' : cs.drop (f.offset + 1) = us' := by
     have := congrArg (List.drop 1) hus
     rw [List.drop_drop] at this
     simpa [Nat.add_comm] using this
    have hv' : ds.drop (f.offset + 1) = vs' := by
     have := congrArg (List.drop 1) hvs
     rw [List.drop_drop] at this
     simpa [Nat.add_comm] using this
    simp only [Op.eqFields, if_pos h1, Sem.run_bind, run_part k1 (show _ from hx), run_part k1 (show _ from hy), Result.andThen_ok, run_eqCell (d + 1) k2.1 g1 g3]
    cases e with
    | false => simp
    | true =>
     simp only [Bool.not_true, Bool.false_eq_true, if_false, Bool.true_and]
     exact run_eqFs2 hN hu hp k2.2 g2 g4 hu' hv'
theorem eqOk_of2 {P : Program} {t N : TypeId} {sz : Nat} {zs : List SV} {fs : List Field} (hN : aggN P N = some (some sz)) (huN : P.underlying N = some (.struct (P.fieldsOf N))) (hpN : P.stoodInHeld N = false) (hz : zeroO P t = some zs) (hg : P.eqGuardType P.depth t = false)
  (hu : P.underlying t = some (.struct (P.fieldsOf t))) (hp : P.stoodInHeld t = false) (hfs : (P.fieldsOf t).toList = fs) (h : eqFs2 P N sz 0 zs fs = true) : EqOk P t := by
 intro xs ys b w o o' op he hf
 rw [hz] at hf
 refine ⟨run_eqGuard_agg w op t o o' _ _ hg, ?_⟩
 show (Op.equalIn (9999 + 1) t _ _).run _ w = _
 rw [run_equalIn_struct w 9999 t _ _ hu hp, hfs]
 exact run_eqFs2 (d := 9997) hN huN hpN h hf he rfl rfl
theorem eqOkP : EqOk Tryz.prog 160 := eqOk_of2 (N := 30) aggT (by kernel_rfl) (by kernel_rfl) zeroPc (by kernel_rfl) (by kernel_rfl) (by kernel_rfl) rfl (by kernel_rfl)
theorem eqOkF : EqOk Tryz.prog 94 := eqOk_of2 (N := 30) aggT (by kernel_rfl) (by kernel_rfl) zeroFc (by kernel_rfl) (by kernel_rfl) (by kernel_rfl) rfl (by kernel_rfl)
def Ty.eq (x y : Ty) : Bool := decide (x.dim = y.dim) && (decide (x.base = y.base) && decide (x.name = y.name))
def Pc.eq (x y : Pc) : Bool := decide (x.ty.dim = y.ty.dim) && (decide (x.ty.base = y.ty.base) && (decide (x.ty.name = y.ty.name) && decide (x.name = y.name)))
def Fc.eq (x y : Fc) : Bool := decide (x.fl = y.fl) && (decide (x.ty.dim = y.ty.dim) && (decide (x.ty.base = y.ty.base) && (decide (x.ty.name = y.ty.name) && decide (x.name = y.name))))
structure Md where
 fl : Int
 res : Ty
 name : List UInt8
 params : List Pc
 hb : Bool
 body : List St
structure Cd where
 fl : Int
 name : List UInt8
 super : List UInt8
 ifs : List (List UInt8)
 fields : List Fc
 methods : List Md
 init : List St
def all2 {α : Type} (e : α → α → Bool) : List α → List α → Bool
 | [], [] => true
 | a :: r, b :: t => e a b && all2 e r t
 | _, _ => false
def atB {α : Type} (e : α → α → Bool) (l l2 : List α) (i : Nat) : Bool := match l[i]?, l2[i]? with | some a, some b => e a b | _, _ => false
theorem allB_zero {n : Nat} {B : Nat → Bool} : allB (n + 1) B = (B 0 && allB n fun i => B (i + 1)) := by
 simp only [allB, List.range_succ_eq_map, List.all_cons, List.all_map]
 rfl
theorem all2_allB {α : Type} (e : α → α → Bool) : ∀ (l l2 : List α), all2 e l l2 = (decide (l.length = l2.length) && allB l.length (atB e l l2))
 | [], [] => rfl
 | [], b :: t => by simp [all2]
 | a :: r, [] => by simp [all2]
 | a :: r, b :: t => by
  rw [all2, all2_allB e r t, Llc, Llc, allB_zero]
  have e1 : decide (r.length + 1 = t.length + 1) = decide (r.length = t.length) := by rw [decide_eq_decide]; omega
  have e2 : atB e (a :: r) (b :: t) 0 = e a b := rfl
  have e3 : (fun i => atB e (a :: r) (b :: t) (i + 1)) = atB e r t := by funext i; simp only [atB, List.getElem?_cons_succ]
  rw [e1, e2, e3]
  cases e a b <;> cases decide (r.length = t.length) <;> rfl
theorem atB_at {α : Type} {e : α → α → Bool} {l l2 : List α} {i : Nat} (h : i < l.length) (h2 : i < l2.length) : atB e l l2 i = e l[i] l2[i] := by
 simp only [atB, List.getElem?_eq_getElem h, List.getElem?_eq_getElem h2]
mutual
def eqE : Ex → Ex → Bool
 | .mk k n s c ty args, .mk k' n' s' c' ty' args' => decide (k = k') && decide (n = n') && decide (s = s') && decide (c = c') && Ty.eq ty ty' && eqEs args args'
def eqEs : List Ex → List Ex → Bool
 | [], [] => true
 | a :: r, b :: t => eqE a b && eqEs r t
 | [], _ :: _ => false
 | _ :: _, [] => false
end
theorem eqEs_all2 : ∀ (l l2 : List Ex), eqEs l l2 = all2 eqE l l2
 | [], [] => by simp only [eqEs, all2]
 | a :: r, b :: t => by simp only [eqEs, all2, eqEs_all2 r t]
 | [], _ :: _ => by simp only [eqEs, all2]
 | _ :: _, [] => by simp only [eqEs, all2]
mutual
def eqS : St → St → Bool
 | .mk k nm ty tg ex body alt, .mk k' nm' ty' tg' ex' body' alt' => decide (k = k') && decide (nm = nm') && Ty.eq ty ty' && eqE tg tg' && eqE ex ex' && eqSs body body' && eqSs alt alt'
def eqSs : List St → List St → Bool
 | [], [] => true
 | a :: r, b :: t => eqS a b && eqSs r t
 | [], _ :: _ => false
 | _ :: _, [] => false
end
theorem eqSs_all2 : ∀ (l l2 : List St), eqSs l l2 = all2 eqS l l2
 | [], [] => by simp only [eqSs, all2]
 | a :: r, b :: t => by simp only [eqSs, all2, eqSs_all2 r t]
 | [], _ :: _ => by simp only [eqSs, all2]
 | _ :: _, [] => by simp only [eqSs, all2]
def eqM (x y : Md) : Bool := decide (x.fl = y.fl) && Ty.eq x.res y.res && decide (x.name = y.name) && (x.hb == y.hb) && all2 Pc.eq x.params y.params && eqSs x.body y.body
def eqC (x y : Cd) : Bool := decide (x.fl = y.fl) && decide (x.name = y.name) && decide (x.super = y.super) && decide (x.ifs = y.ifs) && all2 Fc.eq x.fields y.fields && all2 eqM x.methods y.methods && eqSs x.init y.init
/-! In memory. -/
structure StOk (k : Int) (nm : List UInt8) (ty : Ty) (l l2 : Nat) : Prop where
 k : I64 k
 nm : nm.length ≤ big
 ty : TyOk ty
 l : l ≤ big
 l2 : l2 ≤ big
mutual
def stRep (m : Mem) : St → List Value → Prop
 | .mk k nm ty tg ex body alt, cs => ∃ x : Sd, (cs = x.cs ∧ x.k = k ∧ x.name = nm ∧ x.ty = ty) ∧ exRep m tg x.tg.cs ∧ exRep m ex x.ex.cs ∧ (x.l = body.length ∧ x.l ≤ x.cp ∧ x.l2 = alt.length ∧ x.l2 ≤ x.cp2) ∧ StOk k nm ty body.length alt.length ∧
   ∃ xs ys, Rds m x.a x.l 23 xs ∧ Rds m x.b x.l2 23 ys ∧ stsRep m body xs ∧ stsRep m alt ys
def stsRep (m : Mem) : List St → List Value → Prop
 | [], _ => True
 | e :: r, xs => stRep m e (xs.take 23) ∧ stsRep m r (xs.drop 23)
end
theorem sts_at {m : Mem} : ∀ {l : List St} {xs : List Value} {i : Nat} (_ : stsRep m l xs) (hi : i < l.length), stRep m l[i] ((xs.drop (i * 23)).take 23)
 | [], _, _, _, hi => absurd hi (Nat.not_lt_zero _)
 | e :: r, xs, 0, h, _ => by simp only [stsRep] at h; simpa using h.1
 | e :: r, xs, i + 1, h, hi => by
  simp only [stsRep] at h
  have := sts_at (i := i) h.2 (by simpa using hi)
  rw [List.drop_drop] at this
  rw [show (i + 1) * 23 = 23 + i * 23 by omega]
  exact this
mutual
theorem stRep_up {m m' : Mem} (hle : m.le m') : ∀ (e : St) (cs : List Value), stRep m e cs → stRep m' e cs
 | .mk k nm ty tg ex body alt, cs, h => by
  simp only [stRep] at h ⊢
  obtain ⟨x, h1, h2, h3, h4, h5, xs, ys, h6, h7, h8, h9⟩ := h
  exact ⟨x, h1, exRep_up hle _ _ h2, exRep_up hle _ _ h3, h4, h5, xs, ys, Rds_up hle h6, Rds_up hle h7, stsRep_up hle body xs h8, stsRep_up hle alt ys h9⟩
theorem stsRep_up {m m' : Mem} (hle : m.le m') : ∀ (l : List St) (xs : List Value), stsRep m l xs → stsRep m' l xs
 | [], _, _ => by simp only [stsRep]
 | e :: r, xs, h => by
  simp only [stsRep] at h ⊢
  exact ⟨stRep_up hle e _ h.1, stsRep_up hle r _ h.2⟩
end
theorem stsRep_upM {m m' : Mem} {l : List St} {cs : List Value} (hle : leM m m') (h : stsRep m l cs) : stsRep m' l cs := by
 rcases hle with rfl | hle
 ·exact h
 ·exact stsRep_up hle l cs h
theorem stRep_upM {m m' : Mem} {l : St} {cs : List Value} (hle : leM m m') (h : stRep m l cs) : stRep m' l cs := by
 rcases hle with rfl | hle
 ·exact h
 ·exact stRep_up hle l cs h
theorem stRep_sd {m : Mem} {e : St} {cs : List Value} (h : stRep m e cs) : ∃ x : Sd, cs = x.cs := by
 cases e with
 | mk k nm ty tg ex body alt =>
  simp only [stRep] at h
  obtain ⟨x, h1, _⟩ := h
  exact ⟨x, h1.1⟩
def lsRep {α : Type} (R : α → List Value → Prop) (sz : Nat) : List α → List Value → Prop
 | [], _ => True
 | e :: r, xs => R e (xs.take sz) ∧ lsRep R sz r (xs.drop sz)
theorem ls_at {α : Type} {R : α → List Value → Prop} {sz : Nat} : ∀ {l : List α} {xs : List Value} {i : Nat} (_ : lsRep R sz l xs) (hi : i < l.length), R l[i] ((xs.drop (i * sz)).take sz)
 | [], _, _, _, hi => absurd hi (Nat.not_lt_zero _)
 | e :: r, xs, 0, h, _ => by simpa using h.1
 | e :: r, xs, i + 1, h, hi => by
  have := ls_at (i := i) h.2 (by simpa using hi)
  rw [List.drop_drop] at this
  rw [show (i + 1) * sz = sz + i * sz by rw [Nat.succ_mul, Nat.add_comm]]
  exact this
theorem ls_up {α : Type} {R R' : α → List Value → Prop} {sz : Nat} (h : ∀ a cs, R a cs → R' a cs) : ∀ {l : List α} {xs : List Value}, lsRep R sz l xs → lsRep R' sz l xs
 | [], _, _ => trivial
 | _ :: _, _, hl => ⟨h _ _ hl.1, ls_up h hl.2⟩
def flat {α : Type} (f : α → List Value) (l : List α) : List Value := (l.map f).flatten
theorem flat_at {α : Type} {f : α → List Value} {sz : Nat} (hf : ∀ x, (f x).length = sz) : ∀ {l : List α} {i : Nat} (hi : i < l.length), ((flat f l).drop (i * sz)).take sz = f l[i]
 | [], _, hi => absurd hi (Nat.not_lt_zero _)
 | x :: r, 0, _ => by
  simp only [flat, List.map_cons, List.flatten_cons, Nat.zero_mul, List.drop_zero, List.getElem_cons_zero]
  rw [← hf x, List.take_left]
 | x :: r, i + 1, hi => by
  have := flat_at hf (l := r) (i := i) (by simpa using hi)
  simp only [List.getElem_cons_succ]
  rw [← this, Nat.succ_mul, Nat.add_comm, ← List.drop_drop]
  congr 2
  simp only [flat, List.map_cons, List.flatten_cons]
  rw [← hf x, List.drop_left]
structure PcOk (p : Pc) : Prop where
 ty : TyOk p.ty
 name : p.name.length ≤ big
structure FcOk (p : Fc) : Prop where
 fl : I64 p.fl
 ty : TyOk p.ty
 name : p.name.length ≤ big
structure MdOk (d : Md) : Prop where
 fl : I64 d.fl
 res : TyOk d.res
 name : d.name.length ≤ big
 pl : d.params.length ≤ big
 ps : ∀ p ∈ d.params, PcOk p
 l : d.body.length ≤ big
def mdRep (m : Mem) (d : Md) (cs : List Value) : Prop := ∃ x : Mc, (cs = x.cs ∧ x.fl = d.fl ∧ x.res = d.res ∧ x.name = d.name ∧ x.hb = d.hb) ∧ (x.pl = d.params.length ∧ x.pl ≤ x.pc ∧ x.l = d.body.length ∧ x.l ≤ x.cp) ∧ MdOk d ∧
 Rds m x.pa x.pl 4 (flat Pc.cs d.params) ∧ ∃ xs, Rds m x.a x.l 23 xs ∧ stsRep m d.body xs
structure CdOk (d : Cd) : Prop where
 fl : I64 d.fl
 name : d.name.length ≤ big
 super : d.super.length ≤ big
 il : d.ifs.length ≤ big
 ifs : ∀ s ∈ d.ifs, s.length ≤ big
 fn : d.fields.length ≤ big
 fs : ∀ s ∈ d.fields, FcOk s
 ml : d.methods.length ≤ big
 l : d.init.length ≤ big
def cdRep (m : Mem) (d : Cd) (cs : List Value) : Prop := ∃ x : Cc, (cs = x.cs ∧ x.fl = d.fl ∧ x.name = d.name ∧ x.super = d.super) ∧ (x.il = d.ifs.length ∧ x.il ≤ x.ic ∧ x.fn = d.fields.length ∧ x.fn ≤ x.fc ∧ x.ml = d.methods.length ∧ x.ml ≤ x.mc ∧ x.sl = d.init.length ∧ x.sl ≤ x.sc) ∧ CdOk d ∧
 Rds m x.ia x.il 1 (strs d.ifs) ∧ Rds m x.fa x.fn 5 (flat Fc.cs d.fields) ∧ ∃ xs ys, Rds m x.ma x.ml 8 xs ∧ lsRep (mdRep m) 8 d.methods xs ∧ Rds m x.sa x.sl 23 ys ∧ stsRep m d.init ys
theorem mdRep_up {m m' : Mem} (hle : leM m m') {d : Md} {cs : List Value} (h : mdRep m d cs) : mdRep m' d cs := by
 obtain ⟨x, h1, h2, h3, h4, xs, h5, h6⟩ := h
 exact ⟨x, h1, h2, h3, Rds_upM hle h4, xs, Rds_upM hle h5, stsRep_upM hle h6⟩
theorem cdRep_up {m m' : Mem} (hle : leM m m') {d : Cd} {cs : List Value} (h : cdRep m d cs) : cdRep m' d cs := by
 obtain ⟨x, h1, h2, h3, h4, h5, xs, ys, h6, h7, h8, h9⟩ := h
 exact ⟨x, h1, h2, h3, Rds_upM hle h4, Rds_upM hle h5, xs, ys, Rds_upM hle h6, ls_up (fun _ _ => mdRep_up hle) h7, Rds_upM hle h8, stsRep_upM hle h9⟩
def prRep (m : Mem) (l : List Cd) (a : Option Addr) (n c : Nat) : Prop := n = l.length ∧ n ≤ c ∧ n ≤ big ∧ ∃ xs, Rds m a n 7 xs ∧ lsRep (cdRep m) 7 l xs
theorem prRep_up {m m' : Mem} (hle : leM m m') {l : List Cd} {a : Option Addr} {n c : Nat} (h : prRep m l a n c) : prRep m' l a n c := by
 obtain ⟨h1, h2, h3, xs, h4, h5⟩ := h
 exact ⟨h1, h2, h3, xs, Rds_upM hle h4, ls_up (fun _ _ => cdRep_up hle) h5⟩
mutual
def depthS : St → Nat
 | .mk _ _ _ _ _ body alt => max (depthSs body) (depthSs alt) + 1
def depthSs : List St → Nat
 | [] => 0
 | e :: r => max (depthS e) (depthSs r)
end
theorem depthSs_mem : ∀ {l : List St} {e : St}, e ∈ l → depthS e ≤ depthSs l
 | [], e, he => by cases he
 | x :: r, e, he => by
  simp only [depthSs]
  rcases List.mem_cons.1 he with rfl | he
  ·omega
  ·have := depthSs_mem he; omega
theorem eqX_fact {m : Mem} {l l2 : List Ex} {xs ys : List Value} (h1 : exsRep m l xs) (h2 : exsRep m l2 ys) {f : FuncId} (hf : ∀ a ∈ l, ∀ b ∈ l2, ∀ ca cb m', leM m m' → exRep m' a ca → exRep m' b cb → Ans f [.v (.agg ⟨ca⟩), .v (.agg ⟨cb⟩)] m' (.bool (eqE a b))) :
  ∀ i, i < l.length → l.length = l2.length → ∃ X Y : Nd, (xs.drop (i * 8)).take 8 = X.cs ∧ (ys.drop (i * 8)).take 8 = Y.cs ∧ ∀ m', leM m m' → Ans f [.v (.agg ⟨X.cs⟩), .v (.agg ⟨Y.cs⟩)] m' (.bool (atB eqE l l2 i)) := fun i hi he => by
 have r1 := exs_at h1 hi
 have r2 := exs_at h2 (by omega : i < l2.length)
 obtain ⟨X, hX⟩ := exRep_nd r1
 obtain ⟨Y, hY⟩ := exRep_nd r2
 rw [hX] at r1
 rw [hY] at r2
 refine ⟨X, Y, hX, hY, fun m' hle => ?_⟩
 rw [atB_at hi (by omega)]
 exact hf _ (List.getElem_mem hi) _ (List.getElem_mem _) _ _ m' hle (exRep_upM hle r1) (exRep_upM hle r2)
theorem eqE_all : ∀ (h : Nat) (a b : Ex) (ca cb : List Value) (m : Mem), depthE a ≤ h → exRep m a ca → exRep m b cb → Ans 251 [.v (.agg ⟨ca⟩), .v (.agg ⟨cb⟩)] m (.bool (eqE a b))
 | 0, .mk k n s c ty args, b, ca, cb, m, hd, _, _ => by simp [depthE] at hd
 | h + 1, .mk k n s c ty args, .mk k' n' s' c' ty' args', ca, cb, m, hd, ha, hb => by
  simp only [exRep] at ha hb
  obtain ⟨a, cp, xs, rfl, hcp, hr, hok, hes⟩ := ha
  obtain ⟨a', cp', xs', rfl, hcp', hr', hok', hes'⟩ := hb
  simp only [depthE] at hd
  have hE := fun m' (hle : leM m m') => eqfNd 251 (atB eqE args args') a args.length cp a' args'.length cp' xs xs' m' (Rds_upM hle hr) (Rds_upM hle hr') hok.2.2.2.2.2 (by kernel_rfl)
   (eqX_fact (exsRep_upM hle hes) (exsRep_upM hle hes') fun x hx y hy cx cy m'' hle2 r1 r2 => eqE_all h x y cx cy m'' (by have := depthL_mem hx; omega) r1 r2)
  simp only [← all2_allB] at hE
  refine enter cfN puN Tryz.func251 rfl rfl (by kernel_rfl) rfl ?_ ?_
  ·simp only [go_sem, ↓tfi, ↓fti, ↓reduceIte, exC]
  ·simp only [go_sem, ↓tfi, ↓fti, ↓reduceIte, exC, eqOkT]
   refine ⟨fun h => cvl ((hE m (.inl rfl)).mono ?_), fun h => ?_⟩
   ·clear hE
    rintro r H' m2 hm2 ⟨hle2, rfl, rfl⟩
    simp only [go_sem, ↓tfi, ↓fti, ↓reduceIte]
    refine ⟨hle2, ?_⟩
    simp only [eqE, eqEs_all2, Ty.eq, h, decide_true, Bool.true_and]
   ·clear hE
    simp only [eqE, Ty.eq]
    rcases h with (((h | h) | h) | h) | h | h | h <;> simp [h]
theorem eq_fact {α N : Type} {R : Mem → α → List Value → Prop} {csN : N → List Value} {sz : Nat} {e : α → α → Bool} (hup : ∀ m m' a c, leM m m' → R m a c → R m' a c) (hN : ∀ m a c, R m a c → ∃ x : N, c = csN x) {m : Mem} {l l2 : List α} {xs ys : List Value}
  (h1 : ∀ i (hi : i < l.length), R m l[i] ((xs.drop (i * sz)).take sz)) (h2 : ∀ i (hi : i < l2.length), R m l2[i] ((ys.drop (i * sz)).take sz)) {f : FuncId} (hf : ∀ a ∈ l, ∀ b ∈ l2, ∀ ca cb m', leM m m' → R m' a ca → R m' b cb → Ans f [.v (.agg ⟨ca⟩), .v (.agg ⟨cb⟩)] m' (.bool (e a b))) :
  ∀ i, i < l.length → l.length = l2.length → ∃ X Y : N, (xs.drop (i * sz)).take sz = csN X ∧ (ys.drop (i * sz)).take sz = csN Y ∧ ∀ m', leM m m' → Ans f [.v (.agg ⟨csN X⟩), .v (.agg ⟨csN Y⟩)] m' (.bool (atB e l l2 i)) := fun i hi he => by
 have r1 := h1 i hi
 have r2 := h2 i (by omega : i < l2.length)
 obtain ⟨X, hX⟩ := hN _ _ _ r1
 obtain ⟨Y, hY⟩ := hN _ _ _ r2
 rw [hX] at r1
 rw [hY] at r2
 refine ⟨X, Y, hX, hY, fun m' hle => ?_⟩
 rw [atB_at hi (by omega)]
 exact hf _ (List.getElem_mem hi) _ (List.getElem_mem _) _ _ m' (hle) (hup _ _ _ _ hle r1) (hup _ _ _ _ hle r2)
theorem eqS_all : ∀ (h : Nat) (a b : St) (ca cb : List Value) (m : Mem), depthS a ≤ h → stRep m a ca → stRep m b cb → Ans 236 [.v (.agg ⟨ca⟩), .v (.agg ⟨cb⟩)] m (.bool (eqS a b))
 | 0, .mk k nm ty tg ex body alt, b, ca, cb, m, hd, _, _ => by simp [depthS] at hd
 | h + 1, .mk k nm ty tg ex body alt, .mk k' nm' ty' tg' ex' body' alt', ca, cb, m, hd, ha, hb => by
  simp only [stRep] at ha hb
  obtain ⟨x, ⟨rfl, rfl, rfl, rfl⟩, htg, hex, ⟨hl, hcp, hl2, hcp2⟩, hok, xs, ys, r1, r2, s1, s2⟩ := ha
  obtain ⟨x', ⟨rfl, rfl, rfl, rfl⟩, htg', hex', ⟨hl', hcp', hl2', hcp2'⟩, hok', xs', ys', r1', r2', s1', s2'⟩ := hb
  simp only [depthS] at hd
  have hT := fun m' (hle : leM m m') => eqE_all _ tg tg' x.tg.cs x'.tg.cs m' (Nnr _) (exRep_upM hle htg) (exRep_upM hle htg')
  have hX := fun m' (hle : leM m m') => eqE_all _ ex ex' x.ex.cs x'.ex.cs m' (Nnr _) (exRep_upM hle hex) (exRep_upM hle hex')
  have hB : ∀ m', leM m m' → Ans 252 [.v (.slice x.a x.l x.cp), .v (.slice x'.a x'.l x'.cp), .v (.func (.func 236) ⟨[]⟩ ⟨[]⟩)] m' (.bool (eqSs body body')) := fun m' hle => by
   have hf := eq_fact (R := stRep) (csN := Sd.cs) (e := eqS) (f := 236) (fun _ _ _ _ => stRep_upM) (fun _ _ _ => stRep_sd) (fun i hi => sts_at (stsRep_upM hle s1) hi) (fun i hi => sts_at (stsRep_upM hle s1') hi)
    (fun a ha b hb ca cb m2 hle2 => eqS_all h a b ca cb m2 (by have := depthSs_mem ha; omega))
   rw [eqSs_all2, all2_allB]
   rw [← hl, ← hl'] at hf ⊢
   exact eqfSd _ _ x.a x.l x.cp x'.a x'.l x'.cp xs xs' m' (Rds_upM hle r1) (Rds_upM hle r1') (by rw [hl]; exact hok.l) (by kernel_rfl) hf
  have hA : ∀ m', leM m m' → Ans 252 [.v (.slice x.b x.l2 x.cp2), .v (.slice x'.b x'.l2 x'.cp2), .v (.func (.func 236) ⟨[]⟩ ⟨[]⟩)] m' (.bool (eqSs alt alt')) := fun m' hle => by
   have hf := eq_fact (R := stRep) (csN := Sd.cs) (e := eqS) (f := 236) (fun _ _ _ _ => stRep_upM) (fun _ _ _ => stRep_sd) (fun i hi => sts_at (stsRep_upM hle s2) hi) (fun i hi => sts_at (stsRep_upM hle s2') hi)
    (fun a ha b hb ca cb m2 hle2 => eqS_all h a b ca cb m2 (by have := depthSs_mem ha; omega))
   rw [eqSs_all2, all2_allB]
   rw [← hl2, ← hl2'] at hf ⊢
   exact eqfSd _ _ x.b x.l2 x.cp2 x'.b x'.l2 x'.cp2 ys ys' m' (Rds_upM hle r2) (Rds_upM hle r2') (by rw [hl2]; exact hok.l2) (by kernel_rfl) hf
  clear s1 s2 s1' s2'
  refine enter cfN puN Tryz.func236 rfl rfl (by kernel_rfl) rfl ?_ ?_
  ·simp only [go_sem, ↓tfi, ↓fti, ↓reduceIte, Sd.cs, Nd.cs]
  ·simp only [go_sem, ↓tfi, ↓fti, ↓reduceIte, Sd.cs, Nd.cs, eqOkT]
   refine ⟨fun h => cvl ((FnH_den (hT m (.inl rfl)) (fun V => rfl)).mono ?_), fun h => ?_⟩
   ·clear hT
    rintro r H' m2 hm2 ⟨l2, rfl, rfl⟩
    simp only [go_sem, ↓tfi, ↓fti, ↓reduceIte, Sd.cs, Nd.cs]
    have e0 : eqS (St.mk x.k x.name x.ty tg ex body alt) (St.mk x'.k x'.name x'.ty tg' ex' body' alt') = (eqE tg tg' && eqE ex ex' && eqSs body body' && eqSs alt alt') := by simp only [eqS, Ty.eq, h, decide_true, Bool.true_and]
    refine ⟨fun h1 => cvl ((FnH_den (hX m2 l2) (fun V => rfl)).mono ?_), fun h1 => ?_⟩
    ·clear hX
     rintro r H' m3 hm3 ⟨l3, rfl, rfl⟩
     simp only [go_sem, ↓tfi, ↓fti, ↓reduceIte, Sd.cs, Nd.cs]
     refine ⟨fun h2 => cvl ((hB m3 (leM_tr l2 l3)).mono ?_), fun h2 => ?_⟩
     ·clear hB
      rintro r H' m4 hm4 ⟨l4, rfl, rfl⟩
      simp only [go_sem, ↓tfi, ↓fti, ↓reduceIte, Sd.cs, Nd.cs]
      refine ⟨fun h3 => cvl ((hA m4 (leM_tr (leM_tr l2 l3) l4)).mono ?_), fun h3 => ?_⟩
      ·clear hA
       rintro r H' m5 hm5 ⟨l5, rfl, rfl⟩
       simp only [go_sem, ↓tfi, ↓fti, ↓reduceIte, Sd.cs, Nd.cs]
       refine ⟨leM_tr (leM_tr (leM_tr l2 l3) l4) l5, ?_⟩
       rw [e0, h1, h2, h3]; rfl
      ·refine ⟨leM_tr (leM_tr l2 l3) l4, ?_⟩
       rw [e0, h3, Bool.and_false]; rfl
     ·refine ⟨leM_tr l2 l3, ?_⟩
      rw [e0, h2, Bool.and_false]; rfl
    ·refine ⟨l2, ?_⟩
     rw [e0, h1]; rfl
   ·clear hT hX hB hA
    simp only [eqS, Ty.eq]
    rcases h with (h | h) | h | h | h <;> simp [h]
theorem mdRep_mc {m : Mem} {e : Md} {cs : List Value} (h : mdRep m e cs) : ∃ x : Mc, cs = x.cs := by
 obtain ⟨x, h1, _⟩ := h
 exact ⟨x, h1.1⟩
theorem cdRep_cc {m : Mem} {e : Cd} {cs : List Value} (h : cdRep m e cs) : ∃ x : Cc, cs = x.cs := by
 obtain ⟨x, h1, _⟩ := h
 exact ⟨x, h1.1⟩
def anyB (n : Nat) (B : Nat → Bool) : Bool := (List.range n).any B
theorem anyB_succ {n : Nat} {B : Nat → Bool} : anyB (n + 1) B = (anyB n B || B n) := by simp [anyB, List.range_succ, List.any_append]
theorem anyB_yes {n k : Nat} {B : Nat → Bool} (hk : k < n) (h : B k = true) : anyB n B = true := by
 simp only [anyB, List.any_eq_true, List.mem_range]
 exact ⟨k, hk, h⟩
theorem anyB_list {α : Type} (p : α → Bool) : ∀ (l : List α) (B : Nat → Bool), (∀ i (h : i < l.length), B i = p l[i]) → anyB l.length B = l.any p
 | [], _, _ => rfl
 | x :: r, B, h => by
  have h0 := h 0 (by simp)
  have hr := anyB_list p r (fun i => B (i + 1)) fun i hi => h (i + 1) (by simpa using hi)
  rw [List.any_cons, ← hr, Llc]
  simp only [anyB, List.range_succ_eq_map, List.any_cons, List.any_map, h0, List.getElem_cons_zero]
  rfl
theorem ixfPc (f : FuncId) (B : Nat → Bool) (a : Option Addr) (n c : Nat) (xs : List Value) (m : Mem) (hr : Rds m a n 4 xs) (hn : n ≤ big) (hok : fnOk Tryz.prog f = true)
  (hx : ∀ i, i < n → ∃ X : Pc, (xs.drop (i * 4)).take 4 = X.cs ∧ ∀ m', leM m m' → Ans f [.v (.agg ⟨X.cs⟩)] m' (.bool (B i))) :
  FnH Tryz.prog 231 [.v (.slice a n c), .v (.func (.func f) ⟨[]⟩ ⟨[]⟩)] ⟨[], []⟩ m fun r H' m' => leM m m' ∧ H' = ⟨[], []⟩ ∧ ∃ i : Int, r = .v (.int .i64 i) ∧ decide (0 ≤ i) = anyB n B := by
 refine enter cfN puN Tryz.func231 rfl rfl (by kernel_rfl) rfl ?_ ?_
 ·simp only [go_sem, ↓tfi, ↓fti, ↓reduceIte]
 ·simp only [go_sem, ↓tfi, ↓fti, ↓reduceIte]
  refine WP_loop puN (fun x : Nat × Mem => ⟨[⟨0, [], .v (.slice a n c)⟩, ⟨1, [], .v (.func (.func f) ⟨[]⟩ ⟨[]⟩)⟩, ⟨7, [], .v (.int .i64 n)⟩, ⟨8, [], .v (.int .i64 x.1)⟩], [], [], [], 0, x.2⟩)
   (fun x => leM m x.2 ∧ x.1 ≤ n ∧ anyB x.1 B = false) (fun x => n - x.1) (0, m) (by kernel_rfl) (fun _ _ => Nnr _) (fun x hx => hx.1) (fun _ => ?_) ?_ ?_ ?_
  ·simp only [go_sem, ↓tfi, ↓fti, ↓reduceIte]
  ·simp only [go_sem, ↓tfi, ↓fti, ↓reduceIte]
   rfl
  ·exact ⟨.inl rfl, Nat.zero_le _, rfl⟩
  ·rintro ⟨k, mm⟩ ⟨h1, h2, h3⟩
   simp only at h1 h2 h3
   have hown : cfN.own f = false := rfl
   have hy : ∀ (hk : k < n), ∃ X : Pc, (Rd mm (ptrAt a (k * 4)) X.cs ∧ a ≠ none) ∧ Ans f [.v (.agg ⟨X.cs⟩)] mm (.bool (B k)) := fun hk => by
     obtain ⟨X, e1, e3⟩ := hx k hk
     have r1 := Rds_cells (Rds_upM h1 hr) hk
     rw [e1] at r1
     exact ⟨X, r1, e3 mm h1⟩
   clear hx
   simp only [go_sem, ↓tfi, ↓fti, ↓reduceIte, hown]
   refine ⟨fun hlt => ?_, fun hge => ⟨h1, ?_⟩⟩
   ·have hk : k < n := by clear hy; omega
    refine Exists.elim (hy hk) fun X hy' => ⟨⟨by clear hy hy'; omega, hlt, hy'.1.2⟩, X.cs, ⟨hy'.1.1, rfl⟩, ?_⟩
    clear hy
    have ha := hy'.2
    clear hy'
    simp only [go_sem, ↓tfi, ↓fti, ↓reduceIte, hown, Pc.cs]
    refine ⟨hok, FnV_of ((FnH_den ha (fun V => rfl)).mono ?_)⟩
    clear ha
    rintro r H' m' hm ⟨hle, rfl, rfl⟩
    simp only [go_sem, ↓tfi, ↓fti, ↓reduceIte]
    refine ⟨fun hb => ⟨leM_tr h1 hle, ?_⟩, fun hb => ⟨by unfold I64; simp only [big] at hn; omega, (k + 1, m'), ⟨by simp, .inl rfl⟩, ⟨leM_tr h1 hle, by simp only; omega, ?_⟩, by simp only; omega⟩⟩
    ·rw [anyB_yes hk hb]
     simp
    ·simp only
     rw [anyB_succ, h3, hb]
     rfl
   ·have : k = n := by clear hy; omega
    rw [← this, h3]
    rfl
theorem ctfPc (f : FuncId) (B : Nat → Bool) (a : Option Addr) (n c : Nat) (xs : List Value) (m : Mem) (hr : Rds m a n 4 xs) (hn : n ≤ big) (hok : fnOk Tryz.prog f = true)
  (hx : ∀ i, i < n → ∃ X : Pc, (xs.drop (i * 4)).take 4 = X.cs ∧ ∀ m', leM m m' → Ans f [.v (.agg ⟨X.cs⟩)] m' (.bool (B i))) :
  Ans 197 [.v (.slice a n c), .v (.func (.func f) ⟨[]⟩ ⟨[]⟩)] m (.bool (anyB n B)) := by
 refine enter cfN puN Tryz.func197 rfl rfl (by kernel_rfl) rfl ?_ ?_
 ·simp only [go_sem, ↓tfi, ↓fti, ↓reduceIte]
 ·simp only [go_sem, ↓tfi, ↓fti, ↓reduceIte]
  refine cvl ((ixfPc f B a n c xs m hr hn hok hx).mono ?_)
  clear hx
  rintro r H' m' hm ⟨hle, rfl, i, rfl, hi⟩
  simp only [go_sem, ↓tfi, ↓fti, ↓reduceIte]
  exact ⟨hle, hi⟩
theorem ixfFc (f : FuncId) (B : Nat → Bool) (a : Option Addr) (n c : Nat) (xs : List Value) (m : Mem) (hr : Rds m a n 5 xs) (hn : n ≤ big) (hok : fnOk Tryz.prog f = true)
  (hx : ∀ i, i < n → ∃ X : Fc, (xs.drop (i * 5)).take 5 = X.cs ∧ ∀ m', leM m m' → Ans f [.v (.agg ⟨X.cs⟩)] m' (.bool (B i))) :
  FnH Tryz.prog 199 [.v (.slice a n c), .v (.func (.func f) ⟨[]⟩ ⟨[]⟩)] ⟨[], []⟩ m fun r H' m' => leM m m' ∧ H' = ⟨[], []⟩ ∧ ∃ i : Int, r = .v (.int .i64 i) ∧ decide (0 ≤ i) = anyB n B := by
 refine enter cfN puN Tryz.func199 rfl rfl (by kernel_rfl) rfl ?_ ?_
 ·simp only [go_sem, ↓tfi, ↓fti, ↓reduceIte]
 ·simp only [go_sem, ↓tfi, ↓fti, ↓reduceIte]
  refine WP_loop puN (fun x : Nat × Mem => ⟨[⟨0, [], .v (.slice a n c)⟩, ⟨1, [], .v (.func (.func f) ⟨[]⟩ ⟨[]⟩)⟩, ⟨7, [], .v (.int .i64 n)⟩, ⟨8, [], .v (.int .i64 x.1)⟩], [], [], [], 0, x.2⟩)
   (fun x => leM m x.2 ∧ x.1 ≤ n ∧ anyB x.1 B = false) (fun x => n - x.1) (0, m) (by kernel_rfl) (fun _ _ => Nnr _) (fun x hx => hx.1) (fun _ => ?_) ?_ ?_ ?_
  ·simp only [go_sem, ↓tfi, ↓fti, ↓reduceIte]
  ·simp only [go_sem, ↓tfi, ↓fti, ↓reduceIte]
   rfl
  ·exact ⟨.inl rfl, Nat.zero_le _, rfl⟩
  ·rintro ⟨k, mm⟩ ⟨h1, h2, h3⟩
   simp only at h1 h2 h3
   have hown : cfN.own f = false := rfl
   have hy : ∀ (hk : k < n), ∃ X : Fc, (Rd mm (ptrAt a (k * 5)) X.cs ∧ a ≠ none) ∧ Ans f [.v (.agg ⟨X.cs⟩)] mm (.bool (B k)) := fun hk => by
     obtain ⟨X, e1, e3⟩ := hx k hk
     have r1 := Rds_cells (Rds_upM h1 hr) hk
     rw [e1] at r1
     exact ⟨X, r1, e3 mm h1⟩
   clear hx
   simp only [go_sem, ↓tfi, ↓fti, ↓reduceIte, hown]
   refine ⟨fun hlt => ?_, fun hge => ⟨h1, ?_⟩⟩
   ·have hk : k < n := by clear hy; omega
    refine Exists.elim (hy hk) fun X hy' => ⟨⟨by clear hy hy'; omega, hlt, hy'.1.2⟩, X.cs, ⟨hy'.1.1, rfl⟩, ?_⟩
    clear hy
    have ha := hy'.2
    clear hy'
    simp only [go_sem, ↓tfi, ↓fti, ↓reduceIte, hown, Fc.cs]
    refine ⟨hok, FnV_of ((FnH_den ha (fun V => rfl)).mono ?_)⟩
    clear ha
    rintro r H' m' hm ⟨hle, rfl, rfl⟩
    simp only [go_sem, ↓tfi, ↓fti, ↓reduceIte]
    refine ⟨fun hb => ⟨leM_tr h1 hle, ?_⟩, fun hb => ⟨by unfold I64; simp only [big] at hn; omega, (k + 1, m'), ⟨by simp, .inl rfl⟩, ⟨leM_tr h1 hle, by simp only; omega, ?_⟩, by simp only; omega⟩⟩
    ·rw [anyB_yes hk hb]
     simp
    ·simp only
     rw [anyB_succ, h3, hb]
     rfl
   ·have : k = n := by clear hy; omega
    rw [← this, h3]
    rfl
theorem ctfFc (f : FuncId) (B : Nat → Bool) (a : Option Addr) (n c : Nat) (xs : List Value) (m : Mem) (hr : Rds m a n 5 xs) (hn : n ≤ big) (hok : fnOk Tryz.prog f = true)
  (hx : ∀ i, i < n → ∃ X : Fc, (xs.drop (i * 5)).take 5 = X.cs ∧ ∀ m', leM m m' → Ans f [.v (.agg ⟨X.cs⟩)] m' (.bool (B i))) :
  Ans 140 [.v (.slice a n c), .v (.func (.func f) ⟨[]⟩ ⟨[]⟩)] m (.bool (anyB n B)) := by
 refine enter cfN puN Tryz.func140 rfl rfl (by kernel_rfl) rfl ?_ ?_
 ·simp only [go_sem, ↓tfi, ↓fti, ↓reduceIte]
 ·simp only [go_sem, ↓tfi, ↓fti, ↓reduceIte]
  refine cvl ((ixfFc f B a n c xs m hr hn hok hx).mono ?_)
  clear hx
  rintro r H' m' hm ⟨hle, rfl, i, rfl, hi⟩
  simp only [go_sem, ↓tfi, ↓fti, ↓reduceIte]
  exact ⟨hle, hi⟩
theorem ixfMc (f : FuncId) (B : Nat → Bool) (a : Option Addr) (n c : Nat) (xs : List Value) (m : Mem) (hr : Rds m a n 8 xs) (hn : n ≤ big) (hok : fnOk Tryz.prog f = true)
  (hx : ∀ i, i < n → ∃ X : Mc, (xs.drop (i * 8)).take 8 = X.cs ∧ ∀ m', leM m m' → Ans f [.v (.agg ⟨X.cs⟩)] m' (.bool (B i))) :
  FnH Tryz.prog 200 [.v (.slice a n c), .v (.func (.func f) ⟨[]⟩ ⟨[]⟩)] ⟨[], []⟩ m fun r H' m' => leM m m' ∧ H' = ⟨[], []⟩ ∧ ∃ i : Int, r = .v (.int .i64 i) ∧ decide (0 ≤ i) = anyB n B := by
 refine enter cfN puN Tryz.func200 rfl rfl (by kernel_rfl) rfl ?_ ?_
 ·simp only [go_sem, ↓tfi, ↓fti, ↓reduceIte]
 ·simp only [go_sem, ↓tfi, ↓fti, ↓reduceIte]
  refine WP_loop puN (fun x : Nat × Mem => ⟨[⟨0, [], .v (.slice a n c)⟩, ⟨1, [], .v (.func (.func f) ⟨[]⟩ ⟨[]⟩)⟩, ⟨7, [], .v (.int .i64 n)⟩, ⟨8, [], .v (.int .i64 x.1)⟩], [], [], [], 0, x.2⟩)
   (fun x => leM m x.2 ∧ x.1 ≤ n ∧ anyB x.1 B = false) (fun x => n - x.1) (0, m) (by kernel_rfl) (fun _ _ => Nnr _) (fun x hx => hx.1) (fun _ => ?_) ?_ ?_ ?_
  ·simp only [go_sem, ↓tfi, ↓fti, ↓reduceIte]
  ·simp only [go_sem, ↓tfi, ↓fti, ↓reduceIte]
   rfl
  ·exact ⟨.inl rfl, Nat.zero_le _, rfl⟩
  ·rintro ⟨k, mm⟩ ⟨h1, h2, h3⟩
   simp only at h1 h2 h3
   have hown : cfN.own f = false := rfl
   have hy : ∀ (hk : k < n), ∃ X : Mc, (Rd mm (ptrAt a (k * 8)) X.cs ∧ a ≠ none) ∧ Ans f [.v (.agg ⟨X.cs⟩)] mm (.bool (B k)) := fun hk => by
     obtain ⟨X, e1, e3⟩ := hx k hk
     have r1 := Rds_cells (Rds_upM h1 hr) hk
     rw [e1] at r1
     exact ⟨X, r1, e3 mm h1⟩
   clear hx
   simp only [go_sem, ↓tfi, ↓fti, ↓reduceIte, hown]
   refine ⟨fun hlt => ?_, fun hge => ⟨h1, ?_⟩⟩
   ·have hk : k < n := by clear hy; omega
    refine Exists.elim (hy hk) fun X hy' => ⟨⟨by clear hy hy'; omega, hlt, hy'.1.2⟩, X.cs, ⟨hy'.1.1, rfl⟩, ?_⟩
    clear hy
    have ha := hy'.2
    clear hy'
    simp only [go_sem, ↓tfi, ↓fti, ↓reduceIte, hown, Mc.cs]
    refine ⟨hok, FnV_of ((FnH_den ha (fun V => rfl)).mono ?_)⟩
    clear ha
    rintro r H' m' hm ⟨hle, rfl, rfl⟩
    simp only [go_sem, ↓tfi, ↓fti, ↓reduceIte]
    refine ⟨fun hb => ⟨leM_tr h1 hle, ?_⟩, fun hb => ⟨by unfold I64; simp only [big] at hn; omega, (k + 1, m'), ⟨by simp, .inl rfl⟩, ⟨leM_tr h1 hle, by simp only; omega, ?_⟩, by simp only; omega⟩⟩
    ·rw [anyB_yes hk hb]
     simp
    ·simp only
     rw [anyB_succ, h3, hb]
     rfl
   ·have : k = n := by clear hy; omega
    rw [← this, h3]
    rfl
theorem ctfMc (f : FuncId) (B : Nat → Bool) (a : Option Addr) (n c : Nat) (xs : List Value) (m : Mem) (hr : Rds m a n 8 xs) (hn : n ≤ big) (hok : fnOk Tryz.prog f = true)
  (hx : ∀ i, i < n → ∃ X : Mc, (xs.drop (i * 8)).take 8 = X.cs ∧ ∀ m', leM m m' → Ans f [.v (.agg ⟨X.cs⟩)] m' (.bool (B i))) :
  Ans 141 [.v (.slice a n c), .v (.func (.func f) ⟨[]⟩ ⟨[]⟩)] m (.bool (anyB n B)) := by
 refine enter cfN puN Tryz.func141 rfl rfl (by kernel_rfl) rfl ?_ ?_
 ·simp only [go_sem, ↓tfi, ↓fti, ↓reduceIte]
 ·simp only [go_sem, ↓tfi, ↓fti, ↓reduceIte]
  refine cvl ((ixfMc f B a n c xs m hr hn hok hx).mono ?_)
  clear hx
  rintro r H' m' hm ⟨hle, rfl, i, rfl, hi⟩
  simp only [go_sem, ↓tfi, ↓fti, ↓reduceIte]
  exact ⟨hle, hi⟩
theorem ixfS (f : FuncId) (B : Nat → Bool) (a : Option Addr) (n c : Nat) (xs : List Value) (m : Mem) (hr : Rds m a n 1 xs) (hn : n ≤ big) (hok : fnOk Tryz.prog f = true)
  (hx : ∀ i, i < n → ∃ s : List UInt8, xs[i]? = some (.string (bs s)) ∧ ∀ m', leM m m' → Ans f [.v (.string (bs s))] m' (.bool (B i))) :
  FnH Tryz.prog 198 [.v (.slice a n c), .v (.func (.func f) ⟨[]⟩ ⟨[]⟩)] ⟨[], []⟩ m fun r H' m' => leM m m' ∧ H' = ⟨[], []⟩ ∧ ∃ i : Int, r = .v (.int .i64 i) ∧ decide (0 ≤ i) = anyB n B := by
 refine enter cfN puN Tryz.func198 rfl rfl (by kernel_rfl) rfl ?_ ?_
 ·simp only [go_sem, ↓tfi, ↓fti, ↓reduceIte]
 ·simp only [go_sem, ↓tfi, ↓fti, ↓reduceIte]
  refine WP_loop puN (fun x : Nat × Mem => ⟨[⟨0, [], .v (.slice a n c)⟩, ⟨1, [], .v (.func (.func f) ⟨[]⟩ ⟨[]⟩)⟩, ⟨7, [], .v (.int .i64 n)⟩, ⟨8, [], .v (.int .i64 x.1)⟩], [], [], [], 0, x.2⟩)
   (fun x => leM m x.2 ∧ x.1 ≤ n ∧ anyB x.1 B = false) (fun x => n - x.1) (0, m) (by kernel_rfl) (fun _ _ => Nnr _) (fun x hx => hx.1) (fun _ => ?_) ?_ ?_ ?_
  ·simp only [go_sem, ↓tfi, ↓fti, ↓reduceIte]
  ·simp only [go_sem, ↓tfi, ↓fti, ↓reduceIte]
   rfl
  ·exact ⟨.inl rfl, Nat.zero_le _, rfl⟩
  ·rintro ⟨k, mm⟩ ⟨h1, h2, h3⟩
   simp only at h1 h2 h3
   have hown : cfN.own f = false := rfl
   have hy : ∀ (hk : k < n), ∃ s : List UInt8, (Rd mm (ptrAt a k) [.string (bs s)] ∧ a ≠ none) ∧ Ans f [.v (.string (bs s))] mm (.bool (B k)) := fun hk => by
     obtain ⟨s, e1, e3⟩ := hx k hk
     obtain ⟨hk', r1, hne⟩ := Rds_one (Rds_upM h1 hr) hk
     rw [List.getElem?_eq_getElem hk'] at e1
     rw [Option.some.inj e1] at r1
     exact ⟨s, ⟨r1, hne⟩, e3 mm h1⟩
   clear hx
   simp only [go_sem, ↓tfi, ↓fti, ↓reduceIte, hown]
   refine ⟨fun hlt => ?_, fun hge => ⟨h1, ?_⟩⟩
   ·have hk : k < n := by clear hy; omega
    refine Exists.elim (hy hk) fun s hy' => ⟨⟨by clear hy hy'; omega, hlt, hy'.1.2⟩, _, hy'.1.1, ?_⟩
    clear hy
    have ha := hy'.2
    clear hy'
    refine ⟨hok, FnV_of ((ha).mono ?_)⟩
    clear ha
    rintro r H' m' hm ⟨hle, rfl, rfl⟩
    simp only [go_sem, ↓tfi, ↓fti, ↓reduceIte]
    refine ⟨fun hb => ⟨leM_tr h1 hle, ?_⟩, fun hb => ⟨by unfold I64; simp only [big] at hn; omega, (k + 1, m'), ⟨by simp, .inl rfl⟩, ⟨leM_tr h1 hle, by simp only; omega, ?_⟩, by simp only; omega⟩⟩
    ·rw [anyB_yes hk hb]
     simp
    ·simp only
     rw [anyB_succ, h3, hb]
     rfl
   ·have : k = n := by clear hy; omega
    rw [← this, h3]
    rfl
theorem ctfS (f : FuncId) (B : Nat → Bool) (a : Option Addr) (n c : Nat) (xs : List Value) (m : Mem) (hr : Rds m a n 1 xs) (hn : n ≤ big) (hok : fnOk Tryz.prog f = true)
  (hx : ∀ i, i < n → ∃ s : List UInt8, xs[i]? = some (.string (bs s)) ∧ ∀ m', leM m m' → Ans f [.v (.string (bs s))] m' (.bool (B i))) :
  Ans 139 [.v (.slice a n c), .v (.func (.func f) ⟨[]⟩ ⟨[]⟩)] m (.bool (anyB n B)) := by
 refine enter cfN puN Tryz.func139 rfl rfl (by kernel_rfl) rfl ?_ ?_
 ·simp only [go_sem, ↓tfi, ↓fti, ↓reduceIte]
 ·simp only [go_sem, ↓tfi, ↓fti, ↓reduceIte]
  refine cvl ((ixfS f B a n c xs m hr hn hok hx).mono ?_)
  clear hx
  rintro r H' m' hm ⟨hle, rfl, i, rfl, hi⟩
  simp only [go_sem, ↓tfi, ↓fti, ↓reduceIte]
  exact ⟨hle, hi⟩
def zTy : Ty := ⟨0, 0, []⟩
def negE (e : Ex) : Ex := .mk 15 0 [45] [] zTy [e]
def zE : Ex := .mk 0 0 [] [] zTy []
def emptyL (k n : Int) (s c : List UInt8) (ty : Ty) (l : Nat) : Bool := decide (l = 0) && decide (k = 0) && decide (n = 0) && decide (s = []) && decide (c = []) && Ty.eq ty zTy
def emptyE : Ex → Bool | .mk k n s c ty args => emptyL k n s c ty args.length
def superE : Ex → Bool | .mk k n s c ty args => emptyL k n s c ty 0 && decide (args.length ≤ 16) && validEs args
def targetE (e : Ex) : Bool := (decide (e.k = 6) || decide (e.k = 7) || decide (e.k = 8) || decide (e.k = 9)) && validE e
def callE (e : Ex) : Bool := (decide (e.k = 10) || decide (e.k = 11) || decide (e.k = 12) || decide (e.k = 13)) && validE e
def St.k : St → Int | .mk k _ _ _ _ _ _ => k
def usedS (k : Int) (nm : List UInt8) (ty : Ty) (tg ex : Ex) (body alt : List St) : St :=
 if k = 1 then .mk k nm ty zE ex [] []
 else if k = 2 then .mk k [] zTy tg ex [] []
 else if k = 4 then .mk k [] zTy zE ex body alt
 else if k = 5 ∨ k = 9 then .mk k [] zTy zE ex body []
 else if k = 8 then .mk k nm ty zE zE body alt
 else if k = 10 then .mk k [] zTy zE zE body []
 else .mk k [] zTy zE ex [] []
def okStm (k : Int) (nm : List UInt8) (ty : Ty) (tg ex : Ex) (B : Bool) : Bool :=
 if k = 1 then identL nm && valueTy ty.dim ty.base ty.name && validE ex
 else if k = 2 then targetE tg && validE ex
 else if k = 3 then callE ex
 else if k = 4 ∨ k = 5 ∨ k = 9 then B && validE ex
 else if k = 6 then emptyE ex || validE ex
 else if k = 7 then validE ex
 else if k = 8 then B && identL nm && valueTy ty.dim ty.base ty.name
 else if k = 10 then B
 else if k = 11 then superE ex
 else false
mutual
def validS : St → Bool
 | .mk k nm ty tg ex body alt => okStm k nm ty tg ex (decide (body.length ≤ 32) && validSs false body && (decide (alt.length ≤ 32) && validSs false alt)) && eqS (.mk k nm ty tg ex body alt) (usedS k nm ty tg ex body alt)
def validSs : Bool → List St → Bool
 | _, [] => true
 | sup, e :: r => (!decide (e.k = 11) || sup) && validS e && validSs false r
end
def blockL (sup : Bool) (l : List St) : Bool := decide (l.length ≤ 32) && validSs sup l
def blk1 (sup : Bool) (i : Nat) (e : St) : Bool := (!decide (e.k = 11) || (sup && decide (i = 0))) && validS e
theorem validSs_take : ∀ {l : List St} {sup : Bool} {i : Nat} (hi : i < l.length), validSs sup (l.take (i + 1)) = (validSs sup (l.take i) && blk1 sup i l[i])
 | [], _, _, hi => absurd hi (Nat.not_lt_zero _)
 | e :: r, sup, 0, _ => by simp [validSs, blk1]
 | e :: r, sup, i + 1, hi => by
  have := validSs_take (l := r) (sup := false) (i := i) (by simpa using hi)
  simp only [List.take_succ_cons, validSs, this, List.getElem_cons_succ]
  simp only [blk1, Bool.false_and, Nat.add_one_ne_zero, decide_false, Bool.and_false, Bool.and_assoc]
theorem validSs_no : ∀ {l : List St} {sup : Bool} {i : Nat} (hi : i < l.length), blk1 sup i l[i] = false → validSs sup l = false := fun {l sup i} hi h => by
 have h1 := validSs_take (sup := sup) hi
 rw [h, Bool.and_false] at h1
 have : ∀ (l : List St) (sup : Bool) (j : Nat), validSs sup (l.take j) = false → validSs sup l = false := by
  intro l
  induction l with
  | nil => intro sup j h; simpa using h
  | cons e r ih =>
   intro sup j h
   cases j with
   | zero => simp [validSs] at h
   | succ j =>
    simp only [List.take_succ_cons, validSs] at h ⊢
    cases h2 : validSs false (r.take j) with
    | false => rw [ih false j h2, Bool.and_false]
    | true => rw [h2, Bool.and_true] at h; rw [h, Bool.false_and]
 exact this l sup (i + 1) h1
theorem empty_spec (x : Nd) (m : Mem) : Ans 234 [.v (.agg ⟨x.cs⟩)] m (.bool (emptyL x.k x.n x.s x.c x.ty x.l)) := by
 refine enter cfN puN Tryz.func234 rfl rfl (by kernel_rfl) rfl ?_ ?_
 ·simp only [go_sem, ↓tfi, ↓fti, ↓reduceIte, Nd.cs]
 ·simp only [go_sem, ↓tfi, ↓fti, ↓reduceIte, Nd.cs, eqOkT]
  have e0 : decide ((x.l : Int) = 0) = decide (x.l = 0) := by rw [decide_eq_decide]; omega
  rw [e0]
  rfl
theorem ex_parts {m : Mem} {k n : Int} {s c : List UInt8} {ty : Ty} {args : List Ex} {cs : List Value} (h : exRep m (.mk k n s c ty args) cs) : ∃ x : Nd, cs = x.cs ∧ x.k = k ∧ x.n = n ∧ x.s = s ∧ x.c = c ∧ x.ty = ty ∧ x.l = args.length ∧ x.l ≤ x.cp ∧ x.l ≤ big ∧ ∃ xs, Rds m x.a x.l 8 xs ∧ exsRep m args xs := by
 simp only [exRep] at h
 obtain ⟨a, cp, xs, rfl, h1, h2, h3, h4⟩ := h
 exact ⟨⟨k, n, s, c, ty, a, args.length, cp⟩, rfl, rfl, rfl, rfl, rfl, rfl, rfl, h1, h3.2.2.2.2.2, xs, h2, h4⟩
theorem bad_spec (e : Ex) (cs : List Value) (m : Mem) (hg : Glob m) (he : exRep m e cs) : Ans 250 [.v (.agg ⟨cs⟩)] m (.bool (!validE e)) := by
 have hV := valid_all _ e cs m (Nnr _) hg he
 obtain ⟨x, rfl⟩ := exRep_nd he
 refine enter cfN puN Tryz.func250 rfl rfl (by kernel_rfl) rfl ?_ ?_
 ·simp only [go_sem, ↓tfi, ↓fti, ↓reduceIte, Nd.cs]
 ·simp only [go_sem, ↓tfi, ↓fti, ↓reduceIte, Nd.cs]
  refine cvl ((FnH_den hV (fun V => rfl)).mono ?_)
  rintro r H' m2 hm2 ⟨hle2, rfl, rfl⟩
  simp only [go_sem, ↓tfi, ↓fti, ↓reduceIte]
  exact hle2
theorem super_spec (e : Ex) (cs : List Value) (m : Mem) (hg : Glob m) (he : exRep m e cs) : Ans 235 [.v (.agg ⟨cs⟩)] m (.bool (superE e)) := by
 cases e with
 | mk k n s c ty args =>
  obtain ⟨x, rfl, rfl, rfl, rfl, rfl, rfl, hl, hcp, hn, xs, hr, hes⟩ := ex_parts he
  have hE := empty_spec ⟨x.k, x.n, x.s, x.c, x.ty, none, 0, 0⟩ m
  have hv := fun m' (hm : leM m m') => containsX_spec 250 (fun e => !validE e) args x.a x.l x.cp xs m' hl.symm (Rds_upM hm hr) (exsRep_upM hm hes) hn (by kernel_rfl) (fun i hi cs m2 hle hrep => bad_spec _ cs m2 (hg.upM (leM_tr hm hle)) hrep)
  refine enter cfN puN Tryz.func235 rfl rfl (by kernel_rfl) rfl ?_ ?_
  ·simp only [go_sem, ↓tfi, ↓fti, ↓reduceIte, Nd.cs]
  ·simp only [go_sem, ↓tfi, ↓fti, ↓reduceIte, Nd.cs]
   refine cvl ((FnH_den hE (fun V => rfl)).mono ?_)
   clear hE
   rintro r H' m2 hm2 ⟨hle2, rfl, rfl⟩
   simp only [go_sem, ↓tfi, ↓fti, ↓reduceIte]
   have e0 : superE (Ex.mk x.k x.n x.s x.c x.ty args) = (emptyL x.k x.n x.s x.c x.ty 0 && decide (args.length ≤ 16) && validEs args) := rfl
   refine ⟨fun h => cvl ((hv m2 hle2).mono ?_), fun h => ⟨hle2, ?_⟩⟩
   ·clear hv
    rintro r H' m3 hm3 ⟨hle3, rfl, rfl⟩
    simp only [go_sem, ↓tfi, ↓fti, ↓reduceIte]
    refine ⟨leM_tr hle2 hle3, ?_⟩
    rw [e0, h.1, decide_eq_true (by omega : args.length ≤ 16), validEs_any]
    rfl
   ·clear hv
    rw [e0]
    rcases h with h | h
    ·rw [h]; rfl
    ·rw [decide_eq_false (by omega : ¬ args.length ≤ 16), Bool.and_false]; rfl
theorem target_spec (e : Ex) (cs : List Value) (m : Mem) (hg : Glob m) (he : exRep m e cs) : Ans 232 [.v (.agg ⟨cs⟩)] m (.bool (targetE e)) := by
 have hV := valid_all _ e cs m (Nnr _) hg he
 cases e with
 | mk k n s c ty args =>
  obtain ⟨x, rfl, rfl, rfl, rfl, rfl, rfl, hl, hcp, hn, xs, hr, hes⟩ := ex_parts he
  refine enter cfN puN Tryz.func232 rfl rfl (by kernel_rfl) rfl ?_ ?_
  ·simp only [go_sem, ↓tfi, ↓fti, ↓reduceIte, Nd.cs]
  ·simp only [go_sem, ↓tfi, ↓fti, ↓reduceIte, Nd.cs]
   refine ⟨fun e0 => ⟨fun _ => cvl ((FnH_den hV (fun V => rfl)).mono ?_), fun n => absurd e0 n⟩, fun n0 => ⟨fun e1 => ⟨fun _ => cvl ((FnH_den hV (fun V => rfl)).mono ?_), fun n => absurd e1 n⟩, fun n1 => ⟨fun e2 => ⟨fun _ => cvl ((FnH_den hV (fun V => rfl)).mono ?_), fun n => absurd e2 n⟩, fun n2 => ⟨fun e3 => cvl ((FnH_den hV (fun V => rfl)).mono ?_), fun n3 => ?_⟩⟩⟩⟩
   ·clear hV
    rintro r H' m2 hm2 ⟨hle2, rfl, rfl⟩
    simp only [go_sem, ↓tfi, ↓fti, ↓reduceIte]
    refine ⟨hle2, ?_⟩
    simp [targetE, Ex.k, e0]
   ·clear hV
    rintro r H' m2 hm2 ⟨hle2, rfl, rfl⟩
    simp only [go_sem, ↓tfi, ↓fti, ↓reduceIte]
    refine ⟨hle2, ?_⟩
    simp [targetE, Ex.k, e1]
   ·clear hV
    rintro r H' m2 hm2 ⟨hle2, rfl, rfl⟩
    simp only [go_sem, ↓tfi, ↓fti, ↓reduceIte]
    refine ⟨hle2, ?_⟩
    simp [targetE, Ex.k, e2]
   ·clear hV
    rintro r H' m2 hm2 ⟨hle2, rfl, rfl⟩
    simp only [go_sem, ↓tfi, ↓fti, ↓reduceIte]
    refine ⟨hle2, ?_⟩
    simp [targetE, Ex.k, e3]
   ·clear hV
    simp [targetE, Ex.k, n0, n1, n2, n3]
theorem call_spec (e : Ex) (cs : List Value) (m : Mem) (hg : Glob m) (he : exRep m e cs) : Ans 233 [.v (.agg ⟨cs⟩)] m (.bool (callE e)) := by
 have hV := valid_all _ e cs m (Nnr _) hg he
 cases e with
 | mk k n s c ty args =>
  obtain ⟨x, rfl, rfl, rfl, rfl, rfl, rfl, hl, hcp, hn, xs, hr, hes⟩ := ex_parts he
  refine enter cfN puN Tryz.func233 rfl rfl (by kernel_rfl) rfl ?_ ?_
  ·simp only [go_sem, ↓tfi, ↓fti, ↓reduceIte, Nd.cs]
  ·simp only [go_sem, ↓tfi, ↓fti, ↓reduceIte, Nd.cs]
   refine ⟨fun e0 => ⟨fun _ => cvl ((FnH_den hV (fun V => rfl)).mono ?_), fun n => absurd e0 n⟩, fun n0 => ⟨fun e1 => ⟨fun _ => cvl ((FnH_den hV (fun V => rfl)).mono ?_), fun n => absurd e1 n⟩, fun n1 => ⟨fun e2 => ⟨fun _ => cvl ((FnH_den hV (fun V => rfl)).mono ?_), fun n => absurd e2 n⟩, fun n2 => ⟨fun e3 => cvl ((FnH_den hV (fun V => rfl)).mono ?_), fun n3 => ?_⟩⟩⟩⟩
   ·clear hV
    rintro r H' m2 hm2 ⟨hle2, rfl, rfl⟩
    simp only [go_sem, ↓tfi, ↓fti, ↓reduceIte]
    refine ⟨hle2, ?_⟩
    simp [callE, Ex.k, e0]
   ·clear hV
    rintro r H' m2 hm2 ⟨hle2, rfl, rfl⟩
    simp only [go_sem, ↓tfi, ↓fti, ↓reduceIte]
    refine ⟨hle2, ?_⟩
    simp [callE, Ex.k, e1]
   ·clear hV
    rintro r H' m2 hm2 ⟨hle2, rfl, rfl⟩
    simp only [go_sem, ↓tfi, ↓fti, ↓reduceIte]
    refine ⟨hle2, ?_⟩
    simp [callE, Ex.k, e2]
   ·clear hV
    rintro r H' m2 hm2 ⟨hle2, rfl, rfl⟩
    simp only [go_sem, ↓tfi, ↓fti, ↓reduceIte]
    refine ⟨hle2, ?_⟩
    simp [callE, Ex.k, e3]
   ·clear hV
    simp [callE, Ex.k, n0, n1, n2, n3]
theorem st_parts {m : Mem} {k : Int} {nm : List UInt8} {ty : Ty} {tg ex : Ex} {body alt : List St} {cs : List Value} (h : stRep m (.mk k nm ty tg ex body alt) cs) :
  ∃ x : Sd, cs = x.cs ∧ x.k = k ∧ x.name = nm ∧ x.ty = ty ∧ exRep m tg x.tg.cs ∧ exRep m ex x.ex.cs ∧ x.l = body.length ∧ x.l ≤ x.cp ∧ x.l2 = alt.length ∧ x.l2 ≤ x.cp2 ∧ StOk k nm ty body.length alt.length ∧ ∃ xs ys, Rds m x.a x.l 23 xs ∧ Rds m x.b x.l2 23 ys ∧ stsRep m body xs ∧ stsRep m alt ys := by
 simp only [stRep] at h
 obtain ⟨x, ⟨h1, h2, h3, h4⟩, h5, h6, ⟨h7, h8, h9, h10⟩, h11, xs, ys, h12, h13, h14, h15⟩ := h
 exact ⟨x, h1, h2, h3, h4, h5, h6, h7, h8, h9, h10, h11, xs, ys, h12, h13, h14, h15⟩
theorem block_spec (sup : Bool) (l : List St) (a : Option Addr) (n c : Nat) (xs : List Value) (m : Mem) (hl : n = l.length) (hr : Rds m a n 23 xs) (hs : stsRep m l xs) (hn : n ≤ big)
  (hV : ∀ e ∈ l, ∀ cs m', leM m m' → stRep m' e cs → Ans 201 [.v (.agg ⟨cs⟩)] m' (.bool (validS e))) :
  Ans 142 [.v (.slice a n c), .v (.bool sup)] m (.bool (decide (l.length ≤ 32) && validSs sup l)) := by
 refine enter cfN puN Tryz.func142 rfl rfl (by kernel_rfl) rfl ?_ ?_
 ·simp only [go_sem, ↓tfi, ↓fti, ↓reduceIte]
 ·simp only [go_sem, ↓tfi, ↓fti, ↓reduceIte]
  refine ⟨fun h => ?_, fun h => ?_⟩
  ·rw [decide_eq_false (by clear hV; omega)]; rfl
  ·have hE : (decide (l.length ≤ 32) && validSs sup l) = validSs sup l := by rw [decide_eq_true (by clear hV; omega)]; rfl
   rw [hE]
   clear hE
   refine WP_loop puN (fun x : Nat × Mem => ⟨[⟨1, [], .v (.bool sup)⟩, ⟨10, [], .v (.slice a n c)⟩, ⟨11, [], .v (.int .i64 n)⟩, ⟨12, [], .v (.int .i64 x.1)⟩], [], [], [], 0, x.2⟩)
    (fun x => leM m x.2 ∧ x.1 ≤ n ∧ validSs sup (l.take x.1) = true) (fun x => n - x.1) (0, m) (by kernel_rfl) (fun _ _ => Nnr _) (fun x hx => hx.1) (fun _ => ?_) ?_ ?_ ?_
   ·simp only [go_sem, ↓tfi, ↓fti, ↓reduceIte]
   ·simp only [go_sem, ↓tfi, ↓fti, ↓reduceIte]
    rfl
   ·exact ⟨.inl rfl, Nat.zero_le _, by simp [validSs]⟩
   ·rintro ⟨k, mm⟩ ⟨h1, h2, h3⟩
    simp only at h1 h2 h3
    have hy : ∀ (hk : k < l.length), ∃ X : Sd, (Rd mm (ptrAt a (k * 23)) X.cs ∧ a ≠ none) ∧ X.k = l[k].k ∧ Ans 201 [.v (.agg ⟨X.cs⟩)] mm (.bool (validS l[k])) := fun hk => by
     have hrep := stRep_upM h1 (sts_at hs hk)
     have hkx : ∃ X : Sd, (xs.drop (k * 23)).take 23 = X.cs ∧ X.k = l[k].k := by
      cases hlk : l[k] with
      | mk k' nm ty tg ex body alt =>
       rw [hlk] at hrep
       obtain ⟨X, e1, e2, _⟩ := st_parts hrep
       exact ⟨X, e1, e2⟩
     obtain ⟨X, e1, e2⟩ := hkx
     have r1 := Rds_cells (Rds_upM h1 hr) (by omega : k < n)
     rw [e1] at r1 hrep
     exact ⟨X, r1, e2, hV _ (List.getElem_mem hk) _ _ h1 hrep⟩
    clear hV
    simp only [go_sem, ↓tfi, ↓fti, ↓reduceIte]
    refine ⟨fun hlt => ?_, fun hge => ⟨h1, ?_⟩⟩
    ·have hk : k < l.length := by clear hy; omega
     refine Exists.elim (hy hk) fun X hy' => ⟨⟨by clear hy hy'; omega, hlt, hy'.1.2⟩, X.cs, ⟨hy'.1.1, rfl⟩, ?_⟩
     clear hy
     have hkk := hy'.2.1
     have ha := hy'.2.2
     clear hy'
     simp only [go_sem, ↓tfi, ↓fti, ↓reduceIte, Sd.cs, Nd.cs]
     refine ⟨fun hc => cvl ((FnH_den ha (fun V => rfl)).mono ?_), fun hc => ⟨h1, ?_⟩⟩
     ·clear ha
      have hb : blk1 sup k l[k] = validS l[k] := by
       rw [hkk] at hc
       rcases hc with hc | hc
       ·simp [blk1, hc]
       ·have : k = 0 := by omega
        simp [blk1, hc.1, this]
      rintro r H' m2 hm2 ⟨hle2, rfl, rfl⟩
      simp only [go_sem, ↓tfi, ↓fti, ↓reduceIte]
      refine ⟨fun hv => ⟨leM_tr h1 hle2, ?_⟩, fun hv => ⟨by unfold I64; simp only [big] at hn; omega, (k + 1, m2), ⟨by simp, .inl rfl⟩, ⟨leM_tr h1 hle2, by simp only; omega, ?_⟩, by simp only; omega⟩⟩
      ·rw [validSs_no hk (by rw [hb]; exact hv)]
      ·simp only
       rw [validSs_take hk, h3, hb, hv]
       rfl
     ·clear ha
      rw [hkk] at hc
      rw [validSs_no hk]
      rcases hc.2 with h0 | h0
      ·simp [blk1, hc.1, h0]
      ·have : ¬ k = 0 := by omega
       simp [blk1, hc.1, this]
    ·have : k = n := by clear hy; omega
     rw [List.take_of_length_le (by clear hy; omega)] at h3
     rw [h3]
def zNd : Nd := ⟨0, 0, [], [], zTy, none, 0, 0⟩
theorem Rds_nil {m : Mem} {sz : Nat} : Rds m none 0 sz [] := ⟨by simp, fun h => absurd h (Nat.lt_irrefl _)⟩
theorem z_ok : TyOk zTy := ⟨by unfold I64; decide, by decide, by decide⟩
theorem z_rep {m : Mem} : exRep m zE zNd.cs := by
 simp only [zE, exRep]
 exact ⟨none, 0, [], rfl, Nnr _, Rds_nil, ⟨by unfold I64; decide, by unfold I64; decide, by decide, by decide, z_ok, by decide⟩, by simp only [exsRep]⟩
theorem st_mk {m : Mem} (U : Sd) {tg ex : Ex} {body alt : List St} {xs ys : List Value} (htg : exRep m tg U.tg.cs) (hex : exRep m ex U.ex.cs) (hl : U.l = body.length) (hcp : U.l ≤ U.cp) (hl2 : U.l2 = alt.length) (hcp2 : U.l2 ≤ U.cp2) (hok : StOk U.k U.name U.ty body.length alt.length)
  (r1 : Rds m U.a U.l 23 xs) (r2 : Rds m U.b U.l2 23 ys) (s1 : stsRep m body xs) (s2 : stsRep m alt ys) : stRep m (.mk U.k U.name U.ty tg ex body alt) U.cs := by
 simp only [stRep]
 exact ⟨U, ⟨rfl, rfl, rfl, rfl⟩, htg, hex, ⟨hl, hcp, hl2, hcp2⟩, hok, xs, ys, r1, r2, s1, s2⟩
theorem nd_inj {x y : Nd} (h : x.cs = y.cs) : x = y := by
 obtain ⟨k, n, s, c, ⟨d, b, nm⟩, a, l, cp⟩ := x
 obtain ⟨k', n', s', c', ⟨d', b', nm'⟩, a', l', cp'⟩ := y
 simp only [Nd.cs, List.cons.injEq, Value.int.injEq, Value.string.injEq, Value.slice.injEq, and_true, true_and] at h
 obtain ⟨h1, h2, h3, h4, h5, h6, h7, h8, h9, h10⟩ := h
 rw [h1, h2, bs_inj h3, bs_inj h4, h5, h6, bs_inj h7, h8, h9, h10]
theorem empty_of {m : Mem} {e : Ex} {x : Nd} (h : exRep m e x.cs) (m' : Mem) : Ans 234 [.v (.agg ⟨x.cs⟩)] m' (.bool (emptyE e)) := by
 cases e with
 | mk k n s c ty args =>
  obtain ⟨y, hy, h1, h2, h3, h4, h5, h6, _⟩ := ex_parts h
  have := empty_spec x m'
  rw [nd_inj hy] at this ⊢
  rw [h1, h2, h3, h4, h5, h6] at this
  exact this
theorem sts_nil {m : Mem} : stsRep m [] [] := by simp only [stsRep]
theorem vst1 (nm : List UInt8) (ty : Ty) (tN eN : Nd) (a : Option Addr) (l cp : Nat) (b : Option Addr) (l2 cp2 : Nat) (tg ex : Ex) (body alt : List St) (xs ys : List Value) (m : Mem) (hg : Glob m)
  (htg : exRep m tg tN.cs) (hex : exRep m ex eN.cs) (hl : l = body.length) (hcp : l ≤ cp) (hl2 : l2 = alt.length) (hcp2 : l2 ≤ cp2) (hok : StOk 1 nm ty body.length alt.length) (r1 : Rds m a l 23 xs) (r2 : Rds m b l2 23 ys) (s1 : stsRep m body xs) (s2 : stsRep m alt ys) (B1 B2 B V : Bool)
  (hB : ∀ m', leM m m' → Ans 142 [.v (.slice a l cp), .v (.bool false)] m' (.bool B1)) (hA : ∀ m', leM m m' → Ans 142 [.v (.slice b l2 cp2), .v (.bool false)] m' (.bool B2)) (hBB : B = (B1 && B2))
  (e0 : V = ((identL nm && valueTy ty.dim ty.base ty.name && validE ex) && eqS (St.mk 1 nm ty tg ex body alt) (St.mk 1 nm ty zE ex [] []))) : Ans 201 [.v (.agg ⟨Sd.cs ⟨1, nm, ty, tN, eN, a, l, cp, b, l2, cp2⟩⟩)] m (.bool V) := by
 have hQ : ∀ m', leM m m' → Ans 236 [.v (.agg ⟨Sd.cs ⟨1, nm, ty, tN, eN, a, l, cp, b, l2, cp2⟩⟩), .v (.agg ⟨Sd.cs ⟨1, nm, ty, zNd, eN, none, 0, 0, none, 0, 0⟩⟩)] m' (.bool (eqS (St.mk 1 nm ty tg ex body alt) (St.mk 1 nm ty zE ex [] []))) := fun m' hle =>
  eqS_all _ _ _ _ _ m' (Nnr _) (st_mk (m := m') (⟨1, nm, ty, tN, eN, a, l, cp, b, l2, cp2⟩ : Sd) (exRep_upM hle htg) (exRep_upM hle hex) hl hcp hl2 hcp2 hok (Rds_upM hle r1) (Rds_upM hle r2) (stsRep_upM hle s1) (stsRep_upM hle s2))
   (st_mk (m := m') (⟨1, nm, ty, zNd, eN, none, 0, 0, none, 0, 0⟩ : Sd) z_rep (exRep_upM hle hex) rfl (Nnr _) rfl (Nnr _) ⟨hok.k, hok.nm, hok.ty, Nat.zero_le _, Nat.zero_le _⟩ Rds_nil Rds_nil sts_nil sts_nil )
 have hBL1 : BL nm := Nat.le_trans hok.nm (by decide)
 have hBL2 : BL ty.name := Nat.le_trans hok.ty.2.2 (by decide)
 have hX := fun m' (hle : leM m m') => valid_all _ ex eN.cs m' (Nnr _) (hg.upM hle) (exRep_upM hle hex)
 clear s1 s2 r1 r2
 refine enter cfV puV Tryz.func201 rfl rfl (by kernel_rfl) rfl ?_ ?_
 ·simp only [go_sem, ↓tfi, ↓fti, ↓reduceIte, Sd.cs, Nd.cs, zNd, zTy, Int.reduceEq, decide_true, decide_false]
 ·simp only [go_sem, ↓tfi, ↓fti, ↓reduceIte, Sd.cs, Nd.cs, zNd, zTy, Int.reduceEq, decide_true, decide_false]
  refine cvl ((hB m (.inl rfl)).mono ?_)
  clear hB
  rintro r H' m1 hm1 ⟨l1, rfl, rfl⟩
  simp only [go_sem, ↓tfi, ↓fti, ↓reduceIte, Sd.cs, Nd.cs, zNd, zTy, Int.reduceEq, decide_true, decide_false]
  refine ⟨fun b1 => cvl ((hA m1 l1).mono ?_), fun b1 => ?_⟩
  ·clear hA
   rintro r H' m2 hm2 ⟨l2', rfl, rfl⟩
   have lm2 := leM_tr l1 l2'
   simp only [go_sem, ↓tfi, ↓fti, ↓reduceIte, Sd.cs, Nd.cs, zNd, zTy, Int.reduceEq, decide_true, decide_false]
   refine ⟨hBL1, fun _ => hBL2, fun c => ?_, fun c => ?_⟩
   ·refine cvl ((FnH_den (hX m2 lm2) (fun V => rfl)).mono ?_)
    clear hX
    rintro r H' w1 hw1 ⟨lw1, rfl, rfl⟩
    simp only [go_sem, ↓tfi, ↓fti, ↓reduceIte, Sd.cs, Nd.cs, zNd, zTy, Int.reduceEq, decide_true, decide_false]
    refine ⟨fun c1 => ?_, fun c1 => ?_⟩
    ·refine cvl ((FnH_den (hQ w1 (leM_tr lm2 lw1)) (fun V => rfl)).mono ?_)
     clear hQ
     rintro r H' w2 hw2 ⟨lw2, rfl, rfl⟩
     simp only [go_sem, ↓tfi, ↓fti, ↓reduceIte, Sd.cs, Nd.cs, zNd, zTy, Int.reduceEq, decide_true, decide_false]
     refine ⟨leM_tr (leM_tr lm2 lw1) lw2, ?_⟩
     rw [e0, c.1, c.2, c1]
     rfl
    ·refine ⟨(leM_tr lm2 lw1), ?_⟩
     rw [e0, c.1, c.2, c1]
     rfl
   ·refine ⟨lm2, ?_⟩
    rw [e0]
    rcases c with c | c <;> simp [c]
  ·clear hA
   refine ⟨hBL1, fun _ => hBL2, fun c => ?_, fun c => ?_⟩
   ·refine cvl ((FnH_den (hX m1 l1) (fun V => rfl)).mono ?_)
    clear hX
    rintro r H' w3 hw3 ⟨lw3, rfl, rfl⟩
    simp only [go_sem, ↓tfi, ↓fti, ↓reduceIte, Sd.cs, Nd.cs, zNd, zTy, Int.reduceEq, decide_true, decide_false]
    refine ⟨fun c3 => ?_, fun c3 => ?_⟩
    ·refine cvl ((FnH_den (hQ w3 (leM_tr l1 lw3)) (fun V => rfl)).mono ?_)
     clear hQ
     rintro r H' w4 hw4 ⟨lw4, rfl, rfl⟩
     simp only [go_sem, ↓tfi, ↓fti, ↓reduceIte, Sd.cs, Nd.cs, zNd, zTy, Int.reduceEq, decide_true, decide_false]
     refine ⟨leM_tr (leM_tr l1 lw3) lw4, ?_⟩
     rw [e0, c.1, c.2, c3]
     rfl
    ·refine ⟨(leM_tr l1 lw3), ?_⟩
     rw [e0, c.1, c.2, c3]
     rfl
   ·refine ⟨l1, ?_⟩
    rw [e0]
    rcases c with c | c <;> simp [c]
theorem vst2 (nm : List UInt8) (ty : Ty) (tN eN : Nd) (a : Option Addr) (l cp : Nat) (b : Option Addr) (l2 cp2 : Nat) (tg ex : Ex) (body alt : List St) (xs ys : List Value) (m : Mem) (hg : Glob m)
  (htg : exRep m tg tN.cs) (hex : exRep m ex eN.cs) (hl : l = body.length) (hcp : l ≤ cp) (hl2 : l2 = alt.length) (hcp2 : l2 ≤ cp2) (hok : StOk 2 nm ty body.length alt.length) (r1 : Rds m a l 23 xs) (r2 : Rds m b l2 23 ys) (s1 : stsRep m body xs) (s2 : stsRep m alt ys) (B1 B2 B V : Bool)
  (hB : ∀ m', leM m m' → Ans 142 [.v (.slice a l cp), .v (.bool false)] m' (.bool B1)) (hA : ∀ m', leM m m' → Ans 142 [.v (.slice b l2 cp2), .v (.bool false)] m' (.bool B2)) (hBB : B = (B1 && B2))
  (e0 : V = ((targetE tg && validE ex) && eqS (St.mk 2 nm ty tg ex body alt) (St.mk 2 [] zTy tg ex [] []))) : Ans 201 [.v (.agg ⟨Sd.cs ⟨2, nm, ty, tN, eN, a, l, cp, b, l2, cp2⟩⟩)] m (.bool V) := by
 have hQ : ∀ m', leM m m' → Ans 236 [.v (.agg ⟨Sd.cs ⟨2, nm, ty, tN, eN, a, l, cp, b, l2, cp2⟩⟩), .v (.agg ⟨Sd.cs ⟨2, [], zTy, tN, eN, none, 0, 0, none, 0, 0⟩⟩)] m' (.bool (eqS (St.mk 2 nm ty tg ex body alt) (St.mk 2 [] zTy tg ex [] []))) := fun m' hle =>
  eqS_all _ _ _ _ _ m' (Nnr _) (st_mk (m := m') (⟨2, nm, ty, tN, eN, a, l, cp, b, l2, cp2⟩ : Sd) (exRep_upM hle htg) (exRep_upM hle hex) hl hcp hl2 hcp2 hok (Rds_upM hle r1) (Rds_upM hle r2) (stsRep_upM hle s1) (stsRep_upM hle s2))
   (st_mk (m := m') (⟨2, [], zTy, tN, eN, none, 0, 0, none, 0, 0⟩ : Sd) (exRep_upM hle htg) (exRep_upM hle hex) rfl (Nnr _) rfl (Nnr _) ⟨hok.k, Nat.zero_le _, z_ok, Nat.zero_le _, Nat.zero_le _⟩ Rds_nil Rds_nil sts_nil sts_nil )
 have hX := fun m' (hle : leM m m') => valid_all _ ex eN.cs m' (Nnr _) (hg.upM hle) (exRep_upM hle hex)
 have hT := fun m' (hle : leM m m') => target_spec tg tN.cs m' (hg.upM hle) (exRep_upM hle htg)
 clear s1 s2 r1 r2
 refine enter cfV puV Tryz.func201 rfl rfl (by kernel_rfl) rfl ?_ ?_
 ·simp only [go_sem, ↓tfi, ↓fti, ↓reduceIte, Sd.cs, Nd.cs, zNd, zTy, Int.reduceEq, decide_true, decide_false]
 ·simp only [go_sem, ↓tfi, ↓fti, ↓reduceIte, Sd.cs, Nd.cs, zNd, zTy, Int.reduceEq, decide_true, decide_false]
  refine cvl ((hB m (.inl rfl)).mono ?_)
  clear hB
  rintro r H' m1 hm1 ⟨l1, rfl, rfl⟩
  simp only [go_sem, ↓tfi, ↓fti, ↓reduceIte, Sd.cs, Nd.cs, zNd, zTy, Int.reduceEq, decide_true, decide_false]
  refine ⟨fun b1 => cvl ((hA m1 l1).mono ?_), fun b1 => ?_⟩
  ·clear hA
   rintro r H' m2 hm2 ⟨l2', rfl, rfl⟩
   have lm2 := leM_tr l1 l2'
   simp only [go_sem, ↓tfi, ↓fti, ↓reduceIte, Sd.cs, Nd.cs, zNd, zTy, Int.reduceEq, decide_true, decide_false]
   refine cvl ((FnH_den (hT m2 lm2) (fun V => rfl)).mono ?_)
   clear hT
   rintro r H' w1 hw1 ⟨lw1, rfl, rfl⟩
   simp only [go_sem, ↓tfi, ↓fti, ↓reduceIte, Sd.cs, Nd.cs, zNd, zTy, Int.reduceEq, decide_true, decide_false]
   refine ⟨fun c => ?_, fun c => ?_⟩
   ·refine cvl ((FnH_den (hX w1 (leM_tr lm2 lw1)) (fun V => rfl)).mono ?_)
    clear hX
    rintro r H' w2 hw2 ⟨lw2, rfl, rfl⟩
    simp only [go_sem, ↓tfi, ↓fti, ↓reduceIte, Sd.cs, Nd.cs, zNd, zTy, Int.reduceEq, decide_true, decide_false]
    refine ⟨fun c2 => ?_, fun c2 => ?_⟩
    ·refine cvl ((FnH_den (hQ w2 (leM_tr (leM_tr lm2 lw1) lw2)) (fun V => rfl)).mono ?_)
     clear hQ
     rintro r H' w3 hw3 ⟨lw3, rfl, rfl⟩
     simp only [go_sem, ↓tfi, ↓fti, ↓reduceIte, Sd.cs, Nd.cs, zNd, zTy, Int.reduceEq, decide_true, decide_false]
     refine ⟨leM_tr (leM_tr (leM_tr lm2 lw1) lw2) lw3, ?_⟩
     rw [e0, c, c2]
     rfl
    ·refine ⟨(leM_tr (leM_tr lm2 lw1) lw2), ?_⟩
     rw [e0, c, c2]
     rfl
   ·refine ⟨(leM_tr lm2 lw1), ?_⟩
    rw [e0, c]
    rfl
  ·clear hA
   refine cvl ((FnH_den (hT m1 l1) (fun V => rfl)).mono ?_)
   clear hT
   rintro r H' w4 hw4 ⟨lw4, rfl, rfl⟩
   simp only [go_sem, ↓tfi, ↓fti, ↓reduceIte, Sd.cs, Nd.cs, zNd, zTy, Int.reduceEq, decide_true, decide_false]
   refine ⟨fun c => ?_, fun c => ?_⟩
   ·refine cvl ((FnH_den (hX w4 (leM_tr l1 lw4)) (fun V => rfl)).mono ?_)
    clear hX
    rintro r H' w5 hw5 ⟨lw5, rfl, rfl⟩
    simp only [go_sem, ↓tfi, ↓fti, ↓reduceIte, Sd.cs, Nd.cs, zNd, zTy, Int.reduceEq, decide_true, decide_false]
    refine ⟨fun c5 => ?_, fun c5 => ?_⟩
    ·refine cvl ((FnH_den (hQ w5 (leM_tr (leM_tr l1 lw4) lw5)) (fun V => rfl)).mono ?_)
     clear hQ
     rintro r H' w6 hw6 ⟨lw6, rfl, rfl⟩
     simp only [go_sem, ↓tfi, ↓fti, ↓reduceIte, Sd.cs, Nd.cs, zNd, zTy, Int.reduceEq, decide_true, decide_false]
     refine ⟨leM_tr (leM_tr (leM_tr l1 lw4) lw5) lw6, ?_⟩
     rw [e0, c, c5]
     rfl
    ·refine ⟨(leM_tr (leM_tr l1 lw4) lw5), ?_⟩
     rw [e0, c, c5]
     rfl
   ·refine ⟨(leM_tr l1 lw4), ?_⟩
    rw [e0, c]
    rfl
theorem vst3 (nm : List UInt8) (ty : Ty) (tN eN : Nd) (a : Option Addr) (l cp : Nat) (b : Option Addr) (l2 cp2 : Nat) (tg ex : Ex) (body alt : List St) (xs ys : List Value) (m : Mem) (hg : Glob m)
  (htg : exRep m tg tN.cs) (hex : exRep m ex eN.cs) (hl : l = body.length) (hcp : l ≤ cp) (hl2 : l2 = alt.length) (hcp2 : l2 ≤ cp2) (hok : StOk 3 nm ty body.length alt.length) (r1 : Rds m a l 23 xs) (r2 : Rds m b l2 23 ys) (s1 : stsRep m body xs) (s2 : stsRep m alt ys) (B1 B2 B V : Bool)
  (hB : ∀ m', leM m m' → Ans 142 [.v (.slice a l cp), .v (.bool false)] m' (.bool B1)) (hA : ∀ m', leM m m' → Ans 142 [.v (.slice b l2 cp2), .v (.bool false)] m' (.bool B2)) (hBB : B = (B1 && B2))
  (e0 : V = (callE ex && eqS (St.mk 3 nm ty tg ex body alt) (St.mk 3 [] zTy zE ex [] []))) : Ans 201 [.v (.agg ⟨Sd.cs ⟨3, nm, ty, tN, eN, a, l, cp, b, l2, cp2⟩⟩)] m (.bool V) := by
 have hQ : ∀ m', leM m m' → Ans 236 [.v (.agg ⟨Sd.cs ⟨3, nm, ty, tN, eN, a, l, cp, b, l2, cp2⟩⟩), .v (.agg ⟨Sd.cs ⟨3, [], zTy, zNd, eN, none, 0, 0, none, 0, 0⟩⟩)] m' (.bool (eqS (St.mk 3 nm ty tg ex body alt) (St.mk 3 [] zTy zE ex [] []))) := fun m' hle =>
  eqS_all _ _ _ _ _ m' (Nnr _) (st_mk (m := m') (⟨3, nm, ty, tN, eN, a, l, cp, b, l2, cp2⟩ : Sd) (exRep_upM hle htg) (exRep_upM hle hex) hl hcp hl2 hcp2 hok (Rds_upM hle r1) (Rds_upM hle r2) (stsRep_upM hle s1) (stsRep_upM hle s2))
   (st_mk (m := m') (⟨3, [], zTy, zNd, eN, none, 0, 0, none, 0, 0⟩ : Sd) z_rep (exRep_upM hle hex) rfl (Nnr _) rfl (Nnr _) ⟨hok.k, Nat.zero_le _, z_ok, Nat.zero_le _, Nat.zero_le _⟩ Rds_nil Rds_nil sts_nil sts_nil )
 have hX := fun m' (hle : leM m m') => call_spec ex eN.cs m' (hg.upM hle) (exRep_upM hle hex)
 clear s1 s2 r1 r2
 refine enter cfV puV Tryz.func201 rfl rfl (by kernel_rfl) rfl ?_ ?_
 ·simp only [go_sem, ↓tfi, ↓fti, ↓reduceIte, Sd.cs, Nd.cs, zNd, zTy, Int.reduceEq, decide_true, decide_false]
 ·simp only [go_sem, ↓tfi, ↓fti, ↓reduceIte, Sd.cs, Nd.cs, zNd, zTy, Int.reduceEq, decide_true, decide_false]
  refine cvl ((hB m (.inl rfl)).mono ?_)
  clear hB
  rintro r H' m1 hm1 ⟨l1, rfl, rfl⟩
  simp only [go_sem, ↓tfi, ↓fti, ↓reduceIte, Sd.cs, Nd.cs, zNd, zTy, Int.reduceEq, decide_true, decide_false]
  refine ⟨fun b1 => cvl ((hA m1 l1).mono ?_), fun b1 => ?_⟩
  ·clear hA
   rintro r H' m2 hm2 ⟨l2', rfl, rfl⟩
   have lm2 := leM_tr l1 l2'
   simp only [go_sem, ↓tfi, ↓fti, ↓reduceIte, Sd.cs, Nd.cs, zNd, zTy, Int.reduceEq, decide_true, decide_false]
   refine cvl ((FnH_den (hX m2 lm2) (fun V => rfl)).mono ?_)
   clear hX
   rintro r H' w1 hw1 ⟨lw1, rfl, rfl⟩
   simp only [go_sem, ↓tfi, ↓fti, ↓reduceIte, Sd.cs, Nd.cs, zNd, zTy, Int.reduceEq, decide_true, decide_false]
   refine ⟨fun c1 => ?_, fun c1 => ?_⟩
   ·refine cvl ((FnH_den (hQ w1 (leM_tr lm2 lw1)) (fun V => rfl)).mono ?_)
    clear hQ
    rintro r H' w2 hw2 ⟨lw2, rfl, rfl⟩
    simp only [go_sem, ↓tfi, ↓fti, ↓reduceIte, Sd.cs, Nd.cs, zNd, zTy, Int.reduceEq, decide_true, decide_false]
    refine ⟨leM_tr (leM_tr lm2 lw1) lw2, ?_⟩
    rw [e0, c1]
    rfl
   ·refine ⟨(leM_tr lm2 lw1), ?_⟩
    rw [e0, c1]
    rfl
  ·clear hA
   refine cvl ((FnH_den (hX m1 l1) (fun V => rfl)).mono ?_)
   clear hX
   rintro r H' w3 hw3 ⟨lw3, rfl, rfl⟩
   simp only [go_sem, ↓tfi, ↓fti, ↓reduceIte, Sd.cs, Nd.cs, zNd, zTy, Int.reduceEq, decide_true, decide_false]
   refine ⟨fun c3 => ?_, fun c3 => ?_⟩
   ·refine cvl ((FnH_den (hQ w3 (leM_tr l1 lw3)) (fun V => rfl)).mono ?_)
    clear hQ
    rintro r H' w4 hw4 ⟨lw4, rfl, rfl⟩
    simp only [go_sem, ↓tfi, ↓fti, ↓reduceIte, Sd.cs, Nd.cs, zNd, zTy, Int.reduceEq, decide_true, decide_false]
    refine ⟨leM_tr (leM_tr l1 lw3) lw4, ?_⟩
    rw [e0, c3]
    rfl
   ·refine ⟨(leM_tr l1 lw3), ?_⟩
    rw [e0, c3]
    rfl
theorem vst4 (nm : List UInt8) (ty : Ty) (tN eN : Nd) (a : Option Addr) (l cp : Nat) (b : Option Addr) (l2 cp2 : Nat) (tg ex : Ex) (body alt : List St) (xs ys : List Value) (m : Mem) (hg : Glob m)
  (htg : exRep m tg tN.cs) (hex : exRep m ex eN.cs) (hl : l = body.length) (hcp : l ≤ cp) (hl2 : l2 = alt.length) (hcp2 : l2 ≤ cp2) (hok : StOk 4 nm ty body.length alt.length) (r1 : Rds m a l 23 xs) (r2 : Rds m b l2 23 ys) (s1 : stsRep m body xs) (s2 : stsRep m alt ys) (B1 B2 B V : Bool)
  (hB : ∀ m', leM m m' → Ans 142 [.v (.slice a l cp), .v (.bool false)] m' (.bool B1)) (hA : ∀ m', leM m m' → Ans 142 [.v (.slice b l2 cp2), .v (.bool false)] m' (.bool B2)) (hBB : B = (B1 && B2))
  (e0 : V = ((B && validE ex) && eqS (St.mk 4 nm ty tg ex body alt) (St.mk 4 [] zTy zE ex body alt))) : Ans 201 [.v (.agg ⟨Sd.cs ⟨4, nm, ty, tN, eN, a, l, cp, b, l2, cp2⟩⟩)] m (.bool V) := by
 have hQ : ∀ m', leM m m' → Ans 236 [.v (.agg ⟨Sd.cs ⟨4, nm, ty, tN, eN, a, l, cp, b, l2, cp2⟩⟩), .v (.agg ⟨Sd.cs ⟨4, [], zTy, zNd, eN, a, l, cp, b, l2, cp2⟩⟩)] m' (.bool (eqS (St.mk 4 nm ty tg ex body alt) (St.mk 4 [] zTy zE ex body alt))) := fun m' hle =>
  eqS_all _ _ _ _ _ m' (Nnr _) (st_mk (m := m') (⟨4, nm, ty, tN, eN, a, l, cp, b, l2, cp2⟩ : Sd) (exRep_upM hle htg) (exRep_upM hle hex) hl hcp hl2 hcp2 hok (Rds_upM hle r1) (Rds_upM hle r2) (stsRep_upM hle s1) (stsRep_upM hle s2))
   (st_mk (m := m') (⟨4, [], zTy, zNd, eN, a, l, cp, b, l2, cp2⟩ : Sd) z_rep (exRep_upM hle hex) hl hcp hl2 hcp2 ⟨hok.k, Nat.zero_le _, z_ok, hok.l, hok.l2⟩ (Rds_upM hle r1) (Rds_upM hle r2) (stsRep_upM hle s1) (stsRep_upM hle s2) )
 have hX := fun m' (hle : leM m m') => valid_all _ ex eN.cs m' (Nnr _) (hg.upM hle) (exRep_upM hle hex)
 clear s1 s2 r1 r2
 refine enter cfV puV Tryz.func201 rfl rfl (by kernel_rfl) rfl ?_ ?_
 ·simp only [go_sem, ↓tfi, ↓fti, ↓reduceIte, Sd.cs, Nd.cs, zNd, zTy, Int.reduceEq, decide_true, decide_false]
 ·simp only [go_sem, ↓tfi, ↓fti, ↓reduceIte, Sd.cs, Nd.cs, zNd, zTy, Int.reduceEq, decide_true, decide_false]
  refine cvl ((hB m (.inl rfl)).mono ?_)
  clear hB
  rintro r H' m1 hm1 ⟨l1, rfl, rfl⟩
  simp only [go_sem, ↓tfi, ↓fti, ↓reduceIte, Sd.cs, Nd.cs, zNd, zTy, Int.reduceEq, decide_true, decide_false]
  refine ⟨fun b1 => cvl ((hA m1 l1).mono ?_), fun b1 => ?_⟩
  ·clear hA
   rintro r H' m2 hm2 ⟨l2', rfl, rfl⟩
   have lm2 := leM_tr l1 l2'
   simp only [go_sem, ↓tfi, ↓fti, ↓reduceIte, Sd.cs, Nd.cs, zNd, zTy, Int.reduceEq, decide_true, decide_false]
   refine ⟨fun b2 => ?_, fun b2 => ?_⟩
   ·refine cvl ((FnH_den (hX m2 lm2) (fun V => rfl)).mono ?_)
    clear hX
    rintro r H' w1 hw1 ⟨lw1, rfl, rfl⟩
    simp only [go_sem, ↓tfi, ↓fti, ↓reduceIte, Sd.cs, Nd.cs, zNd, zTy, Int.reduceEq, decide_true, decide_false]
    refine ⟨fun c1 => ?_, fun c1 => ?_⟩
    ·refine cvl ((FnH_den (hQ w1 (leM_tr lm2 lw1)) (fun V => rfl)).mono ?_)
     clear hQ
     rintro r H' w2 hw2 ⟨lw2, rfl, rfl⟩
     simp only [go_sem, ↓tfi, ↓fti, ↓reduceIte, Sd.cs, Nd.cs, zNd, zTy, Int.reduceEq, decide_true, decide_false]
     refine ⟨leM_tr (leM_tr lm2 lw1) lw2, ?_⟩
     rw [e0, hBB, b1, b2, c1]
     rfl
    ·refine ⟨(leM_tr lm2 lw1), ?_⟩
     rw [e0, hBB, b1, b2, c1]
     rfl
   ·refine ⟨lm2, ?_⟩
    rw [e0, hBB, b1, b2]
    rfl
  ·clear hA
   refine ⟨l1, ?_⟩
   rw [e0, hBB, b1]
   rfl
theorem vst5 (nm : List UInt8) (ty : Ty) (tN eN : Nd) (a : Option Addr) (l cp : Nat) (b : Option Addr) (l2 cp2 : Nat) (tg ex : Ex) (body alt : List St) (xs ys : List Value) (m : Mem) (hg : Glob m)
  (htg : exRep m tg tN.cs) (hex : exRep m ex eN.cs) (hl : l = body.length) (hcp : l ≤ cp) (hl2 : l2 = alt.length) (hcp2 : l2 ≤ cp2) (hok : StOk 5 nm ty body.length alt.length) (r1 : Rds m a l 23 xs) (r2 : Rds m b l2 23 ys) (s1 : stsRep m body xs) (s2 : stsRep m alt ys) (B1 B2 B V : Bool)
  (hB : ∀ m', leM m m' → Ans 142 [.v (.slice a l cp), .v (.bool false)] m' (.bool B1)) (hA : ∀ m', leM m m' → Ans 142 [.v (.slice b l2 cp2), .v (.bool false)] m' (.bool B2)) (hBB : B = (B1 && B2))
  (e0 : V = ((B && validE ex) && eqS (St.mk 5 nm ty tg ex body alt) (St.mk 5 [] zTy zE ex body []))) : Ans 201 [.v (.agg ⟨Sd.cs ⟨5, nm, ty, tN, eN, a, l, cp, b, l2, cp2⟩⟩)] m (.bool V) := by
 have hQ : ∀ m', leM m m' → Ans 236 [.v (.agg ⟨Sd.cs ⟨5, nm, ty, tN, eN, a, l, cp, b, l2, cp2⟩⟩), .v (.agg ⟨Sd.cs ⟨5, [], zTy, zNd, eN, a, l, cp, none, 0, 0⟩⟩)] m' (.bool (eqS (St.mk 5 nm ty tg ex body alt) (St.mk 5 [] zTy zE ex body []))) := fun m' hle =>
  eqS_all _ _ _ _ _ m' (Nnr _) (st_mk (m := m') (⟨5, nm, ty, tN, eN, a, l, cp, b, l2, cp2⟩ : Sd) (exRep_upM hle htg) (exRep_upM hle hex) hl hcp hl2 hcp2 hok (Rds_upM hle r1) (Rds_upM hle r2) (stsRep_upM hle s1) (stsRep_upM hle s2))
   (st_mk (m := m') (⟨5, [], zTy, zNd, eN, a, l, cp, none, 0, 0⟩ : Sd) z_rep (exRep_upM hle hex) hl hcp rfl (Nnr _) ⟨hok.k, Nat.zero_le _, z_ok, hok.l, Nat.zero_le _⟩ (Rds_upM hle r1) Rds_nil (stsRep_upM hle s1) sts_nil )
 have hX := fun m' (hle : leM m m') => valid_all _ ex eN.cs m' (Nnr _) (hg.upM hle) (exRep_upM hle hex)
 clear s1 s2 r1 r2
 refine enter cfV puV Tryz.func201 rfl rfl (by kernel_rfl) rfl ?_ ?_
 ·simp only [go_sem, ↓tfi, ↓fti, ↓reduceIte, Sd.cs, Nd.cs, zNd, zTy, Int.reduceEq, decide_true, decide_false]
 ·simp only [go_sem, ↓tfi, ↓fti, ↓reduceIte, Sd.cs, Nd.cs, zNd, zTy, Int.reduceEq, decide_true, decide_false]
  refine cvl ((hB m (.inl rfl)).mono ?_)
  clear hB
  rintro r H' m1 hm1 ⟨l1, rfl, rfl⟩
  simp only [go_sem, ↓tfi, ↓fti, ↓reduceIte, Sd.cs, Nd.cs, zNd, zTy, Int.reduceEq, decide_true, decide_false]
  refine ⟨fun b1 => cvl ((hA m1 l1).mono ?_), fun b1 => ?_⟩
  ·clear hA
   rintro r H' m2 hm2 ⟨l2', rfl, rfl⟩
   have lm2 := leM_tr l1 l2'
   simp only [go_sem, ↓tfi, ↓fti, ↓reduceIte, Sd.cs, Nd.cs, zNd, zTy, Int.reduceEq, decide_true, decide_false]
   refine ⟨fun b2 => ?_, fun b2 => ?_⟩
   ·refine cvl ((FnH_den (hX m2 lm2) (fun V => rfl)).mono ?_)
    clear hX
    rintro r H' w1 hw1 ⟨lw1, rfl, rfl⟩
    simp only [go_sem, ↓tfi, ↓fti, ↓reduceIte, Sd.cs, Nd.cs, zNd, zTy, Int.reduceEq, decide_true, decide_false]
    refine ⟨fun c1 => ?_, fun c1 => ?_⟩
    ·refine cvl ((FnH_den (hQ w1 (leM_tr lm2 lw1)) (fun V => rfl)).mono ?_)
     clear hQ
     rintro r H' w2 hw2 ⟨lw2, rfl, rfl⟩
     simp only [go_sem, ↓tfi, ↓fti, ↓reduceIte, Sd.cs, Nd.cs, zNd, zTy, Int.reduceEq, decide_true, decide_false]
     refine ⟨leM_tr (leM_tr lm2 lw1) lw2, ?_⟩
     rw [e0, hBB, b1, b2, c1]
     rfl
    ·refine ⟨(leM_tr lm2 lw1), ?_⟩
     rw [e0, hBB, b1, b2, c1]
     rfl
   ·refine ⟨lm2, ?_⟩
    rw [e0, hBB, b1, b2]
    rfl
  ·clear hA
   refine ⟨l1, ?_⟩
   rw [e0, hBB, b1]
   rfl
theorem vst6 (nm : List UInt8) (ty : Ty) (tN eN : Nd) (a : Option Addr) (l cp : Nat) (b : Option Addr) (l2 cp2 : Nat) (tg ex : Ex) (body alt : List St) (xs ys : List Value) (m : Mem) (hg : Glob m)
  (htg : exRep m tg tN.cs) (hex : exRep m ex eN.cs) (hl : l = body.length) (hcp : l ≤ cp) (hl2 : l2 = alt.length) (hcp2 : l2 ≤ cp2) (hok : StOk 6 nm ty body.length alt.length) (r1 : Rds m a l 23 xs) (r2 : Rds m b l2 23 ys) (s1 : stsRep m body xs) (s2 : stsRep m alt ys) (B1 B2 B V : Bool)
  (hB : ∀ m', leM m m' → Ans 142 [.v (.slice a l cp), .v (.bool false)] m' (.bool B1)) (hA : ∀ m', leM m m' → Ans 142 [.v (.slice b l2 cp2), .v (.bool false)] m' (.bool B2)) (hBB : B = (B1 && B2))
  (e0 : V = ((emptyE ex || validE ex) && eqS (St.mk 6 nm ty tg ex body alt) (St.mk 6 [] zTy zE ex [] []))) : Ans 201 [.v (.agg ⟨Sd.cs ⟨6, nm, ty, tN, eN, a, l, cp, b, l2, cp2⟩⟩)] m (.bool V) := by
 have hQ : ∀ m', leM m m' → Ans 236 [.v (.agg ⟨Sd.cs ⟨6, nm, ty, tN, eN, a, l, cp, b, l2, cp2⟩⟩), .v (.agg ⟨Sd.cs ⟨6, [], zTy, zNd, eN, none, 0, 0, none, 0, 0⟩⟩)] m' (.bool (eqS (St.mk 6 nm ty tg ex body alt) (St.mk 6 [] zTy zE ex [] []))) := fun m' hle =>
  eqS_all _ _ _ _ _ m' (Nnr _) (st_mk (m := m') (⟨6, nm, ty, tN, eN, a, l, cp, b, l2, cp2⟩ : Sd) (exRep_upM hle htg) (exRep_upM hle hex) hl hcp hl2 hcp2 hok (Rds_upM hle r1) (Rds_upM hle r2) (stsRep_upM hle s1) (stsRep_upM hle s2))
   (st_mk (m := m') (⟨6, [], zTy, zNd, eN, none, 0, 0, none, 0, 0⟩ : Sd) z_rep (exRep_upM hle hex) rfl (Nnr _) rfl (Nnr _) ⟨hok.k, Nat.zero_le _, z_ok, Nat.zero_le _, Nat.zero_le _⟩ Rds_nil Rds_nil sts_nil sts_nil )
 have hX := fun m' (hle : leM m m') => valid_all _ ex eN.cs m' (Nnr _) (hg.upM hle) (exRep_upM hle hex)
 have hZ := fun m' (_ : leM m m') => empty_of hex m'
 clear s1 s2 r1 r2
 refine enter cfV puV Tryz.func201 rfl rfl (by kernel_rfl) rfl ?_ ?_
 ·simp only [go_sem, ↓tfi, ↓fti, ↓reduceIte, Sd.cs, Nd.cs, zNd, zTy, Int.reduceEq, decide_true, decide_false]
 ·simp only [go_sem, ↓tfi, ↓fti, ↓reduceIte, Sd.cs, Nd.cs, zNd, zTy, Int.reduceEq, decide_true, decide_false]
  refine cvl ((hB m (.inl rfl)).mono ?_)
  clear hB
  rintro r H' m1 hm1 ⟨l1, rfl, rfl⟩
  simp only [go_sem, ↓tfi, ↓fti, ↓reduceIte, Sd.cs, Nd.cs, zNd, zTy, Int.reduceEq, decide_true, decide_false]
  refine ⟨fun b1 => cvl ((hA m1 l1).mono ?_), fun b1 => ?_⟩
  ·clear hA
   rintro r H' m2 hm2 ⟨l2', rfl, rfl⟩
   have lm2 := leM_tr l1 l2'
   simp only [go_sem, ↓tfi, ↓fti, ↓reduceIte, Sd.cs, Nd.cs, zNd, zTy, Int.reduceEq, decide_true, decide_false]
   refine cvl ((FnH_den (hZ m2 lm2) (fun V => rfl)).mono ?_)
   clear hZ
   rintro r H' w1 hw1 ⟨lw1, rfl, rfl⟩
   simp only [go_sem, ↓tfi, ↓fti, ↓reduceIte, Sd.cs, Nd.cs, zNd, zTy, Int.reduceEq, decide_true, decide_false]
   refine ⟨fun c => ?_, fun c => ?_⟩
   ·refine cvl ((FnH_den (hX w1 (leM_tr lm2 lw1)) (fun V => rfl)).mono ?_)
    clear hX
    rintro r H' w2 hw2 ⟨lw2, rfl, rfl⟩
    simp only [go_sem, ↓tfi, ↓fti, ↓reduceIte, Sd.cs, Nd.cs, zNd, zTy, Int.reduceEq, decide_true, decide_false]
    refine ⟨fun c2 => ?_, fun c2 => ?_⟩
    ·refine cvl ((FnH_den (hQ w2 (leM_tr (leM_tr lm2 lw1) lw2)) (fun V => rfl)).mono ?_)
     clear hQ
     rintro r H' w3 hw3 ⟨lw3, rfl, rfl⟩
     simp only [go_sem, ↓tfi, ↓fti, ↓reduceIte, Sd.cs, Nd.cs, zNd, zTy, Int.reduceEq, decide_true, decide_false]
     refine ⟨leM_tr (leM_tr (leM_tr lm2 lw1) lw2) lw3, ?_⟩
     rw [e0, c, c2]
     rfl
    ·refine ⟨(leM_tr (leM_tr lm2 lw1) lw2), ?_⟩
     rw [e0, c, c2]
     rfl
   ·refine cvl ((FnH_den (hQ w1 (leM_tr lm2 lw1)) (fun V => rfl)).mono ?_)
    clear hQ
    rintro r H' w4 hw4 ⟨lw4, rfl, rfl⟩
    simp only [go_sem, ↓tfi, ↓fti, ↓reduceIte, Sd.cs, Nd.cs, zNd, zTy, Int.reduceEq, decide_true, decide_false]
    refine ⟨leM_tr (leM_tr lm2 lw1) lw4, ?_⟩
    rw [e0, c]
    rfl
  ·clear hA
   refine cvl ((FnH_den (hZ m1 l1) (fun V => rfl)).mono ?_)
   clear hZ
   rintro r H' w5 hw5 ⟨lw5, rfl, rfl⟩
   simp only [go_sem, ↓tfi, ↓fti, ↓reduceIte, Sd.cs, Nd.cs, zNd, zTy, Int.reduceEq, decide_true, decide_false]
   refine ⟨fun c => ?_, fun c => ?_⟩
   ·refine cvl ((FnH_den (hX w5 (leM_tr l1 lw5)) (fun V => rfl)).mono ?_)
    clear hX
    rintro r H' w6 hw6 ⟨lw6, rfl, rfl⟩
    simp only [go_sem, ↓tfi, ↓fti, ↓reduceIte, Sd.cs, Nd.cs, zNd, zTy, Int.reduceEq, decide_true, decide_false]
    refine ⟨fun c6 => ?_, fun c6 => ?_⟩
    ·refine cvl ((FnH_den (hQ w6 (leM_tr (leM_tr l1 lw5) lw6)) (fun V => rfl)).mono ?_)
     clear hQ
     rintro r H' w7 hw7 ⟨lw7, rfl, rfl⟩
     simp only [go_sem, ↓tfi, ↓fti, ↓reduceIte, Sd.cs, Nd.cs, zNd, zTy, Int.reduceEq, decide_true, decide_false]
     refine ⟨leM_tr (leM_tr (leM_tr l1 lw5) lw6) lw7, ?_⟩
     rw [e0, c, c6]
     rfl
    ·refine ⟨(leM_tr (leM_tr l1 lw5) lw6), ?_⟩
     rw [e0, c, c6]
     rfl
   ·refine cvl ((FnH_den (hQ w5 (leM_tr l1 lw5)) (fun V => rfl)).mono ?_)
    clear hQ
    rintro r H' w8 hw8 ⟨lw8, rfl, rfl⟩
    simp only [go_sem, ↓tfi, ↓fti, ↓reduceIte, Sd.cs, Nd.cs, zNd, zTy, Int.reduceEq, decide_true, decide_false]
    refine ⟨leM_tr (leM_tr l1 lw5) lw8, ?_⟩
    rw [e0, c]
    rfl
theorem vst7 (nm : List UInt8) (ty : Ty) (tN eN : Nd) (a : Option Addr) (l cp : Nat) (b : Option Addr) (l2 cp2 : Nat) (tg ex : Ex) (body alt : List St) (xs ys : List Value) (m : Mem) (hg : Glob m)
  (htg : exRep m tg tN.cs) (hex : exRep m ex eN.cs) (hl : l = body.length) (hcp : l ≤ cp) (hl2 : l2 = alt.length) (hcp2 : l2 ≤ cp2) (hok : StOk 7 nm ty body.length alt.length) (r1 : Rds m a l 23 xs) (r2 : Rds m b l2 23 ys) (s1 : stsRep m body xs) (s2 : stsRep m alt ys) (B1 B2 B V : Bool)
  (hB : ∀ m', leM m m' → Ans 142 [.v (.slice a l cp), .v (.bool false)] m' (.bool B1)) (hA : ∀ m', leM m m' → Ans 142 [.v (.slice b l2 cp2), .v (.bool false)] m' (.bool B2)) (hBB : B = (B1 && B2))
  (e0 : V = (validE ex && eqS (St.mk 7 nm ty tg ex body alt) (St.mk 7 [] zTy zE ex [] []))) : Ans 201 [.v (.agg ⟨Sd.cs ⟨7, nm, ty, tN, eN, a, l, cp, b, l2, cp2⟩⟩)] m (.bool V) := by
 have hQ : ∀ m', leM m m' → Ans 236 [.v (.agg ⟨Sd.cs ⟨7, nm, ty, tN, eN, a, l, cp, b, l2, cp2⟩⟩), .v (.agg ⟨Sd.cs ⟨7, [], zTy, zNd, eN, none, 0, 0, none, 0, 0⟩⟩)] m' (.bool (eqS (St.mk 7 nm ty tg ex body alt) (St.mk 7 [] zTy zE ex [] []))) := fun m' hle =>
  eqS_all _ _ _ _ _ m' (Nnr _) (st_mk (m := m') (⟨7, nm, ty, tN, eN, a, l, cp, b, l2, cp2⟩ : Sd) (exRep_upM hle htg) (exRep_upM hle hex) hl hcp hl2 hcp2 hok (Rds_upM hle r1) (Rds_upM hle r2) (stsRep_upM hle s1) (stsRep_upM hle s2))
   (st_mk (m := m') (⟨7, [], zTy, zNd, eN, none, 0, 0, none, 0, 0⟩ : Sd) z_rep (exRep_upM hle hex) rfl (Nnr _) rfl (Nnr _) ⟨hok.k, Nat.zero_le _, z_ok, Nat.zero_le _, Nat.zero_le _⟩ Rds_nil Rds_nil sts_nil sts_nil )
 have hX := fun m' (hle : leM m m') => valid_all _ ex eN.cs m' (Nnr _) (hg.upM hle) (exRep_upM hle hex)
 clear s1 s2 r1 r2
 refine enter cfV puV Tryz.func201 rfl rfl (by kernel_rfl) rfl ?_ ?_
 ·simp only [go_sem, ↓tfi, ↓fti, ↓reduceIte, Sd.cs, Nd.cs, zNd, zTy, Int.reduceEq, decide_true, decide_false]
 ·simp only [go_sem, ↓tfi, ↓fti, ↓reduceIte, Sd.cs, Nd.cs, zNd, zTy, Int.reduceEq, decide_true, decide_false]
  refine cvl ((hB m (.inl rfl)).mono ?_)
  clear hB
  rintro r H' m1 hm1 ⟨l1, rfl, rfl⟩
  simp only [go_sem, ↓tfi, ↓fti, ↓reduceIte, Sd.cs, Nd.cs, zNd, zTy, Int.reduceEq, decide_true, decide_false]
  refine ⟨fun b1 => cvl ((hA m1 l1).mono ?_), fun b1 => ?_⟩
  ·clear hA
   rintro r H' m2 hm2 ⟨l2', rfl, rfl⟩
   have lm2 := leM_tr l1 l2'
   simp only [go_sem, ↓tfi, ↓fti, ↓reduceIte, Sd.cs, Nd.cs, zNd, zTy, Int.reduceEq, decide_true, decide_false]
   refine cvl ((FnH_den (hX m2 lm2) (fun V => rfl)).mono ?_)
   clear hX
   rintro r H' w1 hw1 ⟨lw1, rfl, rfl⟩
   simp only [go_sem, ↓tfi, ↓fti, ↓reduceIte, Sd.cs, Nd.cs, zNd, zTy, Int.reduceEq, decide_true, decide_false]
   refine ⟨fun c1 => ?_, fun c1 => ?_⟩
   ·refine cvl ((FnH_den (hQ w1 (leM_tr lm2 lw1)) (fun V => rfl)).mono ?_)
    clear hQ
    rintro r H' w2 hw2 ⟨lw2, rfl, rfl⟩
    simp only [go_sem, ↓tfi, ↓fti, ↓reduceIte, Sd.cs, Nd.cs, zNd, zTy, Int.reduceEq, decide_true, decide_false]
    refine ⟨leM_tr (leM_tr lm2 lw1) lw2, ?_⟩
    rw [e0, c1]
    rfl
   ·refine ⟨(leM_tr lm2 lw1), ?_⟩
    rw [e0, c1]
    rfl
  ·clear hA
   refine cvl ((FnH_den (hX m1 l1) (fun V => rfl)).mono ?_)
   clear hX
   rintro r H' w3 hw3 ⟨lw3, rfl, rfl⟩
   simp only [go_sem, ↓tfi, ↓fti, ↓reduceIte, Sd.cs, Nd.cs, zNd, zTy, Int.reduceEq, decide_true, decide_false]
   refine ⟨fun c3 => ?_, fun c3 => ?_⟩
   ·refine cvl ((FnH_den (hQ w3 (leM_tr l1 lw3)) (fun V => rfl)).mono ?_)
    clear hQ
    rintro r H' w4 hw4 ⟨lw4, rfl, rfl⟩
    simp only [go_sem, ↓tfi, ↓fti, ↓reduceIte, Sd.cs, Nd.cs, zNd, zTy, Int.reduceEq, decide_true, decide_false]
    refine ⟨leM_tr (leM_tr l1 lw3) lw4, ?_⟩
    rw [e0, c3]
    rfl
   ·refine ⟨(leM_tr l1 lw3), ?_⟩
    rw [e0, c3]
    rfl
theorem vst8 (nm : List UInt8) (ty : Ty) (tN eN : Nd) (a : Option Addr) (l cp : Nat) (b : Option Addr) (l2 cp2 : Nat) (tg ex : Ex) (body alt : List St) (xs ys : List Value) (m : Mem) (hg : Glob m)
  (htg : exRep m tg tN.cs) (hex : exRep m ex eN.cs) (hl : l = body.length) (hcp : l ≤ cp) (hl2 : l2 = alt.length) (hcp2 : l2 ≤ cp2) (hok : StOk 8 nm ty body.length alt.length) (r1 : Rds m a l 23 xs) (r2 : Rds m b l2 23 ys) (s1 : stsRep m body xs) (s2 : stsRep m alt ys) (B1 B2 B V : Bool)
  (hB : ∀ m', leM m m' → Ans 142 [.v (.slice a l cp), .v (.bool false)] m' (.bool B1)) (hA : ∀ m', leM m m' → Ans 142 [.v (.slice b l2 cp2), .v (.bool false)] m' (.bool B2)) (hBB : B = (B1 && B2))
  (e0 : V = ((B && identL nm && valueTy ty.dim ty.base ty.name) && eqS (St.mk 8 nm ty tg ex body alt) (St.mk 8 nm ty zE zE body alt))) : Ans 201 [.v (.agg ⟨Sd.cs ⟨8, nm, ty, tN, eN, a, l, cp, b, l2, cp2⟩⟩)] m (.bool V) := by
 have hQ : ∀ m', leM m m' → Ans 236 [.v (.agg ⟨Sd.cs ⟨8, nm, ty, tN, eN, a, l, cp, b, l2, cp2⟩⟩), .v (.agg ⟨Sd.cs ⟨8, nm, ty, zNd, zNd, a, l, cp, b, l2, cp2⟩⟩)] m' (.bool (eqS (St.mk 8 nm ty tg ex body alt) (St.mk 8 nm ty zE zE body alt))) := fun m' hle =>
  eqS_all _ _ _ _ _ m' (Nnr _) (st_mk (m := m') (⟨8, nm, ty, tN, eN, a, l, cp, b, l2, cp2⟩ : Sd) (exRep_upM hle htg) (exRep_upM hle hex) hl hcp hl2 hcp2 hok (Rds_upM hle r1) (Rds_upM hle r2) (stsRep_upM hle s1) (stsRep_upM hle s2))
   (st_mk (m := m') (⟨8, nm, ty, zNd, zNd, a, l, cp, b, l2, cp2⟩ : Sd) z_rep z_rep hl hcp hl2 hcp2 ⟨hok.k, hok.nm, hok.ty, hok.l, hok.l2⟩ (Rds_upM hle r1) (Rds_upM hle r2) (stsRep_upM hle s1) (stsRep_upM hle s2) )
 have hBL1 : BL nm := Nat.le_trans hok.nm (by decide)
 have hBL2 : BL ty.name := Nat.le_trans hok.ty.2.2 (by decide)
 clear s1 s2 r1 r2
 refine enter cfV puV Tryz.func201 rfl rfl (by kernel_rfl) rfl ?_ ?_
 ·simp only [go_sem, ↓tfi, ↓fti, ↓reduceIte, Sd.cs, Nd.cs, zNd, zTy, Int.reduceEq, decide_true, decide_false]
 ·simp only [go_sem, ↓tfi, ↓fti, ↓reduceIte, Sd.cs, Nd.cs, zNd, zTy, Int.reduceEq, decide_true, decide_false]
  refine cvl ((hB m (.inl rfl)).mono ?_)
  clear hB
  rintro r H' m1 hm1 ⟨l1, rfl, rfl⟩
  simp only [go_sem, ↓tfi, ↓fti, ↓reduceIte, Sd.cs, Nd.cs, zNd, zTy, Int.reduceEq, decide_true, decide_false]
  refine ⟨fun b1 => cvl ((hA m1 l1).mono ?_), fun b1 => ?_⟩
  ·clear hA
   rintro r H' m2 hm2 ⟨l2', rfl, rfl⟩
   have lm2 := leM_tr l1 l2'
   simp only [go_sem, ↓tfi, ↓fti, ↓reduceIte, Sd.cs, Nd.cs, zNd, zTy, Int.reduceEq, decide_true, decide_false]
   refine ⟨fun _ => hBL1, fun _ => hBL2, fun c => ?_, fun c => ?_⟩
   ·refine cvl ((FnH_den (hQ m2 lm2) (fun V => rfl)).mono ?_)
    clear hQ
    rintro r H' w1 hw1 ⟨lw1, rfl, rfl⟩
    simp only [go_sem, ↓tfi, ↓fti, ↓reduceIte, Sd.cs, Nd.cs, zNd, zTy, Int.reduceEq, decide_true, decide_false]
    refine ⟨leM_tr lm2 lw1, ?_⟩
    rw [e0, hBB, b1, c.1.1, c.1.2, c.2]
    rfl
   ·refine ⟨lm2, ?_⟩
    rw [e0, hBB, b1]
    rcases c with (c | c) | c <;> simp [c]
  ·clear hA
   refine ⟨l1, ?_⟩
   rw [e0, hBB, b1]
   rfl
theorem vst9 (nm : List UInt8) (ty : Ty) (tN eN : Nd) (a : Option Addr) (l cp : Nat) (b : Option Addr) (l2 cp2 : Nat) (tg ex : Ex) (body alt : List St) (xs ys : List Value) (m : Mem) (hg : Glob m)
  (htg : exRep m tg tN.cs) (hex : exRep m ex eN.cs) (hl : l = body.length) (hcp : l ≤ cp) (hl2 : l2 = alt.length) (hcp2 : l2 ≤ cp2) (hok : StOk 9 nm ty body.length alt.length) (r1 : Rds m a l 23 xs) (r2 : Rds m b l2 23 ys) (s1 : stsRep m body xs) (s2 : stsRep m alt ys) (B1 B2 B V : Bool)
  (hB : ∀ m', leM m m' → Ans 142 [.v (.slice a l cp), .v (.bool false)] m' (.bool B1)) (hA : ∀ m', leM m m' → Ans 142 [.v (.slice b l2 cp2), .v (.bool false)] m' (.bool B2)) (hBB : B = (B1 && B2))
  (e0 : V = ((B && validE ex) && eqS (St.mk 9 nm ty tg ex body alt) (St.mk 9 [] zTy zE ex body []))) : Ans 201 [.v (.agg ⟨Sd.cs ⟨9, nm, ty, tN, eN, a, l, cp, b, l2, cp2⟩⟩)] m (.bool V) := by
 have hQ : ∀ m', leM m m' → Ans 236 [.v (.agg ⟨Sd.cs ⟨9, nm, ty, tN, eN, a, l, cp, b, l2, cp2⟩⟩), .v (.agg ⟨Sd.cs ⟨9, [], zTy, zNd, eN, a, l, cp, none, 0, 0⟩⟩)] m' (.bool (eqS (St.mk 9 nm ty tg ex body alt) (St.mk 9 [] zTy zE ex body []))) := fun m' hle =>
  eqS_all _ _ _ _ _ m' (Nnr _) (st_mk (m := m') (⟨9, nm, ty, tN, eN, a, l, cp, b, l2, cp2⟩ : Sd) (exRep_upM hle htg) (exRep_upM hle hex) hl hcp hl2 hcp2 hok (Rds_upM hle r1) (Rds_upM hle r2) (stsRep_upM hle s1) (stsRep_upM hle s2))
   (st_mk (m := m') (⟨9, [], zTy, zNd, eN, a, l, cp, none, 0, 0⟩ : Sd) z_rep (exRep_upM hle hex) hl hcp rfl (Nnr _) ⟨hok.k, Nat.zero_le _, z_ok, hok.l, Nat.zero_le _⟩ (Rds_upM hle r1) Rds_nil (stsRep_upM hle s1) sts_nil )
 have hX := fun m' (hle : leM m m') => valid_all _ ex eN.cs m' (Nnr _) (hg.upM hle) (exRep_upM hle hex)
 clear s1 s2 r1 r2
 refine enter cfV puV Tryz.func201 rfl rfl (by kernel_rfl) rfl ?_ ?_
 ·simp only [go_sem, ↓tfi, ↓fti, ↓reduceIte, Sd.cs, Nd.cs, zNd, zTy, Int.reduceEq, decide_true, decide_false]
 ·simp only [go_sem, ↓tfi, ↓fti, ↓reduceIte, Sd.cs, Nd.cs, zNd, zTy, Int.reduceEq, decide_true, decide_false]
  refine cvl ((hB m (.inl rfl)).mono ?_)
  clear hB
  rintro r H' m1 hm1 ⟨l1, rfl, rfl⟩
  simp only [go_sem, ↓tfi, ↓fti, ↓reduceIte, Sd.cs, Nd.cs, zNd, zTy, Int.reduceEq, decide_true, decide_false]
  refine ⟨fun b1 => cvl ((hA m1 l1).mono ?_), fun b1 => ?_⟩
  ·clear hA
   rintro r H' m2 hm2 ⟨l2', rfl, rfl⟩
   have lm2 := leM_tr l1 l2'
   simp only [go_sem, ↓tfi, ↓fti, ↓reduceIte, Sd.cs, Nd.cs, zNd, zTy, Int.reduceEq, decide_true, decide_false]
   refine ⟨fun b2 => ?_, fun b2 => ?_⟩
   ·refine cvl ((FnH_den (hX m2 lm2) (fun V => rfl)).mono ?_)
    clear hX
    rintro r H' w1 hw1 ⟨lw1, rfl, rfl⟩
    simp only [go_sem, ↓tfi, ↓fti, ↓reduceIte, Sd.cs, Nd.cs, zNd, zTy, Int.reduceEq, decide_true, decide_false]
    refine ⟨fun c1 => ?_, fun c1 => ?_⟩
    ·refine cvl ((FnH_den (hQ w1 (leM_tr lm2 lw1)) (fun V => rfl)).mono ?_)
     clear hQ
     rintro r H' w2 hw2 ⟨lw2, rfl, rfl⟩
     simp only [go_sem, ↓tfi, ↓fti, ↓reduceIte, Sd.cs, Nd.cs, zNd, zTy, Int.reduceEq, decide_true, decide_false]
     refine ⟨leM_tr (leM_tr lm2 lw1) lw2, ?_⟩
     rw [e0, hBB, b1, b2, c1]
     rfl
    ·refine ⟨(leM_tr lm2 lw1), ?_⟩
     rw [e0, hBB, b1, b2, c1]
     rfl
   ·refine ⟨lm2, ?_⟩
    rw [e0, hBB, b1, b2]
    rfl
  ·clear hA
   refine ⟨l1, ?_⟩
   rw [e0, hBB, b1]
   rfl
theorem vst10 (nm : List UInt8) (ty : Ty) (tN eN : Nd) (a : Option Addr) (l cp : Nat) (b : Option Addr) (l2 cp2 : Nat) (tg ex : Ex) (body alt : List St) (xs ys : List Value) (m : Mem) (hg : Glob m)
  (htg : exRep m tg tN.cs) (hex : exRep m ex eN.cs) (hl : l = body.length) (hcp : l ≤ cp) (hl2 : l2 = alt.length) (hcp2 : l2 ≤ cp2) (hok : StOk 10 nm ty body.length alt.length) (r1 : Rds m a l 23 xs) (r2 : Rds m b l2 23 ys) (s1 : stsRep m body xs) (s2 : stsRep m alt ys) (B1 B2 B V : Bool)
  (hB : ∀ m', leM m m' → Ans 142 [.v (.slice a l cp), .v (.bool false)] m' (.bool B1)) (hA : ∀ m', leM m m' → Ans 142 [.v (.slice b l2 cp2), .v (.bool false)] m' (.bool B2)) (hBB : B = (B1 && B2))
  (e0 : V = (B && eqS (St.mk 10 nm ty tg ex body alt) (St.mk 10 [] zTy zE zE body []))) : Ans 201 [.v (.agg ⟨Sd.cs ⟨10, nm, ty, tN, eN, a, l, cp, b, l2, cp2⟩⟩)] m (.bool V) := by
 have hQ : ∀ m', leM m m' → Ans 236 [.v (.agg ⟨Sd.cs ⟨10, nm, ty, tN, eN, a, l, cp, b, l2, cp2⟩⟩), .v (.agg ⟨Sd.cs ⟨10, [], zTy, zNd, zNd, a, l, cp, none, 0, 0⟩⟩)] m' (.bool (eqS (St.mk 10 nm ty tg ex body alt) (St.mk 10 [] zTy zE zE body []))) := fun m' hle =>
  eqS_all _ _ _ _ _ m' (Nnr _) (st_mk (m := m') (⟨10, nm, ty, tN, eN, a, l, cp, b, l2, cp2⟩ : Sd) (exRep_upM hle htg) (exRep_upM hle hex) hl hcp hl2 hcp2 hok (Rds_upM hle r1) (Rds_upM hle r2) (stsRep_upM hle s1) (stsRep_upM hle s2))
   (st_mk (m := m') (⟨10, [], zTy, zNd, zNd, a, l, cp, none, 0, 0⟩ : Sd) z_rep z_rep hl hcp rfl (Nnr _) ⟨hok.k, Nat.zero_le _, z_ok, hok.l, Nat.zero_le _⟩ (Rds_upM hle r1) Rds_nil (stsRep_upM hle s1) sts_nil )
 clear s1 s2 r1 r2
 refine enter cfV puV Tryz.func201 rfl rfl (by kernel_rfl) rfl ?_ ?_
 ·simp only [go_sem, ↓tfi, ↓fti, ↓reduceIte, Sd.cs, Nd.cs, zNd, zTy, Int.reduceEq, decide_true, decide_false]
 ·simp only [go_sem, ↓tfi, ↓fti, ↓reduceIte, Sd.cs, Nd.cs, zNd, zTy, Int.reduceEq, decide_true, decide_false]
  refine cvl ((hB m (.inl rfl)).mono ?_)
  clear hB
  rintro r H' m1 hm1 ⟨l1, rfl, rfl⟩
  simp only [go_sem, ↓tfi, ↓fti, ↓reduceIte, Sd.cs, Nd.cs, zNd, zTy, Int.reduceEq, decide_true, decide_false]
  refine ⟨fun b1 => cvl ((hA m1 l1).mono ?_), fun b1 => ?_⟩
  ·clear hA
   rintro r H' m2 hm2 ⟨l2', rfl, rfl⟩
   have lm2 := leM_tr l1 l2'
   simp only [go_sem, ↓tfi, ↓fti, ↓reduceIte, Sd.cs, Nd.cs, zNd, zTy, Int.reduceEq, decide_true, decide_false]
   refine ⟨fun b2 => ?_, fun b2 => ?_⟩
   ·refine cvl ((FnH_den (hQ m2 lm2) (fun V => rfl)).mono ?_)
    clear hQ
    rintro r H' w1 hw1 ⟨lw1, rfl, rfl⟩
    simp only [go_sem, ↓tfi, ↓fti, ↓reduceIte, Sd.cs, Nd.cs, zNd, zTy, Int.reduceEq, decide_true, decide_false]
    refine ⟨leM_tr lm2 lw1, ?_⟩
    rw [e0, hBB, b1, b2]
    rfl
   ·refine ⟨lm2, ?_⟩
    rw [e0, hBB, b1, b2]
    rfl
  ·clear hA
   refine ⟨l1, ?_⟩
   rw [e0, hBB, b1]
   rfl
theorem vst11 (nm : List UInt8) (ty : Ty) (tN eN : Nd) (a : Option Addr) (l cp : Nat) (b : Option Addr) (l2 cp2 : Nat) (tg ex : Ex) (body alt : List St) (xs ys : List Value) (m : Mem) (hg : Glob m)
  (htg : exRep m tg tN.cs) (hex : exRep m ex eN.cs) (hl : l = body.length) (hcp : l ≤ cp) (hl2 : l2 = alt.length) (hcp2 : l2 ≤ cp2) (hok : StOk 11 nm ty body.length alt.length) (r1 : Rds m a l 23 xs) (r2 : Rds m b l2 23 ys) (s1 : stsRep m body xs) (s2 : stsRep m alt ys) (B1 B2 B V : Bool)
  (hB : ∀ m', leM m m' → Ans 142 [.v (.slice a l cp), .v (.bool false)] m' (.bool B1)) (hA : ∀ m', leM m m' → Ans 142 [.v (.slice b l2 cp2), .v (.bool false)] m' (.bool B2)) (hBB : B = (B1 && B2))
  (e0 : V = (superE ex && eqS (St.mk 11 nm ty tg ex body alt) (St.mk 11 [] zTy zE ex [] []))) : Ans 201 [.v (.agg ⟨Sd.cs ⟨11, nm, ty, tN, eN, a, l, cp, b, l2, cp2⟩⟩)] m (.bool V) := by
 have hQ : ∀ m', leM m m' → Ans 236 [.v (.agg ⟨Sd.cs ⟨11, nm, ty, tN, eN, a, l, cp, b, l2, cp2⟩⟩), .v (.agg ⟨Sd.cs ⟨11, [], zTy, zNd, eN, none, 0, 0, none, 0, 0⟩⟩)] m' (.bool (eqS (St.mk 11 nm ty tg ex body alt) (St.mk 11 [] zTy zE ex [] []))) := fun m' hle =>
  eqS_all _ _ _ _ _ m' (Nnr _) (st_mk (m := m') (⟨11, nm, ty, tN, eN, a, l, cp, b, l2, cp2⟩ : Sd) (exRep_upM hle htg) (exRep_upM hle hex) hl hcp hl2 hcp2 hok (Rds_upM hle r1) (Rds_upM hle r2) (stsRep_upM hle s1) (stsRep_upM hle s2))
   (st_mk (m := m') (⟨11, [], zTy, zNd, eN, none, 0, 0, none, 0, 0⟩ : Sd) z_rep (exRep_upM hle hex) rfl (Nnr _) rfl (Nnr _) ⟨hok.k, Nat.zero_le _, z_ok, Nat.zero_le _, Nat.zero_le _⟩ Rds_nil Rds_nil sts_nil sts_nil )
 have hX := fun m' (hle : leM m m') => super_spec ex eN.cs m' (hg.upM hle) (exRep_upM hle hex)
 clear s1 s2 r1 r2
 refine enter cfV puV Tryz.func201 rfl rfl (by kernel_rfl) rfl ?_ ?_
 ·simp only [go_sem, ↓tfi, ↓fti, ↓reduceIte, Sd.cs, Nd.cs, zNd, zTy, Int.reduceEq, decide_true, decide_false]
 ·simp only [go_sem, ↓tfi, ↓fti, ↓reduceIte, Sd.cs, Nd.cs, zNd, zTy, Int.reduceEq, decide_true, decide_false]
  refine cvl ((hB m (.inl rfl)).mono ?_)
  clear hB
  rintro r H' m1 hm1 ⟨l1, rfl, rfl⟩
  simp only [go_sem, ↓tfi, ↓fti, ↓reduceIte, Sd.cs, Nd.cs, zNd, zTy, Int.reduceEq, decide_true, decide_false]
  refine ⟨fun b1 => cvl ((hA m1 l1).mono ?_), fun b1 => ?_⟩
  ·clear hA
   rintro r H' m2 hm2 ⟨l2', rfl, rfl⟩
   have lm2 := leM_tr l1 l2'
   simp only [go_sem, ↓tfi, ↓fti, ↓reduceIte, Sd.cs, Nd.cs, zNd, zTy, Int.reduceEq, decide_true, decide_false]
   refine cvl ((FnH_den (hX m2 lm2) (fun V => rfl)).mono ?_)
   clear hX
   rintro r H' w1 hw1 ⟨lw1, rfl, rfl⟩
   simp only [go_sem, ↓tfi, ↓fti, ↓reduceIte, Sd.cs, Nd.cs, zNd, zTy, Int.reduceEq, decide_true, decide_false]
   refine ⟨fun c1 => ?_, fun c1 => ?_⟩
   ·refine cvl ((FnH_den (hQ w1 (leM_tr lm2 lw1)) (fun V => rfl)).mono ?_)
    clear hQ
    rintro r H' w2 hw2 ⟨lw2, rfl, rfl⟩
    simp only [go_sem, ↓tfi, ↓fti, ↓reduceIte, Sd.cs, Nd.cs, zNd, zTy, Int.reduceEq, decide_true, decide_false]
    refine ⟨leM_tr (leM_tr lm2 lw1) lw2, ?_⟩
    rw [e0, c1]
    rfl
   ·refine ⟨(leM_tr lm2 lw1), ?_⟩
    rw [e0, c1]
    rfl
  ·clear hA
   refine cvl ((FnH_den (hX m1 l1) (fun V => rfl)).mono ?_)
   clear hX
   rintro r H' w3 hw3 ⟨lw3, rfl, rfl⟩
   simp only [go_sem, ↓tfi, ↓fti, ↓reduceIte, Sd.cs, Nd.cs, zNd, zTy, Int.reduceEq, decide_true, decide_false]
   refine ⟨fun c3 => ?_, fun c3 => ?_⟩
   ·refine cvl ((FnH_den (hQ w3 (leM_tr l1 lw3)) (fun V => rfl)).mono ?_)
    clear hQ
    rintro r H' w4 hw4 ⟨lw4, rfl, rfl⟩
    simp only [go_sem, ↓tfi, ↓fti, ↓reduceIte, Sd.cs, Nd.cs, zNd, zTy, Int.reduceEq, decide_true, decide_false]
    refine ⟨leM_tr (leM_tr l1 lw3) lw4, ?_⟩
    rw [e0, c3]
    rfl
   ·refine ⟨(leM_tr l1 lw3), ?_⟩
    rw [e0, c3]
    rfl
theorem vst0 (k : Int) (nm : List UInt8) (ty : Ty) (tN eN : Nd) (a : Option Addr) (l cp : Nat) (b : Option Addr) (l2 cp2 : Nat) (m : Mem) (B1 B2 : Bool) (e : ∀ j : Int, 1 ≤ j → j ≤ 11 → (k = j) = False)
  (hB : ∀ m', leM m m' → Ans 142 [.v (.slice a l cp), .v (.bool false)] m' (.bool B1)) (hA : ∀ m', leM m m' → Ans 142 [.v (.slice b l2 cp2), .v (.bool false)] m' (.bool B2)) :
  Ans 201 [.v (.agg ⟨Sd.cs ⟨k, nm, ty, tN, eN, a, l, cp, b, l2, cp2⟩⟩)] m (.bool false) := by
 have e1 := e 1 (by decide) (by decide)
 have e2 := e 2 (by decide) (by decide)
 have e3 := e 3 (by decide) (by decide)
 have e4 := e 4 (by decide) (by decide)
 have e5 := e 5 (by decide) (by decide)
 have e6 := e 6 (by decide) (by decide)
 have e7 := e 7 (by decide) (by decide)
 have e8 := e 8 (by decide) (by decide)
 have e9 := e 9 (by decide) (by decide)
 have e10 := e 10 (by decide) (by decide)
 have e11 := e 11 (by decide) (by decide)
 refine enter cfV puV Tryz.func201 rfl rfl (by kernel_rfl) rfl ?_ ?_
 ·simp only [go_sem, ↓tfi, ↓fti, ↓reduceIte, Sd.cs, Nd.cs]
 ·simp only [go_sem, ↓tfi, ↓fti, ↓reduceIte, Sd.cs, Nd.cs]
  refine cvl ((hB m (.inl rfl)).mono ?_)
  clear hB
  rintro r H' m1 hm1 ⟨l1, rfl, rfl⟩
  simp only [go_sem, ↓tfi, ↓fti, ↓reduceIte, Sd.cs, Nd.cs, e1, e2, e3, e4, e5, e6, e7, e8, e9, e10, e11, decide_false]
  refine ⟨fun b1 => cvl ((hA m1 l1).mono ?_), fun b1 => l1⟩
  clear hA
  rintro r H' m2 hm2 ⟨l2', rfl, rfl⟩
  simp only [go_sem, ↓tfi, ↓fti, ↓reduceIte, Sd.cs, Nd.cs, e1, e2, e3, e4, e5, e6, e7, e8, e9, e10, e11, decide_false]
  exact leM_tr l1 l2'
theorem kinds_or {k : Int} : (k = 1 ∨ k = 2 ∨ k = 3 ∨ k = 4 ∨ k = 5 ∨ k = 6 ∨ k = 7 ∨ k = 8 ∨ k = 9 ∨ k = 10 ∨ k = 11) ∨ ∀ j : Int, 1 ≤ j → j ≤ 11 → (k = j) = False := by
 by_cases h : 1 ≤ k ∧ k ≤ 11
 ·left; omega
 ·right; intro j h1 h2; exact eq_false fun e => h (by omega)
theorem validS_all : ∀ (h : Nat) (e : St) (cs : List Value) (m : Mem), depthS e ≤ h → Glob m → stRep m e cs → Ans 201 [.v (.agg ⟨cs⟩)] m (.bool (validS e))
 | 0, .mk k nm ty tg ex body alt, cs, m, hd, _, _ => by simp [depthS] at hd
 | h + 1, .mk k nm ty tg ex body alt, cs, m, hd, hg, he => by
  obtain ⟨⟨k, nm, ty, tN, eN, a, l, cp, b, l2, cp2⟩, rfl, rfl, rfl, rfl, htg, hex, hl, hcp, hl2, hcp2, hok, xs, ys, r1, r2, s1, s2⟩ := st_parts he
  simp only [depthS] at hd
  simp only at htg hex hl hcp hl2 hcp2 hok r1 r2
  have hB := fun m' (hle : leM m m') => block_spec false body a l cp xs m' hl (Rds_upM hle r1) (stsRep_upM hle s1) (by rw [hl]; exact hok.l) fun e he cs m2 hle2 hrep => validS_all h e cs m2 (by have := depthSs_mem he; omega) (hg.upM (leM_tr hle hle2)) hrep
  have hA := fun m' (hle : leM m m') => block_spec false alt b l2 cp2 ys m' hl2 (Rds_upM hle r2) (stsRep_upM hle s2) (by rw [hl2]; exact hok.l2) fun e he cs m2 hle2 hrep => validS_all h e cs m2 (by have := depthSs_mem he; omega) (hg.upM (leM_tr hle hle2)) hrep
  simp only
  rcases kinds_or (k := k) with hk | hk
  ·rcases hk with rfl | rfl | rfl | rfl | rfl | rfl | rfl | rfl | rfl | rfl | rfl
   ·exact vst1 nm ty tN eN a l cp b l2 cp2 tg ex body alt xs ys m hg htg hex hl hcp hl2 hcp2 hok r1 r2 s1 s2 _ _ _ _ hB hA rfl (by simp only [validS, okStm, usedS, Int.reduceEq, or_false, or_true, false_or, true_or, if_true, if_false])
   ·exact vst2 nm ty tN eN a l cp b l2 cp2 tg ex body alt xs ys m hg htg hex hl hcp hl2 hcp2 hok r1 r2 s1 s2 _ _ _ _ hB hA rfl (by simp only [validS, okStm, usedS, Int.reduceEq, or_false, or_true, false_or, true_or, if_true, if_false])
   ·exact vst3 nm ty tN eN a l cp b l2 cp2 tg ex body alt xs ys m hg htg hex hl hcp hl2 hcp2 hok r1 r2 s1 s2 _ _ _ _ hB hA rfl (by simp only [validS, okStm, usedS, Int.reduceEq, or_false, or_true, false_or, true_or, if_true, if_false])
   ·exact vst4 nm ty tN eN a l cp b l2 cp2 tg ex body alt xs ys m hg htg hex hl hcp hl2 hcp2 hok r1 r2 s1 s2 _ _ _ _ hB hA rfl (by simp only [validS, okStm, usedS, Int.reduceEq, or_false, or_true, false_or, true_or, if_true, if_false])
   ·exact vst5 nm ty tN eN a l cp b l2 cp2 tg ex body alt xs ys m hg htg hex hl hcp hl2 hcp2 hok r1 r2 s1 s2 _ _ _ _ hB hA rfl (by simp only [validS, okStm, usedS, Int.reduceEq, or_false, or_true, false_or, true_or, if_true, if_false])
   ·exact vst6 nm ty tN eN a l cp b l2 cp2 tg ex body alt xs ys m hg htg hex hl hcp hl2 hcp2 hok r1 r2 s1 s2 _ _ _ _ hB hA rfl (by simp only [validS, okStm, usedS, Int.reduceEq, or_false, or_true, false_or, true_or, if_true, if_false])
   ·exact vst7 nm ty tN eN a l cp b l2 cp2 tg ex body alt xs ys m hg htg hex hl hcp hl2 hcp2 hok r1 r2 s1 s2 _ _ _ _ hB hA rfl (by simp only [validS, okStm, usedS, Int.reduceEq, or_false, or_true, false_or, true_or, if_true, if_false])
   ·exact vst8 nm ty tN eN a l cp b l2 cp2 tg ex body alt xs ys m hg htg hex hl hcp hl2 hcp2 hok r1 r2 s1 s2 _ _ _ _ hB hA rfl (by simp only [validS, okStm, usedS, Int.reduceEq, or_false, or_true, false_or, true_or, if_true, if_false])
   ·exact vst9 nm ty tN eN a l cp b l2 cp2 tg ex body alt xs ys m hg htg hex hl hcp hl2 hcp2 hok r1 r2 s1 s2 _ _ _ _ hB hA rfl (by simp only [validS, okStm, usedS, Int.reduceEq, or_false, or_true, false_or, true_or, if_true, if_false])
   ·exact vst10 nm ty tN eN a l cp b l2 cp2 tg ex body alt xs ys m hg htg hex hl hcp hl2 hcp2 hok r1 r2 s1 s2 _ _ _ _ hB hA rfl (by simp only [validS, okStm, usedS, Int.reduceEq, or_false, or_true, false_or, true_or, if_true, if_false])
   ·exact vst11 nm ty tN eN a l cp b l2 cp2 tg ex body alt xs ys m hg htg hex hl hcp hl2 hcp2 hok r1 r2 s1 s2 _ _ _ _ hB hA rfl (by simp only [validS, okStm, usedS, Int.reduceEq, or_false, or_true, false_or, true_or, if_true, if_false])
  ·have hv := vst0 k nm ty tN eN a l cp b l2 cp2 m _ _ hk hB hA
   have : validS (.mk k nm ty tg ex body alt) = false := by
    have e : ∀ j : Int, 1 ≤ j → j ≤ 11 → ¬ k = j := fun j h1 h2 h3 => by have := hk j h1 h2; rw [this] at h3; exact h3
    simp only [validS, okStm, hk 1 (by decide) (by decide), hk 2 (by decide) (by decide), hk 3 (by decide) (by decide), hk 4 (by decide) (by decide), hk 5 (by decide) (by decide), hk 6 (by decide) (by decide), hk 7 (by decide) (by decide), hk 8 (by decide) (by decide), hk 9 (by decide) (by decide), hk 10 (by decide) (by decide), hk 11 (by decide) (by decide), or_false, if_false, Bool.false_and]
   rw [this]
   exact hv
theorem block_all (sup : Bool) (l : List St) (a : Option Addr) (n c : Nat) (xs : List Value) (m : Mem) (hg : Glob m) (hl : n = l.length) (hr : Rds m a n 23 xs) (hs : stsRep m l xs) (hn : n ≤ big) :
  Ans 142 [.v (.slice a n c), .v (.bool sup)] m (.bool (blockL sup l)) :=
 block_spec sup l a n c xs m hl hr hs hn fun e _ cs m' hle hrep => validS_all _ e cs m' (Nnr _) (hg.upM hle) hrep
def hasB (fl m : Int) : Bool := !decide (bits .and .i64 fl m = 0)
def visL (fl : Int) : Bool := decide (bits .and .i64 fl 7 = 0) || decide (bits .and .i64 fl 7 = 1) || decide (bits .and .i64 fl 7 = 2) || decide (bits .and .i64 fl 7 = 4)
def onlyL (fl al : Int) : Bool := decide (bits .andNot .i64 fl al = 0)
def mflagsL (fl : Int) : Bool := visL fl && onlyL fl 1087 && !(hasB fl 1024 && hasB fl 58) && (!hasB fl 32 || !hasB fl 8)
def fieldL (f : Fc) : Bool := valueTy f.ty.dim f.ty.base f.ty.name && identL f.name && visL f.fl && onlyL f.fl 31
def paramL (p : Pc) : Bool := valueTy p.ty.dim p.ty.base p.ty.name && identL p.name
def voidTy (t : Ty) : Bool := decide (t.dim = 0) && (decide (t.base = 86) && decide (t.name = []))
def mHead (m : Md) : Bool := if m.name = initS then voidTy m.res && m.hb && onlyL m.fl 7 else identL m.name && (voidTy m.res || valueTy m.res.dim m.res.base m.res.name)
def mMid (m : Md) : Bool := mflagsL m.fl && !(m.hb == hasB m.fl 1024) && (m.hb || decide (m.body.length = 0)) && decide (m.params.length ≤ 16)
def methodL (m : Md) : Bool := mHead m && mMid m && !(m.params.any fun p => !paramL p) && blockL (decide (m.name = initS)) m.body
def objS : List UInt8 := [108, 97, 110, 103, 47, 79, 98, 106, 101, 99, 116]
def badM (m : Md) : Bool := !decide (m.fl = 1) && !decide (m.fl = 1025) || decide (m.name = initS)
def ifaceL (d : Cd) : Bool := onlyL d.fl 1537 && hasB d.fl 1024 && decide (d.super = objS) && decide (d.fields.length + d.init.length = 0) && !(d.methods.any badM)
def cHead (d : Cd) : Bool := if hasB d.fl 512 = true then ifaceL d else onlyL d.fl 1041 && !(hasB d.fl 16 && hasB d.fl 1024)
def cNames (d : Cd) : Bool := isCls d.name && isCls d.super && decide (d.ifs.length ≤ 8)
def cLens (d : Cd) : Bool := decide (d.fields.length ≤ 64) && decide (d.methods.length ≤ 64)
def classL (d : Cd) : Bool := cHead d && (cNames d && !(d.ifs.any fun s => !isCls s) && cLens d && !(d.fields.any fun f => !fieldL f) && !(d.methods.any fun f => !methodL f) && blockL false d.init)
def pI1 (F : Int → Bool) : List Value → Option (Prop × Value)
 | [.int .i64 c] => some (True, .bool (F c))
 | _ => none
theorem pureI1 {P : Program} {f : FuncId} {F : Int → Bool} (h : ∀ c m, FnH P f [.v (.int .i64 c)] ⟨[], []⟩ m fun r H' _ => r = .v (.bool (F c)) ∧ H' = ⟨[], []⟩) : Pure0 P f (pI1 F) := fun vals y hy _ m => by
 unfold pI1 at hy
 split at hy
 ·cases hy; exact h _ m
 ·cases hy
def pI2 (F : Int → Int → Bool) : List Value → Option (Prop × Value)
 | [.int .i64 c, .int .i64 d] => some (True, .bool (F c d))
 | _ => none
theorem pureI2 {P : Program} {f : FuncId} {F : Int → Int → Bool} (h : ∀ c d m, FnH P f [.v (.int .i64 c), .v (.int .i64 d)] ⟨[], []⟩ m fun r H' _ => r = .v (.bool (F c d)) ∧ H' = ⟨[], []⟩) : Pure0 P f (pI2 F) := fun vals y hy _ m => by
 unfold pI2 at hy
 split at hy
 ·cases hy; exact h _ _ m
 ·cases hy
attribute [go_sem] pI1 pI2
theorem vis_spec (fl : Int) (m : Mem) : FnH Tryz.prog 194 [.v (.int .i64 fl)] ⟨[], []⟩ m fun r H' _ => r = .v (.bool (visL fl)) ∧ H' = ⟨[], []⟩ := by
 refine enter cfN puN Tryz.func194 rfl rfl (by kernel_rfl) rfl ?_ ?_
 ·simp only [go_sem, ↓tfi, ↓fti, ↓reduceIte]
 ·simp only [go_sem, ↓tfi, ↓fti, ↓reduceIte]
  refine ⟨fun a => ⟨fun _ => by simp [visL, a], fun n => absurd a n⟩, fun a => ⟨fun b => ⟨fun _ => by simp [visL, b], fun n => absurd b n⟩, fun b => ⟨fun c => ⟨fun _ => by simp [visL, c], fun n => absurd c n⟩, fun c => ⟨fun d => by simp [visL, d], fun d => by simp [visL, a, b, c, d]⟩⟩⟩⟩
theorem only_spec (fl al : Int) (m : Mem) : FnH Tryz.prog 132 [.v (.int .i64 fl), .v (.int .i64 al)] ⟨[], []⟩ m fun r H' _ => r = .v (.bool (onlyL fl al)) ∧ H' = ⟨[], []⟩ := by
 refine enter cfN puN Tryz.func132 rfl rfl (by kernel_rfl) rfl ?_ ?_
 ·simp only [go_sem, ↓tfi, ↓fti, ↓reduceIte]
 ·simp only [go_sem, ↓tfi, ↓fti, ↓reduceIte]
  rfl
abbrev cfF : Cfg := mkCf (fun _ => false) [(194, pI1 visL), (132, pI2 onlyL), (155, pS1 BL fun s => .bool (identL s)), (157, pTy valueTy), (134, pS1 BL fun s => .bool (isCls s))]
theorem puF : PureOk cfF Tryz.prog := pure_cons (by kernel_rfl) (pureI1 vis_spec) (pure_cons (by kernel_rfl) (pureI2 only_spec) (pure_cons (by kernel_rfl) (pureS ident_spec) (pure_cons (by kernel_rfl) (pureTy value_spec) (pure_cons (by kernel_rfl) (pureS isCls_spec) pure_nil))))
theorem mflags_spec (fl : Int) (m : Mem) : FnH Tryz.prog 195 [.v (.int .i64 fl)] ⟨[], []⟩ m fun r H' _ => r = .v (.bool (mflagsL fl)) ∧ H' = ⟨[], []⟩ := by
 refine enter cfF puF Tryz.func195 rfl rfl (by kernel_rfl) rfl ?_ ?_
 ·simp only [go_sem, ↓tfi, ↓fti, ↓reduceIte]
 ·simp only [go_sem, ↓tfi, ↓fti, ↓reduceIte]
  refine ⟨fun h => ?_, fun h => ⟨fun g => ?_, fun g => ?_⟩⟩
  ·rcases h with h | h <;> simp [mflagsL, h]
  ·simp [mflagsL, hasB, g.1, g.2]
  ·rcases g with g | g <;> simp [mflagsL, hasB, h.1, h.2, g]
theorem field_spec (f : Fc) (m : Mem) (h : FcOk f) : Ans 136 [.v (.agg ⟨f.cs⟩)] m (.bool (fieldL f)) := by
 have h1 : BL f.name := Nat.le_trans h.name (by decide)
 have h2 : BL f.ty.name := Nat.le_trans h.ty.2.2 (by decide)
 refine enter cfF puF Tryz.func136 rfl rfl (by kernel_rfl) rfl ?_ ?_
 ·simp only [go_sem, ↓tfi, ↓fti, ↓reduceIte, Fc.cs]
 ·simp only [go_sem, ↓tfi, ↓fti, ↓reduceIte, Fc.cs]
  exact ⟨h2, fun _ => h1, rfl⟩
theorem badF_spec (f : Fc) (m : Mem) (h : FcOk f) : Ans 135 [.v (.agg ⟨f.cs⟩)] m (.bool (!fieldL f)) := by
 have hF := field_spec f m h
 refine enter cfF puF Tryz.func135 rfl rfl (by kernel_rfl) rfl ?_ ?_
 ·simp only [go_sem, ↓tfi, ↓fti, ↓reduceIte, Fc.cs]
 ·simp only [go_sem, ↓tfi, ↓fti, ↓reduceIte, Fc.cs]
  refine cvl ((FnH_den hF (fun V => rfl)).mono ?_)
  rintro r H' m2 hm2 ⟨hle2, rfl, rfl⟩
  simp only [go_sem, ↓tfi, ↓fti, ↓reduceIte]
  exact hle2
theorem badS_spec (s : List UInt8) (m : Mem) (h : BL s) : Ans 133 [.v (.string (bs s))] m (.bool (!isCls s)) := by
 refine enter cfF puF Tryz.func133 rfl rfl (by kernel_rfl) rfl ?_ ?_
 ·simp only [go_sem, ↓tfi, ↓fti, ↓reduceIte]
 ·simp only [go_sem, ↓tfi, ↓fti, ↓reduceIte]
  exact h
theorem badP_spec (f : Pc) (m : Mem) (h : PcOk f) : Ans 196 [.v (.agg ⟨f.cs⟩)] m (.bool (!paramL f)) := by
 have h1 : BL f.name := Nat.le_trans h.name (by decide)
 have h2 : BL f.ty.name := Nat.le_trans h.ty.2.2 (by decide)
 refine enter cfF puF Tryz.func196 rfl rfl (by kernel_rfl) rfl ?_ ?_
 ·simp only [go_sem, ↓tfi, ↓fti, ↓reduceIte, Pc.cs]
 ·simp only [go_sem, ↓tfi, ↓fti, ↓reduceIte, Pc.cs]
  exact ⟨h2, fun _ => h1, by rw [paramL, Bool.not_and]⟩
theorem badI_spec (x : Mc) (m : Mem) : Ans 191 [.v (.agg ⟨x.cs⟩)] m (.bool (!decide (x.fl = 1) && !decide (x.fl = 1025) || decide (x.name = initS))) := by
 refine enter cfF puF Tryz.func191 rfl rfl (by kernel_rfl) rfl ?_ ?_
 ·simp only [go_sem, ↓tfi, ↓fti, ↓reduceIte, Mc.cs]
 ·simp only [go_sem, ↓tfi, ↓fti, ↓reduceIte, Mc.cs]
  rfl
theorem any_of {α : Type} {p : α → Bool} {l : List α} {n : Nat} (hn : n = l.length) {B : Nat → Bool} (h : ∀ i (hi : i < l.length), B i = p l[i]) : anyB n B = l.any p := by
 subst hn; exact anyB_list p l B h
def atP {α : Type} (p : α → Bool) (l : List α) (i : Nat) : Bool := match l[i]? with | some a => p a | none => false
theorem atP_at {α : Type} {p : α → Bool} {l : List α} {i : Nat} (h : i < l.length) : atP p l i = p l[i] := by simp only [atP, List.getElem?_eq_getElem h]
theorem md_parts {m : Mem} {d : Md} {cs : List Value} (h : mdRep m d cs) : ∃ x : Mc, (cs = x.cs ∧ x.fl = d.fl ∧ x.res = d.res ∧ x.name = d.name ∧ x.hb = d.hb) ∧ (x.pl = d.params.length ∧ x.pl ≤ x.pc ∧ x.l = d.body.length ∧ x.l ≤ x.cp) ∧ MdOk d ∧ Rds m x.pa x.pl 4 (flat Pc.cs d.params) ∧ ∃ xs, Rds m x.a x.l 23 xs ∧ stsRep m d.body xs := h
theorem method_spec (d : Md) (cs : List Value) (m : Mem) (hg : Glob m) (h : mdRep m d cs) : Ans 138 [.v (.agg ⟨cs⟩)] m (.bool (methodL d)) := by
 obtain ⟨fl, res, name, params, hb, body⟩ := d
 obtain ⟨x, ⟨rfl, rfl, rfl, rfl, rfl⟩, ⟨hpl, hpc, hl, hcp⟩, hok, r1, xs, r2, s2⟩ := h
 simp only at hpl hl r1 s2
 have h1 : BL x.name := Nat.le_trans hok.name (by decide)
 have h2 : BL x.res.name := Nat.le_trans hok.res.2.2 (by decide)
 have hP : ∀ m', leM m m' → Ans 197 [.v (.slice x.pa x.pl x.pc), .v (.func (.func 196) ⟨[]⟩ ⟨[]⟩)] m' (.bool (params.any fun p => !paramL p)) := fun m' hle => by
  have := ctfPc 196 (atP (fun p => !paramL p) params) x.pa x.pl x.pc _ m' (Rds_upM hle r1) (by rw [hpl]; exact hok.pl) (by kernel_rfl) fun i hi => ⟨params[i]'(by omega), flat_at (f := Pc.cs) (sz := 4) (fun _ => rfl) (by omega), fun m2 _ => by
   rw [atP_at (by omega)]; exact badP_spec _ m2 (hok.ps _ (List.getElem_mem _))⟩
  rw [any_of hpl (p := fun p => !paramL p) fun i hi => atP_at hi] at this
  exact this
 have hB := fun m' (hle : leM m m') => block_all (decide (x.name = initS)) body x.a x.l x.cp xs m' (hg.upM hle) hl (Rds_upM hle r2) (stsRep_upM hle s2) (by rw [hl]; exact hok.l)
 clear s2
 refine enter (mkCf (fun _ => false) [(195, pI1 mflagsL), (132, pI2 onlyL), (155, pS1 BL fun s => .bool (identL s)), (157, pTy valueTy)])
  (pure_cons (by kernel_rfl) (pureI1 mflags_spec) (pure_cons (by kernel_rfl) (pureI2 only_spec) (pure_cons (by kernel_rfl) (pureS ident_spec) (pure_cons (by kernel_rfl) (pureTy value_spec) pure_nil)))) Tryz.func138 rfl rfl (by kernel_rfl) rfl ?_ ?_
 ·simp only [go_sem, ↓tfi, ↓fti, ↓reduceIte, Mc.cs]
 ·simp only [go_sem, ↓tfi, ↓fti, ↓reduceIte, Mc.cs, eqOkT]
  have e1 : ∀ (d : Md), mHead d = true → mMid d = true → methodL d = (!(d.params.any fun p => !paramL p) && blockL (decide (d.name = initS)) d.body) := fun d a b => by rw [methodL, a, b]; rfl
  have g0 : ∀ (d : Md), ((mflagsL d.fl = false ∨ (d.hb == !decide (bits .and .i64 d.fl 1024 = 0)) = true) ∨ d.hb = false ∧ 0 < d.body.length) ∨ 16 < d.params.length → false = methodL d := fun d g => by
   have : mMid d = false := by
    rcases g with ((g | g) | g) | g
    ·simp [mMid, g]
    ·simp only [mMid, hasB, g, Bool.not_true, Bool.and_false, Bool.false_and]
    ·simp only [mMid, g.1, Bool.false_or, decide_eq_false (by omega : ¬ d.body.length = 0), Bool.and_false, Bool.false_and]
    ·simp only [mMid, decide_eq_false (by omega : ¬ d.params.length ≤ 16), Bool.and_false]
   rw [methodL, this, Bool.and_false]; rfl
  have g1 : ∀ (d : Md), ((mflagsL d.fl = true ∧ (d.hb == !decide (bits .and .i64 d.fl 1024 = 0)) = false) ∧ (d.hb = true ∨ ¬ 0 < d.body.length)) ∧ ¬ 16 < d.params.length → mMid d = true := fun d g => by
   simp only [mMid, hasB, g.1.1.1, g.1.1.2, decide_eq_true (by omega : d.params.length ≤ 16), Bool.not_false, Bool.and_true, Bool.true_and]
   rcases g.1.2 with h | h
   ·rw [h]; rfl
   ·rw [decide_eq_true (by omega : d.body.length = 0), Bool.or_true]
  have g0' := g0 ⟨x.fl, x.res, x.name, params, x.hb, body⟩
  have g1' := g1 ⟨x.fl, x.res, x.name, params, x.hb, body⟩
  have e1' := e1 ⟨x.fl, x.res, x.name, params, x.hb, body⟩
  clear g0 g1 e1
  simp only at g0' g1' e1'
  have gx : ∀ {A B : Prop}, (A ∨ B ∧ 0 < (x.l : Int)) ∨ 16 < (x.pl : Int) → (A ∨ B ∧ 0 < body.length) ∨ 16 < params.length := fun g => by
   clear hP hB
   rcases g with (g | g) | g
   ·exact .inl (.inl g)
   ·exact .inl (.inr ⟨g.1, by omega⟩)
   ·exact .inr (by omega)
  have gy : ∀ {A B : Prop}, (A ∧ (B ∨ ¬ 0 < (x.l : Int))) ∧ ¬ 16 < (x.pl : Int) → (A ∧ (B ∨ ¬ 0 < body.length)) ∧ ¬ 16 < params.length := fun g => by
   clear hP hB
   refine ⟨⟨g.1.1, ?_⟩, by omega⟩
   rcases g.1.2 with h | h
   ·exact .inl h
   ·exact .inr (by omega)
  refine ⟨fun hn => ⟨fun c => ?_, fun c => ⟨by kernel_rfl, fun g => g0' (gx g), fun g => cvl ((hP m (.inl rfl)).mono ?_)⟩⟩,
   fun hn => ⟨h1, fun _ => h2, fun c => ?_, fun c => ⟨by kernel_rfl, fun g => g0' (gx g), fun g => cvl ((hP m (.inl rfl)).mono ?_)⟩⟩⟩
  ·clear hP hB
   have : mHead ⟨x.fl, x.res, x.name, params, x.hb, body⟩ = false := by
    simp only [mHead, voidTy]
    rw [if_pos (show x.name = initS from hn)]
    rcases c with ((c | c | c) | c) | c <;> simp [c]
   rw [methodL, this]; rfl
  ·have g2 := g1' (gy g)
   have hh : mHead ⟨x.fl, x.res, x.name, params, x.hb, body⟩ = true := by
    clear hP hB
    simp only [mHead, voidTy]
    rw [if_pos (show x.name = initS from hn)]
    simp [c.1.1.1, c.1.1.2.1, c.1.1.2.2, c.1.2, c.2]
   have e2 := e1' hh g2
   clear hP
   rintro r H' m2 hm2 ⟨hle2, rfl, rfl⟩
   simp only [go_sem, ↓tfi, ↓fti, ↓reduceIte, Mc.cs]
   refine ⟨fun b1 => cvl ((hB m2 hle2).mono ?_), fun b1 => ?_⟩
   ·clear hB
    rintro r H' m3 hm3 ⟨hle3, rfl, rfl⟩
    simp only [go_sem, ↓tfi, ↓fti, ↓reduceIte, Mc.cs]
    refine ⟨leM_tr hle2 hle3, ?_⟩
    rw [e2, b1]; rfl
   ·refine ⟨hle2, ?_⟩
    rw [e2, b1]; rfl
  ·clear hP hB
   have : mHead ⟨x.fl, x.res, x.name, params, x.hb, body⟩ = false := by
    simp only [mHead, voidTy]
    rw [if_neg (show ¬ x.name = initS from hn)]
    rcases c with c | c
    ·simp [c]
    ·rw [c.2]
     rcases c.1 with c | c | c <;> simp [c]
   rw [methodL, this]; rfl
  ·have g2 := g1' (gy g)
   have hh : mHead ⟨x.fl, x.res, x.name, params, x.hb, body⟩ = true := by
    clear hP hB
    simp only [mHead, voidTy]
    rw [if_neg (show ¬ x.name = initS from hn), c.1]
    rcases c.2 with c | c <;> simp [c]
   have e2 := e1' hh g2
   clear hP
   rintro r H' m2 hm2 ⟨hle2, rfl, rfl⟩
   simp only [go_sem, ↓tfi, ↓fti, ↓reduceIte, Mc.cs]
   refine ⟨fun b1 => cvl ((hB m2 hle2).mono ?_), fun b1 => ?_⟩
   ·clear hB
    rintro r H' m3 hm3 ⟨hle3, rfl, rfl⟩
    simp only [go_sem, ↓tfi, ↓fti, ↓reduceIte, Mc.cs]
    refine ⟨leM_tr hle2 hle3, ?_⟩
    rw [e2, b1]; rfl
   ·refine ⟨hle2, ?_⟩
    rw [e2, b1]; rfl
theorem badN_spec (d : Md) (cs : List Value) (m : Mem) (hg : Glob m) (h : mdRep m d cs) : Ans 137 [.v (.agg ⟨cs⟩)] m (.bool (!methodL d)) := by
 have hM := method_spec d cs m hg h
 obtain ⟨x, rfl⟩ := mdRep_mc h
 refine enter cfN puN Tryz.func137 rfl rfl (by kernel_rfl) rfl ?_ ?_
 ·simp only [go_sem, ↓tfi, ↓fti, ↓reduceIte, Mc.cs]
 ·simp only [go_sem, ↓tfi, ↓fti, ↓reduceIte, Mc.cs]
  refine cvl ((FnH_den hM (fun V => rfl)).mono ?_)
  rintro r H' m2 hm2 ⟨hle2, rfl, rfl⟩
  simp only [go_sem, ↓tfi, ↓fti, ↓reduceIte]
  exact hle2
theorem badI_of (d : Md) (cs : List Value) (m m' : Mem) (h : mdRep m d cs) : Ans 191 [.v (.agg ⟨cs⟩)] m' (.bool (badM d)) := by
 obtain ⟨x, ⟨rfl, h1, h2, h3, h4⟩, _⟩ := h
 have := badI_spec x m'
 rw [h1, h3] at this
 exact this
theorem ctM (f : FuncId) (p : Md → Bool) (l : List Md) (a : Option Addr) (n c : Nat) (xs : List Value) (m : Mem) (hl : n = l.length) (hr : Rds m a n 8 xs) (hs : lsRep (mdRep m) 8 l xs) (hn : n ≤ big) (hok : fnOk Tryz.prog f = true)
  (hf : ∀ d ∈ l, ∀ cs m', leM m m' → mdRep m' d cs → Ans f [.v (.agg ⟨cs⟩)] m' (.bool (p d))) :
  Ans 141 [.v (.slice a n c), .v (.func (.func f) ⟨[]⟩ ⟨[]⟩)] m (.bool (l.any p)) := by
 have := ctfMc f (atP p l) a n c xs m hr hn hok fun i hi => by
  have hil : i < l.length := by omega
  have hrep := ls_at hs hil
  obtain ⟨X, hX⟩ := mdRep_mc hrep
  rw [hX] at hrep
  refine ⟨X, hX, fun m' hle => ?_⟩
  rw [atP_at hil]
  exact hf _ (List.getElem_mem hil) _ m' hle (mdRep_up hle hrep)
 rw [any_of hl (p := p) fun i hi => atP_at hi] at this
 exact this
theorem ctF (f : FuncId) (p : Fc → Bool) (l : List Fc) (a : Option Addr) (n c : Nat) (m : Mem) (hl : n = l.length) (hr : Rds m a n 5 (flat Fc.cs l)) (hn : n ≤ big) (hok : fnOk Tryz.prog f = true)
  (hf : ∀ d ∈ l, ∀ m', leM m m' → Ans f [.v (.agg ⟨d.cs⟩)] m' (.bool (p d))) :
  Ans 140 [.v (.slice a n c), .v (.func (.func f) ⟨[]⟩ ⟨[]⟩)] m (.bool (l.any p)) := by
 have := ctfFc f (atP p l) a n c _ m hr hn hok fun i hi => by
  have hil : i < l.length := by omega
  refine ⟨l[i], flat_at (f := Fc.cs) (sz := 5) (fun _ => rfl) hil, fun m' hle => ?_⟩
  rw [atP_at hil]
  exact hf _ (List.getElem_mem hil) m' hle
 rw [any_of hl (p := p) fun i hi => atP_at hi] at this
 exact this
theorem ctS (f : FuncId) (p : List UInt8 → Bool) (l : List (List UInt8)) (a : Option Addr) (n c : Nat) (m : Mem) (hl : n = l.length) (hr : Rds m a n 1 (strs l)) (hn : n ≤ big) (hok : fnOk Tryz.prog f = true)
  (hf : ∀ d ∈ l, ∀ m', leM m m' → Ans f [.v (.string (bs d))] m' (.bool (p d))) :
  Ans 139 [.v (.slice a n c), .v (.func (.func f) ⟨[]⟩ ⟨[]⟩)] m (.bool (l.any p)) := by
 have := ctfS f (atP p l) a n c _ m hr hn hok fun i hi => by
  have hil : i < l.length := by omega
  refine ⟨l[i], ?_, fun m' hle => ?_⟩
  ·rw [strs, List.getElem?_map, List.getElem?_eq_getElem hil]; rfl
  ·rw [atP_at hil]
   exact hf _ (List.getElem_mem hil) m' hle
 rw [any_of hl (p := p) fun i hi => atP_at hi] at this
 exact this
theorem iface_spec (d : Cd) (cs : List Value) (m : Mem) (h : cdRep m d cs) : Ans 131 [.v (.agg ⟨cs⟩)] m (.bool (ifaceL d)) := by
 obtain ⟨fl, name, super, ifs, fields, methods, init⟩ := d
 obtain ⟨x, ⟨rfl, rfl, rfl, rfl⟩, ⟨hil, hic, hfn, hfc, hml, hmc, hsl, hsc⟩, hok, r1, r2, xs, ys, r3, s3, r4, s4⟩ := h
 simp only at hil hfn hml hsl r1 r2 s3 s4
 have hM := ctM 191 badM methods x.ma x.ml x.mc xs m hml r3 s3 (by rw [hml]; exact hok.ml) (by kernel_rfl) fun d _ cs m' hle hrep => badI_of d cs m' m' hrep
 have b1 := hok.fn
 have b2 := hok.l
 clear s3 s4
 refine enter cfF puF Tryz.func131 rfl rfl (by kernel_rfl) rfl ?_ ?_
 ·simp only [go_sem, ↓tfi, ↓fti, ↓reduceIte, Cc.cs]
 ·simp only [go_sem, ↓tfi, ↓fti, ↓reduceIte, Cc.cs]
  have e0 : ifaceL ⟨x.fl, x.name, x.super, ifs, fields, methods, init⟩ = (onlyL x.fl 1537 && hasB x.fl 1024 && decide (x.super = objS) && decide (fields.length + init.length = 0) && !(methods.any badM)) := rfl
  simp only at b1 b2
  refine ⟨fun _ => by clear hM; unfold I64; simp only [big] at b1 b2; omega, fun c => cvl (hM.mono ?_), fun c => ?_⟩
  ·have g : fields.length + init.length = 0 := by clear hM; omega
   clear hM
   rintro r H' m2 hm2 ⟨hle2, rfl, rfl⟩
   simp only [go_sem, ↓tfi, ↓fti, ↓reduceIte, Cc.cs]
   refine ⟨hle2, ?_⟩
   rw [e0, c.1.1.1, hasB, decide_eq_false c.1.1.2, decide_eq_true (show x.super = objS from c.1.2), decide_eq_true g]
   rfl
  ·clear hM
   rw [e0]
   rcases c with ((c | c) | c) | c
   ·simp [c]
   ·simp [hasB, c]
   ·rw [decide_eq_false (show ¬ x.super = objS from c)]; simp
   ·rw [decide_eq_false (by omega : ¬ fields.length + init.length = 0)]; simp
theorem class_spec2 (d : Cd) (cs : List Value) (m : Mem) (hg : Glob m) (h : cdRep m d cs) : Ans 54 [.v (.agg ⟨cs⟩)] m (.bool (classL d)) := by
 have hI := iface_spec d cs m h
 obtain ⟨fl, name, super, ifs, fields, methods, init⟩ := d
 obtain ⟨x, ⟨rfl, rfl, rfl, rfl⟩, ⟨hil, hic, hfn, hfc, hml, hmc, hsl, hsc⟩, hok, r1, r2, xs, ys, r3, s3, r4, s4⟩ := h
 simp only at hil hfn hml hsl r1 r2 s3 s4
 have hM := fun m' (hle : leM m m') => ctM 137 (fun d => !methodL d) methods x.ma x.ml x.mc xs m' hml (Rds_upM hle r3) (ls_up (fun _ _ => mdRep_up hle) s3) (by rw [hml]; exact hok.ml) (by kernel_rfl) fun d _ cs m2 hle2 hrep => badN_spec d cs m2 (hg.upM (leM_tr hle hle2)) hrep
 have hF := fun m' (hle : leM m m') => ctF 135 (fun d => !fieldL d) fields x.fa x.fn x.fc m' hfn (Rds_upM hle r2) (by rw [hfn]; exact hok.fn) (by kernel_rfl) fun d hd m2 hle2 => badF_spec d m2 (hok.fs d hd)
 have hS := fun m' (hle : leM m m') => ctS 133 (fun d => !isCls d) ifs x.ia x.il x.ic m' hil (Rds_upM hle r1) (by rw [hil]; exact hok.il) (by kernel_rfl) fun d hd m2 hle2 => badS_spec d m2 (Nat.le_trans (hok.ifs d hd) (by decide))
 have hB := fun m' (hle : leM m m') => block_all false init x.sa x.sl x.sc ys m' (hg.upM hle) hsl (Rds_upM hle r4) (stsRep_upM hle s4) (by rw [hsl]; exact hok.l)
 have h1 : BL x.name := Nat.le_trans hok.name (by decide)
 have h2 : BL x.super := Nat.le_trans hok.super (by decide)
 clear s3 s4
 refine enter cfF puF Tryz.func54 rfl rfl (by kernel_rfl) rfl ?_ ?_
 ·simp only [go_sem, ↓tfi, ↓fti, ↓reduceIte, Cc.cs]
 ·simp only [go_sem, ↓tfi, ↓fti, ↓reduceIte, Cc.cs]
  have e0 : cHead ⟨x.fl, x.name, x.super, ifs, fields, methods, init⟩ = true → classL ⟨x.fl, x.name, x.super, ifs, fields, methods, init⟩ = (cNames ⟨x.fl, x.name, x.super, ifs, fields, methods, init⟩ && !(ifs.any fun s => !isCls s) && cLens ⟨x.fl, x.name, x.super, ifs, fields, methods, init⟩ && !(fields.any fun f => !fieldL f) && !(methods.any fun f => !methodL f) && blockL false init) := fun h => by rw [classL, h]; rfl
  refine ⟨fun b => cvl ((FnH_den hI (fun V => rfl)).mono ?_), fun b => ⟨fun c => ?_, fun c => ?_⟩⟩
  ·clear hI
   rintro r H' m1 hm1 ⟨l1, rfl, rfl⟩
   simp only [go_sem, ↓tfi, ↓fti, ↓reduceIte, Cc.cs]
   have g : hasB x.fl 512 = true := by rw [hasB, decide_eq_false b]; rfl
   refine ⟨fun c => ?_, fun c => ?_⟩
   ·refine ⟨l1, ?_⟩
    rw [classL, cHead, if_pos g, c]; rfl
   ·have hH : cHead ⟨x.fl, x.name, x.super, ifs, fields, methods, init⟩ = true := by rw [cHead, if_pos g, c]
    refine ⟨h1, fun _ => h2, fun c => cvl ((hS m1 l1).mono ?_), fun c => ?_⟩
    ·clear hS
     rintro r H' n1 hn1 ⟨k1, rfl, rfl⟩
     simp only [go_sem, ↓tfi, ↓fti, ↓reduceIte, Cc.cs]
     have hN : cNames ⟨x.fl, x.name, x.super, ifs, fields, methods, init⟩ = true := by clear hF hM hB; simp only [cNames, c.1.1, c.1.2, decide_eq_true (by omega : ifs.length ≤ 8)]; rfl
     refine ⟨fun d => cvl ((hF n1 (leM_tr l1 k1)).mono ?_), fun d => ?_⟩
     ·clear hF
      rintro r H' n2 hn2 ⟨k2, rfl, rfl⟩
      simp only [go_sem, ↓tfi, ↓fti, ↓reduceIte, Cc.cs]
      have hL : cLens ⟨x.fl, x.name, x.super, ifs, fields, methods, init⟩ = true := by clear hM hB; simp only [cLens, decide_eq_true (by omega : fields.length ≤ 64), decide_eq_true (by omega : methods.length ≤ 64)]; rfl
      refine ⟨fun e => cvl ((hM n2 (leM_tr (leM_tr l1 k1) k2)).mono ?_), fun e => ?_⟩
      ·clear hM
       rintro r H' n3 hn3 ⟨k3, rfl, rfl⟩
       simp only [go_sem, ↓tfi, ↓fti, ↓reduceIte, Cc.cs]
       refine ⟨fun f => cvl ((hB n3 (leM_tr (leM_tr (leM_tr l1 k1) k2) k3)).mono ?_), fun f => ?_⟩
       ·clear hB
        rintro r H' n4 hn4 ⟨k4, rfl, rfl⟩
        simp only [go_sem, ↓tfi, ↓fti, ↓reduceIte, Cc.cs]
        refine ⟨leM_tr (leM_tr (leM_tr (leM_tr l1 k1) k2) k3) k4, ?_⟩
        rw [e0 hH, hN, d.1.1, hL, e, f]
        rfl
       ·refine ⟨leM_tr (leM_tr (leM_tr l1 k1) k2) k3, ?_⟩
        rw [e0 hH, f]; simp
      ·refine ⟨leM_tr (leM_tr l1 k1) k2, ?_⟩
       rw [e0 hH, e]; simp
     ·refine ⟨leM_tr l1 k1, ?_⟩
      clear hF hM hB
      rw [e0 hH]
      rcases d with (d | d) | d
      ·rw [d]; simp
      ·simp only [cLens, decide_eq_false (by omega : ¬ fields.length ≤ 64), Bool.false_and, Bool.and_false]
      ·simp only [cLens, decide_eq_false (by omega : ¬ methods.length ≤ 64), Bool.false_and, Bool.and_false]
    ·clear hS hF hM hB
     refine ⟨l1, ?_⟩
     rw [e0 hH]
     rcases c with (c | c) | c
     ·simp only [cNames, c, Bool.false_and]
     ·simp only [cNames, c, Bool.false_and, Bool.and_false]
     ·simp only [cNames, decide_eq_false (by omega : ¬ ifs.length ≤ 8), Bool.false_and, Bool.and_false]
  ·clear hI hM hF hS hB
   have g : ¬ hasB x.fl 512 = true := by rw [hasB, decide_eq_true b]; decide
   have : cHead ⟨x.fl, x.name, x.super, ifs, fields, methods, init⟩ = false := by
    rw [cHead, if_neg g]
    rcases c with c | c
    ·simp [c]
    ·simp [hasB, c]
   rw [classL, this]; rfl
  ·clear hI
   have g : ¬ hasB x.fl 512 = true := by rw [hasB, decide_eq_true b]; decide
   have hH : cHead ⟨x.fl, x.name, x.super, ifs, fields, methods, init⟩ = true := by
    clear hM hF hS hB
    rw [cHead, if_neg g]
    rcases c with ⟨c1, c | c⟩ <;> simp [hasB, c1, c]
   clear c
   refine ⟨h1, fun _ => h2, fun c => cvl ((hS m (.inl rfl : leM m m)).mono ?_), fun c => ?_⟩
   ·clear hS
    rintro r H' n1 hn1 ⟨k1, rfl, rfl⟩
    simp only [go_sem, ↓tfi, ↓fti, ↓reduceIte, Cc.cs]
    have hN : cNames ⟨x.fl, x.name, x.super, ifs, fields, methods, init⟩ = true := by clear hF hM hB; simp only [cNames, c.1.1, c.1.2, decide_eq_true (by omega : ifs.length ≤ 8)]; rfl
    refine ⟨fun d => cvl ((hF n1 (leM_tr (.inl rfl : leM m m) k1)).mono ?_), fun d => ?_⟩
    ·clear hF
     rintro r H' n2 hn2 ⟨k2, rfl, rfl⟩
     simp only [go_sem, ↓tfi, ↓fti, ↓reduceIte, Cc.cs]
     have hL : cLens ⟨x.fl, x.name, x.super, ifs, fields, methods, init⟩ = true := by clear hM hB; simp only [cLens, decide_eq_true (by omega : fields.length ≤ 64), decide_eq_true (by omega : methods.length ≤ 64)]; rfl
     refine ⟨fun e => cvl ((hM n2 (leM_tr (leM_tr (.inl rfl : leM m m) k1) k2)).mono ?_), fun e => ?_⟩
     ·clear hM
      rintro r H' n3 hn3 ⟨k3, rfl, rfl⟩
      simp only [go_sem, ↓tfi, ↓fti, ↓reduceIte, Cc.cs]
      refine ⟨fun f => cvl ((hB n3 (leM_tr (leM_tr (leM_tr (.inl rfl : leM m m) k1) k2) k3)).mono ?_), fun f => ?_⟩
      ·clear hB
       rintro r H' n4 hn4 ⟨k4, rfl, rfl⟩
       simp only [go_sem, ↓tfi, ↓fti, ↓reduceIte, Cc.cs]
       refine ⟨leM_tr (leM_tr (leM_tr (leM_tr (.inl rfl : leM m m) k1) k2) k3) k4, ?_⟩
       rw [e0 hH, hN, d.1.1, hL, e, f]
       rfl
      ·refine ⟨leM_tr (leM_tr (leM_tr (.inl rfl : leM m m) k1) k2) k3, ?_⟩
       rw [e0 hH, f]; simp
     ·refine ⟨leM_tr (leM_tr (.inl rfl : leM m m) k1) k2, ?_⟩
      rw [e0 hH, e]; simp
    ·refine ⟨leM_tr (.inl rfl : leM m m) k1, ?_⟩
     clear hF hM hB
     rw [e0 hH]
     rcases d with (d | d) | d
     ·rw [d]; simp
     ·simp only [cLens, decide_eq_false (by omega : ¬ fields.length ≤ 64), Bool.false_and, Bool.and_false]
     ·simp only [cLens, decide_eq_false (by omega : ¬ methods.length ≤ 64), Bool.false_and, Bool.and_false]
   ·clear hS hF hM hB
    rw [e0 hH]
    rcases c with (c | c) | c
    ·simp only [cNames, c, Bool.false_and]
    ·simp only [cNames, c, Bool.false_and, Bool.and_false]
    ·simp only [cNames, decide_eq_false (by omega : ¬ ifs.length ≤ 8), Bool.false_and, Bool.and_false]
def argsD : Ex → Nat | .mk _ _ _ _ _ args => depthL args
mutual
def exprD : St → Nat
 | .mk k _ _ tg ex body alt => max (max (exprDs body) (exprDs alt)) (max (depthE tg) (if k = 11 then argsD ex else depthE ex))
def exprDs : List St → Nat
 | [] => 0
 | e :: r => max (exprD e) (exprDs r)
end
theorem depthSs_take : ∀ {l : List St} {k : Nat} (hk : k < l.length), depthSs (l.take (k + 1)) = max (depthSs (l.take k)) (depthS l[k])
 | [], _, hk => absurd hk (Nat.not_lt_zero _)
 | e :: r, 0, _ => by simp [depthSs]
 | e :: r, k + 1, hk => by
  have := depthSs_take (l := r) (k := k) (by simpa using hk)
  simp only [List.take_succ_cons, depthSs, this, List.getElem_cons_succ, Nat.max_assoc]
theorem exprDs_take : ∀ {l : List St} {k : Nat} (hk : k < l.length), exprDs (l.take (k + 1)) = max (exprDs (l.take k)) (exprD l[k])
 | [], _, hk => absurd hk (Nat.not_lt_zero _)
 | e :: r, 0, _ => by simp [exprDs]
 | e :: r, k + 1, hk => by
  have := exprDs_take (l := r) (k := k) (by simpa using hk)
  simp only [List.take_succ_cons, exprDs, this, List.getElem_cons_succ, Nat.max_assoc]
theorem depthSs_le : ∀ (l : List St) (k : Nat), depthSs (l.take k) ≤ depthSs l
 | [], k => by simp
 | e :: r, 0 => by simp [depthSs]
 | e :: r, k + 1 => by
  have := depthSs_le r k
  simp only [List.take_succ_cons, depthSs]
  omega
theorem exprDs_le : ∀ (l : List St) (k : Nat), exprDs (l.take k) ≤ exprDs l
 | [], k => by simp
 | e :: r, 0 => by simp [exprDs]
 | e :: r, k + 1 => by
  have := exprDs_le r k
  simp only [List.take_succ_cons, exprDs]
  omega
theorem exprDs_mem : ∀ {l : List St} {e : St}, e ∈ l → exprD e ≤ exprDs l
 | [], e, he => by cases he
 | x :: r, e, he => by
  simp only [exprDs]
  rcases List.mem_cons.1 he with rfl | he
  ·omega
  ·have := exprDs_mem he; omega
def DepR (args : List SV) (m : Mem) (v1 v2 : Nat) : Prop := FnH Tryz.prog 143 args ⟨[], []⟩ m fun r H' m' => leM m m' ∧ H' = ⟨[], []⟩ ∧ r = .tup [.v (.int .i64 v1), .v (.int .i64 v2)]
structure DepN where
 b1 : Nat
 b2 : Nat
 a1 : Nat
 a2 : Nat
 t : Nat
 x : Nat
 dl : Nat → Nat
structure DepIt (X : Sd) (N : DepN) (mm : Mem) : Prop where
 body : ∀ m', leM mm m' → DepR [.v (.slice X.a X.l X.cp)] m' N.b1 N.b2
 alt : ∀ m', leM mm m' → DepR [.v (.slice X.b X.l2 X.cp2)] m' N.a1 N.a2
 tg : ∀ m', leM mm m' → Ans 34 [.v (.agg ⟨X.tg.cs⟩)] m' (.int .i64 N.t)
 ex : ¬ X.k = 11 → ∀ m', leM mm m' → Ans 34 [.v (.agg ⟨X.ex.cs⟩)] m' (.int .i64 N.x)
 arg : X.k = 11 → ∀ m', leM mm m' → ∀ j, j < X.ex.l → ∃ (Y : Nd) (d : Nat), (Rd m' (ptrAt X.ex.a (j * 8)) Y.cs ∧ X.ex.a ≠ none) ∧ Ans 34 [.v (.agg ⟨Y.cs⟩)] m' (.int .i64 d) ∧ N.dl (j + 1) = max (N.dl j) d
 dl0 : N.dl 0 = 0
 ln : X.ex.l ≤ big
theorem dep_it {h : Nat} (ih : ∀ h', h' < h → ∀ (l : List St) (a : Option Addr) (n c : Nat) (xs : List Value) (m : Mem), depthSs l ≤ h' → h' ≤ big → exprDs l ≤ big → n = l.length → n ≤ big → Rds m a n 23 xs → stsRep m l xs → DepR [.v (.slice a n c)] m (depthSs l) (exprDs l))
  {e : St} {cs : List Value} {mm : Mem} (hd : depthS e ≤ h) (hb : h ≤ big) (hx : exprD e ≤ big) (hrep : stRep mm e cs) :
  ∃ (X : Sd) (N : DepN), cs = X.cs ∧ DepIt X N mm ∧ depthS e = max N.b1 N.a1 + 1 ∧ exprD e = max (max N.b2 N.a2) (max N.t (if X.k = 11 then N.dl X.ex.l else N.x)) := by
 cases e with
 | mk k nm ty tg ex body alt =>
  obtain ⟨X, rfl, rfl, rfl, rfl, htg, hex, hl, hcp, hl2, hcp2, hok, xs, ys, r1, r2, s1, s2⟩ := st_parts hrep
  simp only [depthS] at hd
  simp only [exprD] at hx
  cases ex with
  | mk xk xn xss xc xty args =>
   obtain ⟨y, hy, h1, h2, h3, h4, h5, h6, h7, h8, zs, r3, s3⟩ := ex_parts hex
   have hy := nd_inj hy
   subst hy
   refine ⟨X, ⟨depthSs body, exprDs body, depthSs alt, exprDs alt, depthE tg, depthE (.mk xk xn xss xc xty args), fun j => depthL (args.take j)⟩, rfl, ⟨fun m' hle => ?_, fun m' hle => ?_, fun m' hle => ?_, fun hk m' hle => ?_, fun hk m' hle j hj => ?_, by simp [depthL], h8⟩, by simp only [depthS], ?_⟩
   ·exact ih (depthSs body) (by omega) body X.a X.l X.cp xs m' (Nnr _) (by omega) (by omega) hl (by rw [hl]; exact hok.l) (Rds_upM hle r1) (stsRep_upM hle s1)
   ·exact ih (depthSs alt) (by omega) alt X.b X.l2 X.cp2 ys m' (Nnr _) (by omega) (by omega) hl2 (by rw [hl2]; exact hok.l2) (Rds_upM hle r2) (stsRep_upM hle s2)
   ·exact depth_all _ tg _ m' (Nnr _) (by omega) (exRep_upM hle htg)
   ·rw [if_neg hk] at hx
    exact depth_all _ _ _ m' (Nnr _) (by omega) (exRep_upM hle hex)
   ·rw [if_pos hk] at hx
    simp only [argsD] at hx
    have hja : j < args.length := by omega
    have hrepj := exRep_upM hle (exs_at s3 hja)
    obtain ⟨Y, hY⟩ := exRep_nd hrepj
    have hrd := Rds_cells (Rds_upM hle r3) hj
    rw [hY] at hrd hrepj
    exact ⟨Y, depthE args[j], hrd, depth_all _ _ _ m' (Nnr _) (by have := depth_mem hja; omega) hrepj, depth_take hja⟩
   ·simp only [exprD, argsD]
    rw [List.take_of_length_le (by omega : args.length ≤ X.ex.l)]
theorem depths_all : ∀ (h : Nat) (l : List St) (a : Option Addr) (n c : Nat) (xs : List Value) (m : Mem), depthSs l ≤ h → h ≤ big → exprDs l ≤ big → n = l.length → n ≤ big → Rds m a n 23 xs → stsRep m l xs → DepR [.v (.slice a n c)] m (depthSs l) (exprDs l) := by
 intro h
 induction h using Nat.strongRecOn with
 | ind h ih =>
  intro l a n c xs m hd hb hx hl hn hr hs
  refine enter cfN puN Tryz.func143 rfl rfl (by kernel_rfl) rfl ?_ ?_
  ·simp only [go_sem, ↓tfi, ↓fti, ↓reduceIte]
  ·simp only [go_sem, ↓tfi, ↓fti, ↓reduceIte]
   refine WP_loop puN (fun x : Nat × Int × Int × Mem => ⟨[⟨4, [], .v (.int .i64 x.2.1)⟩, ⟨5, [], .v (.int .i64 x.2.2.1)⟩, ⟨14, [], .v (.slice a n c)⟩, ⟨15, [], .v (.int .i64 n)⟩, ⟨16, [], .v (.int .i64 x.1)⟩], [], [], [], 0, x.2.2.2⟩)
    (fun x => leM m x.2.2.2 ∧ x.1 ≤ n ∧ x.2.1 = depthSs (l.take x.1) ∧ x.2.2.1 = exprDs (l.take x.1)) (fun x => n - x.1) (0, 0, 0, m) (by kernel_rfl) (fun _ _ => Nnr _) (fun x hx => hx.1) (fun _ => ?_) ?_ ?_ ?_
   ·simp only [go_sem, ↓tfi, ↓fti, ↓reduceIte]
   ·simp only [go_sem, ↓tfi, ↓fti, ↓reduceIte]
    rfl
   ·exact ⟨.inl rfl, Nat.zero_le _, by simp [depthSs], by simp [exprDs]⟩
   ·rintro ⟨k, s, e, mm⟩ ⟨h1, h2, h3, h4⟩
    simp only at h1 h2 h3 h4
    have hy : ∀ (hk : k < l.length), ∃ (X : Sd) (N : DepN), (Rd mm (ptrAt a (k * 23)) X.cs ∧ a ≠ none) ∧ DepIt X N mm ∧ depthS l[k] = max N.b1 N.a1 + 1 ∧ exprD l[k] = max (max N.b2 N.a2) (max N.t (if X.k = 11 then N.dl X.ex.l else N.x)) := fun hk => by
     have hrep := stRep_upM h1 (sts_at hs hk)
     have q1 := depthSs_mem (List.getElem_mem hk)
     have q2 := exprDs_mem (List.getElem_mem hk)
     obtain ⟨X, N, hX, hD, e1, e2⟩ := dep_it ih (by omega) hb (by omega) hrep
     have hrd := Rds_cells (Rds_upM h1 hr) (by omega : k < n)
     rw [hX] at hrd
     exact ⟨X, N, hrd, hD, e1, e2⟩
    have hq1 := depthSs_le l k
    have hq2 := exprDs_le l k
    have hq3 : ∀ (hk : k < l.length), depthSs (l.take (k + 1)) = max (depthSs (l.take k)) (depthS l[k]) ∧ depthSs (l.take (k + 1)) ≤ depthSs l := fun hk => ⟨depthSs_take hk, depthSs_le l _⟩
    have hq4 : ∀ (hk : k < l.length), exprDs (l.take (k + 1)) = max (exprDs (l.take k)) (exprD l[k]) ∧ exprDs (l.take (k + 1)) ≤ exprDs l := fun hk => ⟨exprDs_take hk, exprDs_le l _⟩
    clear ih
    simp only [go_sem, ↓tfi, ↓fti, ↓reduceIte]
    refine ⟨fun hlt => ?_, fun hge => ?_⟩
    ·have hk : k < l.length := by clear hy; omega
     have g3 := hq3 hk
     have g4 := hq4 hk
     refine Exists.elim (hy hk) fun X hy' => Exists.elim hy' fun N hy'' => ⟨⟨by clear hy hy' hy''; omega, hlt, hy''.1.2⟩, X.cs, ⟨hy''.1.1, rfl⟩, ?_⟩
     clear hy hy'
     have hD := hy''.2.1
     have e1 := hy''.2.2.1
     have e2 := hy''.2.2.2
     rw [e1] at g3
     rw [e2] at g4
     clear hy'' e1 e2
     simp only [go_sem, ↓tfi, ↓fti, ↓reduceIte, Sd.cs, Nd.cs]
     refine cvl ((hD.body mm (.inl rfl)).mono ?_)
     rintro r H' n1 hn1 ⟨k1, rfl, rfl⟩
     simp only [go_sem, ↓tfi, ↓fti, ↓reduceIte, Sd.cs, Nd.cs]
     refine cvl ((hD.alt n1 k1).mono ?_)
     rintro r H' n2 hn2 ⟨k2, rfl, rfl⟩
     have kk2 := leM_tr k1 k2
     simp only [go_sem, ↓tfi, ↓fti, ↓reduceIte, Sd.cs, Nd.cs]
     refine ⟨by clear hD; unfold I64; simp only [big] at hb; split <;> omega, by kernel_rfl, FnV_of ((FnH_den (hD.tg n2 kk2) (fun V => rfl)).mono ?_)⟩
     rintro r H' n3 hn3 ⟨k3, rfl, rfl⟩
     have kk3 := leM_tr kk2 k3
     simp only [go_sem, ↓tfi, ↓fti, ↓reduceIte, Sd.cs, Nd.cs]
     have hS : (if s < 1 + (if (N.b1 : Int) < N.a1 then (N.a1 : Int) else N.b1) then 1 + (if (N.b1 : Int) < N.a1 then (N.a1 : Int) else N.b1) else s) = ((depthSs (l.take (k + 1)) : Nat) : Int) := by
      clear hD hq3 hq4
      rw [g3.1, h3]
      split <;> split <;> omega
     have hB0 : mx (mx (mx e N.b2) N.a2) N.t = ((max (max (max (exprDs (l.take k)) N.b2) N.a2) N.t : Nat) : Int) := by
      clear hD hq3 hq4 hS
      simp only [mx, h4]
      (repeat' split) <;> omega
     refine Exists.elim (Exists.intro (max (max (max (exprDs (l.take k)) N.b2) N.a2) N.t) rfl : ∃ B0 : Nat, max (max (max (exprDs (l.take k)) N.b2) N.a2) N.t = B0) fun B0 hB => ?_
     rw [hB] at hB0
     refine ⟨fun hk11 => ?_, fun hk11 => ?_⟩
     ·refine cvl ((FnH_den (hD.ex hk11 n3 kk3) (fun V => rfl)).mono ?_)
      clear hD
      rintro r H' n4 hn4 ⟨k4, rfl, rfl⟩
      simp only [go_sem, ↓tfi, ↓fti, ↓reduceIte, Sd.cs, Nd.cs]
      rw [if_neg hk11] at g4
      refine ⟨by unfold I64; simp only [big] at hn; omega, (k + 1, ((depthSs (l.take (k + 1)) : Nat) : Int), ((exprDs (l.take (k + 1)) : Nat) : Int), n4), ⟨⟨hS, ?_, by simp⟩, .inl rfl⟩, ⟨leM_tr h1 (leM_tr kk3 k4), by simp only; omega, rfl, rfl⟩, by simp only; omega⟩
      simp only
      rw [hB0, g4.1]
      clear hS hB0 hq3 hq4 g3 h3 h4
      split <;> omega
     ·rw [if_pos hk11] at g4
      refine WP_loop puN (fun x' : Nat × Int × Mem => ⟨[⟨4, [], .v (.int .i64 (depthSs (l.take (k + 1)) : Nat))⟩, ⟨5, [], .v (.int .i64 x'.2.1)⟩, ⟨14, [], .v (.slice a n c)⟩, ⟨15, [], .v (.int .i64 n)⟩, ⟨16, [], .v (.int .i64 k)⟩, ⟨55, [], .v (.slice X.ex.a X.ex.l X.ex.cp)⟩, ⟨56, [], .v (.int .i64 X.ex.l)⟩, ⟨57, [], .v (.int .i64 x'.1)⟩], [], [], [], 1, x'.2.2⟩)
       (fun x' => leM n3 x'.2.2 ∧ x'.1 ≤ X.ex.l ∧ x'.2.1 = ((max B0 (N.dl x'.1) : Nat) : Int)) (fun x' => X.ex.l - x'.1) (0, (B0 : Int), n3) (by kernel_rfl) (fun _ _ => Nnr _) (fun x hx => hx.1) (fun _ => ?_) ?_ ?_ ?_
      ·simp only [go_sem, ↓tfi, ↓fti, ↓reduceIte]
      ·simp only [go_sem, ↓tfi, ↓fti, ↓reduceIte]
       exact ⟨hS, hB0, rfl⟩
      ·exact ⟨.inl rfl, Nat.zero_le _, by rw [hD.dl0, Nat.max_zero]⟩
      ·rintro ⟨j, e', mj⟩ ⟨q1, q2, q3⟩
       simp only at q1 q2 q3
       have hz := hD.arg hk11 mj (leM_tr kk3 q1) j
       have hln := hD.ln
       clear hD
       simp only [go_sem, ↓tfi, ↓fti, ↓reduceIte]
       refine ⟨fun hlt' => ?_, fun hge' => ?_⟩
       ·refine Exists.elim (hz (by clear hz; omega)) fun Y hz1 => Exists.elim hz1 fun dj hz2 => ⟨⟨by clear hz hz1 hz2; omega, hlt', hz2.1.2⟩, Y.cs, ⟨hz2.1.1, rfl⟩, ?_⟩
        clear hz hz1
        have hDj := hz2.2.1
        have hdj := hz2.2.2
        clear hz2
        simp only [go_sem, ↓tfi, ↓fti, ↓reduceIte, Nd.cs]
        refine cvl ((FnH_den hDj (fun V => rfl)).mono ?_)
        clear hDj
        rintro r H' n5 hn5 ⟨k5, rfl, rfl⟩
        simp only [go_sem, ↓tfi, ↓fti, ↓reduceIte]
        refine ⟨by unfold I64; simp only [big] at hln; omega, (j + 1, ((max B0 (N.dl (j + 1)) : Nat) : Int), n5), ⟨⟨?_, by simp⟩, .inl rfl⟩, ⟨leM_tr q1 k5, by simp only; omega, by simp only [Nat.max_def]⟩, by simp only; omega⟩
        simp only
        rw [hdj, q3]
        clear hS hB0 hq3 hq4 g3 g4 h3 h4 hB
        (repeat' split) <;> omega
       ·clear hz
        have hj : j = X.ex.l := by omega
        refine ⟨by unfold I64; simp only [big] at hn; omega, (k + 1, ((depthSs (l.take (k + 1)) : Nat) : Int), ((exprDs (l.take (k + 1)) : Nat) : Int), mj), ⟨⟨rfl, ?_, by simp⟩, .inl rfl⟩, ⟨leM_tr h1 (leM_tr kk3 q1), by simp only; omega, rfl, rfl⟩, by simp only; omega⟩
        simp only
        rw [q3, g4.1, hj]
        clear hS hB0 hq3 hq4 g3 h3 h4
        (repeat' split) <;> omega
    ·clear hy hq3 hq4
     have : l.take k = l := List.take_of_length_le (by omega)
     rw [this] at h3 h4
     rw [h3, h4]
     exact ⟨h1, rfl⟩
def mdsS : List Md → Nat
 | [] => 0
 | e :: r => max (depthSs e.body) (mdsS r)
def mdsE : List Md → Nat
 | [] => 0
 | e :: r => max (exprDs e.body) (mdsE r)
def deepL (d : Cd) : Bool := decide (24 < max (depthSs d.init) (mdsS d.methods)) || decide (24 < max (exprDs d.init) (mdsE d.methods))
structure CdB (d : Cd) : Prop where
 s : depthSs d.init ≤ big
 e : exprDs d.init ≤ big
 ms : mdsS d.methods ≤ big
 me : mdsE d.methods ≤ big
theorem mdsS_take : ∀ {l : List Md} {k : Nat} (hk : k < l.length), mdsS (l.take (k + 1)) = max (mdsS (l.take k)) (depthSs l[k].body)
 | [], _, hk => absurd hk (Nat.not_lt_zero _)
 | e :: r, 0, _ => by simp [mdsS]
 | e :: r, k + 1, hk => by
  have := mdsS_take (l := r) (k := k) (by simpa using hk)
  simp only [List.take_succ_cons, mdsS, this, List.getElem_cons_succ, Nat.max_assoc]
theorem mdsE_take : ∀ {l : List Md} {k : Nat} (hk : k < l.length), mdsE (l.take (k + 1)) = max (mdsE (l.take k)) (exprDs l[k].body)
 | [], _, hk => absurd hk (Nat.not_lt_zero _)
 | e :: r, 0, _ => by simp [mdsE]
 | e :: r, k + 1, hk => by
  have := mdsE_take (l := r) (k := k) (by simpa using hk)
  simp only [List.take_succ_cons, mdsE, this, List.getElem_cons_succ, Nat.max_assoc]
theorem mdsS_mem : ∀ {l : List Md} {e : Md}, e ∈ l → depthSs e.body ≤ mdsS l
 | [], e, he => by cases he
 | x :: r, e, he => by
  simp only [mdsS]
  rcases List.mem_cons.1 he with rfl | he
  ·omega
  ·have := mdsS_mem he; omega
theorem mdsE_mem : ∀ {l : List Md} {e : Md}, e ∈ l → exprDs e.body ≤ mdsE l
 | [], e, he => by cases he
 | x :: r, e, he => by
  simp only [mdsE]
  rcases List.mem_cons.1 he with rfl | he
  ·omega
  ·have := mdsE_mem he; omega
theorem deep_spec (d : Cd) (cs : List Value) (m : Mem) (hB : CdB d) (h : cdRep m d cs) : Ans 55 [.v (.agg ⟨cs⟩)] m (.bool (deepL d)) := by
 obtain ⟨fl, name, super, ifs, fields, methods, init⟩ := d
 obtain ⟨x, ⟨rfl, rfl, rfl, rfl⟩, ⟨hil, hic, hfn, hfc, hml, hmc, hsl, hsc⟩, hok, r1, r2, xs, ys, r3, s3, r4, s4⟩ := h
 simp only at hil hfn hml hsl r1 r2 s3 s4
 obtain ⟨b1, b2, b3, b4⟩ := hB
 simp only at b1 b2 b3 b4
 have hI := depths_all (depthSs init) init x.sa x.sl x.sc ys m (Nnr _) b1 b2 hsl (by rw [hsl]; exact hok.l) r4 s4
 have hmb : x.ml ≤ big := by rw [hml]; exact hok.ml
 refine enter cfN puN Tryz.func55 rfl rfl (by kernel_rfl) rfl ?_ ?_
 ·simp only [go_sem, ↓tfi, ↓fti, ↓reduceIte, Cc.cs]
 ·simp only [go_sem, ↓tfi, ↓fti, ↓reduceIte, Cc.cs]
  refine cvl (hI.mono ?_)
  clear hI
  rintro r H' m1 hm1 ⟨l1, rfl, rfl⟩
  simp only [go_sem, ↓tfi, ↓fti, ↓reduceIte, Cc.cs]
  refine WP_loop puN (fun x' : Nat × Int × Int × Mem => ⟨[⟨3, [], .v (.int .i64 x'.2.1)⟩, ⟨4, [], .v (.int .i64 x'.2.2.1)⟩, ⟨16, [], .v (.slice x.ma x.ml x.mc)⟩, ⟨17, [], .v (.int .i64 x.ml)⟩, ⟨18, [], .v (.int .i64 x'.1)⟩], [], [], [], 1, x'.2.2.2⟩)
   (fun x' => leM m1 x'.2.2.2 ∧ x'.1 ≤ x.ml ∧ x'.2.1 = max (depthSs init) (mdsS (methods.take x'.1)) ∧ x'.2.2.1 = max (exprDs init) (mdsE (methods.take x'.1))) (fun x' => x.ml - x'.1) (0, depthSs init, exprDs init, m1) (by kernel_rfl) (fun _ _ => Nnr _) (fun x hx => hx.1) (fun _ => ?_) ?_ ?_ ?_
  ·simp only [go_sem, ↓tfi, ↓fti, ↓reduceIte]
  ·simp only [go_sem, ↓tfi, ↓fti, ↓reduceIte]
   rfl
  ·exact ⟨.inl rfl, Nat.zero_le _, by simp [mdsS], by simp [mdsE]⟩
  ·rintro ⟨k, s, e, mm⟩ ⟨h1, h2, h3, h4⟩
   simp only at h1 h2 h3 h4
   have hy : ∀ (hk : k < methods.length), ∃ (X : Mc) (v1 v2 : Nat), (Rd mm (ptrAt x.ma (k * 8)) X.cs ∧ x.ma ≠ none) ∧ DepR [.v (.slice X.a X.l X.cp)] mm v1 v2 ∧ (mdsS (methods.take (k + 1)) = max (mdsS (methods.take k)) v1 ∧ mdsE (methods.take (k + 1)) = max (mdsE (methods.take k)) v2) ∧ v1 ≤ big ∧ v2 ≤ big := fun hk => by
    have hrep := mdRep_up (leM_tr l1 h1) (ls_at s3 hk)
    have q1 := mdsS_mem (List.getElem_mem hk)
    have q2 := mdsE_mem (List.getElem_mem hk)
    have hrd := Rds_cells (Rds_upM (leM_tr l1 h1) r3) (by omega : k < x.ml)
    have t1 := mdsS_take hk
    have t2 := mdsE_take hk
    obtain ⟨X, ⟨e1, _⟩, ⟨e2, e3, e4, e5⟩, hk2, _, zs, r5, s5⟩ := md_parts hrep
    rw [e1] at hrd
    exact ⟨X, _, _, hrd, depths_all _ _ X.a X.l X.cp zs mm (Nnr _) (by omega) (by omega) e4 (by rw [e4]; exact hk2.l) r5 s5, ⟨t1, t2⟩, by omega, by omega⟩
   simp only [go_sem, ↓tfi, ↓fti, ↓reduceIte]
   refine ⟨fun hlt => ?_, fun hge => ?_⟩
   ·have hk : k < methods.length := by clear hy; omega
    refine Exists.elim (hy hk) fun X hy1 => Exists.elim hy1 fun v1 hy2 => Exists.elim hy2 fun v2 hy3 => ⟨⟨by clear hy hy1 hy2 hy3; omega, hlt, hy3.1.2⟩, X.cs, ⟨hy3.1.1, rfl⟩, ?_⟩
    clear hy hy1 hy2
    have hD := hy3.2.1
    have e1 := hy3.2.2.1.1
    have e2 := hy3.2.2.1.2
    clear hy3
    simp only [go_sem, ↓tfi, ↓fti, ↓reduceIte, Mc.cs]
    refine cvl (hD.mono ?_)
    clear hD
    rintro r H' m2 hm2 ⟨l2, rfl, rfl⟩
    simp only [go_sem, ↓tfi, ↓fti, ↓reduceIte]
    refine ⟨by unfold I64; simp only [big] at hmb; omega, (k + 1, ((max (depthSs init) (mdsS (methods.take (k + 1))) : Nat) : Int), ((max (exprDs init) (mdsE (methods.take (k + 1))) : Nat) : Int), m2), ⟨⟨?_, ?_, by simp⟩, .inl rfl⟩, ⟨leM_tr h1 l2, by simp only; omega, by simp only [Nat.max_def], by simp only [Nat.max_def]⟩, by simp only; omega⟩
    ·simp only
     rw [e1, h3]
     clear h3 h4 e1 e2
     (repeat' split) <;> omega
    ·simp only
     rw [e2, h4]
     clear h3 h4 e1 e2
     (repeat' split) <;> omega
   ·clear hy
    have : methods.take k = methods := List.take_of_length_le (by omega)
    rw [this] at h3 h4
    have e0 : deepL ⟨x.fl, x.name, x.super, ifs, fields, methods, init⟩ = (decide (24 < max (depthSs init) (mdsS methods)) || decide (24 < max (exprDs init) (mdsE methods))) := rfl
    refine ⟨leM_tr l1 h1, ?_⟩
    rw [e0]
    congr 1
    ·rw [decide_eq_decide]; omega
    ·rw [decide_eq_decide]; omega
def dupB {α : Type} [BEq α] : List α → List α → Bool
 | _, [] => false
 | seen, a :: r => seen.contains a || dupB (seen ++ [a]) r
def dupL (d : Cd) : Bool := dupB [] d.ifs || dupB [] (d.fields.map (·.name)) || dupB [] (d.methods.map fun m => (m.name, m.params.length))
def entS (l : List (List UInt8)) : List Value := (l.map fun s => [.string (bs s), .bool true]).flatten
theorem plains_map : ∀ (l : List Value), plains (l.map .v) = some l
 | [] => rfl
 | x :: r => by simp [plains, plain, plains_map r]
theorem okL_map {n : Nat} {vc : List Vc} : ∀ (l : List Value), okL n vc (l.map .v) = True
 | [] => rfl
 | x :: r => by simp [okL, okA, okL_map r]
theorem str_eq {a b : List UInt8} : (Value.string (bs a) = Value.string (bs b)) = (a = b) := propext ⟨fun h => bs_inj (Value.string.inj h), fun h => by rw [h]⟩
theorem findE_seen (s : List UInt8) : ∀ (l : List (List UInt8)), isT (findE (entS l) (.string (bs s))) = l.contains s
 | [] => rfl
 | a :: r => by
  have e : entS (a :: r) = .string (bs a) :: .bool true :: entS r := rfl
  rw [e, findE, str_eq, List.contains_cons]
  by_cases h : a = s
  ·rw [if_pos h]; subst h; simp [isT]
  ·rw [if_neg h, findE_seen s r, (beq_eq_false_iff_ne.2 fun e => h e.symm : (s == a) = false), Bool.false_or]
theorem putE_new (s : List UInt8) : ∀ (l : List (List UInt8)), l.contains s = false → putE (entS l) (.string (bs s)) (.bool true) = entS (l ++ [s])
 | [], _ => rfl
 | a :: r, h => by
  have e : entS (a :: r) = .string (bs a) :: .bool true :: entS r := rfl
  rw [List.contains_cons, Bool.or_eq_false_iff] at h
  have hn : ¬ a = s := fun e => (beq_eq_false_iff_ne.1 h.1) e.symm
  rw [e, putE, str_eq, if_neg hn, putE_new s r h.2]
  rfl
abbrev MKey := List UInt8 × Nat
def keyV (k : MKey) : Value := .agg ⟨[.string (bs k.1), .int .i64 k.2]⟩
theorem keyG_k (k : MKey) : keyG 1000001 (keyV k) = True := keyG_1 _ _
def entK (l : List MKey) : List Value := (l.map fun k => [keyV k, .bool true]).flatten
theorem keyV_eq {a b : MKey} : (keyV a = keyV b) = (a = b) := propext ⟨fun h => by
 obtain ⟨a1, a2⟩ := a
 obtain ⟨b1, b2⟩ := b
 simp only [keyV, Value.agg.injEq, Array.mk.injEq, List.cons.injEq, Value.string.injEq, Value.int.injEq, true_and, and_true] at h
 rw [bs_inj h.1, show a2 = b2 by omega], fun h => by rw [h]⟩
theorem findE_keys (k : MKey) : ∀ (l : List MKey), isT (findE (entK l) (keyV k)) = l.contains k
 | [] => rfl
 | a :: r => by
  have e : entK (a :: r) = keyV a :: .bool true :: entK r := rfl
  rw [e, findE, keyV_eq, List.contains_cons]
  by_cases h : a = k
  ·rw [if_pos h]; subst h; simp [isT]
  ·rw [if_neg h, findE_keys k r, (beq_eq_false_iff_ne.2 fun e => h e.symm : (k == a) = false), Bool.false_or]
theorem putE_keys (k : MKey) : ∀ (l : List MKey), l.contains k = false → putE (entK l) (keyV k) (.bool true) = entK (l ++ [k])
 | [], _ => rfl
 | a :: r, h => by
  have e : entK (a :: r) = keyV a :: .bool true :: entK r := rfl
  rw [List.contains_cons, Bool.or_eq_false_iff] at h
  have hn : ¬ a = k := fun e => (beq_eq_false_iff_ne.1 h.1) e.symm
  rw [e, putE, keyV_eq, if_neg hn, putE_keys k r h.2]
  rfl
theorem Rds_take {m : Mem} {a : Option Addr} {n k c : Nat} {l : List (List UInt8)} (h : Rds m a n 1 (strs l)) (hk : k ≤ n) : Rds m (if c = 0 then a else a.map (·.add (0 * 1))) (k - 0) 1 (strs (l.take k)) := by
 have hl := h.1
 simp only [strs, List.length_map, Nat.mul_one] at hl
 refine ⟨by simp [strs]; omega, fun h0 => ?_⟩
 obtain ⟨ad, rfl, hs, hcell⟩ := h.2 (by omega)
 have e : (if c = 0 then some ad else (some ad).map (·.add (0 * 1))) = some ad := by
  by_cases hc : c = 0
  ·rw [if_pos hc]
  ·rw [if_neg hc]; rfl
 refine ⟨ad, e, hs, fun j hj => ?_⟩
 obtain ⟨h1, h2⟩ := hcell j (by omega)
 refine ⟨?_, h2⟩
 rw [h1]
 simp only [strs, List.getElem?_map, List.getElem?_take]
 rw [if_pos (by omega)]
theorem dup_step {α : Type} [BEq α] {l : List α} {k : Nat} (hk : k < l.length) : dupB (l.take k) (l.drop k) = ((l.take k).contains l[k] || dupB (l.take (k + 1)) (l.drop (k + 1))) := by
 rw [List.drop_eq_getElem_cons hk, dupB, List.take_succ_eq_append_getElem hk]
/-! The types of the maps. -/
theorem mapD60 : mapD Tryz.prog 90 = (1000000, none) := by kernel_rfl
theorem mapD95 : mapD Tryz.prog 151 = (1000001, none) := by kernel_rfl
theorem mapOk60 : MapOk Tryz.prog 90 :=
 mapOk_str (k := 9) (e := 4) (by kernel_rfl) (by kernel_rfl) (by rw [mapD60]; decide) fun w => by
  rw [mapD60]
  exact zeroV_run (i := (Tryz.prog.info? 4).getD default) (by kernel_rfl) (by kernel_rfl) w
theorem zeroSg : zeroO Tryz.prog 153 = some [.v (.string (bs [])), .v (.int .i64 0)] := by kernel_rfl
theorem aggSg : aggN Tryz.prog 153 = some (some 2) := by kernel_rfl
theorem szSg : szT Tryz.prog 153 = 2 := by kernel_rfl
theorem fldSg_0 : fldO Tryz.prog 153 0 = some (0, none, 1) := by kernel_rfl
theorem fldSg_1 : fldO Tryz.prog 153 1 = some (1, none, 1) := by kernel_rfl
theorem bldSg : bldOk Tryz.prog 153 = true := by kernel_rfl
theorem eqOkSg : EqOk Tryz.prog 153 := eqOk_of zeroSg (by kernel_rfl) (by kernel_rfl) (by kernel_rfl) rfl (by kernel_rfl)
attribute [go_sem] mapD60 mapD95 zeroSg aggSg szSg fldSg_0 fldSg_1 bldSg
theorem tl_iff {a b : ByteArray} : tl a = tl b ↔ a = b := ⟨fun h => by have := congrArg bs h; rwa [bs_tl, bs_tl] at this, fun h => by rw [h]⟩
theorem findAsk {s : ByteArray} {n : Int} (w : World) : ∀ (es : List MapEntry) (i : Nat), (∀ x ∈ es, ∃ a k, x.key = .agg ⟨[.string a, .int .i64 k]⟩) →
  (Instr.findAsking 153 (.agg ⟨[.string s, .int .i64 n]⟩) es i).run Tryz.prog w = .ok (ixE es (.agg ⟨[.string s, .int .i64 n]⟩) i) w
 | [], _, _ => rfl
 | e :: es, i, h => by
  obtain ⟨a, k, ha⟩ := h e (List.mem_cons_self ..)
  have ih := findAsk (s := s) (n := n) w es (i + 1) fun x hx => h x (List.mem_cons_of_mem _ hx)
  have he := (eqOkSg [.string s, .int .i64 n] [.string a, .int .i64 k] (decide (tl s = tl a) && (decide (n = k) && true)) w (.const undef) (.const undef) .eql rfl (by rw [zeroSg]; rfl)).2
  simp only [Instr.findAsking, Sem.run_bind, ha, ixE]
  rw [show (Array.mk [Value.string s, Value.int .i64 n]) = [Value.string s, Value.int .i64 n].toArray from rfl, show (Array.mk [Value.string a, Value.int .i64 k]) = [Value.string a, Value.int .i64 k].toArray from rfl, he]
  simp only [Result.andThen_ok]
  by_cases hk : (Value.agg [Value.string a, Value.int .i64 k].toArray = Value.agg [Value.string s, Value.int .i64 n].toArray)
  ·rw [if_pos (ha.trans hk)]
   simp only [Value.agg.injEq, Array.mk.injEq, List.cons.injEq, Value.string.injEq, Value.int.injEq, true_and, and_true] at hk
   obtain ⟨rfl, rfl⟩ := hk
   simp
  ·rw [if_neg fun e => hk (ha.symm.trans e)]
   have : (decide (tl s = tl a) && (decide (n = k) && true)) = false := by
    simp only [Value.agg.injEq, Array.mk.injEq, List.cons.injEq, Value.string.injEq, Value.int.injEq, true_and, and_true] at hk
    simp only [Bool.and_true, Bool.and_eq_false_iff, decide_eq_false_iff_not, tl_iff]
    by_cases h1 : s = a
    ·exact .inr fun h2 => hk ⟨h1.symm, h2.symm⟩
    ·exact .inl h1
   rw [this]
   exact ih
theorem mapOk95 : MapOk Tryz.prog 151 := by
 refine ⟨by rw [mapD95]; decide, 153, 4, by kernel_rfl, fun w key em n hk => ?_, fun w key es hk hes => ?_, fun w => ?_⟩
 ·rw [mapD95] at hk
  unfold keyG at hk
  rw [if_pos rfl] at hk
  obtain ⟨s, k, rfl⟩ := hk
  have hu : Tryz.prog.underlying 153 = some (.struct (Tryz.prog.fieldsOf 153)) := by kernel_rfl
  have hfs : Tryz.prog.fieldsOf 153 = #[(Tryz.prog.fieldsOf 153).getD 0 default, (Tryz.prog.fieldsOf 153).getD 1 default] := by kernel_rfl
  rw [hfs] at hu
  have n0 : ((Tryz.prog.fieldsOf 153).getD 0 default).name = "name" := by kernel_rfl
  have n1 : ((Tryz.prog.fieldsOf 153).getD 1 default).name = "params" := by kernel_rfl
  have t0 : ((Tryz.prog.fieldsOf 153).getD 0 default).type = 9 := by kernel_rfl
  have t1 : ((Tryz.prog.fieldsOf 153).getD 1 default).type = 3 := by kernel_rfl
  have o0 : ((Tryz.prog.fieldsOf 153).getD 0 default).offset = 0 := by kernel_rfl
  have o1 : ((Tryz.prog.fieldsOf 153).getD 1 default).offset = 1 := by kernel_rfl
  have p0 := run_part_plain (P := Tryz.prog) (w := w) (e := 9) (by kernel_rfl) (xs := #[.string s, .int .i64 k]) (off := 0) (v := .string s) rfl
  have p1 := run_part_plain (P := Tryz.prog) (w := w) (e := 3) (by kernel_rfl) (xs := #[.string s, .int .i64 k]) (off := 1) (v := .int .i64 k) rfl
  have c0 := MapKept.run_checkKey (P := Tryz.prog) (w := w) (kt := 9) (d := .string) (k := .string s) (by kernel_rfl) (by simp [MapKept.IsKey]) em n
  have c1 := MapKept.run_checkKey (P := Tryz.prog) (w := w) (kt := 3) (d := .int .i64) (k := .int .i64 k) (by kernel_rfl) (by simp [MapKept.IsKey]) em n
  generalize (Tryz.prog.fieldsOf 153).getD 0 default = f0 at *
  generalize (Tryz.prog.fieldsOf 153).getD 1 default = f1 at *
  rw [Instr.checkKey]
  simp [run_underlying hu, Result.andThen, n0, n1, t0, t1, o0, o1, p0, p1, c0, c1]
 ·rw [mapD95] at hk hes
  unfold keyG at hk hes
  simp only [if_true] at hk hes
  obtain ⟨s, k, rfl⟩ := hk
  rw [run_findKey_eq w (by kernel_rfl)]
  exact findAsk w es 0 hes
 ·rw [mapD95]
  exact zeroV_run (i := (Tryz.prog.info? 4).getD default) (by kernel_rfl) (by kernel_rfl) w
attribute [go_sem] mapOk60 mapOk95
theorem dup_spec (d : Cd) (cs : List Value) (m : Mem) (h : cdRep m d cs) : Ans 56 [.v (.agg ⟨cs⟩)] m (.bool (dupL d)) := by
 obtain ⟨fl, name, super, ifs, fields, methods, init⟩ := d
 obtain ⟨x, ⟨rfl, rfl, rfl, rfl⟩, ⟨hil, hic, hfn, hfc, hml, hmc, hsl, hsc⟩, hok, r1, r2, xs, ys, r3, s3, r4, s4⟩ := h
 simp only at hil hfn hml hsl r1 r2 r3 s3 r4 s4
 have hib : x.il ≤ big := by rw [hil]; exact hok.il
 have hfb : x.fn ≤ big := by rw [hfn]; exact hok.fn
 have hmb : x.ml ≤ big := by rw [hml]; exact hok.ml
 clear r4 s4
 refine enter cfN puN Tryz.func56 rfl rfl (by kernel_rfl) rfl ?_ ?_
 ·simp only [go_sem, ↓tfi, ↓fti, ↓reduceIte, Cc.cs]
 ·simp only [go_sem, ↓tfi, ↓fti, ↓reduceIte, Cc.cs]
  refine WP_loop puN (fun x' : Nat × Mem => ⟨[⟨1, [], .box 0 0⟩, ⟨13, [], .v (.slice x.ia x.il x.ic)⟩, ⟨14, [], .v (.int .i64 x.il)⟩, ⟨15, [], .v (.int .i64 x'.1)⟩], [], [⟨0, 59, x.cs.map .v⟩], [], 1, x'.2⟩)
   (fun x' => leM m x'.2 ∧ x'.1 ≤ x.il ∧ dupB [] ifs = dupB (ifs.take x'.1) (ifs.drop x'.1)) (fun x' => x.il - x'.1) (0, m) (by kernel_rfl) (fun _ _ => Nnr _) (fun x hx => hx.1) (fun _ => ?_) ?_ ?_ ?_
  ·simp only [go_sem, ↓tfi, ↓fti, ↓reduceIte, Cc.cs]
  ·simp only [go_sem, ↓tfi, ↓fti, ↓reduceIte, Cc.cs]
   rfl
  ·exact ⟨.inl rfl, Nat.zero_le _, rfl⟩
  ·rintro ⟨k, mm⟩ ⟨h1, h2, h3⟩
   simp only at h1 h2 h3
   have hy : ∀ (hk : k < ifs.length), (Rd mm (ptrAt x.ia k) [.string (bs ifs[k])] ∧ x.ia ≠ none) ∧ FnH Tryz.prog 144 [.v (slv x.ia x.ic 0 k 1), .v (.string (bs ifs[k]))] ⟨[], []⟩ mm fun r H' _ => r = .v (.bool ((ifs.take k).contains ifs[k])) ∧ H' = ⟨[], []⟩ := fun hk =>
    ⟨strs_rd (Rds_upM h1 r1) hk, contains_spec (ifs.take k) ifs[k] _ (k - 0) (x.ic - 0) mm (Rds_take (Rds_upM h1 r1) (by omega)) (by simp only [big] at hib; omega)⟩
   simp only [go_sem, ↓tfi, ↓fti, ↓reduceIte, Cc.cs]
   refine ⟨fun hlt => ?_, fun hge => ?_⟩
   ·have hk : k < ifs.length := by clear hy; omega
    have hy' := hy hk
    clear hy
    refine ⟨⟨by clear hy'; omega, hlt, hy'.1.2⟩, _, hy'.1.1, ?_⟩
    simp only [go_sem, ↓tfi, ↓fti, ↓reduceIte, Cc.cs]
    have hds := dup_step hk
    refine ⟨⟨Int.le_refl _, by clear hy'; omega, by clear hy'; omega⟩, by kernel_rfl, FnV_of (hy'.2.mono ?_)⟩
    clear hy'
    rintro r H' m2 hm2 ⟨rfl, rfl⟩
    simp only [go_sem, ↓tfi, ↓fti, ↓reduceIte, Cc.cs]
    refine ⟨fun hc => ⟨leM_tr h1 (.inr hm2), ?_⟩, fun hc => ⟨by unfold I64; simp only [big] at hib; omega, (k + 1, m2), ⟨by simp, .inl rfl⟩, ⟨leM_tr h1 (.inr hm2), by simp only; omega, ?_⟩, by simp only; omega⟩⟩
    ·simp only [dupL, h3, hds, hc, Bool.true_or]
    ·simp only
     rw [h3, hds, hc, Bool.false_or]
   ·clear hy
    have hI : dupB [] ifs = false := by
     rw [h3, List.drop_of_length_le (by omega)]
     rfl
    refine WP_loop puN (fun x' : Nat × Mem => ⟨[⟨1, [], .box 0 0⟩, ⟨5, [], .mp 1⟩, ⟨29, [], .v (.slice x.fa x.fn x.fc)⟩, ⟨30, [], .v (.int .i64 x.fn)⟩, ⟨31, [], .v (.int .i64 x'.1)⟩], [], [⟨1, 1000000, (entS ((fields.map (·.name)).take x'.1)).map .v⟩, ⟨0, 59, x.cs.map .v⟩], [], 2, x'.2⟩)
     (fun x' => leM mm x'.2 ∧ x'.1 ≤ x.fn ∧ dupB [] (fields.map (·.name)) = dupB ((fields.map (·.name)).take x'.1) ((fields.map (·.name)).drop x'.1)) (fun x' => x.fn - x'.1) (0, mm) (by kernel_rfl) (fun _ _ => Nnr _) (fun x hx => ?_) (fun _ => ?_) ?_ ?_ ?_
    ·exact hx.1
    ·simp only [go_sem, ↓tfi, ↓fti, ↓reduceIte, Cc.cs, okL_map]
    ·simp only [go_sem, ↓tfi, ↓fti, ↓reduceIte, Cc.cs]
     exact ⟨rfl, rfl⟩
    ·exact ⟨.inl rfl, Nat.zero_le _, rfl⟩
    ·rintro ⟨j, mj⟩ ⟨q1, q2, q3⟩
     simp only at q1 q2 q3
     have hy : ∀ (hj : j < fields.length), Rd mj (ptrAt x.fa (j * 5)) (fields[j]).cs ∧ x.fa ≠ none := fun hj => by
      have := Rds_cells (Rds_upM (leM_tr h1 q1) r2) (by omega : j < x.fn)
      rw [flat_at (f := Fc.cs) (sz := 5) (fun _ => rfl) hj] at this
      exact this
     simp only [go_sem, ↓tfi, ↓fti, ↓reduceIte, Cc.cs]
     refine ⟨fun hlt => ?_, fun hge => ?_⟩
     ·have hj : j < fields.length := by omega
      refine ⟨⟨by omega, hlt, (hy hj).2⟩, (fields[j]).cs, ⟨(hy hj).1, rfl⟩, ?_⟩
      simp only [go_sem, ↓tfi, ↓fti, ↓reduceIte, Cc.cs, Fc.cs, plains_map, findE_seen]
      have hjl : j < (fields.map (·.name)).length := by simpa using hj
      have hds := dup_step hjl
      have hget : (fields.map (·.name))[j] = fields[j].name := by simp
      rw [hget] at hds
      refine ⟨fun hc => ⟨leM_tr h1 q1, ?_⟩, fun hc => ⟨by unfold I64; simp only [big] at hfb; omega, (j + 1, mj), ⟨by simp, ?_, .inl rfl⟩, ⟨q1, by simp only; omega, ?_⟩, by simp only; omega⟩⟩
      ·simp only [dupL, q3, hds, hc, Bool.true_or, Bool.or_true]
      ·simp only
       rw [putE_new _ _ hc, List.take_succ_eq_append_getElem hjl, hget]
      ·simp only
       rw [q3, hds, hc, Bool.false_or]
     ·have hF : dupB [] (fields.map (·.name)) = false := by
       rw [q3, List.drop_of_length_le (by simp; omega)]
       rfl
      refine WP_loop puN (fun x' : Nat × Mem => ⟨[⟨1, [], .box 0 0⟩, ⟨8, [], .mp 2⟩, ⟨45, [], .v (.slice x.ma x.ml x.mc)⟩, ⟨46, [], .v (.int .i64 x.ml)⟩, ⟨47, [], .v (.int .i64 x'.1)⟩], [], [⟨2, 1000001, (entK ((methods.map fun m => (m.name, m.params.length)).take x'.1)).map .v⟩, ⟨0, 59, x.cs.map .v⟩], [], 3, x'.2⟩)
       (fun x' => leM mj x'.2 ∧ x'.1 ≤ x.ml ∧ dupB [] (methods.map fun m => (m.name, m.params.length)) = dupB ((methods.map fun m => (m.name, m.params.length)).take x'.1) ((methods.map fun m => (m.name, m.params.length)).drop x'.1)) (fun x' => x.ml - x'.1) (0, mj) (by kernel_rfl) (fun _ _ => Nnr _) (fun x hx => hx.1) (fun _ => ?_) ?_ ?_ ?_
      ·simp only [go_sem, ↓tfi, ↓fti, ↓reduceIte, Cc.cs, okL_map]
      ·simp only [go_sem, ↓tfi, ↓fti, ↓reduceIte, Cc.cs]
       exact ⟨rfl, rfl⟩
      ·exact ⟨.inl rfl, Nat.zero_le _, rfl⟩
      ·rintro ⟨k, mk⟩ ⟨p1, p2, p3⟩
       simp only at p1 p2 p3
       have hy : ∀ (hj : k < methods.length), ∃ X : Mc, (Rd mk (ptrAt x.ma (k * 8)) X.cs ∧ x.ma ≠ none) ∧ X.name = methods[k].name ∧ X.pl = methods[k].params.length := fun hj => by
        have hrep := mdRep_up (leM_tr h1 (leM_tr q1 p1)) (ls_at s3 hj)
        have hrd := Rds_cells (Rds_upM (leM_tr h1 (leM_tr q1 p1)) r3) (by omega : k < x.ml)
        obtain ⟨X, e1, e2, _⟩ := hrep
        rw [e1.1] at hrd
        exact ⟨X, hrd, e1.2.2.2.1, e2.1⟩
       simp only [go_sem, ↓tfi, ↓fti, ↓reduceIte, Cc.cs]
       refine ⟨fun hlt => ?_, fun hge => ?_⟩
       ·have hj : k < methods.length := by omega
        refine Exists.elim (hy hj) fun X hX => ⟨⟨by clear hX hy; omega, hlt, hX.1.2⟩, X.cs, ⟨hX.1.1, rfl⟩, ?_⟩
        clear hy
        have hnm := hX.2.1
        have hpl := hX.2.2
        clear hX
        have hkv : Value.agg ⟨[.string (bs X.name), .int .i64 X.pl]⟩ = keyV (X.name, X.pl) := rfl
        simp only [go_sem, ↓tfi, ↓fti, ↓reduceIte, Cc.cs, Mc.cs, plains_map, hkv, keyG_k, findE_keys]
        have hjl : k < (methods.map fun m => (m.name, m.params.length)).length := by simpa using hj
        have hds := dup_step hjl
        have hget : (methods.map fun m => (m.name, m.params.length))[k] = (X.name, X.pl) := by simp [hnm, hpl]
        rw [hget] at hds
        refine ⟨fun hc => ⟨leM_tr h1 (leM_tr q1 p1), ?_⟩, fun hc => ⟨by unfold I64; simp only [big] at hmb; omega, (k + 1, mk), ⟨by simp, ?_, .inl rfl⟩, ⟨p1, by simp only; omega, ?_⟩, by simp only; omega⟩⟩
        ·simp only [dupL, p3, hds, hc, Bool.true_or, Bool.or_true]
        ·simp only
         rw [putE_keys _ _ hc, List.take_succ_eq_append_getElem hjl, hget]
        ·simp only
         rw [p3, hds, hc, Bool.false_or]
       ·have hM : dupB [] (methods.map fun m => (m.name, m.params.length)) = false := by
         rw [p3, List.drop_of_length_le (by simp; omega)]
         rfl
        exact ⟨leM_tr h1 (leM_tr q1 p1), by simp only [dupL, hI, hF, hM, Bool.or_false]⟩
def checkL : List (List UInt8) → List Cd → List UInt8 × Int
 | _, [] => ([], 0)
 | seen, d :: r => if classL d = true then (if deepL d = true then (d.name, 9) else if (seen.contains d.name || dupL d) = true then (d.name, 6) else checkL (seen ++ [d.name]) r) else (d.name, 4)
theorem check_spec (l : List Cd) (p : Option Addr) (n c : Nat) (m : Mem) (hg : Glob m) (hC : ∀ d ∈ l, CdB d) (h : prRep m l p n c) :
  FnH Tryz.prog 27 [.v (.slice p n c)] ⟨[], []⟩ m fun r H' m' => leM m m' ∧ H' = ⟨[], []⟩ ∧ r = .tup [.v (.string (bs (checkL [] l).1)), .v (.int .i64 (checkL [] l).2)] := by
 obtain ⟨hl, hcp, hn, xs, r1, s1⟩ := h
 refine enter cfN puN Tryz.func27 rfl rfl (by kernel_rfl) rfl ?_ ?_
 ·simp only [go_sem, ↓tfi, ↓fti, ↓reduceIte]
 ·simp only [go_sem, ↓tfi, ↓fti, ↓reduceIte]
  refine WP_loop puN (fun x : Nat × Mem => ⟨[⟨4, [], .mp 0⟩, ⟨8, [], .v (.slice p n c)⟩, ⟨9, [], .v (.int .i64 n)⟩, ⟨10, [], .v (.int .i64 x.1)⟩], [], [⟨0, 1000000, (entS ((l.map (·.name)).take x.1)).map .v⟩], [], 1, x.2⟩)
   (fun x => leM m x.2 ∧ x.1 ≤ n ∧ checkL [] l = checkL ((l.map (·.name)).take x.1) (l.drop x.1)) (fun x => n - x.1) (0, m) (by kernel_rfl) (fun _ _ => Nnr _) (fun x hx => hx.1) (fun _ => ?_) ?_ ?_ ?_
  ·simp only [go_sem, ↓tfi, ↓fti, ↓reduceIte, okL_map]
  ·simp only [go_sem, ↓tfi, ↓fti, ↓reduceIte]
   exact ⟨rfl, rfl⟩
  ·exact ⟨.inl rfl, Nat.zero_le _, rfl⟩
  ·rintro ⟨k, mm⟩ ⟨h1, h2, h3⟩
   simp only at h1 h2 h3
   have hy : ∀ (hk : k < l.length), ∃ X : Cc, (Rd mm (ptrAt p (k * 7)) X.cs ∧ p ≠ none) ∧ X.name = l[k].name ∧
     (Ans 54 [.v (.agg ⟨X.cs⟩)] mm (.bool (classL l[k]))) ∧ (∀ m', leM mm m' → Ans 55 [.v (.agg ⟨X.cs⟩)] m' (.bool (deepL l[k]))) ∧ (∀ m', leM mm m' → Ans 56 [.v (.agg ⟨X.cs⟩)] m' (.bool (dupL l[k]))) := fun hk => by
    have hrep := cdRep_up h1 (ls_at s1 hk)
    have hrd := Rds_cells (Rds_upM h1 r1) (by omega : k < n)
    have hX : ∃ X : Cc, (xs.drop (k * 7)).take 7 = X.cs ∧ X.name = l[k].name := by
     obtain ⟨X, e1, _⟩ := hrep
     exact ⟨X, e1.1, e1.2.2.1⟩
    obtain ⟨X, e1, e2⟩ := hX
    rw [e1] at hrd hrep
    have hok := hC _ (List.getElem_mem hk)
    exact ⟨X, hrd, e2, class_spec2 _ _ mm (hg.upM h1) hrep, fun m' hle => deep_spec _ _ m' hok (cdRep_up hle hrep), fun m' hle => dup_spec _ _ m' (cdRep_up hle hrep)⟩
   have hst : ∀ (hk : k < l.length), checkL [] l = (if classL l[k] = true then (if deepL l[k] = true then (l[k].name, 9) else if (((l.map (·.name)).take k).contains l[k].name || dupL l[k]) = true then (l[k].name, 6) else checkL ((l.map (·.name)).take (k + 1)) (l.drop (k + 1))) else (l[k].name, 4)) := fun hk => by
    rw [h3, List.drop_eq_getElem_cons hk, checkL]
    have : (l.map (·.name)).take (k + 1) = (l.map (·.name)).take k ++ [l[k].name] := by
     rw [List.take_succ_eq_append_getElem (by simpa using hk)]
     simp
    rw [this]
   clear hC
   simp only [go_sem, ↓tfi, ↓fti, ↓reduceIte]
   refine ⟨fun hlt => ?_, fun hge => ?_⟩
   ·have hk : k < l.length := by clear hy; omega
    have hst' := hst hk
    clear hst
    refine Exists.elim (hy hk) fun X hy' => ⟨⟨by clear hy hy'; omega, hlt, hy'.1.2⟩, X.cs, ⟨hy'.1.1, rfl⟩, ?_⟩
    clear hy
    have hnm := hy'.2.1
    have hV := hy'.2.2.1
    have hDp := hy'.2.2.2.1
    have hDu := hy'.2.2.2.2
    clear hy'
    simp only [go_sem, ↓tfi, ↓fti, ↓reduceIte, Cc.cs]
    refine cvl ((FnH_den hV (fun V => rfl)).mono ?_)
    clear hV
    rintro r H' m2 hm2 ⟨l2, rfl, rfl⟩
    simp only [go_sem, ↓tfi, ↓fti, ↓reduceIte, Cc.cs]
    refine ⟨fun b1 => ⟨leM_tr h1 l2, ?_⟩, fun b1 => cvl ((FnH_den (hDp m2 l2) (fun V => rfl)).mono ?_)⟩
    ·clear hDp hDu
     rw [hst', if_neg (by rw [b1]; decide), hnm]
    ·clear hDp
     rw [if_pos b1] at hst'
     rintro r H' m3 hm3 ⟨l3, rfl, rfl⟩
     have l23 := leM_tr l2 l3
     simp only [go_sem, ↓tfi, ↓fti, ↓reduceIte, Cc.cs, plains_map, findE_seen]
     refine ⟨fun b2 => ⟨leM_tr h1 l23, ?_⟩, fun b2 => ?_⟩
     ·clear hDu
      rw [hst', if_pos b2, hnm]
     ·rw [if_neg (by rw [b2]; decide)] at hst'
      refine ⟨fun b3 => cvl ((FnH_den (hDu m3 l23) (fun V => rfl)).mono ?_), fun b3 => ⟨leM_tr h1 l23, ?_⟩⟩
      ·clear hDu
       rw [← hnm, b3, Bool.false_or] at hst'
       rintro r H' m4 hm4 ⟨l4, rfl, rfl⟩
       have l24 := leM_tr l23 l4
       simp only [go_sem, ↓tfi, ↓fti, ↓reduceIte, Cc.cs, plains_map, findE_seen]
       refine ⟨fun b4 => ⟨leM_tr h1 l24, ?_⟩, fun b4 => ⟨by unfold I64; simp only [big] at hn; omega, (k + 1, m4), ⟨by simp, ?_, .inl rfl⟩, ⟨leM_tr h1 l24, by simp only; omega, ?_⟩, by simp only; omega⟩⟩
       ·rw [hst', if_pos b4]
       ·have hkl : k < (l.map (·.name)).length := by simpa using hk
        simp only
        rw [putE_new _ _ b3, List.take_succ_eq_append_getElem hkl, hnm]
        simp
       ·simp only
        rw [hst', if_neg (by rw [b4]; decide)]
      ·clear hDu
       rw [hst', ← hnm, b3, if_pos (by simp)]
   ·clear hy
    rw [h3, List.drop_of_length_le (by omega), checkL]
    exact ⟨h1, rfl⟩
def modsL : List (Int × List UInt8) := [(1, [112, 117, 98, 108, 105, 99]), (2, [112, 114, 105, 118, 97, 116, 101]), (4, [112, 114, 111, 116, 101, 99, 116, 101, 100]), (8, [115, 116, 97, 116, 105, 99]), (16, [102, 105, 110, 97, 108]), (32, [115, 121, 110, 99]), (1024, [97, 98, 115, 116, 114, 97, 99, 116])]
def Ex.args : Ex → List Ex | .mk _ _ _ _ _ args => args
def oneE : Ex := .mk 1 1 [] [] zTy []
def zeroE : Ex := .mk 1 0 [] [] zTy []
def twoE : Ex := .mk 1 2 [] [] zTy []
def aE : Ex := .mk 6 0 [97] [] zTy []
def sumE : Ex := .mk 16 0 [43] [] zTy [oneE, negE aE]
def arrE : Ex := .mk 14 0 [] [] ⟨1, 73, []⟩ [twoE]
def idxE : Ex := .mk 9 0 [] [] zTy [arrE, zeroE]
set_option maxRecDepth 100000 in
theorem ex1 : fmtE sumE = ([49, 32, 43, 32, 40, 32, 45, 32, 97, 32, 41], 0) := by decide +kernel
set_option maxRecDepth 100000 in
theorem ex2 : fmtE idxE = ([110, 101, 119, 32, 105, 110, 116, 32, 91, 32, 93, 32, 91, 32, 50, 32, 93, 32, 91, 32, 48, 32, 93], 0) := by decide +kernel
end Go.Proofs.YtimddhkipjedcaaGreatDoor.E
namespace Go.Proofs.YtimddhkipjedcaaGreatDoor.E
open Go Go.ChangeShapes Go.WideShapes Go.ChangeAt Go.RowKit
mutual
theorem depth_size : ∀ (e : Ex), depthE e ≤ sizeE e
 | .mk _ _ _ _ _ args => by
  have := depthL_size args
  simp only [depthE, sizeE]; omega
theorem depthL_size : ∀ (l : List Ex), depthL l ≤ sizeL l
 | [] => by simp [depthL]
 | e :: r => by
  have h1 := depth_size e
  have h2 := depthL_size r
  simp only [depthL, sizeL]; omega
end
section
variable {H : Type} {enc : TypeId × Value → H} {W : World}
end
theorem add_addA (ad : Addr) (i j : Nat) (h : ad.spot = none) : (ad.add i).add j = ad.add (i + j) := by
 obtain ⟨e1, e2, e3⟩ := add_parts ad i h
 obtain ⟨f1, f2, f3⟩ := add_parts (ad.add i) j e3
 obtain ⟨g1, g2, g3⟩ := add_parts ad (i + j) h
 rcases hx : (ad.add i).add j with ⟨b, o, s⟩
 rcases hy : ad.add (i + j) with ⟨b', o', s'⟩
 rw [hx] at f1 f2 f3
 rw [hy] at g1 g2 g3
 simp only at f1 f2 f3 g1 g2 g3
 subst f3 g3
 have h1 : b = b' := by omega
 have h2 : o = o' := by omega
 rw [h1, h2]
theorem Rd_sub {m : Mem} {x : Value} {cs : List Value} (h : Rd m x cs) (o n : Nat) (hn : o + n ≤ cs.length) : Rd m (ptrAdd x o) ((cs.drop o).take n) := by
 obtain ⟨ad, rfl, hs, hc⟩ := h
 obtain ⟨e1, e2, e3⟩ := add_parts ad o hs
 refine ⟨ad.add o, rfl, e3, fun j hj => ?_⟩
 have hl : ((cs.drop o).take n).length = n := by rw [List.length_take, List.length_drop]; omega
 rw [hl] at hj
 obtain ⟨h1, h2⟩ := hc (o + j) (by omega)
 refine ⟨by rw [add_addA ad o j hs, h1, List.getElem?_take, if_pos hj, List.getElem?_drop], by rw [e1, e2]; omega⟩
theorem same_all : ∀ (h : Nat) (a b : Ex) (ca cb : List Value) (m : Mem), depthE a ≤ h → exRep m a ca → exRep m b cb → Ans 17 [.v (.agg ⟨ca⟩), .v (.agg ⟨cb⟩)] m (.bool (eqE a b))
 | 0, .mk k n s c ty args, b, ca, cb, m, hd, _, _ => by simp [depthE] at hd
 | h + 1, .mk k n s c ty args, .mk k' n' s' c' ty' args', ca, cb, m, hd, ha, hb => by
  obtain ⟨x, rfl, rfl, rfl, rfl, rfl, rfl, hl, hcp, hn, xs, hr, hes⟩ := ex_parts ha
  obtain ⟨x', rfl, rfl, rfl, rfl, rfl, rfl, hl', hcp', hn', xs', hr', hes'⟩ := ex_parts hb
  simp only [depthE] at hd
  have hE := fun m' (hle : leM m m') => eqX_fact (exsRep_upM hle hes) (exsRep_upM hle hes') (f := 17) fun y hy z hz cy cz m'' hle2 r1 r2 => same_all h y z cy cz m'' (by have := depthL_mem hy; omega) r1 r2
  refine enter cfN puN Tryz.func17 rfl rfl (by kernel_rfl) rfl ?_ ?_
  ·simp only [go_sem, ↓tfi, ↓fti, ↓reduceIte, Nd.cs]
  ·simp only [go_sem, ↓tfi, ↓fti, ↓reduceIte, Nd.cs, eqOkT]
   have hX : eqE (Ex.mk x.k x.n x.s x.c x.ty args) (Ex.mk x'.k x'.n x'.s x'.c x'.ty args') = (decide (x.k = x'.k) && decide (x.n = x'.n) && decide (x.s = x'.s) && decide (x.c = x'.c) && Ty.eq x.ty x'.ty && (decide (args.length = args'.length) && allB args.length (atB eqE args args'))) := by rw [eqE, eqEs_all2, all2_allB]
   refine ⟨fun h => ?_, fun h => ?_⟩
   ·clear hE
    rw [hX]
    simp only [Ty.eq]
    rcases h with ((((h | h) | h) | h) | h | h | h) | h
    ·simp [h]
    ·simp [h]
    ·simp [h]
    ·simp [h]
    ·simp [h]
    ·simp [h]
    ·simp [h]
    ·rw [decide_eq_false (by omega : ¬ args.length = args'.length)]; simp
   ·have hll : args.length = args'.length := by clear hE; omega
    have hX2 : eqE (Ex.mk x.k x.n x.s x.c x.ty args) (Ex.mk x'.k x'.n x'.s x'.c x'.ty args') = allB args.length (atB eqE args args') := by rw [hX]; simp only [Ty.eq, h, hll, decide_true, Bool.true_and]
    clear hX
    refine WP_loop puN (fun y : Nat × Mem => ⟨[⟨2, [], .box 0 0⟩, ⟨3, [], .box 1 0⟩, ⟨5, [], .v (.int .i64 y.1)⟩], [], [⟨0, 33, x.cs.map .v⟩, ⟨1, 33, x'.cs.map .v⟩], [], 2, y.2⟩)
     (fun y => leM m y.2 ∧ y.1 ≤ x.l ∧ allB y.1 (atB eqE args args') = true) (fun y => x.l - y.1) (0, m) (by kernel_rfl) (fun _ _ => Nnr _) (fun y hy => hy.1) (fun _ => ?_) ?_ ?_ ?_
    ·simp only [go_sem, ↓tfi, ↓fti, ↓reduceIte, Nd.cs]
    ·simp only [go_sem, ↓tfi, ↓fti, ↓reduceIte, Nd.cs]
     rfl
    ·exact ⟨.inl rfl, Nat.zero_le _, rfl⟩
    ·rintro ⟨k, mm⟩ ⟨h1, h2, h3⟩
     simp only at h1 h2 h3
     have hy : ∀ (hk : k < args.length), ∃ X Y : Nd, (Rd mm (ptrAt x.a (k * 8)) X.cs ∧ x.a ≠ none) ∧ (Rd mm (ptrAt x'.a (k * 8)) Y.cs ∧ x'.a ≠ none) ∧ Ans 17 [.v (.agg ⟨X.cs⟩), .v (.agg ⟨Y.cs⟩)] mm (.bool (atB eqE args args' k)) := fun hk => by
      obtain ⟨X, Y, e1, e2, e3⟩ := hE mm h1 k hk hll
      have r1 := Rds_cells (Rds_upM h1 hr) (by omega : k < x.l)
      have r2 := Rds_cells (Rds_upM h1 hr') (by omega : k < x'.l)
      rw [e1] at r1
      rw [e2] at r2
      exact ⟨X, Y, r1, r2, e3 mm (.inl rfl)⟩
     clear hE
     simp only [go_sem, ↓tfi, ↓fti, ↓reduceIte, Nd.cs]
     refine ⟨fun hlt => ?_, fun hge => ?_⟩
     ·have hk : k < args.length := by clear hy; omega
      refine WP_draw (.hoist 0 (.hoist 1 (.hoist 2 (.hoist 3 (.hoist 4 (.hoist 5 (.hoist 6 (.hoist 7 (.hoist 8 (.hoist 9 (.alt 10 [] (.hoist 11 .done) .stop))))))))))) puN (by kernel_rfl) (by kernel_rfl) ?_
      simp only [go_sem, ↓tfi, ↓fti, ↓reduceIte, Nd.cs]
      refine Exists.elim (hy hk) fun X hy1 => Exists.elim hy1 fun Y hy2 => ⟨⟨by clear hy hy1 hy2; omega, hlt, hy2.1.2⟩, X.cs, ⟨hy2.1.1, rfl⟩, ?_⟩
      clear hy hy1
      have ha := hy2.2.2
      simp only [go_sem, ↓tfi, ↓fti, ↓reduceIte, Nd.cs]
      refine ⟨⟨by clear hy2 ha; omega, by clear hy2 ha; omega, hy2.2.1.2⟩, Y.cs, ⟨hy2.2.1.1, rfl⟩, ?_⟩
      clear hy2
      simp only [go_sem, ↓tfi, ↓fti, ↓reduceIte, Nd.cs]
      refine cvl ((FnH_den ha (fun V => rfl)).mono ?_)
      clear ha
      rintro r H' m2 hm2 ⟨hle2, rfl, rfl⟩
      simp only [go_sem, ↓tfi, ↓fti, ↓reduceIte, Nd.cs]
      refine ⟨fun hb => ⟨leM_tr h1 hle2, ?_⟩, fun hb => ⟨by unfold I64; simp only [big] at hn; omega, (k + 1, m2), ⟨by simp, .inl rfl⟩, ⟨leM_tr h1 hle2, by simp only; omega, ?_⟩, by simp only; omega⟩⟩
      ·rw [hX2, allB_no hk hb]
      ·simp only
       rw [allB_succ, h3, hb]
       rfl
     ·have : k = args.length := by clear hy; omega
      refine ⟨h1, ?_⟩
      rw [hX2, ← this, h3]
structure SbIt (X Y : Sd) (e e2 : St) (mm : Mem) (bT bE bB bA : Bool) : Prop where
 tg : ∀ m', leM mm m' → Ans 17 [.v (.agg ⟨X.tg.cs⟩), .v (.agg ⟨Y.tg.cs⟩)] m' (.bool bT)
 ex : ∀ m', leM mm m' → Ans 17 [.v (.agg ⟨X.ex.cs⟩), .v (.agg ⟨Y.ex.cs⟩)] m' (.bool bE)
 body : ∀ m', leM mm m' → Ans 18 [.v (.slice X.a X.l X.cp), .v (.slice Y.a Y.l Y.cp)] m' (.bool bB)
 alt : ∀ m', leM mm m' → Ans 18 [.v (.slice X.b X.l2 X.cp2), .v (.slice Y.b Y.l2 Y.cp2)] m' (.bool bA)
 eq : eqS e e2 = (decide (X.k = Y.k) && decide (X.name = Y.name) && Ty.eq X.ty Y.ty && bT && bE && bB && bA)
set_option maxHeartbeats 8000000 in
theorem sameB_all : ∀ (h : Nat) (l l2 : List St) (a : Option Addr) (n c : Nat) (a2 : Option Addr) (n2 c2 : Nat) (xs ys : List Value) (m : Mem), depthSs l ≤ h → n = l.length → n2 = l2.length → n ≤ big → n2 ≤ big → Rds m a n 23 xs → Rds m a2 n2 23 ys → stsRep m l xs → stsRep m l2 ys →
  Ans 18 [.v (.slice a n c), .v (.slice a2 n2 c2)] m (.bool (eqSs l l2)) := by
 intro h
 induction h using Nat.strongRecOn with
 | ind h ih =>
  intro l l2 a n c a2 n2 c2 xs ys m hd hl hl2 hn hn2 hr hr2 hs hs2
  have hX : eqSs l l2 = (decide (l.length = l2.length) && allB l.length (atB eqS l l2)) := by rw [eqSs_all2, all2_allB]
  refine enter cfN puN Tryz.func18 rfl rfl (by kernel_rfl) rfl ?_ ?_
  ·simp only [go_sem, ↓tfi, ↓fti, ↓reduceIte]
  ·simp only [go_sem, ↓tfi, ↓fti, ↓reduceIte]
   refine ⟨fun hne => ?_, fun heq => ?_⟩
   ·rw [hX, decide_eq_false (by clear ih; omega : ¬ l.length = l2.length)]; rfl
   ·have hll : l.length = l2.length := by clear ih; omega
    rw [decide_eq_true hll, Bool.true_and] at hX
    refine WP_loop puN (fun y : Nat × Mem => ⟨[⟨0, [], .v (.slice a n c)⟩, ⟨1, [], .v (.slice a2 n2 c2)⟩, ⟨5, [], .v (.int .i64 y.1)⟩], [], [], [], 0, y.2⟩)
     (fun y => leM m y.2 ∧ y.1 ≤ n ∧ allB y.1 (atB eqS l l2) = true) (fun y => n - y.1) (0, m) (by kernel_rfl) (fun _ _ => Nnr _) (fun y hy => hy.1) (fun _ => ?_) ?_ ?_ ?_
    ·simp only [go_sem, ↓tfi, ↓fti, ↓reduceIte]
    ·simp only [go_sem, ↓tfi, ↓fti, ↓reduceIte]
     rfl
    ·exact ⟨.inl rfl, Nat.zero_le _, rfl⟩
    ·rintro ⟨k, mm⟩ ⟨h1, h2, h3⟩
     simp only at h1 h2 h3
     have hy : ∀ (hk : k < l.length), ∃ (X Y : Sd) (bT bE bB bA : Bool) (e e2 : St), (Rd mm (ptrAt a (k * 23)) X.cs ∧ a ≠ none) ∧ (Rd mm (ptrAt a2 (k * 23)) Y.cs ∧ a2 ≠ none) ∧ SbIt X Y e e2 mm bT bE bB bA ∧ atB eqS l l2 k = eqS e e2 := fun hk => by
      have hk2 : k < l2.length := by omega
      have hrep := stRep_upM h1 (sts_at hs hk)
      have hrep2 := stRep_upM h1 (sts_at hs2 hk2)
      have hrd := Rds_cells (Rds_upM h1 hr) (by omega : k < n)
      have hrd2 := Rds_cells (Rds_upM h1 hr2) (by omega : k < n2)
      have q1 := depthSs_mem (List.getElem_mem hk)
      have hat : atB eqS l l2 k = eqS l[k] l2[k] := atB_at hk hk2
      cases he : l[k] with
      | mk k1 nm1 ty1 tg1 ex1 body1 alt1 =>
       cases he2 : l2[k] with
       | mk k2 nm2 ty2 tg2 ex2 body2 alt2 =>
        rw [he] at hrep q1 hat
        rw [he2] at hrep2 hat
        simp only [depthS] at q1
        obtain ⟨X, hX, rfl, rfl, rfl, htg, hex, hl1, hcp, hl2', hcp2, hok, zs, ws, r1, r2, s1, s2⟩ := st_parts hrep
        obtain ⟨Y, hY, rfl, rfl, rfl, htg', hex', hl1', hcp', hl2'', hcp2', hok', zs', ws', r1', r2', s1', s2'⟩ := st_parts hrep2
        rw [hX] at hrd
        rw [hY] at hrd2
        refine ⟨X, Y, _, _, _, _, _, _, hrd, hrd2, ⟨fun m' hle => same_all _ tg1 tg2 _ _ m' (Nnr _) (exRep_upM hle htg) (exRep_upM hle htg'), fun m' hle => same_all _ ex1 ex2 _ _ m' (Nnr _) (exRep_upM hle hex) (exRep_upM hle hex'), fun m' hle => ?_, fun m' hle => ?_, rfl⟩, hat⟩
        ·exact ih (depthSs body1) (by omega) body1 body2 X.a X.l X.cp Y.a Y.l Y.cp zs zs' m' (Nnr _) hl1 hl1' (by rw [hl1]; exact hok.l) (by rw [hl1']; exact hok'.l) (Rds_upM hle r1) (Rds_upM hle r1') (stsRep_upM hle s1) (stsRep_upM hle s1')
        ·exact ih (depthSs alt1) (by omega) alt1 alt2 X.b X.l2 X.cp2 Y.b Y.l2 Y.cp2 ws ws' m' (Nnr _) hl2' hl2'' (by rw [hl2']; exact hok.l2) (by rw [hl2'']; exact hok'.l2) (Rds_upM hle r2) (Rds_upM hle r2') (stsRep_upM hle s2) (stsRep_upM hle s2')
     clear ih
     simp only [go_sem, ↓tfi, ↓fti, ↓reduceIte]
     refine ⟨fun hlt => ?_, fun hge => ?_⟩
     ·have hk : k < l.length := by clear hy; omega
      refine WP_draw (.hoist 0 (.hoist 1 (.hoist 2 (.hoist 3 (.hoist 4 (.hoist 5 (.hoist 6 (.hoist 7 (.alt 8 [7, 6, 5, 4, 3, 2, 1, 0] (.alt 9 [7, 6, 5, 4, 3, 2, 1, 0] (.alt 10 [7, 6, 5, 4] (.alt 11 [] .done .stop) .stop) .stop) (.alt 9 [7, 6, 5, 4, 3, 2, 1, 0] (.alt 8 [7, 6, 5, 4, 3, 2, 1, 0] (.alt 10 [7, 6, 5, 4] (.alt 11 [] .done .stop) .stop) .stop) .stop)))))))))) puN (by kernel_rfl) (by kernel_rfl) ?_
      simp only [go_sem, ↓tfi, ↓fti, ↓reduceIte]
      refine Exists.elim (hy hk) fun X y1 => Exists.elim y1 fun Y y2 => Exists.elim y2 fun bT y3 => Exists.elim y3 fun bE y4 => Exists.elim y4 fun bB y5 => Exists.elim y5 fun bA y6 => Exists.elim y6 fun e y7 => Exists.elim y7 fun e2 y8 => ⟨⟨by clear hy y1 y2 y3 y4 y5 y6 y7 y8; omega, hlt, y8.1.2⟩, X.cs, ⟨y8.1.1, rfl⟩, ⟨by clear hy y1 y2 y3 y4 y5 y6 y7 y8; omega, by clear hy y1 y2 y3 y4 y5 y6 y7 y8; omega, y8.2.1.2⟩, Y.cs, ⟨y8.2.1.1, rfl⟩, ?_⟩
      clear hy y1 y2 y3 y4 y5 y6 y7
      have hS := y8.2.2.1
      have hat := y8.2.2.2
      clear y8
      simp only [go_sem, ↓tfi, ↓fti, ↓reduceIte, Sd.cs, Nd.cs, eqOkT]
      refine ⟨?_, ?_⟩
      ·refine ⟨fun he => cvl ((FnH_den (hS.tg mm (.inl rfl)) (fun V => rfl)).mono ?_), fun hne => ⟨h1, ?_⟩⟩
       ·have e0 : eqS e e2 = (bT && bE && bB && bA) := by rw [hS.eq]; simp only [Ty.eq, he, decide_true, Bool.true_and]
        rintro r H' m2 hm2 ⟨l2', rfl, rfl⟩
        simp only [go_sem, ↓tfi, ↓fti, ↓reduceIte, Sd.cs, Nd.cs]
        refine ⟨fun b1 => cvl ((FnH_den (hS.ex m2 l2') (fun V => rfl)).mono ?_), fun b1 => ⟨leM_tr h1 l2', ?_⟩⟩
        ·rintro r H' m3 hm3 ⟨l3, rfl, rfl⟩
         have k3 := leM_tr l2' l3
         simp only [go_sem, ↓tfi, ↓fti, ↓reduceIte, Sd.cs, Nd.cs]
         refine ⟨fun b2 => cvl ((hS.body m3 k3).mono ?_), fun b2 => ⟨leM_tr h1 k3, ?_⟩⟩
         ·rintro r H' m4 hm4 ⟨l4, rfl, rfl⟩
          have k4 := leM_tr k3 l4
          simp only [go_sem, ↓tfi, ↓fti, ↓reduceIte, Sd.cs, Nd.cs]
          refine ⟨fun b3 => cvl ((hS.alt m4 k4).mono ?_), fun b3 => ⟨leM_tr h1 k4, ?_⟩⟩
          ·rintro r H' m5 hm5 ⟨l5, rfl, rfl⟩
           have k5 := leM_tr k4 l5
           simp only [go_sem, ↓tfi, ↓fti, ↓reduceIte, Sd.cs, Nd.cs]
           refine ⟨fun b4 => ⟨leM_tr h1 k5, ?_⟩, fun b4 => ⟨by unfold I64; simp only [big] at hn; omega, (k + 1, m5), ⟨by simp, .inl rfl⟩, ⟨leM_tr h1 k5, by simp only; omega, ?_⟩, by simp only; omega⟩⟩
           ·rw [hX, allB_no hk (by rw [hat, e0, b4, Bool.and_false])]
           ·simp only
            rw [allB_succ, h3, hat, e0, b1, b2, b3, b4]
            rfl
          ·rw [hX, allB_no hk (by rw [hat, e0, b3, Bool.and_false]; rfl)]
         ·rw [hX, allB_no hk (by rw [hat, e0, b2, Bool.and_false]; rfl)]
        ·rw [hX, allB_no hk (by rw [hat, e0, b1]; rfl)]
       ·rw [hX, allB_no hk]
        rw [hat, hS.eq]
        simp only [Ty.eq]
        clear hS
        rcases hne with (h | h) | h | h | h <;> simp [h]
      ·refine ⟨fun he => cvl ((FnH_den (hS.tg mm (.inl rfl)) (fun V => rfl)).mono ?_), fun hne => ⟨h1, ?_⟩⟩
       ·have e0 : eqS e e2 = (bT && bE && bB && bA) := by rw [hS.eq]; simp only [Ty.eq, he, decide_true, Bool.true_and]
        rintro r H' m2 hm2 ⟨l2', rfl, rfl⟩
        simp only [go_sem, ↓tfi, ↓fti, ↓reduceIte, Sd.cs, Nd.cs]
        refine ⟨fun b1 => cvl ((FnH_den (hS.ex m2 l2') (fun V => rfl)).mono ?_), fun b1 => ⟨leM_tr h1 l2', ?_⟩⟩
        ·rintro r H' m3 hm3 ⟨l3, rfl, rfl⟩
         have k3 := leM_tr l2' l3
         simp only [go_sem, ↓tfi, ↓fti, ↓reduceIte, Sd.cs, Nd.cs]
         refine ⟨fun b2 => cvl ((hS.body m3 k3).mono ?_), fun b2 => ⟨leM_tr h1 k3, ?_⟩⟩
         ·rintro r H' m4 hm4 ⟨l4, rfl, rfl⟩
          have k4 := leM_tr k3 l4
          simp only [go_sem, ↓tfi, ↓fti, ↓reduceIte, Sd.cs, Nd.cs]
          refine ⟨fun b3 => cvl ((hS.alt m4 k4).mono ?_), fun b3 => ⟨leM_tr h1 k4, ?_⟩⟩
          ·rintro r H' m5 hm5 ⟨l5, rfl, rfl⟩
           have k5 := leM_tr k4 l5
           simp only [go_sem, ↓tfi, ↓fti, ↓reduceIte, Sd.cs, Nd.cs]
           refine ⟨fun b4 => ⟨leM_tr h1 k5, ?_⟩, fun b4 => ⟨by unfold I64; simp only [big] at hn; omega, (k + 1, m5), ⟨by simp, .inl rfl⟩, ⟨leM_tr h1 k5, by simp only; omega, ?_⟩, by simp only; omega⟩⟩
           ·rw [hX, allB_no hk (by rw [hat, e0, b4, Bool.and_false])]
           ·simp only
            rw [allB_succ, h3, hat, e0, b1, b2, b3, b4]
            rfl
          ·rw [hX, allB_no hk (by rw [hat, e0, b3, Bool.and_false]; rfl)]
         ·rw [hX, allB_no hk (by rw [hat, e0, b2, Bool.and_false]; rfl)]
        ·rw [hX, allB_no hk (by rw [hat, e0, b1]; rfl)]
       ·rw [hX, allB_no hk]
        rw [hat, hS.eq]
        simp only [Ty.eq]
        clear hS
        rcases hne with (h | h) | h | h | h <;> simp [h]
     ·have : k = l.length := by clear hy; omega
      refine ⟨h1, ?_⟩
      rw [hX, ← this, h3]
mutual
def sizeS : St → Nat
 | .mk _ _ _ tg ex body alt => 1 + sizeE ex + sizeE tg + sizeSs body + sizeSs alt
def sizeSs : List St → Nat
 | [] => 0
 | e :: r => sizeS e + sizeSs r
end
end Go.Proofs.YtimddhkipjedcaaGreatDoor.E
namespace Go.Proofs.YtimddhkipjedcaaGreatDoor.E
open Go Go.ChangeShapes Go.WideShapes Go.ChangeAt Go.RowKit
section
variable {H : Type} {enc : TypeId × Value → H} {W : World}
end
end Go.Proofs.YtimddhkipjedcaaGreatDoor.E
namespace Go.Proofs.YtimddhkipjedcaaGreatDoor.E
open Go Go.ChangeShapes Go.WideShapes Go.ChangeAt Go.RowKit
def sizeM (d : Md) : Nat := 1 + d.params.length + sizeSs d.body
def sizeC (d : Cd) : Nat := 1 + d.fields.length + d.ifs.length + sizeSs d.init + (d.methods.map sizeM).sum
section
variable {H : Type} {enc : TypeId × Value → H} {W : World}
end
/-! What lies in memory is of bounded size. -/
/-! How many tokens. -/
abbrev PR (α : Type) := Except (List Tk) (α × List Tk)
def bndP {α β : Type} : PR α → (α → List Tk → PR β) → PR β
 | .ok x, k => k x.1 x.2
 | .error e, _ => .error e
def isP (s : List UInt8) : List Tk → Bool
 | [] => false
 | t :: _ => (decide (t.k = 2) || decide (t.k = 6)) && decide (t.s = s)
def hdS : List Tk → List UInt8
 | [] => []
 | t :: _ => t.s
def hdK : List Tk → Int
 | [] => 0
 | t :: _ => t.k
def hdN : List Tk → Int
 | [] => 0
 | t :: _ => t.n
def isClsP (l : List Tk) : Bool := decide (hdK l = 1) && isCls (hdS l)
def isIdP (l : List Tk) : Bool := decide (hdK l = 1) && !isCls (hdS l) && !(hdS l).contains 47
def expP {α : Type} (s : List UInt8) (l : List Tk) (k : List Tk → PR α) : PR α := if isP s l = true then k l.tail else .error l
def clsP (l : List Tk) : PR (List UInt8) := if isClsP l = true then .ok (hdS l, l.tail) else .error l
def idP (l : List Tk) : PR (List UInt8) := if isIdP l = true then .ok (hdS l, l.tail) else .error l
def baseP (l : List Tk) : PR Ty :=
 if isP intS l = true then .ok (⟨0, 73, []⟩, l.tail)
 else if isP longS l = true then .ok (⟨0, 74, []⟩, l.tail)
 else bndP (clsP l) fun s r => .ok (⟨0, 76, s⟩, r)
def Ty.up (t : Ty) : Ty := ⟨t.dim + 1, t.base, t.name⟩
def dimsP : Nat → Ty → List Tk → PR Ty
 | 0, t, l => .ok (t, l)
 | f + 1, t, l => if isP [91] l = true then expP [93] l.tail fun r => dimsP f t.up r else .ok (t, l)
def typP (l : List Tk) : PR Ty := bndP (baseP l) fun t r => dimsP r.length t r
def levL (n : Nat) : List (List UInt8) :=
 if n = 0 then [[124, 124]] else if n = 1 then [[38, 38]] else if n = 2 then [[124]] else if n = 3 then [[94]] else if n = 4 then [[38]]
 else if n = 5 then [[61, 61], [33, 61]] else if n = 6 then [[60], [60, 61], [62], [62, 61]] else if n = 7 then [[60, 60], [62, 62], [62, 62, 62]]
 else if n = 8 then [[43], [45]] else [[42], [47], [37]]
def isOpP (n : Nat) (l : List Tk) : Bool := decide (hdK l = 6) && (levL n).contains (hdS l)
def newP : Nat → Ty → List Tk → PR Ty
 | 0, t, l => .ok (t, l)
 | f + 1, t, l => if isP [93] l = true then expP [91] l.tail fun r => newP f t.up r else .ok (t, l)
mutual
def exprP : Nat → Nat → List Tk → PR Ex
 | 0, _, l => .error l
 | f + 1, n, l => if n = 10 then unaryP f l else bndP (exprP f (n + 1) l) fun e r => loopP f n e r
def loopP : Nat → Nat → Ex → List Tk → PR Ex
 | 0, _, _, l => .error l
 | f + 1, n, e, l =>
  if isOpP n l = true then bndP (exprP f (n + 1) l.tail) fun x r => loopP f n (.mk 16 0 (hdS l) [] zTy [e, x]) r
  else if n = 6 ∧ isP [105, 115] l = true then bndP (typP l.tail) fun t r => loopP f n (.mk 18 0 [] [] t [e]) r
  else if n = 6 ∧ isP [97, 115] l = true then bndP (typP l.tail) fun t r => loopP f n (.mk 17 0 [] [] t [e]) r
  else .ok (e, l)
def unaryP : Nat → List Tk → PR Ex
 | 0, l => .error l
 | f + 1, l =>
  if isP [45] l = true then bndP (unaryP f l.tail) fun x r => .ok (.mk 15 0 [45] [] zTy [x], r)
  else if isP [33] l = true then bndP (unaryP f l.tail) fun x r => .ok (.mk 15 0 [33] [] zTy [x], r)
  else bndP (operandP f l) fun e r => postP f e r
def postP : Nat → Ex → List Tk → PR Ex
 | 0, _, l => .error l
 | f + 1, e, l =>
  if isP [46] l = true then bndP (idP l.tail) fun s r =>
   if isP [40] r = true then bndP (argsP f r) fun es r2 => postP f (.mk 10 0 s [] zTy (e :: es)) r2
   else postP f (.mk 7 0 s [] zTy [e]) r
  else if isP [91] l = true then bndP (exprP f 0 l.tail) fun i r => expP [93] r fun r2 => postP f (.mk 9 0 [] [] zTy [e, i]) r2
  else .ok (e, l)
def argsP : Nat → List Tk → PR (List Ex)
 | 0, l => .error l
 | f + 1, l => expP [40] l fun r => if isP [41] r = true then .ok ([], r.tail) else bndP (exprP f 0 r) fun e r2 => moreP f [e] r2
def moreP : Nat → List Ex → List Tk → PR (List Ex)
 | 0, _, l => .error l
 | f + 1, acc, l => if isP [44] l = true then bndP (exprP f 0 l.tail) fun e r => moreP f (acc ++ [e]) r else expP [41] l fun r => .ok (acc, r)
def parenP : Nat → List Tk → PR Ex
 | 0, l => .error l
 | f + 1, l => expP [40] l fun r => bndP (exprP f 0 r) fun e r2 => expP [41] r2 fun r3 => .ok (e, r3)
def operandP : Nat → List Tk → PR Ex
 | 0, l => .error l
 | f + 1, l =>
  if hdK l = 3 then .ok (.mk 1 (hdN l) [] [] zTy [], l.tail)
  else if hdK l = 4 then .ok (.mk 2 (hdN l) [] [] zTy [], l.tail)
  else if hdK l = 5 then .ok (.mk 3 0 (hdS l) [] zTy [], l.tail)
  else if isIdP l = true then bndP (idP l) fun s r => .ok (.mk 6 0 s [] zTy [], r)
  else if isClsP l = true then bndP (clsP l) fun c r => expP [46] r fun r2 => bndP (idP r2) fun s r3 =>
   if isP [40] r3 = true then bndP (argsP f r3) fun es r4 => .ok (.mk 11 0 s c zTy es, r4) else .ok (.mk 8 0 s c zTy [], r3)
  else if isP [40] l = true then parenP f l
  else keyP f l
def keyP : Nat → List Tk → PR Ex
 | 0, l => .error l
 | f + 1, l =>
  if isP [110, 117, 108, 108] l = true then .ok (.mk 4 0 [] [] zTy [], l.tail)
  else if isP [116, 104, 105, 115] l = true then .ok (.mk 5 0 [] [] zTy [], l.tail)
  else if isP [115, 117, 112, 101, 114] l = true then expP [46] l.tail fun r => bndP (idP r) fun s r2 => bndP (argsP f r2) fun es r3 => .ok (.mk 12 0 s [] zTy es, r3)
  else if isP [110, 101, 119] l = true then bndP (baseP l.tail) fun t r =>
   if t.base = 76 ∧ isP [40] r = true then bndP (argsP f r) fun es r2 => .ok (.mk 13 0 [] t.name zTy es, r2)
   else expP [91] r fun r2 => bndP (newP r2.length t r2) fun t2 r3 => bndP (exprP f 0 r3) fun e r4 => expP [93] r4 fun r5 => .ok (.mk 14 0 [] [] t2 [e], r5)
  else if isP [108, 101, 110] l = true then bndP (parenP f l.tail) fun e r => .ok (.mk 19 0 [] [] zTy [e], r)
  else if isP intS l = true then bndP (parenP f l.tail) fun e r => .ok (.mk 20 0 [] [] zTy [e], r)
  else if isP longS l = true then bndP (parenP f l.tail) fun e r => .ok (.mk 21 0 [] [] zTy [e], r)
  else .error l
end
def Lim {α : Type} (g : Nat → α) (K : α) : Prop := ∃ F, ∀ f, F ≤ f → g f = K
theorem lim_const {α : Type} (K : α) : Lim (fun _ => K) K := ⟨0, fun _ _ => rfl⟩
theorem lim_succ {α : Type} {g h : Nat → α} {K : α} (e : ∀ f, g (f + 1) = h f) (H : Lim h K) : Lim g K := by
 obtain ⟨F, hF⟩ := H
 refine ⟨F + 1, fun f hf => ?_⟩
 cases f with
 | zero => omega
 | succ f => rw [e]; exact hF f (by omega)
theorem lim_bnd {α β : Type} {g : Nat → PR α} {k : Nat → α → List Tk → PR β} {a : α} {r : List Tk} {K : PR β} (hg : Lim g (.ok (a, r))) (hk : Lim (fun f => k f a r) K) : Lim (fun f => bndP (g f) (k f)) K := by
 obtain ⟨F, hF⟩ := hg
 obtain ⟨G, hG⟩ := hk
 refine ⟨max F G, fun f hf => ?_⟩
 simp only [hF f (by omega), bndP]
 exact hG f (by omega)
theorem lim_eq {α : Type} {g : Nat → α} {K K' : α} (h : Lim g K) (h' : Lim g K') : K = K' := by
 obtain ⟨F, hF⟩ := h
 obtain ⟨G, hG⟩ := h'
 rw [← hF (max F G) (by omega), hG (max F G) (by omega)]
structure Fol (n : Nat) (r : List Tk) : Prop where
 dot : isP [46] r = false
 lb : isP [91] r = false
 lp : isP [40] r = false
 op : ∀ m, n ≤ m → m ≤ 9 → isOpP m r = false
 is : n ≤ 6 → isP [105, 115] r = false ∧ isP [97, 115] r = false
theorem Fol.up {n m : Nat} {r : List Tk} (h : Fol n r) (hm : n ≤ m) : Fol m r := ⟨h.dot, h.lb, h.lp, fun q h1 h2 => h.op q (by omega) h2, fun h1 => h.is (by omega)⟩
/-! Types. -/
end Go.Proofs.YtimddhkipjedcaaGreatDoor.E

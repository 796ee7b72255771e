/- Several texts in one: AstPi, AstQd, AstQs, AstQp, AstQe, AstQf, AstQg, AstQh, AstQi, AstQj, AstQk, AstQl, AstQm, AstQn, AstQo, AstQr, AstQt, AstQu, AstQv, AstQw, AstQx, AstQy. -/
import Derived.Lib.IndexAny
import Derived.Test.YtimddhkipjedcaaGreatDoorMrg4
set_option linter.unusedSimpArgs false
set_option linter.unusedVariables false
set_option maxHeartbeats 4000000
set_option maxRecDepth 20000
namespace Go.Proofs.YtimddhkipjedcaaGreatDoor.E
open Go
theorem dims_fuel : ∀ (f g : Nat) (t : Ty) (l : List Tk), l.length ≤ f → l.length ≤ g → dimsP f t l = dimsP g t l
 | 0, 0, _, _, _, _ => rfl
 | 0, g + 1, t, l, h, _ => by
  have hl : l = [] := List.length_eq_zero_iff.1 (by omega)
  subst hl
  rw [dimsP, dimsP]; rfl
 | f + 1, 0, t, l, _, h => by
  have hl : l = [] := List.length_eq_zero_iff.1 (by omega)
  subst hl
  rw [dimsP, dimsP]; rfl
 | f + 1, g + 1, t, l, h1, h2 => by
  rw [dimsP, dimsP]
  by_cases h : isP [91] l = true
  ·rw [if_pos h, if_pos h]
   unfold expP
   have q1 := tail_lt (isP_ne h)
   have q2 := suf_len (tail_suf l.tail)
   dsimp only
   rw [dims_fuel f g t.up l.tail.tail (by omega) (by omega)]
  ·rw [if_neg h, if_neg h]
theorem new_fuel : ∀ (f g : Nat) (t : Ty) (l : List Tk), l.length ≤ f → l.length ≤ g → newP f t l = newP g t l
 | 0, 0, _, _, _, _ => rfl
 | 0, g + 1, t, l, h, _ => by
  have hl : l = [] := List.length_eq_zero_iff.1 (by omega)
  subst hl
  rw [newP, newP]; rfl
 | f + 1, 0, t, l, _, h => by
  have hl : l = [] := List.length_eq_zero_iff.1 (by omega)
  subst hl
  rw [newP, newP]; rfl
 | f + 1, g + 1, t, l, h1, h2 => by
  rw [newP, newP]
  by_cases h : isP [93] l = true
  ·rw [if_pos h, if_pos h]
   unfold expP
   have q1 := tail_lt (isP_ne h)
   have q2 := suf_len (tail_suf l.tail)
   dsimp only
   rw [new_fuel f g t.up l.tail.tail (by omega) (by omega)]
  ·rw [if_neg h, if_neg h]
def dimsK (t : Ty) (l : List Tk) : PR Ty := dimsP l.length t l
def newK (t : Ty) (l : List Tk) : PR Ty := newP l.length t l
theorem dimsK_eq (t : Ty) (l : List Tk) : dimsK t l = (if isP [91] l = true then expP [93] l.tail fun r => dimsK t.up r else .ok (t, l)) := by
 rw [dimsK, dims_fuel l.length (l.length + 1) t l (Nnr _) (by omega), dimsP]
 by_cases h : isP [91] l = true
 ·rw [if_pos h, if_pos h]
  unfold expP
  have q1 := suf_len (tail_suf l)
  have q2 := suf_len (tail_suf l.tail)
  dsimp only
  rw [dimsK, dims_fuel l.length l.tail.tail.length t.up l.tail.tail (by omega) (Nnr _)]
 ·rw [if_neg h, if_neg h]
theorem newK_eq (t : Ty) (l : List Tk) : newK t l = (if isP [93] l = true then expP [91] l.tail fun r => newK t.up r else .ok (t, l)) := by
 rw [newK, new_fuel l.length (l.length + 1) t l (Nnr _) (by omega), newP]
 by_cases h : isP [93] l = true
 ·rw [if_pos h, if_pos h]
  unfold expP
  have q1 := suf_len (tail_suf l)
  have q2 := suf_len (tail_suf l.tail)
  dsimp only
  rw [newK, new_fuel l.length l.tail.tail.length t.up l.tail.tail (by omega) (Nnr _)]
 ·rw [if_neg h, if_neg h]
section
variable {t : Tk} {a b : List Tk}
def Lc {α : Type} (t : Tk) (a b : List Tk) (g : List Tk → PR α) (p : List Tk) : Prop :=
 ∀ q, (∀ x, g (p ++ t :: a) = .ok (x, q ++ t :: a) → g (p ++ t :: b) = .ok (x, q ++ t :: b)) ∧ (g (p ++ t :: a) = .error (q ++ t :: a) → g (p ++ t :: b) = .error (q ++ t :: b))
def Sf {α : Type} (g : List Tk → PR α) : Prop := ∀ l, Good false l (g l)
theorem no_suf {q : List Tk} (h : q ++ t :: a <:+ a) : False := by
 have := suf_len h
 simp only [Lla, Llc] at this
 omega
theorem app_can {q p : List Tk} (h : q ++ t :: a = p ++ t :: a) : q = p := List.append_cancel_right h
theorem lc_congr {α : Type} {g g' : List Tk → PR α} {p : List Tk} (e : ∀ l, g l = g' l) (h : Lc t a b g' p) : Lc t a b g p := fun q => by
 rw [e, e]; exact h q
theorem lc_bnd {α β : Type} {g : List Tk → PR α} {k : α → List Tk → PR β} {p : List Tk} (hg : Lc t a b g p) (hk : ∀ x q, g (p ++ t :: a) = .ok (x, q ++ t :: a) → Lc t a b (k x) q) (hS : ∀ x, Sf (k x)) : Lc t a b (fun l => bndP (g l) k) p := fun q => by
 cases e : g (p ++ t :: a) with
 | error s =>
  refine ⟨fun x h => by (simp only [e, bndP] at h; cases h), fun h => ?_⟩
  simp only [e, bndP] at h
  cases h
  have := (hg q).2 e
  simp only [this, bndP]
 | ok z =>
  obtain ⟨y, s⟩ := z
  refine ⟨fun x h => ?_, fun h => ?_⟩
  ·simp only [e, bndP] at h
   obtain ⟨q1, rfl⟩ := (List.suffix_append q (t :: a)).trans ((hS y s).ok _ _ h).1
   have h1 := (hg q1).1 y e
   simp only [h1, bndP]
   exact ((hk y q1 e) q).1 x h
  ·simp only [e, bndP] at h
   obtain ⟨q1, rfl⟩ := (List.suffix_append q (t :: a)).trans ((hS y s).er _ h)
   have h1 := (hg q1).1 y e
   simp only [h1, bndP]
   exact ((hk y q1 e) q).2 h
theorem lc_tail {α : Type} {H : List Tk → PR α} {p : List Tk} (hS : Sf H) (h : ∀ u p', p = u :: p' → Lc t a b H p') : Lc t a b (fun l => H l.tail) p := by
 cases p with
 | nil => exact fun q => ⟨fun x e => (no_suf ((hS a).ok _ _ e).1).elim, fun e => (no_suf ((hS a).er _ e)).elim⟩
 | cons u p' => exact h u p' rfl
theorem lc_if {α : Type} {c : List Tk → Prop} [∀ l, Decidable (c l)] {G H : List Tk → PR α} {p : List Tk} (hc : c (p ++ t :: a) = c (p ++ t :: b)) (hG : c (p ++ t :: a) → Lc t a b G p) (hH : ¬ c (p ++ t :: a) → Lc t a b H p) : Lc t a b (fun l => if c l then G l else H l) p := fun q => by
 by_cases h : c (p ++ t :: a)
 ·have h' : c (p ++ t :: b) := hc ▸ h
  simp only [if_pos h, if_pos h']
  exact hG h q
 ·have h' : ¬ c (p ++ t :: b) := hc ▸ h
  simp only [if_neg h, if_neg h']
  exact hH h q
theorem lc_ok {α : Type} {F : List Tk → α} {p : List Tk} (hF : F (p ++ t :: a) = F (p ++ t :: b)) : Lc t a b (fun l => .ok (F l, l)) p := fun q => by
 refine ⟨fun x h => ?_, fun h => by cases h⟩
 simp only [Except.ok.injEq, Prod.mk.injEq] at h ⊢
 exact ⟨hF ▸ h.1, by rw [app_can h.2]⟩
theorem lc_okT {α : Type} {F : List Tk → α} {p : List Tk} (hF : F (p ++ t :: a) = F (p ++ t :: b)) : Lc t a b (fun l => .ok (F l, l.tail)) p := fun q => by
 refine ⟨fun x h => ?_, fun h => by cases h⟩
 simp only [Except.ok.injEq, Prod.mk.injEq] at h ⊢
 cases p with
 | nil => exact (no_suf (t := t) (a := a) (q := q) (by have := h.2; simp only [List.nil_append, List.tail_cons] at this; rw [← this]; exact List.suffix_refl _)).elim
 | cons u p' =>
  have := h.2
  simp only [List.cons_append, List.tail_cons] at this
  exact ⟨hF ▸ h.1, by simp only [List.cons_append, List.tail_cons]; rw [app_can this]⟩
theorem lc_er {α : Type} {p : List Tk} : Lc (α := α) t a b (fun l => .error l) p := fun q => by
 refine ⟨fun x h => by (cases h), fun h => ?_⟩
 simp only [Except.error.injEq] at h ⊢
 rw [app_can h]
theorem isP_ab (s : List UInt8) (p : List Tk) : isP s (p ++ t :: a) = isP s (p ++ t :: b) := by cases p <;> rfl
theorem hdK_ab (p : List Tk) : hdK (p ++ t :: a) = hdK (p ++ t :: b) := by cases p <;> rfl
theorem hdS_ab (p : List Tk) : hdS (p ++ t :: a) = hdS (p ++ t :: b) := by cases p <;> rfl
theorem hdN_ab (p : List Tk) : hdN (p ++ t :: a) = hdN (p ++ t :: b) := by cases p <;> rfl
theorem lc_exp {α : Type} {s : List UInt8} {k : List Tk → PR α} {p : List Tk} (hS : Sf k) (h : ∀ u p', p = u :: p' → Lc t a b k p') : Lc t a b (fun l => expP s l k) p := by
 unfold expP
 exact lc_if (c := fun l => isP s l = true) (by simp only [isP_ab (b := b) s p]) (fun _ => lc_tail hS h) fun _ => lc_er
theorem sf_weak {α : Type} {lt : Bool} {l : List Tk} {K : PR α} (h : Good lt l K) : Good false l K := ⟨fun x r e => ⟨(h.ok x r e).1, fun h => by cases h⟩, h.er⟩
theorem sf_bnd {α β : Type} {g : List Tk → PR α} {k : α → List Tk → PR β} (hg : Sf g) (hk : ∀ x, Sf (k x)) : Sf (fun l => bndP (g l) k) := fun l => by
 have h1 := hg l
 cases e : g l with
 | error s => exact ⟨fun x r h => by (simp only [bndP, e] at h; cases h), fun r h => by simp only [bndP, e] at h; cases h; exact h1.er _ e⟩
 | ok z =>
  obtain ⟨y, s⟩ := z
  have h2 := hk y s
  have h3 := (h1.ok _ _ e).1
  exact ⟨fun x r h => by simp only [bndP, e] at h; exact ⟨((h2.ok x r h).1).trans h3, fun h => by cases h⟩, fun r h => by simp only [bndP, e] at h; exact (h2.er r h).trans h3⟩
theorem sf_tail {α : Type} {g : List Tk → PR α} (hg : Sf g) : Sf (fun l => g l.tail) := fun l =>
 ⟨fun x r h => ⟨((hg l.tail).ok x r h).1.trans (tail_suf l), fun h => by cases h⟩, fun r h => ((hg l.tail).er r h).trans (tail_suf l)⟩
theorem sf_if {α : Type} {c : List Tk → Prop} [∀ l, Decidable (c l)] {G H : List Tk → PR α} (hG : Sf G) (hH : Sf H) : Sf (fun l => if c l then G l else H l) := fun l => by
 by_cases h : c l
 ·simp only [if_pos h]; exact hG l
 ·simp only [if_neg h]; exact hH l
theorem sf_ok {α : Type} {F : List Tk → α} : Sf (fun l => .ok (F l, l)) := fun l => ⟨fun x r h => by cases h; exact ⟨List.suffix_refl _, fun h => by cases h⟩, fun r h => by cases h⟩
theorem sf_okT {α : Type} {F : List Tk → α} : Sf (fun l => .ok (F l, l.tail)) := fun l => ⟨fun x r h => by cases h; exact ⟨tail_suf l, fun h => by cases h⟩, fun r h => by cases h⟩
theorem sf_er {α : Type} : Sf (α := α) (fun l => .error l) := fun l => ⟨fun x r h => by (cases h), fun r h => by cases h; exact List.suffix_refl _⟩
theorem sf_exp {α : Type} {s : List UInt8} {k : List Tk → PR α} (hS : Sf k) : Sf (fun l => expP s l k) := by
 unfold expP
 exact sf_if (c := fun l => isP s l = true) (sf_tail hS) sf_er
theorem sf_cls : Sf clsP := fun l => (sf_weak (tot_cls l).good : Good false l (limK fun _ => clsP l)) |> fun h => by rwa [limK_eq (lim_const _)] at h
theorem sf_id : Sf idP := fun l => (sf_weak (tot_id l).good : Good false l (limK fun _ => idP l)) |> fun h => by rwa [limK_eq (lim_const _)] at h
theorem sf_base : Sf baseP := fun l => (sf_weak (tot_base l).good : Good false l (limK fun _ => baseP l)) |> fun h => by rwa [limK_eq (lim_const _)] at h
theorem sf_typ : Sf typP := fun l => (sf_weak (tot_typ l).good : Good false l (limK fun _ => typP l)) |> fun h => by rwa [limK_eq (lim_const _)] at h
theorem sf_dims (y : Ty) : Sf (dimsK y) := fun l => dims_good _ _ _
theorem sf_new (y : Ty) : Sf (newK y) := fun l => new_good _ _ _
theorem sf_expr {n : Nat} (hn : n ≤ 10) : Sf (exprK n) := fun l => sf_weak ((ex_tot l).expr n hn).good
theorem sf_e0 : Sf (exprK 0) := sf_expr (by decide)
theorem sf_loop {n : Nat} (hn : n ≤ 9) (e : Ex) : Sf (loopK n e) := fun l => ((ex_tot l).loop n e hn).good
theorem sf_unary : Sf unaryK := fun l => sf_weak (ex_tot l).unary.good
theorem sf_post (e : Ex) : Sf (postK e) := fun l => ((ex_tot l).post e).good
theorem sf_args : Sf argsK := fun l => sf_weak (ex_tot l).args.good
theorem sf_more (acc : List Ex) : Sf (moreK acc) := fun l => sf_weak ((ex_tot l).more acc).good
theorem sf_paren : Sf parenK := fun l => sf_weak (ex_tot l).paren.good
theorem isCls_ab (p : List Tk) : isClsP (p ++ t :: a) = isClsP (p ++ t :: b) := by simp only [isClsP, hdK_ab (b := b) p, hdS_ab (b := b) p]
theorem isId_ab (p : List Tk) : isIdP (p ++ t :: a) = isIdP (p ++ t :: b) := by simp only [isIdP, hdK_ab (b := b) p, hdS_ab (b := b) p]
theorem isOp_ab (n : Nat) (p : List Tk) : isOpP n (p ++ t :: a) = isOpP n (p ++ t :: b) := by simp only [isOpP, hdK_ab (b := b) p, hdS_ab (b := b) p]
theorem lc_cls (p : List Tk) : Lc t a b clsP p := lc_if (c := fun l => isClsP l = true) (by simp only [isCls_ab (b := b) p]) (fun _ => lc_okT (hdS_ab p)) fun _ => lc_er
theorem lc_id (p : List Tk) : Lc t a b idP p := lc_if (c := fun l => isIdP l = true) (by simp only [isId_ab (b := b) p]) (fun _ => lc_okT (hdS_ab p)) fun _ => lc_er
theorem lc_base (p : List Tk) : Lc t a b baseP p :=
 lc_if (c := fun l => isP intS l = true) (by simp only [isP_ab (b := b) intS p]) (fun _ => lc_okT rfl) fun _ =>
  lc_if (c := fun l => isP longS l = true) (by simp only [isP_ab (b := b) longS p]) (fun _ => lc_okT rfl) fun _ => lc_bnd (lc_cls p) (fun x q _ => lc_ok rfl) fun x => sf_ok
theorem lc_dims : ∀ (N : Nat) (y : Ty) (p : List Tk), p.length ≤ N → Lc t a b (dimsK y) p := fun N => by
 have step : ∀ (y : Ty) (p : List Tk), (∀ z (p' : List Tk), p'.length < p.length → Lc t a b (dimsK z) p') → Lc t a b (dimsK y) p := fun y p ih => by
  refine lc_congr (dimsK_eq y) ?_
  refine lc_if (c := fun l => isP [91] l = true) (by simp only [isP_ab (b := b) [91] p]) (fun _ => ?_) fun _ => lc_ok rfl
  exact lc_tail (H := fun l => expP [93] l fun r => dimsK y.up r) (sf_exp (sf_dims _)) fun u p' e => lc_exp (sf_dims _) fun u2 p2 e2 => ih _ p2 (by rw [e, e2]; simp only [Llc]; omega)
 induction N with
 | zero => intro y p h; exact step y p fun z p' h' => by omega
 | succ N ih => intro y p h; exact step y p fun z p' h' => ih z p' (by omega)
theorem lc_new : ∀ (N : Nat) (y : Ty) (p : List Tk), p.length ≤ N → Lc t a b (newK y) p := fun N => by
 have step : ∀ (y : Ty) (p : List Tk), (∀ z (p' : List Tk), p'.length < p.length → Lc t a b (newK z) p') → Lc t a b (newK y) p := fun y p ih => by
  refine lc_congr (newK_eq y) ?_
  refine lc_if (c := fun l => isP [93] l = true) (by simp only [isP_ab (b := b) [93] p]) (fun _ => ?_) fun _ => lc_ok rfl
  exact lc_tail (H := fun l => expP [91] l fun r => newK y.up r) (sf_exp (sf_new _)) fun u p' e => lc_exp (sf_new _) fun u2 p2 e2 => ih _ p2 (by rw [e, e2]; simp only [Llc]; omega)
 induction N with
 | zero => intro y p h; exact step y p fun z p' h' => by omega
 | succ N ih => intro y p h; exact step y p fun z p' h' => ih z p' (by omega)
theorem lc_typ (p : List Tk) : Lc t a b typP p := lc_bnd (k := fun y r => dimsK y r) (lc_base p) (fun y q _ => lc_dims _ y q (Nnr _)) fun y => sf_dims y
structure LX (t : Tk) (a b : List Tk) (p : List Tk) : Prop where
 expr : ∀ n, n ≤ 10 → Lc t a b (exprK n) p
 loop : ∀ n e, n ≤ 9 → Lc t a b (loopK n e) p
 unary : Lc t a b unaryK p
 post : ∀ e, Lc t a b (postK e) p
 args : Lc t a b argsK p
 more : ∀ acc, Lc t a b (moreK acc) p
 paren : Lc t a b parenK p
 operand : Lc t a b operandK p
 key : Lc t a b keyK p
theorem q_lt {α : Type} {g : List Tk → PR α} {p q : List Tk} {x : α} (h : Good true (p ++ t :: a) (g (p ++ t :: a))) (e : g (p ++ t :: a) = .ok (x, q ++ t :: a)) : q.length < p.length := by
 have := (h.ok _ _ e).2 rfl
 simp only [Lla, Llc] at this
 omega
theorem q_le {α : Type} {g : List Tk → PR α} {p q : List Tk} {x : α} (h : Sf g) (e : g (p ++ t :: a) = .ok (x, q ++ t :: a)) : q.length ≤ p.length := by
 have := suf_len ((h _).ok _ _ e).1
 simp only [Lla, Llc] at this
 omega
theorem lx_of {p : List Tk} (ih : ∀ p' : List Tk, p'.length < p.length → LX t a b p') : LX t a b p := by
 have tl : ∀ {u : Tk} {p' : List Tk}, p = u :: p' → p'.length < p.length := fun e => by rw [e]; simp
 have hargs : Lc t a b argsK p := by
  refine lc_congr argsK_eq (lc_exp (k := fun r => if isP [41] r = true then .ok ([], r.tail) else bndP (exprK 0 r) fun e r2 => moreK [e] r2) (sf_if (c := fun l => isP [41] l = true) sf_okT (sf_bnd sf_e0 fun e => sf_more _)) fun u p' e => ?_)
  have hl := tl e
  refine lc_if (c := fun l => isP [41] l = true) (by simp only [isP_ab (b := b) [41] p']) (fun _ => lc_okT rfl) fun _ => ?_
  exact lc_bnd ((ih p' hl).expr 0 (by decide)) (fun e q h => (ih q (by have := q_le sf_e0 h; omega)).more _) fun e => sf_more _
 have hparen : Lc t a b parenK p := by
  refine lc_congr parenK_eq (lc_exp (k := fun r => bndP (exprK 0 r) fun e r2 => expP [41] r2 fun r3 => .ok (e, r3)) (sf_bnd sf_e0 fun e => sf_exp sf_ok) fun u p' e => ?_)
  exact lc_bnd ((ih p' (tl e)).expr 0 (by decide)) (fun e q h => lc_exp sf_ok fun _ _ _ => lc_ok rfl) fun e => sf_exp sf_ok
 have hmore : ∀ acc, Lc t a b (moreK acc) p := fun acc => by
  refine lc_congr (moreK_eq acc) (lc_if (c := fun l => isP [44] l = true) (by simp only [isP_ab (b := b) [44] p]) (fun _ => ?_) fun _ => lc_exp sf_ok fun _ _ _ => lc_ok rfl)
  refine lc_tail (H := fun l => bndP (exprK 0 l) fun e r => moreK (acc ++ [e]) r) (sf_bnd sf_e0 fun e => sf_more _) fun u p' e => ?_
  have hl := tl e
  exact lc_bnd ((ih p' hl).expr 0 (by decide)) (fun e q h => (ih q (by have := q_le sf_e0 h; omega)).more _) fun e => sf_more _
 have hpost : ∀ e, Lc t a b (postK e) p := fun e => by
  have s1 : ∀ s, Sf (fun r => if isP [40] r = true then bndP (argsK r) fun es r2 => postK (Ex.mk 10 0 s [] zTy (e :: es)) r2 else postK (.mk 7 0 s [] zTy [e]) r) := fun s => sf_if (c := fun l => isP [40] l = true) (sf_bnd sf_args fun es => sf_post _) (sf_post _)
  refine lc_congr (postK_eq e) (lc_if (c := fun l => isP [46] l = true) (by simp only [isP_ab (b := b) [46] p]) (fun _ => ?_) fun _ => lc_if (c := fun l => isP [91] l = true) (by simp only [isP_ab (b := b) [91] p]) (fun _ => ?_) fun _ => lc_ok rfl)
  ·refine lc_tail (H := fun l => bndP (idP l) fun s r => if isP [40] r = true then bndP (argsK r) fun es r2 => postK (.mk 10 0 s [] zTy (e :: es)) r2 else postK (.mk 7 0 s [] zTy [e]) r) (sf_bnd sf_id s1) fun u p' e' => ?_
   have hl := tl e'
   refine lc_bnd (lc_id p') (fun s q h => ?_) s1
   have hq := q_le sf_id h
   refine lc_if (c := fun l => isP [40] l = true) (by simp only [isP_ab (b := b) [40] q]) (fun _ => ?_) fun _ => (ih q (by omega)).post _
   exact lc_bnd (ih q (by omega)).args (fun es q2 h2 => (ih q2 (by have := q_le sf_args h2; omega)).post _) fun es => sf_post _
  ·refine lc_tail (H := fun l => bndP (exprK 0 l) fun i r => expP [93] r fun r2 => postK (.mk 9 0 [] [] zTy [e, i]) r2) (sf_bnd sf_e0 fun i => sf_exp (sf_post _)) fun u p' e' => ?_
   have hl := tl e'
   refine lc_bnd ((ih p' hl).expr 0 (by decide)) (fun i q h => ?_) fun i => sf_exp (sf_post _)
   have hq := q_le sf_e0 h
   exact lc_exp (sf_post _) fun u2 p2 e2 => (ih p2 (by rw [e2] at hq; simp only [Llc] at hq; omega)).post _
 have hloop : ∀ n e, n ≤ 9 → Lc t a b (loopK n e) p := fun n e hn => by
  have hc2 : ∀ (w : List UInt8), (n = 6 ∧ isP w (p ++ t :: a) = true) = (n = 6 ∧ isP w (p ++ t :: b) = true) := fun w => by rw [isP_ab (b := b) w p]
  refine lc_congr (loopK_eq hn e) (lc_if (c := fun l => isOpP n l = true) (by simp only [isOp_ab (b := b) n p]) (fun _ => ?_) fun _ => lc_if (c := fun l => n = 6 ∧ isP [105, 115] l = true) (hc2 _) (fun _ => ?_) fun _ =>
   lc_if (c := fun l => n = 6 ∧ isP [97, 115] l = true) (hc2 _) (fun _ => ?_) fun _ => lc_ok rfl)
  ·intro q
   have hh := hdS_ab (t := t) (a := a) (b := b) p
   have := lc_tail (t := t) (a := a) (b := b) (p := p) (H := fun l => bndP (exprK (n + 1) l) fun x r => loopK n (.mk 16 0 (hdS (p ++ t :: a)) [] zTy [e, x]) r) (sf_bnd (sf_expr (by omega)) fun x => sf_loop hn _) (fun u p' e' => by
    have hl := tl e'
    exact lc_bnd ((ih p' hl).expr (n + 1) (by omega)) (fun x q h => (ih q (by have := q_le (sf_expr (by omega)) h; omega)).loop n _ hn) fun x => sf_loop hn _) q
   simp only [← hh]
   exact this
  ·refine lc_tail (H := fun l => bndP (typP l) fun y r => loopK n (.mk 18 0 [] [] y [e]) r) (sf_bnd sf_typ fun x => sf_loop hn _) fun u p' e' => ?_
   have hl := tl e'
   exact lc_bnd (lc_typ p') (fun y q h => (ih q (by have := q_le sf_typ h; omega)).loop n _ hn) fun x => sf_loop hn _
  ·refine lc_tail (H := fun l => bndP (typP l) fun y r => loopK n (.mk 17 0 [] [] y [e]) r) (sf_bnd sf_typ fun x => sf_loop hn _) fun u p' e' => ?_
   have hl := tl e'
   exact lc_bnd (lc_typ p') (fun y q h => (ih q (by have := q_le sf_typ h; omega)).loop n _ hn) fun x => sf_loop hn _
 have hkey : Lc t a b keyK p := by
  have sE : ∀ (y : Ty), Sf (fun r2 => bndP (newP r2.length y r2) fun t2 r3 => bndP (exprK 0 r3) fun e r4 => expP [93] r4 fun r5 => Except.ok (Ex.mk 14 0 [] [] t2 [e], r5)) := fun y => sf_bnd (sf_new y) fun t2 => sf_bnd sf_e0 fun e => sf_exp sf_ok
  have sN : ∀ (y : Ty), Sf (fun r => if y.base = 76 ∧ isP [40] r = true then bndP (argsK r) fun es r2 => Except.ok (Ex.mk 13 0 [] y.name zTy es, r2) else expP [91] r fun r2 => bndP (newP r2.length y r2) fun t2 r3 => bndP (exprK 0 r3) fun e r4 => expP [93] r4 fun r5 => Except.ok (Ex.mk 14 0 [] [] t2 [e], r5)) := fun y =>
   sf_if (c := fun r => y.base = 76 ∧ isP [40] r = true) (sf_bnd sf_args fun es => sf_ok) (sf_exp (sE y))
  have par : ∀ (k : Int), Lc t a b (fun l => bndP (parenK l.tail) fun e r => Except.ok (Ex.mk k 0 [] [] zTy [e], r)) p := fun k =>
   lc_tail (H := fun l => bndP (parenK l) fun e r => Except.ok (Ex.mk k 0 [] [] zTy [e], r)) (sf_bnd sf_paren fun e => sf_ok) fun u p' e' => lc_bnd (ih p' (tl e')).paren (fun e q h => lc_ok rfl) fun e => sf_ok
  have hc : ∀ w, (isP w (p ++ t :: a) = true) = (isP w (p ++ t :: b) = true) := fun w => by rw [isP_ab (b := b) w p]
  refine lc_congr keyK_eq (lc_if (c := fun l => isP [110, 117, 108, 108] l = true) (hc _) (fun _ => lc_okT rfl) fun _ => lc_if (c := fun l => isP [116, 104, 105, 115] l = true) (hc _) (fun _ => lc_okT rfl) fun _ =>
   lc_if (c := fun l => isP [115, 117, 112, 101, 114] l = true) (hc _) (fun _ => ?_) fun _ => lc_if (c := fun l => isP [110, 101, 119] l = true) (hc _) (fun _ => ?_) fun _ =>
   lc_if (c := fun l => isP [108, 101, 110] l = true) (hc _) (fun _ => par 19) fun _ => lc_if (c := fun l => isP intS l = true) (hc _) (fun _ => par 20) fun _ => lc_if (c := fun l => isP longS l = true) (hc _) (fun _ => par 21) fun _ => lc_er)
  ·have s2 : ∀ s, Sf (fun r2 => bndP (argsK r2) fun es r3 => Except.ok (Ex.mk 12 0 s [] zTy es, r3)) := fun s => sf_bnd sf_args fun es => sf_ok
   refine lc_tail (H := fun l => expP [46] l fun r => bndP (idP r) fun s r2 => bndP (argsK r2) fun es r3 => Except.ok (Ex.mk 12 0 s [] zTy es, r3)) (sf_exp (sf_bnd sf_id s2)) fun u p' e' => ?_
   have hl := tl e'
   refine lc_exp (sf_bnd sf_id s2) fun u2 p2 e2 => lc_bnd (lc_id p2) (fun s q h => ?_) s2
   have hq := q_le sf_id h
   have hp2 : p2.length < p.length := by rw [e2] at hl; simp only [Llc] at hl; omega
   exact lc_bnd (ih q (by omega)).args (fun es q2 _ => lc_ok rfl) fun es => sf_ok
  ·refine lc_tail (H := fun l => bndP (baseP l) fun y r => if y.base = 76 ∧ isP [40] r = true then bndP (argsK r) fun es r2 => Except.ok (Ex.mk 13 0 [] y.name zTy es, r2) else expP [91] r fun r2 => bndP (newP r2.length y r2) fun t2 r3 => bndP (exprK 0 r3) fun e r4 => expP [93] r4 fun r5 => Except.ok (Ex.mk 14 0 [] [] t2 [e], r5)) (sf_bnd sf_base sN) fun u p' e' => ?_
   have hl := tl e'
   refine lc_bnd (lc_base p') (fun y q h => ?_) sN
   have hq := q_le sf_base h
   refine lc_if (c := fun r => y.base = 76 ∧ isP [40] r = true) (by rw [isP_ab (b := b) [40] q]) (fun _ => lc_bnd (ih q (by omega)).args (fun es q2 _ => lc_ok rfl) fun es => sf_ok) fun _ => ?_
   refine lc_exp (sE y) fun u2 p2 e2 => ?_
   have hp2 : p2.length < p.length := by rw [e2] at hq; simp only [Llc] at hq; omega
   refine lc_bnd (g := newK y) (lc_new _ y p2 (Nnr _)) (fun t2 q3 h3 => ?_) fun t2 => sf_bnd sf_e0 fun e => sf_exp sf_ok
   have hq3 := q_le (sf_new y) h3
   exact lc_bnd ((ih q3 (by omega)).expr 0 (by decide)) (fun e q4 _ => lc_exp sf_ok fun _ _ _ => lc_ok rfl) fun e => sf_exp sf_ok
 have hoperand : Lc t a b operandK p := by
  have hcK : ∀ k : Int, (hdK (p ++ t :: a) = k) = (hdK (p ++ t :: b) = k) := fun k => by rw [hdK_ab (b := b) p]
  have s4 : ∀ (c s : List UInt8), Sf (fun r3 => if isP [40] r3 = true then bndP (argsK r3) fun es r4 => Except.ok (Ex.mk 11 0 s c zTy es, r4) else Except.ok (Ex.mk 8 0 s c zTy [], r3)) := fun c s => sf_if (c := fun l => isP [40] l = true) (sf_bnd sf_args fun es => sf_ok) sf_ok
  have s3 : ∀ c : List UInt8, Sf (fun r2 => bndP (idP r2) fun s r3 => if isP [40] r3 = true then bndP (argsK r3) fun es r4 => Except.ok (Ex.mk 11 0 s c zTy es, r4) else Except.ok (Ex.mk 8 0 s c zTy [], r3)) := fun c => sf_bnd sf_id (s4 c)
  refine lc_congr operandK_eq (lc_if (c := fun l => hdK l = 3) (hcK _) (fun _ => lc_okT (F := fun l => Ex.mk 1 (hdN l) [] [] zTy []) (by rw [hdN_ab (b := b) p])) fun _ => lc_if (c := fun l => hdK l = 4) (hcK _) (fun _ => lc_okT (F := fun l => Ex.mk 2 (hdN l) [] [] zTy []) (by rw [hdN_ab (b := b) p])) fun _ =>
   lc_if (c := fun l => hdK l = 5) (hcK _) (fun _ => lc_okT (F := fun l => Ex.mk 3 0 (hdS l) [] zTy []) (by rw [hdS_ab (b := b) p])) fun _ => lc_if (c := fun l => isIdP l = true) (by rw [isId_ab (b := b) p]) (fun _ => lc_bnd (lc_id p) (fun s q _ => lc_ok rfl) fun s => sf_ok) fun _ =>
   lc_if (c := fun l => isClsP l = true) (by rw [isCls_ab (b := b) p]) (fun _ => ?_) fun _ => lc_if (c := fun l => isP [40] l = true) (by rw [isP_ab (b := b) [40] p]) (fun _ => hparen) fun _ => hkey)
  refine lc_bnd (k := fun c r => expP [46] r fun r2 => bndP (idP r2) fun s r3 => if isP [40] r3 = true then bndP (argsK r3) fun es r4 => Except.ok (Ex.mk 11 0 s c zTy es, r4) else Except.ok (Ex.mk 8 0 s c zTy [], r3)) (lc_cls p) (fun c q h => ?_) fun c => sf_exp (s3 c)
  have hq := q_le sf_cls h
  refine lc_exp (s3 c) fun u p' e' => lc_bnd (lc_id p') (fun s q3 h3 => ?_) (s4 c)
  have hq3 := q_le sf_id h3
  have hp' : p'.length < p.length := by rw [e'] at hq; simp only [Llc] at hq; omega
  exact lc_if (c := fun l => isP [40] l = true) (by rw [isP_ab (b := b) [40] q3]) (fun _ => lc_bnd (ih q3 (by omega)).args (fun es q4 _ => lc_ok rfl) fun es => sf_ok) fun _ => lc_ok rfl
 have hunary : Lc t a b unaryK p := by
  have hc : ∀ w, (isP w (p ++ t :: a) = true) = (isP w (p ++ t :: b) = true) := fun w => by rw [isP_ab (b := b) w p]
  refine lc_congr unaryK_eq (lc_if (c := fun l => isP [45] l = true) (hc _) (fun _ => ?_) fun _ => lc_if (c := fun l => isP [33] l = true) (hc _) (fun _ => ?_) fun _ => ?_)
  ·exact lc_tail (H := fun l => bndP (unaryK l) fun x r => Except.ok (Ex.mk 15 0 [45] [] zTy [x], r)) (sf_bnd sf_unary fun x => sf_ok) fun u p' e' => lc_bnd (ih p' (tl e')).unary (fun x q _ => lc_ok rfl) fun x => sf_ok
  ·exact lc_tail (H := fun l => bndP (unaryK l) fun x r => Except.ok (Ex.mk 15 0 [33] [] zTy [x], r)) (sf_bnd sf_unary fun x => sf_ok) fun u p' e' => lc_bnd (ih p' (tl e')).unary (fun x q _ => lc_ok rfl) fun x => sf_ok
  ·exact lc_bnd hoperand (fun e q h => (ih q (q_lt (ex_tot _).operand.good h)).post e) fun e => sf_post e
 have hexpr : ∀ k n, n + k = 10 → Lc t a b (exprK n) p := fun k => by
  induction k with
  | zero =>
   intro n hn
   have : n = 10 := by omega
   subst this
   exact lc_congr exprK_top hunary
  | succ k ihk =>
   intro n hn
   refine lc_congr (exprK_eq (n := n) (by omega)) ?_
   exact lc_bnd (ihk (n + 1) (by omega)) (fun e q h => (ih q (q_lt ((ex_tot _).expr (n + 1) (by omega)).good h)).loop n e (by omega)) fun e => sf_loop (by omega) e
 exact ⟨fun n hn => hexpr (10 - n) n (by omega), hloop, hunary, hpost, hargs, hmore, hparen, hoperand, hkey⟩
theorem lx_all : ∀ (N : Nat) (p : List Tk), p.length ≤ N → LX t a b p
 | 0, p, h => lx_of fun p' hp => by omega
 | N + 1, p, h => lx_of fun p' hp => lx_all N p' (by omega)
theorem lx_tot (p : List Tk) : LX t a b p := lx_all _ p (Nnr _)
end
theorem typP_K (l : List Tk) : typP l = bndP (baseP l) fun t r => dimsK t r := rfl
end Go.Proofs.YtimddhkipjedcaaGreatDoor.E
namespace Go.Proofs.YtimddhkipjedcaaGreatDoor.E
open Go Go.RowKit
theorem phas_spec (s : List UInt8) (c : UInt8) (m : Mem) : FnH Tryz.prog 228 [.v (.string (bs s)), .v (.string (bs [c]))] ⟨[], []⟩ m fun r H' _ => r = .v (.bool (s.contains c)) ∧ H' = ⟨[], []⟩ := by
 refine (FnH_of (args := [.string (bs s), .string (bs [c])]) (R := fun y => y = .bool (s.contains c)) fun w D hwf hle => ?_).mono ?_
 ·refine (Tryz.strings_Contains_one (bs s) c w).mono ?_
  rintro e w' ⟨rfl, rfl⟩
  refine ⟨_, rfl, ?_, Below.refl _ _⟩
  rw [Lib.contains_iff_indexByte]
  rfl
 ·rintro r H' m' hm ⟨⟨y, rfl, rfl⟩, h1, h2⟩
  exact ⟨rfl, h1⟩
section
variable {P : Program} {cfg : Cfg}
def flatBx (V : Vl) (b : Bx) : Bx := ⟨b.id, b.ty, b.cs.map fun s => .v (denA V s)⟩
theorem flat_den (V : Vl) (l : List SV) : (l.map fun s => SV.v (denA V s)).map (denA V) = l.map (denA V) := by
 induction l with
 | nil => rfl
 | cons s r ih => simp only [List.map_cons, ih]; rfl
theorem okL_flat {nid : Nat} {vc : List Vc} {V : Vl} : ∀ l : List SV, okL nid vc (l.map fun s => SV.v (denA V s))
 | [] => trivial
 | s :: r => ⟨trivial, okL_flat r⟩
theorem flat_ids (V : Vl) : ∀ l : List Bx, (l.map (flatBx V)).map (fun b => V.β b.id) = l.map (fun b => V.β b.id)
 | [] => rfl
 | b :: r => by simp only [List.map_cons, flat_ids V r]; rfl
theorem blks_flat (V : Vl) (H : Hp) : blks V ⟨H.bx.map (flatBx V), H.vc⟩ = blks V H := by
 unfold blks
 rw [flat_ids]
theorem HSat_flat {V : Vl} {D : Nat → Nat} {w : World} {H : Hp} (h : HSat V D w H) : HSat V D w ⟨H.bx.map (flatBx V), H.vc⟩ := by
 refine ⟨fun b hb => ?_, h.vc, ?_, h.uniq⟩
 ·obtain ⟨b0, h0, rfl⟩ := List.mem_map.1 hb
  obtain ⟨⟨o, h1, h2⟩, h3⟩ := h.bx b0 h0
  refine ⟨⟨o, h1, ?_⟩, h3⟩
  show bxObj b0.ty ((b0.cs.map fun s => SV.v (denA V s)).map (denA V)) o
  rw [flat_den]
  exact h2
 ·rw [blks_flat]
  exact h.apart
theorem HSat_unflat {V : Vl} {D : Nat → Nat} {w : World} {H : Hp} (h : HSat V D w ⟨H.bx.map (flatBx V), H.vc⟩) : HSat V D w H := by
 refine ⟨fun b hb => ?_, h.vc, ?_, h.uniq⟩
 ·obtain ⟨⟨o, h1, h2⟩, h3⟩ := h.bx (flatBx V b) (List.mem_map.2 ⟨b, hb, rfl⟩)
  refine ⟨⟨o, h1, ?_⟩, h3⟩
  have h2' : bxObj b.ty ((b.cs.map fun s => SV.v (denA V s)).map (denA V)) o := h2
  rw [flat_den] at h2'
  exact h2'
 ·have := h.apart
  rw [blks_flat] at this
  exact this
theorem blks_subl {V : Vl} {H H2 : Hp} (hb : H2.bx.Sublist H.bx) (hv : H2.vc.Sublist H.vc) : (blks V H2).Sublist (blks V H) := by
 unfold blks
 exact (hb.map _).append (hv.filterMap _)
theorem HSat_subl {V : Vl} {D : Nat → Nat} {w : World} {H H2 : Hp} (h : HSat V D w H) (hb : H2.bx.Sublist H.bx) (hv : H2.vc.Sublist H.vc) : HSat V D w H2 :=
 ⟨fun b h0 => h.bx b (hb.subset h0), fun b h0 => h.vc b (hv.subset h0), h.apart.sublist (blks_subl hb hv), h.uniq.sublist (hv.map _)⟩
theorem FnH_pub {f : FuncId} {args : List SV} {H : Hp} {m : Mem} {R R' : SV → Hp → Mem → Prop} (h : FnH P f args H m R)
  (hR : ∀ r H' m', m.le m' → R r H' m' → R' r H' m' ∨ ∃ (g : SV → SV) (k u : Nat) (b : Vc) (H2 : Hp), lkV H'.vc k u = some b ∧ r = g (.vec k u) ∧
   (∀ (V : Vl) (v : Value), (V.γ k u).val = v → den V (g (.vec k u)) = den V (g (.v v))) ∧ H2.bx.Sublist H'.bx ∧ H2.vc.Sublist H'.vc ∧
   ∀ (a : Option Addr) (c : Nat) (m1 : Mem), m'.le m1 → b.n ≤ c → Rds m1 a b.n b.sz b.xs → R' (g (.v (.slice a b.n c))) H2 m1) : FnH P f args H m R' := by
 intro V w D hwf hle hH
 refine (h V w D hwf hle hH).mono ?_
 rintro e w' ⟨r, V', D', H', m', e1, e2, e3, e4, e5, e6, e7, e8, e9, e10, e11⟩
 rcases hR r H' m' e9 e11 with hr | ⟨g, k, u, b, H2, hb, rfl, hg, s1, s2, hK⟩
 ·exact ⟨r, V', D', H', m', e1, e2, e3, e4, e5, e6, e7, e8, e9, e10, hr⟩
 ·have hW : SatW ⟨w, D, (· ∈ blks V H), ⟨[], []⟩, V', m⟩ (H'.bx.map (flatBx V')) H'.vc (max (topB (H'.bx.map (flatBx V'))) (topV H'.vc)) m' V' D' w' := by
   refine ⟨HSat_flat e3, e2, e6, fun x hx => ?_, fun x hx => (by cases hx), fun x hx => (by cases hx), ⟨fun x hx => ⟨?_, ?_⟩, fun x hx => ?_⟩, e8, e9, e10⟩
   ·rw [blks_flat] at hx
    exact e7 x hx
   ·exact Nat.lt_of_lt_of_le (topB_lt hx) (Nat.le_max_left _ _)
   ·obtain ⟨b0, _, rfl⟩ := List.mem_map.1 hx
    exact okL_flat _
   ·exact Nat.lt_of_lt_of_le (topV_lt hx) (Nat.le_max_right _ _)
  obtain ⟨a, c, m1, D2, q1, q2, q3, q4, q5⟩ := SatW.pub (st := ⟨[], [], H'.bx.map (flatBx V'), H'.vc, max (topB (H'.bx.map (flatBx V'))) (topV H'.vc), m'⟩) hW hb
  have hS := HSat_subl (HSat_unflat q5.heap) s1 s2
  refine ⟨g (.v (.slice a b.n c)), V', D2, H2, m1, ?_, q5.wf, hS, e4, e5, q5.frm, fun x hx => e7 x ((blks_subl s1 s2).subset hx), q5.le0, q5.m0, q5.mle, hK a c m1 q1 q2 q3⟩
  rw [e1, hg V' _ q4]
def MatR (R' : SV → Hp → Mem → Prop) (r : SV) (H' : Hp) (m' : Mem) : Prop := ∃ H2 : Hp, (mBx ⟨[], [], H'.bx, H'.vc, 0, m'⟩ H2.bx ∧ mVc ⟨[], [], H'.bx, H'.vc, 0, m'⟩ H2.vc) ∧ R' r H2 m'
theorem FnH_mat {f : FuncId} {args : List SV} {H : Hp} {m : Mem} {R' : SV → Hp → Mem → Prop} (h : FnH P f args H m (MatR R')) : FnH P f args H m R' := by
 intro V w D hwf hle hH
 refine (h V w D hwf hle hH).mono ?_
 rintro e w' ⟨r, V', D', H', m', e1, e2, e3, e4, e5, e6, e7, e8, e9, e10, H2, ⟨hb, hv⟩, hr⟩
 obtain ⟨hbs, hbu⟩ := mBx_mem hb
 obtain ⟨hvs, hvu⟩ := mVc_mem hv
 have hap' := List.nodup_append.1 e3.apart
 refine ⟨r, V', D', H2, m', e1, e2, ⟨fun b hb => e3.bx b (hbs b hb), fun b hb => e3.vc b (hvs b hb), ?_, hvu⟩, e4, e5, e6, fun b hb => e7 b (blks_sub hbs hvs b hb), e8, e9, e10, hr⟩
 refine List.nodup_append.2 ⟨?_, ?_, fun x hx y hy => ?_⟩
 ·exact map_nodup hbu fun x hx y hy e => nodup_inj hap'.1 x (hbs x hx) y (hbs y hy) e
 ·exact filterMap_nodup hvu fun x hx y hy b e1 e2 => blk_uniq (hvs x hx) (hvs y hy) e1 e2 hap'.2.1
 ·refine hap'.2.2 x ?_ y ?_
  ·obtain ⟨z, hz, e⟩ := List.mem_map.1 hx; exact List.mem_map.2 ⟨z, hbs z hz, e⟩
  ·obtain ⟨z, hz, e⟩ := List.mem_filterMap.1 hy; exact List.mem_filterMap.2 ⟨z, hvs z hz, e⟩
def OwnR (R' : SV → Hp → Mem → Prop) (r : SV) (H' : Hp) (m' : Mem) : Prop := R' r H' m' ∨ ∃ (g : SV → SV) (k u : Nat) (b : Vc) (H2 : Hp), lkV H'.vc k u = some b ∧ r = g (.vec k u) ∧
 (∀ (V : Vl) (v : Value), (V.γ k u).val = v → den V (g (.vec k u)) = den V (g (.v v))) ∧ H2.bx.Sublist H'.bx ∧ H2.vc.Sublist H'.vc ∧
 ∀ (a : Option Addr) (c : Nat) (m1 : Mem), m'.le m1 → b.n ≤ c → Rds m1 a b.n b.sz b.xs → R' (g (.v (.slice a b.n c))) H2 m1
theorem FnH_own {f : FuncId} {args : List SV} {H : Hp} {m : Mem} {R' : SV → Hp → Mem → Prop} (h : FnH P f args H m (OwnR R')) : FnH P f args H m R' :=
 FnH_pub h fun _ _ _ _ hr => hr
theorem own_vec {R' : SV → Hp → Mem → Prop} {H' : Hp} {m' : Mem} {k u : Nat} {b : Vc} (hb : lkV H'.vc k u = some b) (H2 : Hp) (s1 : H2.bx.Sublist H'.bx) (s2 : H2.vc.Sublist H'.vc)
  (h : ∀ (a : Option Addr) (c : Nat) (m1 : Mem), m'.le m1 → b.n ≤ c → Rds m1 a b.n b.sz b.xs → R' (.v (.slice a b.n c)) H2 m1) : OwnR R' (.vec k u) H' m' :=
 .inr ⟨id, k, u, b, H2, hb, rfl, fun _ _ h => h, s1, s2, h⟩
theorem set_den {V : Vl} {v : Value} : ∀ {cs : List SV} {i k u : Nat}, cs[i]? = some (.vec k u) → (V.γ k u).val = v → (cs.set i (.vec k u)).map (denA V) = (cs.set i (.v v)).map (denA V)
 | c :: r, 0, k, u, h, e => by
  show denA V (.vec k u) :: _ = v :: _
  rw [← e]
  rfl
 | c :: r, i + 1, k, u, h, e => by
  simp only [List.set_cons_succ, List.map_cons]
  rw [set_den (cs := r) (i := i) (by simpa using h) e]
theorem own_agg {R' : SV → Hp → Mem → Prop} {H' : Hp} {m' : Mem} {cs : List SV} {k u : Nat} {b : Vc} (i : Nat) (hi : cs[i]? = some (.vec k u)) (hb : lkV H'.vc k u = some b) (H2 : Hp) (s1 : H2.bx.Sublist H'.bx) (s2 : H2.vc.Sublist H'.vc)
  (h : ∀ (a : Option Addr) (c : Nat) (m1 : Mem), m'.le m1 → b.n ≤ c → Rds m1 a b.n b.sz b.xs → R' (.agg (cs.set i (.v (.slice a b.n c)))) H2 m1) : OwnR R' (.agg cs) H' m' := by
 refine .inr ⟨fun z => .agg (cs.set i z), k, u, b, H2, hb, ?_, fun V v e => ?_, s1, s2, h⟩
 ·obtain ⟨hl, he⟩ := List.getElem?_eq_some_iff.1 hi
  simp only [← he, List.set_getElem_self]
 ·show Value.agg ⟨_⟩ = Value.agg ⟨_⟩
  rw [set_den hi e]
def pubBx (k : Nat) (K : LS → Prop) (st : LS) : Prop :=
 withO (.mk (k := fun b : Bx => pubA (.mk (k := fun cs' st' => okL st'.nid st'.vc cs' ∧ K ⟨st'.env, st'.rho, updB st'.bx k cs', st'.vc, st'.nid, st'.m⟩) (st, b.cs))) (lkB st.bx k))
theorem pubBx_def {k : Nat} {K : LS → Prop} {st : LS} : pubBx k K st =
  withO (.mk (k := fun b : Bx => pubA (.mk (k := fun cs' st' => okL st'.nid st'.vc cs' ∧ K ⟨st'.env, st'.rho, updB st'.bx k cs', st'.vc, st'.nid, st'.m⟩) (st, b.cs))) (lkB st.bx k)) := rfl
theorem updB_ids {k : Nat} {cs : List SV} : ∀ bx : List Bx, (updB bx k cs).map (·.id) = bx.map (·.id)
 | [] => rfl
 | ⟨k', t', cs'⟩ :: r => by
  simp only [updB]
  split
  ·rfl
  ·simp only [List.map_cons, updB_ids r]
theorem updB_mem {k : Nat} {cs : List SV} : ∀ {bx : List Bx} {b : Bx}, b ∈ updB bx k cs → b ∈ bx ∨ ∃ b0, b0 ∈ bx ∧ lkB bx k = some b0 ∧ b = ⟨b0.id, b0.ty, cs⟩
 | ⟨k', t', cs'⟩ :: r, b, h => by
  simp only [updB] at h
  split at h
  ·rename_i e
   rcases List.mem_cons.1 h with rfl | h
   ·refine .inr ⟨⟨k', t', cs'⟩, List.mem_cons_self .., ?_, rfl⟩
    simp only [lkB, if_pos e]
   ·exact .inl (List.mem_cons_of_mem _ h)
  ·rename_i e
   rcases List.mem_cons.1 h with rfl | h
   ·exact .inl (List.mem_cons_self ..)
   ·rcases updB_mem h with h | ⟨b0, h1, h2, h3⟩
    ·exact .inl (List.mem_cons_of_mem _ h)
    ·refine .inr ⟨b0, List.mem_cons_of_mem _ h1, ?_, h3⟩
     simp only [lkB, if_neg e]
     exact h2
theorem map_ids {V : Vl} {l l' : List Bx} (h : l'.map (·.id) = l.map (·.id)) : l'.map (fun b => V.β b.id) = l.map (fun b => V.β b.id) := by
 have := congrArg (List.map V.β) h
 simpa only [List.map_map, Function.comp_def] using this
theorem blks_ids {V : Vl} {bx bx' : List Bx} {vc : List Vc} (h : bx'.map (·.id) = bx.map (·.id)) : blks V ⟨bx', vc⟩ = blks V ⟨bx, vc⟩ := by
 unfold blks
 simp only [map_ids h]
theorem pubBx_sound {C : Ctx} {n : Nat} {st : LS} {a : Act} {w : World} {k : Nat} {K : LS → Prop} (hE : SatE C n st a w) (h : pubBx k K st) : ∃ st', SatE C n st' a w ∧ K st' := by
 obtain ⟨hrho, V, D, hS⟩ := hE
 unfold pubBx at h
 obtain ⟨b, hb, h⟩ := withO_some h
 obtain ⟨cs', m1, D1, ⟨ho, hK⟩, hW, hd, _⟩ := pubA_sound (st := st) b.cs _ st.m D h hS.w
 have hbm := (lkB_mem hb).2
 refine ⟨⟨st.env, st.rho, updB st.bx k cs', st.vc, st.nid, m1⟩, ⟨hrho, V, D1, ⟨hS.f, hS.ids, ⟨⟨fun x hx => ?_, hW.heap.vc, ?_, hW.heap.uniq⟩, hW.wf, hW.frm, ?_, hW.baseB, hW.baseV, ⟨fun x hx => ?_, hW.ids.2⟩, hW.le0, hW.m0, hW.mle⟩⟩⟩, hK⟩
 ·rcases updB_mem hx with hx | ⟨b0, h1, h2, rfl⟩
  ·exact hW.heap.bx x hx
  ·have e : b0 = b := by rw [h2] at hb; exact Option.some.inj hb
   subst e
   obtain ⟨⟨o, q1, q2⟩, q3⟩ := hW.heap.bx b0 h1
   refine ⟨⟨o, q1, ?_⟩, q3⟩
   show bxObj b0.ty (cs'.map (denA V)) o
   rw [hd]
   exact q2
 ·rw [blks_ids (updB_ids st.bx)]
  exact hW.heap.apart
 ·rw [blks_ids (updB_ids st.bx)]
  exact hW.own
 ·rcases updB_mem hx with hx | ⟨b0, h1, h2, rfl⟩
  ·exact hW.ids.1 x hx
  ·exact ⟨(hW.ids.1 b0 h1).1, ho⟩
theorem WP_loopT (hpu : PureOk cfg P) {n : Nat} {st : LS} {body : Code} {Q : Exit → LS → Prop} {X : Type} (T : (LS → Prop) → LS → Prop) (hT : ∀ (K : LS → Prop) (C : Ctx) (st : LS) (a : Act) (w : World), SatE C n st a w → T K st → ∃ st', SatE C n st' a w ∧ K st') (S : X → LS) (I : X → Prop) (μ : X → Nat)
  (hd : dstOkC n body = true) (hn : ∀ x, I x → st.nid ≤ (S x).nid) (hm : ∀ x, I x → leM st.m (S x).m) (hok : ∀ x, okHd (S x)) (h0 : T (fun st' => ∃ x, Match st' (S x) ∧ I x) st)
  (round : ∀ x, I x → vcC (.mk (k := (cfg, P, n, body, thenQ (T fun st' => ∃ x', Match st' (S x') ∧ I x' ∧ μ x' < μ x) Q)) (S x))) : WPv (.mk (k := (P, n, .loop body, Q)) st) := by
 rintro C a w ⟨hrho, V, D, hS⟩
 have hB : ∀ b ∈ C.H0.bx, b.id < st.nid := fun b hb => (hS.w.baseB b hb).2
 have hV : ∀ b ∈ C.H0.vc, b.id < st.nid := fun b hb => (hS.w.baseV b hb).2.1
 have hm0 : ∀ x, I x → C.m0.le (S x).m := fun x hx => by
  rcases hm x hx with e | h
  ·rw [← e]; exact hS.w.m0
  ·exact Mem.le_trans hS.w.m0 h
 have weak : ∀ (st1 : LS) (a1 : Act) (w1 : World) (x : X), SatE C n st1 a1 w1 → Match st1 (S x) → I x → SatE C n (S x) a1 w1 := by
  rintro st1 a1 w1 x ⟨_, V1, D1, hS1⟩ hM hx
  exact ⟨hM.2.1, V1, D1, hS1.weaken hM (hok x) (fun b hb => Nat.lt_of_lt_of_le (hB b hb) (hn x hx)) (fun b hb => Nat.lt_of_lt_of_le (hV b hb) (hn x hx)) (hm0 x hx)⟩
 obtain ⟨st1, hE1, x0, hM0, hI0⟩ := hT _ _ _ _ _ ⟨hrho, V, D, hS⟩ h0
 refine wp_loop_ghost (fun k a w => ∃ x, I x ∧ μ x = k ∧ SatE C n (S x) a w) (μ x0) ⟨x0, hI0, rfl, weak _ _ _ _ hE1 hM0 hI0⟩ ?_
 rintro k a1 w1 ⟨x, hx, rfl, hE⟩
 refine wp_mono (vcC_sound hpu hd (round x hx) C a1 w1 hE) ?_
 rintro e a2 w2 ⟨st2, hE2, hq⟩
 cases e with
 | normal =>
  obtain ⟨st3, hE3, x', hM, hx', hlt⟩ := hT _ _ _ _ _ hE2 hq
  exact ⟨μ x', hlt, x', hx', rfl, weak _ _ _ _ hE3 hM hx'⟩
 | exit id => exact ⟨st2, hE2, hq⟩
 | goto l => exact ⟨st2, hE2, hq⟩
 | ret => exact ⟨st2, hE2, hq⟩
 | panic ch => exact ⟨st2, hE2, hq⟩
 | outgrown => exact ⟨st2, hE2, hq⟩
theorem WP_loopB (hpu : PureOk cfg P) {n : Nat} {st : LS} {body : Code} {Q : Exit → LS → Prop} {X : Type} (k : Nat) (S : X → LS) (I : X → Prop) (μ : X → Nat)
  (hd : dstOkC n body = true) (hn : ∀ x, I x → st.nid ≤ (S x).nid) (hm : ∀ x, I x → leM st.m (S x).m) (hok : ∀ x, okHd (S x)) (h0 : pubBx k (fun st' => ∃ x, Match st' (S x) ∧ I x) st)
  (round : ∀ x, I x → vcC (.mk (k := (cfg, P, n, body, thenQ (pubBx k fun st' => ∃ x', Match st' (S x') ∧ I x' ∧ μ x' < μ x) Q)) (S x))) : WPv (.mk (k := (P, n, .loop body, Q)) st) :=
 WP_loopT hpu (pubBx k) (fun _ _ _ _ _ hE h => pubBx_sound hE h) S I μ hd hn hm hok h0 round
end
@[reducible] def prB (en : Int) (s : PSt) : Bx := ⟨0, 62, [.vec 1 0, .v (.int .i64 s.i), .v (.int .i64 en), .v (.bool s.fl), .v (.int .i64 s.off)]⟩
@[reducible] def tkV (ts : List Tk) : Vc := ⟨1, 0, 50, 4, ts.length, tkCells ts⟩
attribute [go_sem] prB tkV
structure TsB (ts : List Tk) : Prop where
 len : ts.length ≤ 1000000
 s : ∀ t ∈ ts, t.s.length ≤ 1000000
 n : ∀ t ∈ ts, I64 t.n
theorem TsB.cs {ts : List Tk} (h : TsB ts) (i : Nat) : (curT ts i).s.length ≤ 1000000 := by
 by_cases hi : i < ts.length
 ·rw [cur_get hi]; exact h.s _ (List.getElem_mem hi)
 ·rw [cur_end (by omega)]; exact Nat.zero_le _
theorem TsB.cn {ts : List Tk} (h : TsB ts) (i : Nat) : I64 (curT ts i).n := by
 by_cases hi : i < ts.length
 ·rw [cur_get hi]; exact h.n _ (List.getElem_mem hi)
 ·rw [cur_end (by omega)]; exact ⟨by decide, by decide⟩
theorem TsB.l8 {ts : List Tk} (h : TsB ts) : ts.length ≤ 100000000 := Nat.le_trans h.len (by decide)
theorem clsP_lt {ts : List Tk} {i : Nat} (h : isClsP (ts.drop i) = true) : i < ts.length := by
 rcases Nat.lt_or_ge i ts.length with hi | hi
 ·exact hi
 ·rw [List.drop_eq_nil_of_le hi] at h; cases h
theorem idP_lt {ts : List Tk} {i : Nat} (h : isIdP (ts.drop i) = true) : i < ts.length := by
 rcases Nat.lt_or_ge i ts.length with hi | hi
 ·exact hi
 ·rw [List.drop_eq_nil_of_le hi] at h; cases h
theorem cur_sc {ts : List Tk} {i : Nat} (h : i < ts.length) : (tkCells ts).getD (i * 4 + 1) undef = .string (bs (curT ts i).s) := by
 have := congrArg (fun l => l[1]?) (cur_cells h)
 simp only [List.getElem?_take, List.getElem?_drop] at this
 rw [if_pos (by decide)] at this
 rw [List.getD_eq_getElem?_getD, this]
 rfl
def pHas : List Value → Option (Prop × Value)
 | [.string a, .string b] => some (tl b = [47], .bool ((tl a).contains 47))
 | _ => none
attribute [go_sem] pHas.eq_1
theorem pureHas : Pure0 Tryz.prog 228 pHas := fun vals y hy hB m => by
 unfold pHas at hy
 split at hy
 ·rename_i a b
  cases hy
  have h := phas_spec (tl a) 47 m
  have e : b = bs [47] := by rw [← bs_tl b, hB]
  rw [e]
  rwa [bs_tl] at h
 ·cases hy
abbrev cfC : Cfg := mkCf (fun _ => false) [(134, pS1 BL fun s => .bool (isCls s)), (228, pHas)]
theorem puC : PureOk cfC Tryz.prog := pure_cons (by kernel_rfl) (pureS fun a m h => isCls_spec a m h) (pure_cons (by kernel_rfl) pureHas pure_nil)
theorem exp_spec (ts : List Tk) (en : Int) (s : PSt) (w : List UInt8) (m : Mem) (hn : ts.length ≤ 100000000) : FnH Tryz.prog 52 [.box 0 0, .v (.string (bs w))] (pH ts en s) m fun r H' m' => leM m m' ∧ r = .tup [] ∧ H' = pH ts en (expSt ts en s w) := expect_spec ts en s w m hn
section
variable (ts : List Tk) (en : Int) (s : PSt) (m : Mem)
theorem isClass_spec (hT : TsB ts) : FnH Tryz.prog 126 [.box 0 0] (pH ts en s) m fun r H' m' => leM m m' ∧ r = .v (.bool (isClsP (ts.drop s.i))) ∧ H' = pH ts en s := by
 have hp := peek_spec ts en s m hT.l8
 have hb := hT.cs s.i
 rw [isClsP, hdK_cur, hdS_cur]
 refine enter cfC puC Tryz.func126 rfl rfl (by kernel_rfl) rfl ?_ ?_
 ·simp only [go_sem, ↓tfi, ↓fti, ↓reduceIte]
 ·simp only [go_sem, ↓tfi, ↓fti, ↓reduceIte]
  refine cvl (hp.mono ?_)
  clear hp
  rintro r H' m1 hm1 ⟨rfl, rfl⟩
  simp only [go_sem, ↓tfi, ↓fti, ↓reduceIte]
  exact ⟨fun _ => by unfold BL; omega, .inr hm1⟩
theorem isIdent_spec (hT : TsB ts) : FnH Tryz.prog 190 [.box 0 0] (pH ts en s) m fun r H' m' => leM m m' ∧ r = .v (.bool (isIdP (ts.drop s.i))) ∧ H' = pH ts en s := by
 have hp := peek_spec ts en s m hT.l8
 have hb := hT.cs s.i
 rw [isIdP, hdK_cur, hdS_cur]
 refine enter cfC puC Tryz.func190 rfl rfl (by kernel_rfl) rfl ?_ ?_
 ·simp only [go_sem, ↓tfi, ↓fti, ↓reduceIte]
 ·simp only [go_sem, ↓tfi, ↓fti, ↓reduceIte]
  refine cvl (hp.mono ?_)
  clear hp
  rintro r H' m1 hm1 ⟨rfl, rfl⟩
  simp only [go_sem, ↓tfi, ↓fti, ↓reduceIte]
  exact ⟨fun _ => by unfold BL; omega, .inr hm1⟩
theorem pcls_spec (hT : TsB ts) (hI : Inv ts s) : FnH Tryz.prog 50 [.box 0 0] (pH ts en s) m fun r H' m' => leM m m' ∧ ∃ w s', r = .v (.string (bs w)) ∧ w.length ≤ 1000000 ∧ H' = pH ts en s' ∧ Res ts en s (clsP (ts.drop s.i)) w s' := by
 have hp := isClass_spec ts en s m hT
 have hb := hT.cs s.i
 by_cases h : isClsP (ts.drop s.i) = true
 ·rw [h] at hp
  have hi := clsP_lt h
  have hR : Res ts en s (clsP (ts.drop s.i)) (curT ts s.i).s s.next := by
   rw [clsP, if_pos h, hdS_cur, ← drop_next]
   exact res_next hI hi (res_pure _ (hI.next hi))
  refine enter cfC puC Tryz.func50 rfl rfl (by kernel_rfl) rfl ?_ ?_
  ·simp only [go_sem, ↓tfi, ↓fti, ↓reduceIte]
  ·simp only [go_sem, ↓tfi, ↓fti, ↓reduceIte]
   refine cvl (hp.mono ?_)
   clear hp
   rintro r H' m1 hm1 ⟨l1, rfl, rfl⟩
   simp only [go_sem, ↓tfi, ↓fti, ↓reduceIte]
   have hl := hT.len
   have ht := tk_len ts
   have e : (s.i + 1 - 1 : Int).toNat = s.i := by omega
   refine ⟨by unfold I64; omega, ?_⟩
   refine WP_draw (.hoist 0 (.hoist 1 (.hoist 2 (.hoist 3 (.hoist 4 (.hoist 5 (.hoist 6 (.hoist 7 (.hoist 8 (.hoist 9 (.hoist 10 (.hoist 11 (.hoist 12 .done))))))))))))) puC (by kernel_rfl) (by kernel_rfl) ?_
   simp only [go_sem, ↓tfi, ↓fti, ↓reduceIte]
   refine ⟨by unfold I64; omega, ⟨by omega, by omega⟩, by omega, by omega, l1, (curT ts s.i).s, s.next, ?_, hb, rfl, hR⟩
   rw [e]
   exact cur_sc hi
 ·have h' : isClsP (ts.drop s.i) = false := by simpa using h
  rw [h'] at hp
  have hf := fun m' => fail_spec ts en s m' hT.l8
  have hR : Res ts en s (clsP (ts.drop s.i)) [] (failS ts en s) := by
   rw [clsP, if_neg h]
   exact res_fail _ hI
  refine enter cfC puC Tryz.func50 rfl rfl (by kernel_rfl) rfl ?_ ?_
  ·simp only [go_sem, ↓tfi, ↓fti, ↓reduceIte]
  ·simp only [go_sem, ↓tfi, ↓fti, ↓reduceIte]
   refine cvl (hp.mono ?_)
   clear hp
   rintro r H' m1 hm1 ⟨l1, rfl, rfl⟩
   simp only [go_sem, ↓tfi, ↓fti, ↓reduceIte]
   refine cvl ((hf m1).mono ?_)
   clear hf
   rintro r H' m2 hm2 ⟨rfl, rfl, rfl⟩
   simp only [go_sem, ↓tfi, ↓fti, ↓reduceIte]
   exact ⟨l1, [], _, rfl, Nat.zero_le _, rfl, hR⟩
theorem pid_spec (hT : TsB ts) (hI : Inv ts s) : FnH Tryz.prog 130 [.box 0 0] (pH ts en s) m fun r H' m' => leM m m' ∧ ∃ w s', r = .v (.string (bs w)) ∧ w.length ≤ 1000000 ∧ H' = pH ts en s' ∧ Res ts en s (idP (ts.drop s.i)) w s' := by
 have hp := isIdent_spec ts en s m hT
 have hb := hT.cs s.i
 by_cases h : isIdP (ts.drop s.i) = true
 ·rw [h] at hp
  have hi := idP_lt h
  have hR : Res ts en s (idP (ts.drop s.i)) (curT ts s.i).s s.next := by
   rw [idP, if_pos h, hdS_cur, ← drop_next]
   exact res_next hI hi (res_pure _ (hI.next hi))
  refine enter cfC puC Tryz.func130 rfl rfl (by kernel_rfl) rfl ?_ ?_
  ·simp only [go_sem, ↓tfi, ↓fti, ↓reduceIte]
  ·simp only [go_sem, ↓tfi, ↓fti, ↓reduceIte]
   refine cvl (hp.mono ?_)
   clear hp
   rintro r H' m1 hm1 ⟨l1, rfl, rfl⟩
   simp only [go_sem, ↓tfi, ↓fti, ↓reduceIte]
   have hl := hT.len
   have ht := tk_len ts
   have e : (s.i + 1 - 1 : Int).toNat = s.i := by omega
   refine ⟨by unfold I64; omega, ?_⟩
   refine WP_draw (.hoist 0 (.hoist 1 (.hoist 2 (.hoist 3 (.hoist 4 (.hoist 5 (.hoist 6 (.hoist 7 (.hoist 8 (.hoist 9 (.hoist 10 (.hoist 11 (.hoist 12 .done))))))))))))) puC (by kernel_rfl) (by kernel_rfl) ?_
   simp only [go_sem, ↓tfi, ↓fti, ↓reduceIte]
   refine ⟨by unfold I64; omega, ⟨by omega, by omega⟩, by omega, by omega, l1, (curT ts s.i).s, s.next, ?_, hb, rfl, hR⟩
   rw [e]
   exact cur_sc hi
 ·have h' : isIdP (ts.drop s.i) = false := by simpa using h
  rw [h'] at hp
  have hf := fun m' => fail_spec ts en s m' hT.l8
  have hR : Res ts en s (idP (ts.drop s.i)) [] (failS ts en s) := by
   rw [idP, if_neg h]
   exact res_fail _ hI
  refine enter cfC puC Tryz.func130 rfl rfl (by kernel_rfl) rfl ?_ ?_
  ·simp only [go_sem, ↓tfi, ↓fti, ↓reduceIte]
  ·simp only [go_sem, ↓tfi, ↓fti, ↓reduceIte]
   refine cvl (hp.mono ?_)
   clear hp
   rintro r H' m1 hm1 ⟨l1, rfl, rfl⟩
   simp only [go_sem, ↓tfi, ↓fti, ↓reduceIte]
   refine cvl ((hf m1).mono ?_)
   clear hf
   rintro r H' m2 hm2 ⟨rfl, rfl, rfl⟩
   simp only [go_sem, ↓tfi, ↓fti, ↓reduceIte]
   exact ⟨l1, [], _, rfl, Nat.zero_le _, rfl, hR⟩
abbrev tyS (t : Ty) : SV := .agg [.v (.int .i64 t.dim), .v (.int .u8 t.base), .v (.string (bs t.name))]
theorem pbase_spec (hT : TsB ts) (hI : Inv ts s) : FnH Tryz.prog 153 [.box 0 0] (pH ts en s) m fun r H' m' => leM m m' ∧ ∃ t s', r = tyS t ∧ t.dim = 0 ∧ (0 ≤ t.base ∧ t.base < 256) ∧ t.name.length ≤ 1000000 ∧ H' = pH ts en s' ∧ Res ts en s (baseP (ts.drop s.i)) t s' := by
 have ha := accept_spec ts en s intS m hT.l8
 have hb := fun m' => accept_spec ts en s longS m' hT.l8
 have hc := fun m' => pcls_spec ts en s m' hT hI
 by_cases h1 : isC ts s.i intS = true
 ·rw [h1] at ha
  have hi := isC_lt h1
  have hR : Res ts en s (baseP (ts.drop s.i)) ⟨0, 73, []⟩ s.next := by
   rw [baseP, ← isC_P, if_pos h1, ← drop_next]
   exact res_next hI hi (res_pure _ (hI.next hi))
  refine enter cfN puN Tryz.func153 rfl rfl (by kernel_rfl) rfl ?_ ?_
  ·simp only [go_sem, ↓tfi, ↓fti, ↓reduceIte]
  ·simp only [go_sem, ↓tfi, ↓fti, ↓reduceIte]
   refine cvl (ha.mono ?_)
   clear ha hb hc
   rintro r H' m1 hm1 ⟨l1, rfl, rfl⟩
   simp only [go_sem, ↓tfi, ↓fti, ↓reduceIte]
   exact ⟨l1, ⟨0, 73, []⟩, s.next, rfl, rfl, by decide, Nat.zero_le _, rfl, hR⟩
 ·have h1' : isC ts s.i intS = false := by simpa using h1
  rw [h1'] at ha
  by_cases h2 : isC ts s.i longS = true
  ·have hb' := fun m' => (hb m').mono fun r H' m2 _ h => (⟨h.1, by have := h.2.1; rw [h2] at this; exact this, by have := h.2.2; rw [if_pos h2] at this; exact this⟩ : leM m' m2 ∧ r = .v (.bool true) ∧ H' = pH ts en s.next)
   clear hb
   have hi := isC_lt h2
   have hR : Res ts en s (baseP (ts.drop s.i)) ⟨0, 74, []⟩ s.next := by
    rw [baseP, ← isC_P, if_neg h1, ← isC_P, if_pos h2, ← drop_next]
    exact res_next hI hi (res_pure _ (hI.next hi))
   refine enter cfN puN Tryz.func153 rfl rfl (by kernel_rfl) rfl ?_ ?_
   ·simp only [go_sem, ↓tfi, ↓fti, ↓reduceIte]
   ·simp only [go_sem, ↓tfi, ↓fti, ↓reduceIte]
    refine cvl (ha.mono ?_)
    clear ha hc
    rintro r H' m1 hm1 ⟨l1, rfl, rfl⟩
    simp only [go_sem, ↓tfi, ↓fti, ↓reduceIte]
    refine cvl ((hb' m1).mono ?_)
    clear hb'
    rintro r H' m2 hm2 ⟨l2, rfl, rfl⟩
    simp only [go_sem, ↓tfi, ↓fti, ↓reduceIte]
    exact ⟨leM_tr l1 l2, ⟨0, 74, []⟩, s.next, rfl, rfl, by decide, Nat.zero_le _, rfl, hR⟩
  ·have h2' : isC ts s.i longS = false := by simpa using h2
   have hb' := fun m' => (hb m').mono fun r H' m2 _ h => (⟨h.1, by have := h.2.1; rw [h2'] at this; exact this, by have := h.2.2; rw [if_neg h2] at this; exact this⟩ : leM m' m2 ∧ r = .v (.bool false) ∧ H' = pH ts en s)
   clear hb
   refine enter cfN puN Tryz.func153 rfl rfl (by kernel_rfl) rfl ?_ ?_
   ·simp only [go_sem, ↓tfi, ↓fti, ↓reduceIte]
   ·simp only [go_sem, ↓tfi, ↓fti, ↓reduceIte]
    refine cvl (ha.mono ?_)
    clear ha
    rintro r H' m1 hm1 ⟨l1, rfl, rfl⟩
    simp only [go_sem, ↓tfi, ↓fti, ↓reduceIte]
    refine cvl ((hb' m1).mono ?_)
    clear hb'
    rintro r H' m2 hm2 ⟨l2, rfl, rfl⟩
    simp only [go_sem, ↓tfi, ↓fti, ↓reduceIte]
    refine cvl ((hc m2).mono ?_)
    clear hc
    rintro r H' m3 hm3 ⟨l3, w, s', rfl, hw, rfl, hR⟩
    simp only [go_sem, ↓tfi, ↓fti, ↓reduceIte]
    refine ⟨leM_tr (leM_tr l1 l2) l3, ⟨0, 76, w⟩, s', rfl, rfl, (by decide : (0 : Int) ≤ 76 ∧ (76 : Int) < 256), hw, rfl, ?_⟩
    rw [baseP, ← isC_P, if_neg h1, ← isC_P, if_neg h2]
    exact res_bnd hR (res_pure _ hR.inv)
theorem ptyp_spec (hT : TsB ts) (hI : Inv ts s) : FnH Tryz.prog 63 [.box 0 0] (pH ts en s) m fun r H' m' => leM m m' ∧ ∃ t s', r = tyS t ∧ TyOk t ∧ t.name.length ≤ 1000000 ∧ H' = pH ts en s' ∧ Res ts en s (typP (ts.drop s.i)) t s' := by
 have hb := pbase_spec ts en s m hT hI
 refine enter cfN puN Tryz.func63 rfl rfl (by kernel_rfl) rfl ?_ ?_
 ·simp only [go_sem, ↓tfi, ↓fti, ↓reduceIte]
 ·simp only [go_sem, ↓tfi, ↓fti, ↓reduceIte]
  refine cvl (hb.mono ?_)
  clear hb
  rintro r H' m1 hm1 ⟨l1, t1, s1, rfl, ht1, ht2, ht3, rfl, hR1⟩
  simp only [go_sem, ↓tfi, ↓fti, ↓reduceIte]
  refine WP_loop puN (fun y : PSt × Ty × Mem => ⟨[⟨0, [], .box 0 0⟩, ⟨2, [], .box 2 0⟩, ⟨3, [], .box 5 0⟩], [], [⟨5, 30, [.v (.int .i64 y.2.1.dim), .v (.int .u8 y.2.1.base), .v (.string (bs y.2.1.name))]⟩, prB en y.1, ⟨2, 30, [.v (.int .i64 0), .v (.int .u8 0), .v (.string (bs []))]⟩], [tkV ts], 20, y.2.2⟩)
   (fun y => leM m1 y.2.2 ∧ Inv ts y.1 ∧ y.2.1.name.length ≤ 1000000 ∧ (0 ≤ y.2.1.base ∧ y.2.1.base < 256) ∧ (0 ≤ y.2.1.dim ∧ y.2.1.dim ≤ y.1.i) ∧ ∀ a s', Res ts en y.1 (dimsK y.2.1 (ts.drop y.1.i)) a s' → Res ts en s (typP (ts.drop s.i)) a s')
   (fun y => ts.length - y.1.i) (s1, t1, m1) (by kernel_rfl) (fun _ _ => nbl rfl) (fun y hy => hy.1) (fun _ => ?_) ?_ ?_ ?_
  ·simp only [go_sem, ↓tfi, ↓fti, ↓reduceIte]
  ·simp only [go_sem, ↓tfi, ↓fti, ↓reduceIte]
  ·exact ⟨.inl rfl, hR1.inv, ht3, ht2, ⟨by dsimp only; omega, by dsimp only; omega⟩, fun a s' h => by rw [typP_K]; exact res_bnd hR1 h⟩
  ·rintro ⟨s2, t2, m2⟩ ⟨q1, q2, q3, q4, q5, q6⟩
   dsimp only at q1 q2 q3 q4 q5 q6
   have hl := hT.len
   have hil := q2.le
   have ha := accept_spec ts en s2 [91] m2 hT.l8
   by_cases h1 : isC ts s2.i [91] = true
   ·rw [h1] at ha
    have hi := isC_lt h1
    have hI3 := q2.next hi
    have he := fun m' => exp_spec ts en s2.next [93] m' hT.l8
    have hI4 : Inv ts (expSt ts en s2.next [93]) := inv_expSt hI3
    have hle : s2.i + 1 ≤ (expSt ts en s2.next [93]).i := expSt_le hI3
    simp only [go_sem, ↓tfi, ↓fti, ↓reduceIte]
    refine cvl (ha.mono ?_)
    clear ha
    rintro r H' m3 hm3 ⟨l3, rfl, rfl⟩
    simp only [go_sem, ↓tfi, ↓fti, ↓reduceIte]
    refine cvl ((he m3).mono ?_)
    clear he
    rintro r H' m4 hm4 ⟨l4, rfl, rfl⟩
    simp only [go_sem, ↓tfi, ↓fti, ↓reduceIte]
    refine ⟨by unfold I64; omega, (expSt ts en s2.next [93], t2.up, m4), ⟨⟨⟨rfl, rfl, rfl⟩, ⟨rfl, rfl, rfl⟩⟩, .inl rfl⟩, ⟨leM_tr (leM_tr q1 l3) l4, hI4, q3, q4, ⟨by show 0 ≤ t2.dim + 1; omega, by show t2.dim + 1 ≤ ((expSt ts en s2.next [93]).i : Int); omega⟩, fun a s' h => q6 a s' ?_⟩, by dsimp only; omega⟩
    rw [dimsK_eq, if_pos (by rw [← isC_P]; exact h1), ← drop_next]
    exact res_next q2 hi (res_exp hI3 h)
   ·have h1' : isC ts s2.i [91] = false := by simpa using h1
    rw [h1'] at ha
    simp only [go_sem, ↓tfi, ↓fti, ↓reduceIte]
    refine cvl (ha.mono ?_)
    clear ha
    rintro r H' m3 hm3 ⟨l3, rfl, rfl⟩
    simp only [go_sem, ↓tfi, ↓fti, ↓reduceIte]
    refine ⟨leM_tr (leM_tr l1 q1) l3, t2, s2, rfl, ⟨by unfold I64; omega, q4, by unfold big; omega⟩, q3, rfl, q6 _ _ ?_⟩
    rw [dimsK_eq, if_neg (by rw [← isC_P]; exact h1)]
    exact res_pure _ q2
end
theorem level_own (n : Nat) (hn : n ≤ 9) (m : Mem) : FnH Tryz.prog 152 [.v (.int .i64 n)] ⟨[], []⟩ m fun r H' m' => m' = m ∧ r = .vec 0 0 ∧ H' = ⟨[], [⟨0, 0, 9, 1, (levL n).length, strs (levL n)⟩]⟩ := by
 refine enter cfN puN Tryz.func152 rfl rfl (by kernel_rfl) rfl ?_ ?_
 ·simp only [go_sem, ↓tfi, ↓fti, ↓reduceIte]
 ·simp only [go_sem, ↓tfi, ↓fti, ↓reduceIte]
  exact ⟨fun h => by obtain rfl : n = 0 := (by omega); rfl, fun h0 => ⟨fun h => by obtain rfl : n = 1 := (by omega); rfl, fun h1 => ⟨fun h => by obtain rfl : n = 2 := (by omega); rfl, fun h2 => ⟨fun h => by obtain rfl : n = 3 := (by omega); rfl, fun h3 => ⟨fun h => by obtain rfl : n = 4 := (by omega); rfl, fun h4 => ⟨fun h => by obtain rfl : n = 5 := (by omega); rfl, fun h5 => ⟨fun h => by obtain rfl : n = 6 := (by omega); rfl, fun h6 => ⟨fun h => by obtain rfl : n = 7 := (by omega); rfl, fun h7 => ⟨fun h => by obtain rfl : n = 8 := (by omega); rfl, fun h8 => by obtain rfl : n = 9 := (by omega); rfl⟩⟩⟩⟩⟩⟩⟩⟩⟩
theorem level_spec (n : Nat) (hn : n ≤ 9) (m : Mem) : FnH Tryz.prog 152 [.v (.int .i64 n)] ⟨[], []⟩ m fun r H' m' => m.le m' ∧ ∃ a c, r = .v (.slice a (levL n).length c) ∧ (levL n).length ≤ c ∧ Rds m' a (levL n).length 1 (strs (levL n)) ∧ H' = ⟨[], []⟩ := by
 refine FnH_pub (level_own n hn m) ?_
 rintro r H' m' hm ⟨rfl, rfl, rfl⟩
 refine .inr ⟨id, 0, 0, _, ⟨[], []⟩, rfl, rfl, fun V v h => h, List.Sublist.refl _, List.nil_sublist _, fun a c m1 h1 h2 h3 => ⟨h1, a, c, rfl, h2, h3, rfl⟩⟩
section
variable (ts : List Tk) (en : Int) (s : PSt) (m : Mem)
theorem opP_lt {ts : List Tk} {n i : Nat} (h : isOpP n (ts.drop i) = true) : i < ts.length := by
 rcases Nat.lt_or_ge i ts.length with hi | hi
 ·exact hi
 ·rw [List.drop_eq_nil_of_le hi, isOpP] at h; cases h
theorem operator_spec (n : Nat) (hn : n ≤ 9) (hT : TsB ts) : FnH Tryz.prog 62 [.box 0 0, .v (.int .i64 n)] (pH ts en s) m fun r H' m' => leM m m' ∧
  ∃ w, r = .tup [.v (.string (bs w)), .v (.bool (isOpP n (ts.drop s.i)))] ∧ (isOpP n (ts.drop s.i) = true → w = hdS (ts.drop s.i)) ∧ H' = pH ts en (if isOpP n (ts.drop s.i) = true then s.next else s) := by
 have hp := peek_spec ts en s m hT.l8
 have hl := fun m' => level_spec n hn m'
 refine enter cfN puN Tryz.func62 rfl rfl (by kernel_rfl) rfl ?_ ?_
 ·simp only [go_sem, ↓tfi, ↓fti, ↓reduceIte]
 ·simp only [go_sem, ↓tfi, ↓fti, ↓reduceIte]
  refine cvl (hp.mono ?_)
  clear hp
  rintro r H' m1 hm1 ⟨rfl, rfl⟩
  simp only [go_sem, ↓tfi, ↓fti, ↓reduceIte]
  refine WP_draw (.hoist 0 (.hoist 1 (.hoist 2 (.hoist 3 (.hoist 4 (.hoist 6 (.hoist 7 (.alt 5 [7, 6] (.alt 8 [] (.hoist 9 .done) .stop) .stop)))))))) puN (by kernel_rfl) (by kernel_rfl) ?_
  simp only [go_sem, ↓tfi, ↓fti, ↓reduceIte]
  have hlen : (levL n).length ≤ 4611686018427387904 := by unfold levL; repeat (first | (split; decide) | split | decide)
  refine ⟨fun hk => cvl ((hl m1).mono ?_), fun hk => ?_⟩
  ·clear hl
   rintro r H' m2 hm2 ⟨_, a, c, rfl, hcp, hrd, rfl⟩
   have hc := contains_spec (levL n) (curT ts s.i).s a _ c m2 hrd hlen
   simp only [go_sem, ↓tfi, ↓fti, ↓reduceIte]
   refine ⟨⟨.inr hm2, .inr hm2⟩, by kernel_rfl, FnV_of (hc.mono ?_)⟩
   clear hc
   rintro r H' m3 hm3 ⟨rfl, rfl⟩
   simp only [go_sem, ↓tfi, ↓fti, ↓reduceIte]
   have hlm : leM m m3 := .inr (Mem.le_trans hm1 (Mem.le_trans hm2 hm3))
   refine ⟨fun h => ?_, fun h => ?_⟩
   ·have hf : isOpP n (ts.drop s.i) = true := by rw [isOpP, hdK_cur, hdS_cur, hk, h]; rfl
    have hi := opP_lt hf
    have hl := hT.len
    rw [hf]
    exact ⟨by unfold I64; omega, hlm, _, rfl, fun _ => (hdS_cur ts s.i).symm, rfl⟩
   ·have hf : isOpP n (ts.drop s.i) = false := by rw [isOpP, hdS_cur, h, Bool.and_false]
    rw [hf]
    exact ⟨hlm, [], rfl, fun h => (by cases h), rfl⟩
  ·have hf : isOpP n (ts.drop s.i) = false := by rw [isOpP, hdK_cur]; simp [hk]
   rw [hf]
   exact ⟨.inr hm1, [], rfl, fun h => (by cases h), rfl⟩
end
abbrev Nd.svs (x : Nd) : List SV := [.v (.int .i64 x.k), .v (.int .i64 x.n), .v (.string (bs x.s)), .v (.string (bs x.c)), .v (.int .i64 x.ty.dim), .v (.int .u8 x.ty.base), .v (.string (bs x.ty.name)), .v (.slice x.a x.l x.cp)]
abbrev ERes (ts : List Tk) (en : Int) (s : PSt) (K : PR Ex) (m : Mem) : SV → Hp → Mem → Prop := fun r H' m' => leM m m' ∧ ∃ (x : Nd) (e : Ex) (s' : PSt), r = .agg x.svs ∧ exRep m' e x.cs ∧ H' = pH ts en s' ∧ Res ts en s K e s'
abbrev ARes (ts : List Tk) (en : Int) (s : PSt) (K : PR (List Ex)) (m : Mem) : SV → Hp → Mem → Prop := fun r H' m' => leM m m' ∧ ∃ (es : List Ex) (a : Option Addr) (c : Nat) (xs : List Value) (s' : PSt), r = .v (.slice a es.length c) ∧ es.length ≤ c ∧ es.length ≤ 1000001 ∧ Rds m' a es.length 8 xs ∧ exsRep m' es xs ∧ H' = pH ts en s' ∧ Res ts en s K es s'
theorem byE : byT Tryz.prog 33 = 104 := by kernel_rfl
theorem byS : byT Tryz.prog 73 = 312 := by kernel_rfl
attribute [go_sem] byE byS
theorem room_of {n b : Nat} (hn : n ≤ 2000002) (hb : b ≤ 1000) : room n b := by
 have : n * b ≤ 2000002 * 1000 := Nat.mul_le_mul hn hb
 exact ⟨by omega, by unfold maxLen; omega⟩
theorem rds_none (m : Mem) (z : Nat) : Rds m none 0 z [] := ⟨by simp, fun h => absurd h (by decide)⟩
theorem mk_rep {m : Mem} {k n : Int} {s c : List UInt8} {ty : Ty} {es : List Ex} {a : Option Addr} {cp : Nat} {xs : List Value} (hk : I64 k) (hn : I64 n) (hs : s.length ≤ 1000000) (hc : c.length ≤ 1000000) (ht : TyOk ty)
  (hl : es.length ≤ 1000002) (hcp : es.length ≤ cp) (hr : Rds m a es.length 8 xs) (he : exsRep m es xs) : exRep m (.mk k n s c ty es) (Nd.cs ⟨k, n, s, c, ty, a, es.length, cp⟩) := by
 simp only [exRep]
 exact ⟨a, cp, xs, rfl, hcp, hr, ⟨hk, hn, by unfold big; omega, by unfold big; omega, ht, by unfold big; omega⟩, he⟩
theorem mk_rep0 {m : Mem} {k n : Int} {s c : List UInt8} {ty : Ty} (hk : I64 k) (hn : I64 n) (hs : s.length ≤ 1000000) (hc : c.length ≤ 1000000) (ht : TyOk ty) : exRep m (.mk k n s c ty []) (Nd.cs ⟨k, n, s, c, ty, none, 0, 0⟩) :=
 mk_rep (es := []) hk hn hs hc ht (Nat.zero_le _) (Nnr _) (rds_none m 8) (by simp only [exsRep])
theorem tyOk_z : TyOk zTy := ⟨⟨by decide, by decide⟩, by decide, by decide⟩
theorem exs1 {m : Mem} {e : Ex} {x : Nd} (h : exRep m e x.cs) : exsRep m [e] x.cs := by
 simp only [exsRep, and_true]
 exact h
theorem exs2 {m : Mem} {e e2 : Ex} {x y : Nd} (h : exRep m e x.cs) (h2 : exRep m e2 y.cs) : exsRep m [e, e2] (x.cs ++ y.cs) := by
 simp only [exsRep, and_true]
 exact ⟨h, h2⟩
theorem exs_snoc {m : Mem} {e : Ex} {x : Nd} (hx : exRep m e x.cs) : ∀ {es : List Ex} {xs : List Value}, xs.length = es.length * 8 → exsRep m es xs → exsRep m (es ++ [e]) (xs ++ x.cs)
 | [], xs, hl, _ => by
  have : xs = [] := List.eq_nil_of_length_eq_zero (by simpa using hl)
  subst this
  exact exs1 hx
 | y :: r, xs, hl, h => by
  simp only [exsRep, List.cons_append] at h ⊢
  simp only [Llc] at hl
  have h8 : 8 ≤ xs.length := by omega
  rw [List.take_append_of_le_length h8, List.drop_append_of_le_length h8]
  exact ⟨h.1, exs_snoc hx (by rw [List.length_drop]; omega) h.2⟩
theorem exs_upM {m m' : Mem} {es : List Ex} {xs : List Value} (hle : leM m m') (h : exsRep m es xs) : exsRep m' es xs := by
 rcases hle with rfl | hle
 ·exact h
 ·exact exsRep_up hle es xs h
theorem ex_one {m : Mem} {e : Ex} {cs : List Value} (h : exRep m e cs) : ∀ u ∈ cs, u.oneCell' = true := by
 obtain ⟨x, rfl⟩ := exRep_nd h
 intro u hu
 simp only [Nd.cs, List.mem_cons, List.not_mem_nil, or_false] at hu
 rcases hu with rfl | rfl | rfl | rfl | rfl | rfl | rfl | rfl <;> rfl
theorem exs_oneC {m : Mem} : ∀ {es : List Ex} {xs : List Value}, xs.length = es.length * 8 → exsRep m es xs → ∀ u ∈ xs, u.oneCell' = true
 | [], xs, hl, _ => by
  have : xs = [] := List.eq_nil_of_length_eq_zero (by simpa using hl)
  subst this
  intro u hu; cases hu
 | y :: r, xs, hl, h => by
  simp only [exsRep] at h
  simp only [Llc] at hl
  intro u hu
  rw [← List.take_append_drop 8 xs] at hu
  rcases List.mem_append.1 hu with hu | hu
  ·exact ex_one h.1 u hu
  ·exact exs_oneC (by rw [List.length_drop]; omega) h.2 u hu
theorem exs_consN {m : Mem} {e : Ex} {x : Nd} {es : List Ex} {xs : List Value} (hx : exRep m e x.cs) (h : exsRep m es xs) : exsRep m (e :: es) (x.cs ++ xs) := by
 simp only [exsRep]
 exact ⟨hx, h⟩
def ExprC (ts : List Tk) (en : Int) (n : Nat) (s : PSt) : Prop := ∀ m : Mem, FnH Tryz.prog 31 [.box 0 0, .v (.int .i64 n)] (pH ts en s) m (ERes ts en s (exprK n (ts.drop s.i)) m)
def ArgsC (ts : List Tk) (en : Int) (s : PSt) : Prop := ∀ m : Mem, FnH Tryz.prog 167 [.box 0 0] (pH ts en s) m (ARes ts en s (argsK (ts.drop s.i)) m)
def ParenC (ts : List Tk) (en : Int) (s : PSt) : Prop := ∀ m : Mem, FnH Tryz.prog 166 [.box 0 0] (pH ts en s) m (ERes ts en s (parenK (ts.drop s.i)) m)
def UnC (ts : List Tk) (en : Int) (s : PSt) : Prop := ∀ m : Mem, FnH Tryz.prog 61 [.box 0 0] (pH ts en s) m (ERes ts en s (unaryK (ts.drop s.i)) m)
section
variable {ts : List Tk} {en : Int} {s : PSt}
theorem paren_of (hT : TsB ts) (hI : Inv ts s) (hE : ExprC ts en 0 (expSt ts en s [40])) : ParenC ts en s := fun m => by
 have h1 := exp_spec ts en s [40] m hT.l8
 have hE0 : ∀ m' : Mem, FnH Tryz.prog 31 [.box 0 0, .v (.int .i64 0)] (pH ts en (expSt ts en s [40])) m' (ERes ts en (expSt ts en s [40]) (exprK 0 (ts.drop (expSt ts en s [40]).i)) m') := hE
 rw [parenK_eq]
 refine enter cfN puN Tryz.func166 rfl rfl (by kernel_rfl) rfl ?_ ?_
 ·simp only [go_sem, ↓tfi, ↓fti, ↓reduceIte]
 ·simp only [go_sem, ↓tfi, ↓fti, ↓reduceIte]
  refine cvl (h1.mono ?_)
  clear h1
  rintro r H' m1 hm1 ⟨l1, rfl, rfl⟩
  simp only [go_sem, ↓tfi, ↓fti, ↓reduceIte]
  refine cvl ((hE0 m1).mono ?_)
  clear hE0
  rintro r H' m2 hm2 ⟨l2, x, e, s2, rfl, hx, rfl, hR⟩
  have h3 := exp_spec ts en s2 [41] m2 hT.l8
  simp only [go_sem, ↓tfi, ↓fti, ↓reduceIte]
  refine cvl (h3.mono ?_)
  clear h3
  rintro r H' m3 hm3 ⟨l3, rfl, rfl⟩
  simp only [go_sem, ↓tfi, ↓fti, ↓reduceIte]
  exact ⟨leM_tr (leM_tr l1 l2) l3, x, e, _, rfl, exRep_upM l3 hx, rfl, res_exp hI (res_bnd hR (res_exp hR.inv (res_pure _ (inv_expSt hR.inv))))⟩
theorem args_of (hT : TsB ts) (hI : Inv ts s) (hE : ∀ s1, Inv ts s1 → s.i ≤ s1.i → ExprC ts en 0 s1) : ArgsC ts en s := fun m => by
 have h1 := exp_spec ts en s [40] m hT.l8
 have hI1 : Inv ts (expSt ts en s [40]) := inv_expSt hI
 have hle1 : s.i ≤ (expSt ts en s [40]).i := expSt_le hI
 by_cases hc : isC ts (expSt ts en s [40]).i [41] = true
 ·have h2 := fun m' => (accept_spec ts en (expSt ts en s [40]) [41] m' hT.l8).mono fun r H' m2 _ h => (⟨h.1, by have := h.2.1; rw [hc] at this; exact this, by have := h.2.2; rw [if_pos hc] at this; exact this⟩ : leM m' m2 ∧ r = .v (.bool true) ∧ H' = pH ts en (expSt ts en s [40]).next)
  have hi := isC_lt hc
  have hR : Res ts en s (argsK (ts.drop s.i)) [] (expSt ts en s [40]).next := by
   rw [argsK_eq]
   refine res_exp hI ?_
   rw [← isC_P, if_pos hc, ← drop_next]
   exact res_next hI1 hi (res_pure _ (hI1.next hi))
  refine enter cfN puN Tryz.func167 rfl rfl (by kernel_rfl) rfl ?_ ?_
  ·simp only [go_sem, ↓tfi, ↓fti, ↓reduceIte]
  ·simp only [go_sem, ↓tfi, ↓fti, ↓reduceIte]
   refine cvl (h1.mono ?_)
   clear h1
   rintro r H' m1 hm1 ⟨l1, rfl, rfl⟩
   simp only [go_sem, ↓tfi, ↓fti, ↓reduceIte]
   refine cvl ((h2 m1).mono ?_)
   clear h2 hE
   rintro r H' m2 hm2 ⟨l2, rfl, rfl⟩
   simp only [go_sem, ↓tfi, ↓fti, ↓reduceIte]
   exact ⟨leM_tr l1 l2, [], none, 0, [], _, rfl, Nnr _, Nat.zero_le _, rds_none _ _, by simp only [exsRep], rfl, hR⟩
 ·have hc' : isC ts (expSt ts en s [40]).i [41] = false := by simpa using hc
  have h2 := fun m' => (accept_spec ts en (expSt ts en s [40]) [41] m' hT.l8).mono fun r H' m2 _ h => (⟨h.1, by have := h.2.1; rw [hc'] at this; exact this, by have := h.2.2; rw [if_neg hc] at this; exact this⟩ : leM m' m2 ∧ r = .v (.bool false) ∧ H' = pH ts en (expSt ts en s [40]))
  have hE0 : ∀ m' : Mem, FnH Tryz.prog 31 [.box 0 0, .v (.int .i64 0)] (pH ts en (expSt ts en s [40])) m' (ERes ts en (expSt ts en s [40]) (exprK 0 (ts.drop (expSt ts en s [40]).i)) m') := hE _ hI1 hle1
  refine FnH_own (enter cfN puN Tryz.func167 rfl rfl (by kernel_rfl) rfl ?_ ?_)
  ·simp only [go_sem, ↓tfi, ↓fti, ↓reduceIte]
  ·simp only [go_sem, ↓tfi, ↓fti, ↓reduceIte]
   refine cvl (h1.mono ?_)
   clear h1
   rintro r H' m1 hm1 ⟨l1, rfl, rfl⟩
   simp only [go_sem, ↓tfi, ↓fti, ↓reduceIte]
   refine cvl ((h2 m1).mono ?_)
   clear h2
   rintro r H' m2 hm2 ⟨l2, rfl, rfl⟩
   simp only [go_sem, ↓tfi, ↓fti, ↓reduceIte]
   refine cvl ((hE0 m2).mono ?_)
   clear hE0
   rintro r H' m3 hm3 ⟨l3, x, e, s3, rfl, hx, rfl, hR3⟩
   simp only [go_sem, ↓tfi, ↓fti, ↓reduceIte]
   have hle3 : s.i ≤ s3.i := Nat.le_trans hle1 hR3.mono
   refine ⟨room_of (by decide) (by decide), ?_⟩
   refine WP_loop puN (fun y : PSt × List Ex × List Value × Nat × Mem => ⟨[⟨0, [], .box 0 0⟩, ⟨3, [], .vec 9 y.2.2.2.1⟩], [], [prB en y.1], [⟨9, y.2.2.2.1, 33, 8, y.2.1.length, y.2.2.1⟩, tkV ts], 20, y.2.2.2.2⟩)
    (fun y => leM m3 y.2.2.2.2 ∧ Inv ts y.1 ∧ s.i ≤ y.1.i ∧ y.2.1.length ≤ y.1.i + 1 ∧ y.2.2.1.length = y.2.1.length * 8 ∧ exsRep y.2.2.2.2 y.2.1 y.2.2.1 ∧ ∀ a s', Res ts en y.1 (moreK y.2.1 (ts.drop y.1.i)) a s' → Res ts en s (argsK (ts.drop s.i)) a s')
    (fun y => ts.length - y.1.i) (s3, [e], x.cs, 0, m3) (by kernel_rfl) (fun _ _ => nbl rfl) (fun y hy => hy.1) (fun _ => ?_) ?_ ?_ ?_
   ·simp only [go_sem, ↓tfi, ↓fti, ↓reduceIte]
   ·simp only [go_sem, ↓tfi, ↓fti, ↓reduceIte]
    exact rfl
   ·exact ⟨.inl rfl, hR3.inv, hle3, by simp, by simp [Nd.cs], exs1 hx, fun a s' h => by
     rw [argsK_eq]
     refine res_exp hI ?_
     rw [← isC_P, if_neg hc]
     exact res_bnd hR3 h⟩
   ·rintro ⟨s4, es, xs, u, m4⟩ ⟨q1, q2, q3, q4, q5, q6, q7⟩
    dsimp only at q1 q2 q3 q4 q5 q6 q7
    have hl := hT.len
    have hil := q2.le
    have ha := accept_spec ts en s4 [44] m4 hT.l8
    by_cases h1 : isC ts s4.i [44] = true
    ·rw [h1] at ha
     have hi := isC_lt h1
     have hI5 := q2.next hi
     have hE1 : ∀ m' : Mem, FnH Tryz.prog 31 [.box 0 0, .v (.int .i64 0)] (pH ts en s4.next) m' (ERes ts en s4.next (exprK 0 (ts.drop s4.next.i)) m') := hE s4.next hI5 (Nat.le_succ_of_le q3)
     clear hE
     simp only [go_sem, ↓tfi, ↓fti, ↓reduceIte]
     refine cvl (ha.mono ?_)
     clear ha
     rintro r H' m5 hm5 ⟨l5, rfl, rfl⟩
     simp only [go_sem, ↓tfi, ↓fti, ↓reduceIte]
     refine cvl ((hE1 m5).mono ?_)
     clear hE1
     rintro r H' m6 hm6 ⟨l6, x6, e6, s6, rfl, hx6, rfl, hR6⟩
     simp only [go_sem, ↓tfi, ↓fti, ↓reduceIte]
     have hm := hR6.mono
     have hnx : s4.next.i = s4.i + 1 := rfl
     refine ⟨room_of (by omega) (by decide), (s6, es ++ [e6], xs ++ x6.cs, u + 1, m6), ⟨rfl, ⟨rfl, rfl, rfl⟩, ⟨rfl, by simp, rfl⟩, .inl rfl⟩, ⟨leM_tr q1 (leM_tr l5 l6), hR6.inv, by dsimp only; omega, by simp only [Lla, List.length_singleton]; omega, by simp only [Lla, List.length_singleton, q5, Nd.cs, Llc, Lln]; omega, exs_snoc hx6 q5 (exs_upM (leM_tr l5 l6) q6), fun a s' h => q7 a s' ?_⟩, by dsimp only; omega⟩
     rw [moreK_eq, if_pos (by rw [← isC_P]; exact h1), ← drop_next]
     exact res_next q2 hi (res_bnd hR6 h)
    ·have h1' : isC ts s4.i [44] = false := by simpa using h1
     rw [h1'] at ha
     have he := fun m' => exp_spec ts en s4 [41] m' hT.l8
     clear hE
     simp only [go_sem, ↓tfi, ↓fti, ↓reduceIte]
     refine cvl (ha.mono ?_)
     clear ha
     rintro r H' m5 hm5 ⟨l5, rfl, rfl⟩
     simp only [go_sem, ↓tfi, ↓fti, ↓reduceIte]
     refine cvl ((he m5).mono ?_)
     clear he
     rintro r H' m6 hm6 ⟨l6, rfl, rfl⟩
     simp only [go_sem, ↓tfi, ↓fti, ↓reduceIte]
     refine own_vec (b := ⟨9, u, 33, 8, es.length, xs⟩) (by simp [lkV]) (pH ts en (expSt ts en s4 [41])) (List.Sublist.refl _) (.cons_cons _ (List.nil_sublist _)) fun a c mm w1 w2 w3 => ⟨leM_tr (leM_tr (leM_tr (leM_tr l1 l2) l3) q1) (leM_tr (leM_tr l5 l6) (.inr w1)), es, a, c, xs, _, rfl, w2, by omega, w3, exs_upM (leM_tr (leM_tr l5 l6) (.inr w1)) q6, rfl, q7 _ _ ?_⟩
     rw [moreK_eq, if_neg (by rw [← isC_P]; exact h1)]
     exact res_exp q2 (res_pure _ (inv_expSt q2))
end
section
variable {ts : List Tk} {en : Int} {s : PSt}
theorem acc_t {w : List UInt8} (hT : TsB ts) (h : isC ts s.i w = true) (m : Mem) : FnH Tryz.prog 49 [.box 0 0, .v (.string (bs w))] (pH ts en s) m fun r H' m' => leM m m' ∧ r = .v (.bool true) ∧ H' = pH ts en s.next :=
 (accept_spec ts en s w m hT.l8).mono fun r H' m2 _ q => ⟨q.1, by have := q.2.1; rw [h] at this; exact this, by have := q.2.2; rw [if_pos h] at this; exact this⟩
theorem acc_f {w : List UInt8} (hT : TsB ts) (h : ¬ isC ts s.i w = true) (m : Mem) : FnH Tryz.prog 49 [.box 0 0, .v (.string (bs w))] (pH ts en s) m fun r H' m' => leM m m' ∧ r = .v (.bool false) ∧ H' = pH ts en s :=
 (accept_spec ts en s w m hT.l8).mono fun r H' m2 _ q => ⟨q.1, by have := q.2.1; rw [(by simpa using h : isC ts s.i w = false)] at this; exact this, by have := q.2.2; rw [if_neg h] at this; exact this⟩
theorem pis_t {w : List UInt8} (hT : TsB ts) (h : isC ts s.i w = true) (m : Mem) : FnH Tryz.prog 74 [.box 0 0, .v (.string (bs w))] (pH ts en s) m fun r H' m' => leM m m' ∧ r = .v (.bool true) ∧ H' = pH ts en s :=
 (pis_spec ts en s w m hT.l8).mono fun r H' m2 _ q => ⟨q.1, by have := q.2.1; rw [h] at this; exact this, q.2.2⟩
theorem pis_f {w : List UInt8} (hT : TsB ts) (h : ¬ isC ts s.i w = true) (m : Mem) : FnH Tryz.prog 74 [.box 0 0, .v (.string (bs w))] (pH ts en s) m fun r H' m' => leM m m' ∧ r = .v (.bool false) ∧ H' = pH ts en s :=
 (pis_spec ts en s w m hT.l8).mono fun r H' m2 _ q => ⟨q.1, by have := q.2.1; rw [(by simpa using h : isC ts s.i w = false)] at this; exact this, q.2.2⟩
theorem res_lt {α : Type} {K : PR α} {a : α} {s' : PSt} (h : Res ts en s K a s') (hI : Inv ts s) (hi : s.i < ts.length) (hK : ∀ x r, K = .ok (x, r) → r.length < (ts.drop s.i).length) : s.i < s'.i := by
 have hf := hI.nfl hi
 cases e : K with
 | error r =>
  have := h.inv.fl (h.er hf r e).1
  omega
 | ok p =>
  obtain ⟨x, r⟩ := p
  obtain ⟨_, _, rfl⟩ := h.ok hf x r e
  have := hK x _ e
  simp only [List.length_drop] at this
  omega
def litK (l : List Tk) : PR Ex := if hdK l = 3 then .ok (.mk 1 (hdN l) [] [] zTy [], l.tail) else if hdK l = 4 then .ok (.mk 2 (hdN l) [] [] zTy [], l.tail) else .ok (.mk 3 0 (hdS l) [] zTy [], l.tail)
noncomputable def statK (l : List Tk) : PR Ex := bndP (clsP l) fun c r => expP [46] r fun r2 => bndP (idP r2) fun s r3 => if isP [40] r3 = true then bndP (argsK r3) fun es r4 => .ok (.mk 11 0 s c zTy es, r4) else .ok (.mk 8 0 s c zTy [], r3)
noncomputable def supK (l : List Tk) : PR Ex := expP [46] l fun r => bndP (idP r) fun s r2 => bndP (argsK r2) fun es r3 => .ok (.mk 12 0 s [] zTy es, r3)
noncomputable def creK (l : List Tk) : PR Ex := bndP (baseP l) fun t r =>
 if t.base = 76 ∧ isP [40] r = true then bndP (argsK r) fun es r2 => .ok (.mk 13 0 [] t.name zTy es, r2)
 else expP [91] r fun r2 => bndP (newK t r2) fun t2 r3 => bndP (exprK 0 r3) fun e r4 => expP [93] r4 fun r5 => .ok (.mk 14 0 [] [] t2 [e], r5)
noncomputable def convK (k : Int) (l : List Tk) : PR Ex := bndP (parenK l) fun e r => .ok (.mk k 0 [] [] zTy [e], r)
theorem local_spec (hT : TsB ts) (hI : Inv ts s) (m : Mem) : FnH Tryz.prog 206 [.box 0 0] (pH ts en s) m (ERes ts en s (bndP (idP (ts.drop s.i)) fun w r => .ok (.mk 6 0 w [] zTy [], r)) m) := by
 have h1 := fun m' => pid_spec ts en s m' hT hI
 refine enter cfN puN Tryz.func206 rfl rfl (by kernel_rfl) rfl ?_ ?_
 ·simp only [go_sem, ↓tfi, ↓fti, ↓reduceIte]
 ·simp only [go_sem, ↓tfi, ↓fti, ↓reduceIte]
  refine cvl ((h1 m).mono ?_)
  clear h1
  rintro r H' m1 hm1 ⟨l1, w, s1, rfl, hw, rfl, hR⟩
  simp only [go_sem, ↓tfi, ↓fti, ↓reduceIte]
  exact ⟨l1, ⟨6, 0, w, [], zTy, none, 0, 0⟩, .mk 6 0 w [] zTy [], s1, rfl, mk_rep0 ⟨by decide, by decide⟩ ⟨by decide, by decide⟩ hw (Nat.zero_le _) tyOk_z, rfl, res_bnd hR (res_pure _ hR.inv)⟩
theorem conv_of (hT : TsB ts) (k : Int) (hk : I64 k) (hP : ParenC ts en s) (m : Mem) : FnH Tryz.prog 239 [.box 0 0, .v (.int .i64 k)] (pH ts en s) m (ERes ts en s (convK k (ts.drop s.i)) m) := by
 refine FnH_own (enter cfN puN Tryz.func239 rfl rfl (by kernel_rfl) rfl ?_ ?_)
 ·simp only [go_sem, ↓tfi, ↓fti, ↓reduceIte]
 ·simp only [go_sem, ↓tfi, ↓fti, ↓reduceIte]
  refine cvl ((hP m).mono ?_)
  clear hP
  rintro r H' m1 hm1 ⟨l1, x, e, s1, rfl, hx, rfl, hR⟩
  simp only [go_sem, ↓tfi, ↓fti, ↓reduceIte]
  exact own_agg 7 rfl rfl (pH ts en s1) (List.Sublist.refl _) (.cons _ (List.Sublist.refl _)) fun a cp mm w1 w2 w3 => ⟨leM_tr l1 (.inr w1), ⟨k, 0, [], [], zTy, a, 1, cp⟩, .mk k 0 [] [] zTy [e], s1, rfl, mk_rep (es := [e]) hk ⟨by decide, by decide⟩ (Nat.zero_le _) (Nat.zero_le _) tyOk_z (by simp) w2 w3 (exs1 (exRep_upM (.inr w1) hx)), rfl, res_bnd hR (res_pure _ hR.inv)⟩
theorem literal_spec (hT : TsB ts) (hI : Inv ts s) (hi : s.i < ts.length) (m : Mem) : FnH Tryz.prog 205 [.box 0 0] (pH ts en s) m (ERes ts en s (litK (ts.drop s.i)) m) := by
 have hp := peek_spec ts en s m hT.l8
 have hl := hT.len
 have hn := hT.cn s.i
 have hs := hT.cs s.i
 rw [litK, hdK_cur, hdN_cur, hdS_cur, ← drop_next]
 refine enter cfN puN Tryz.func205 rfl rfl (by kernel_rfl) rfl ?_ ?_
 ·simp only [go_sem, ↓tfi, ↓fti, ↓reduceIte]
 ·simp only [go_sem, ↓tfi, ↓fti, ↓reduceIte]
  refine cvl (hp.mono ?_)
  clear hp
  rintro r H' m1 hm1 ⟨rfl, rfl⟩
  simp only [go_sem, ↓tfi, ↓fti, ↓reduceIte]
  refine ⟨by unfold I64; omega, fun h3 => ?_, fun h3 => ⟨fun h4 => ?_, fun h4 => ?_⟩⟩
  ·rw [if_pos h3]
   exact ⟨.inr hm1, ⟨1, (curT ts s.i).n, [], [], zTy, none, 0, 0⟩, _, s.next, rfl, mk_rep0 ⟨by decide, by decide⟩ hn (Nat.zero_le _) (Nat.zero_le _) tyOk_z, rfl, res_next hI hi (res_pure _ (hI.next hi))⟩
  ·rw [if_neg h3, if_pos h4]
   exact ⟨.inr hm1, ⟨2, (curT ts s.i).n, [], [], zTy, none, 0, 0⟩, _, s.next, rfl, mk_rep0 ⟨by decide, by decide⟩ hn (Nat.zero_le _) (Nat.zero_le _) tyOk_z, rfl, res_next hI hi (res_pure _ (hI.next hi))⟩
  ·rw [if_neg h3, if_neg h4]
   exact ⟨.inr hm1, ⟨3, 0, (curT ts s.i).s, [], zTy, none, 0, 0⟩, _, s.next, rfl, mk_rep0 ⟨by decide, by decide⟩ ⟨by decide, by decide⟩ hs (Nat.zero_le _) tyOk_z, rfl, res_next hI hi (res_pure _ (hI.next hi))⟩
theorem static_of (hT : TsB ts) (hI : Inv ts s) (hc : isClsP (ts.drop s.i) = true) (hA : ∀ s1, Inv ts s1 → s.i < s1.i → ArgsC ts en s1) (m : Mem) : FnH Tryz.prog 207 [.box 0 0] (pH ts en s) m (ERes ts en s (statK (ts.drop s.i)) m) := by
 have h1 := fun m' => pcls_spec ts en s m' hT hI
 have hi := clsP_lt hc
 refine enter cfN puN Tryz.func207 rfl rfl (by kernel_rfl) rfl ?_ ?_
 ·simp only [go_sem, ↓tfi, ↓fti, ↓reduceIte]
 ·simp only [go_sem, ↓tfi, ↓fti, ↓reduceIte]
  refine cvl ((h1 m).mono ?_)
  clear h1
  rintro r H' m1 hm1 ⟨l1, c, s1, rfl, hcl, rfl, hR1⟩
  simp only [go_sem, ↓tfi, ↓fti, ↓reduceIte]
  have hlt : s.i < s1.i := res_lt hR1 hI hi fun x r e => by
   rw [clsP, if_pos hc] at e
   cases e
   have hne : ts.drop s.i ≠ [] := fun e => by rw [e] at hc; cases hc
   exact tail_lt hne
  have h2 := fun m' => exp_spec ts en s1 [46] m' hT.l8
  have hI2 : Inv ts (expSt ts en s1 [46]) := inv_expSt hR1.inv
  have hle2 : s1.i ≤ (expSt ts en s1 [46]).i := expSt_le hR1.inv
  have h3 := fun m' => pid_spec ts en (expSt ts en s1 [46]) m' hT hI2
  refine cvl ((h2 m1).mono ?_)
  clear h2
  rintro r H' m2 hm2 ⟨l2, rfl, rfl⟩
  simp only [go_sem, ↓tfi, ↓fti, ↓reduceIte]
  refine cvl ((h3 m2).mono ?_)
  clear h3
  rintro r H' m3 hm3 ⟨l3, w, s3, rfl, hw, rfl, hR3⟩
  simp only [go_sem, ↓tfi, ↓fti, ↓reduceIte]
  have hle3 := hR3.mono
  by_cases h40 : isC ts s3.i [40] = true
  ·have h4 := pis_t (en := en) hT h40
   have h5 := hA s3 hR3.inv (by omega)
   clear hA
   refine cvl ((h4 m3).mono ?_)
   clear h4
   rintro r H' m4 hm4 ⟨l4, rfl, rfl⟩
   simp only [go_sem, ↓tfi, ↓fti, ↓reduceIte]
   refine cvl ((h5 m4).mono ?_)
   clear h5
   rintro r H' m5 hm5 ⟨l5, es, a, cp, xs, s5, rfl, ha1, ha2, ha3, ha4, rfl, hR5⟩
   simp only [go_sem, ↓tfi, ↓fti, ↓reduceIte]
   refine ⟨(leM_tr (leM_tr (leM_tr (leM_tr l1 l2) l3) l4) l5), ⟨11, 0, w, c, zTy, a, es.length, cp⟩, .mk 11 0 w c zTy es, s5, rfl, mk_rep ⟨by decide, by decide⟩ ⟨by decide, by decide⟩ hw hcl tyOk_z (Nat.le_succ_of_le ha2) ha1 ha3 ha4, rfl, ?_⟩
   refine res_bnd hR1 (res_exp hR1.inv (res_bnd hR3 ?_))
   rw [if_pos (by rw [← isC_P]; exact h40)]
   exact res_bnd hR5 (res_pure _ hR5.inv)
  ·have h4 := pis_f (en := en) hT h40
   clear hA
   refine cvl ((h4 m3).mono ?_)
   clear h4
   rintro r H' m4 hm4 ⟨l4, rfl, rfl⟩
   simp only [go_sem, ↓tfi, ↓fti, ↓reduceIte]
   refine ⟨(leM_tr (leM_tr (leM_tr l1 l2) l3) l4), ⟨8, 0, w, c, zTy, none, 0, 0⟩, .mk 8 0 w c zTy [], s3, rfl, mk_rep0 ⟨by decide, by decide⟩ ⟨by decide, by decide⟩ hw hcl tyOk_z, rfl, ?_⟩
   refine res_bnd hR1 (res_exp hR1.inv (res_bnd hR3 ?_))
   rw [if_neg (by rw [← isC_P]; exact h40)]
   exact res_pure _ hR3.inv
theorem supc_of (hT : TsB ts) (hI : Inv ts s) (hA : ∀ s1, Inv ts s1 → s.i ≤ s1.i → ArgsC ts en s1) (m : Mem) : FnH Tryz.prog 237 [.box 0 0] (pH ts en s) m (ERes ts en s (supK (ts.drop s.i)) m) := by
 have h2 := fun m' => exp_spec ts en s [46] m' hT.l8
 have hI2 : Inv ts (expSt ts en s [46]) := inv_expSt hI
 have hle2 : s.i ≤ (expSt ts en s [46]).i := expSt_le hI
 have h3 := fun m' => pid_spec ts en (expSt ts en s [46]) m' hT hI2
 refine enter cfN puN Tryz.func237 rfl rfl (by kernel_rfl) rfl ?_ ?_
 ·simp only [go_sem, ↓tfi, ↓fti, ↓reduceIte]
 ·simp only [go_sem, ↓tfi, ↓fti, ↓reduceIte]
  refine cvl ((h2 m).mono ?_)
  clear h2
  rintro r H' m1 hm1 ⟨l1, rfl, rfl⟩
  simp only [go_sem, ↓tfi, ↓fti, ↓reduceIte]
  refine cvl ((h3 m1).mono ?_)
  clear h3
  rintro r H' m2 hm2 ⟨l2, w, s3, rfl, hw, rfl, hR3⟩
  simp only [go_sem, ↓tfi, ↓fti, ↓reduceIte]
  have hle3 := hR3.mono
  have h5 := hA s3 hR3.inv (by omega)
  clear hA
  refine cvl ((h5 m2).mono ?_)
  clear h5
  rintro r H' m3 hm3 ⟨l3, es, a, cp, xs, s5, rfl, ha1, ha2, ha3, ha4, rfl, hR5⟩
  simp only [go_sem, ↓tfi, ↓fti, ↓reduceIte]
  exact ⟨(leM_tr (leM_tr l1 l2) l3), ⟨12, 0, w, [], zTy, a, es.length, cp⟩, .mk 12 0 w [] zTy es, s5, rfl, mk_rep ⟨by decide, by decide⟩ ⟨by decide, by decide⟩ hw (Nat.zero_le _) tyOk_z (Nat.le_succ_of_le ha2) ha1 ha3 ha4, rfl, res_exp hI (res_bnd hR3 (res_bnd hR5 (res_pure _ hR5.inv)))⟩
end
@[reducible] def zEB (k : Nat) : Bx := ⟨k, 33, [.v (.int .i64 0), .v (.int .i64 0), .v (.string (bs [])), .v (.string (bs [])), .v (.int .i64 0), .v (.int .u8 0), .v (.string (bs [])), .v (.slice none 0 0)]⟩
attribute [go_sem] zEB
noncomputable def newF (t2 : Ty) (r3 : List Tk) : PR Ex := bndP (exprK 0 r3) fun e r4 => expP [93] r4 fun r5 => .ok (.mk 14 0 [] [] t2 [e], r5)
theorem bnd_exp {α β : Type} {w : List UInt8} {l : List Tk} {k : List Tk → PR α} {F : α → List Tk → PR β} : bndP (expP w l k) F = expP w l fun r => bndP (k r) F := by
 unfold expP
 split <;> rfl
section
variable {ts : List Tk} {en : Int} {s : PSt}
theorem creation_of (hT : TsB ts) (hI : Inv ts s) (hA : ∀ s1, Inv ts s1 → s.i ≤ s1.i → ArgsC ts en s1) (hE : ∀ s1, Inv ts s1 → s.i ≤ s1.i → ExprC ts en 0 s1) (m : Mem) : FnH Tryz.prog 238 [.box 0 0] (pH ts en s) m (ERes ts en s (creK (ts.drop s.i)) m) := by
 have h1 := fun m' => pbase_spec ts en s m' hT hI
 refine FnH_own (enter cfN puN Tryz.func238 rfl rfl (by kernel_rfl) rfl ?_ ?_)
 ·simp only [go_sem, ↓tfi, ↓fti, ↓reduceIte]
 ·simp only [go_sem, ↓tfi, ↓fti, ↓reduceIte]
  refine cvl ((h1 m).mono ?_)
  clear h1
  rintro r H' m1 hm1 ⟨l1, t1, s1, rfl, ht1, ht2, ht3, rfl, hR1⟩
  simp only [go_sem, ↓tfi, ↓fti, ↓reduceIte]
  have hle1 := hR1.mono
  refine ⟨fun hb => ?_, fun hb => ?_⟩
  ·by_cases h40 : isC ts s1.i [40] = true
   ·have h2 := pis_t (en := en) hT h40
    have h3 := hA s1 hR1.inv hle1
    clear hA hE
    refine cvl ((h2 m1).mono ?_)
    clear h2
    rintro r H' m2 hm2 ⟨l2, rfl, rfl⟩
    simp only [go_sem, ↓tfi, ↓fti, ↓reduceIte]
    refine WP_draw (.hoist 0 (.hoist 1 (.hoist 2 (.alt 3 [1, 0] (.hoist 4 (.alt 5 [] .done .stop)) .stop)))) puN (by kernel_rfl) (by kernel_rfl) ?_
    simp only [go_sem, ↓tfi, ↓fti, ↓reduceIte]
    refine cvl ((h3 m2).mono ?_)
    clear h3
    rintro r H' m3 hm3 ⟨l3, es, a, cp, xs, s5, rfl, ha1, ha2, ha3, ha4, rfl, hR5⟩
    simp only [go_sem, ↓tfi, ↓fti, ↓reduceIte]
    refine ⟨⟨l3, l3⟩, .inl ⟨(leM_tr (leM_tr l1 l2) l3), ⟨13, 0, [], t1.name, zTy, a, es.length, cp⟩, .mk 13 0 [] t1.name zTy es, s5, rfl, mk_rep ⟨by decide, by decide⟩ ⟨by decide, by decide⟩ (Nat.zero_le _) ht3 tyOk_z (Nat.le_succ_of_le ha2) ha1 ha3 ha4, rfl, ?_⟩⟩
    refine res_bnd hR1 ?_
    rw [if_pos ⟨hb, by rw [← isC_P]; exact h40⟩]
    exact res_bnd hR5 (res_pure _ hR5.inv)
   ·have h2 := pis_f (en := en) hT h40
    refine cvl ((h2 m1).mono ?_)
    clear h2
    rintro r H' m2 hm2 ⟨l2, rfl, rfl⟩
    simp only [go_sem, ↓tfi, ↓fti, ↓reduceIte]
    have h2 := fun m' => exp_spec ts en s1 [91] m' hT.l8
    have hI2 : Inv ts (expSt ts en s1 [91]) := inv_expSt hR1.inv
    have hle2 : s1.i ≤ (expSt ts en s1 [91]).i := expSt_le hR1.inv
    clear hA
    refine cvl ((h2 m2).mono ?_)
    clear h2
    rintro r H' m3 hm3 ⟨l3, rfl, rfl⟩
    simp only [go_sem, ↓tfi, ↓fti, ↓reduceIte]
    refine WP_loop puN (fun y : PSt × Ty × Mem => ⟨[⟨0, [], .box 0 0⟩, ⟨2, [], .box 2 0⟩, ⟨3, [], .box 5 0⟩], [], [⟨5, 30, [.v (.int .i64 y.2.1.dim), .v (.int .u8 y.2.1.base), .v (.string (bs y.2.1.name))]⟩, prB en y.1, zEB 2], [tkV ts], 40, y.2.2⟩)
     (fun y => leM m3 y.2.2 ∧ Inv ts y.1 ∧ s.i ≤ y.1.i ∧ y.2.1.name.length ≤ 1000000 ∧ (0 ≤ y.2.1.base ∧ y.2.1.base < 256) ∧ (0 ≤ y.2.1.dim ∧ y.2.1.dim ≤ y.1.i) ∧ ∀ a s', Res ts en y.1 (bndP (newK y.2.1 (ts.drop y.1.i)) newF) a s' → Res ts en s (creK (ts.drop s.i)) a s')
     (fun y => ts.length - y.1.i) (expSt ts en s1 [91], t1, m3) (by kernel_rfl) (fun _ _ => nbl rfl) (fun y hy => hy.1) (fun _ => ?_) ?_ ?_ ?_
    ·simp only [go_sem, ↓tfi, ↓fti, ↓reduceIte]
    ·simp only [go_sem, ↓tfi, ↓fti, ↓reduceIte]
    ·exact ⟨.inl rfl, hI2, by dsimp only; omega, ht3, ht2, ⟨by dsimp only; omega, by dsimp only; omega⟩, fun a s' h => res_bnd hR1 (by rw [if_neg (fun q => h40 (by rw [isC_P]; exact q.2))]; exact res_exp hR1.inv h)⟩
    ·rintro ⟨s4, t4, m4⟩ ⟨q1, q2, q3, q4, q5, q6, q7⟩
     dsimp only at q1 q2 q3 q4 q5 q6 q7
     have hl := hT.len
     have hil := q2.le
     by_cases h93 : isC ts s4.i [93] = true
     ·have ha := acc_t (en := en) hT h93
      have hi := isC_lt h93
      have hI5 := q2.next hi
      have he := fun m' => exp_spec ts en s4.next [91] m' hT.l8
      have hI6 : Inv ts (expSt ts en s4.next [91]) := inv_expSt hI5
      have hle6 : s4.i + 1 ≤ (expSt ts en s4.next [91]).i := expSt_le hI5
      clear hE
      simp only [go_sem, ↓tfi, ↓fti, ↓reduceIte]
      refine cvl ((ha m4).mono ?_)
      clear ha
      rintro r H' m5 hm5 ⟨l5, rfl, rfl⟩
      simp only [go_sem, ↓tfi, ↓fti, ↓reduceIte]
      refine ⟨by unfold I64; omega, by kernel_rfl, FnV_of ((he m5).mono ?_)⟩
      clear he
      rintro r H' m6 hm6 ⟨l6, rfl, rfl⟩
      simp only [go_sem, ↓tfi, ↓fti, ↓reduceIte]
      refine ⟨(expSt ts en s4.next [91], t4.up, m6), ⟨⟨⟨rfl, rfl, rfl⟩, ⟨rfl, rfl, rfl⟩⟩, .inl rfl⟩, ⟨leM_tr q1 (leM_tr l5 l6), hI6, by dsimp only; omega, q4, q5, ⟨by show 0 ≤ t4.dim + 1; omega, by show t4.dim + 1 ≤ ((expSt ts en s4.next [91]).i : Int); omega⟩, fun a s' h => q7 a s' ?_⟩, by dsimp only; omega⟩
      rw [newK_eq, if_pos (by rw [← isC_P]; exact h93), ← drop_next, bnd_exp]
      exact res_next q2 hi (res_exp hI5 h)
     ·have ha := acc_f (en := en) hT h93
      have he := hE s4 q2 q3
      have he0 : ∀ m' : Mem, FnH Tryz.prog 31 [.box 0 0, .v (.int .i64 0)] (pH ts en s4) m' (ERes ts en s4 (exprK 0 (ts.drop s4.i)) m') := he
      clear hE he
      simp only [go_sem, ↓tfi, ↓fti, ↓reduceIte]
      refine cvl ((ha m4).mono ?_)
      clear ha
      rintro r H' m5 hm5 ⟨l5, rfl, rfl⟩
      simp only [go_sem, ↓tfi, ↓fti, ↓reduceIte]
      refine cvl ((he0 m5).mono ?_)
      clear he0
      rintro r H' m6 hm6 ⟨l6, x, e, s6, rfl, hx, rfl, hR6⟩
      have h7 := fun m' => exp_spec ts en s6 [93] m' hT.l8
      simp only [go_sem, ↓tfi, ↓fti, ↓reduceIte]
      refine cvl ((h7 m6).mono ?_)
      clear h7
      rintro r H' m7 hm7 ⟨l7, rfl, rfl⟩
      simp only [go_sem, ↓tfi, ↓fti, ↓reduceIte]
      exact own_agg 7 rfl rfl (pH ts en (expSt ts en s6 [93])) (List.Sublist.refl _) (.cons _ (List.Sublist.refl _)) fun a cp mm w1 w2 w3 => ⟨leM_tr (leM_tr (leM_tr (leM_tr l1 l2) l3) (leM_tr q1 (leM_tr l5 (leM_tr l6 l7)))) (.inr w1), ⟨14, 0, [], [], t4, a, 1, cp⟩, .mk 14 0 [] [] t4 [e], (expSt ts en s6 [93]), rfl, mk_rep (es := [e]) ⟨by decide, by decide⟩ ⟨by decide, by decide⟩ (Nat.zero_le _) (Nat.zero_le _) ⟨by unfold I64; omega, q5, by unfold big; omega⟩ (by simp) w2 w3 (exs1 (exRep_upM (leM_tr l7 (.inr w1)) hx)), rfl, q7 _ _ (by rw [newK_eq, if_neg (by rw [← isC_P]; exact h93)]; exact res_bnd (res_pure t4 q2) (res_bnd hR6 (res_exp hR6.inv (res_pure _ (inv_expSt hR6.inv)))))⟩
  ·have h2 := fun m' => exp_spec ts en s1 [91] m' hT.l8
   have hI2 : Inv ts (expSt ts en s1 [91]) := inv_expSt hR1.inv
   have hle2 : s1.i ≤ (expSt ts en s1 [91]).i := expSt_le hR1.inv
   clear hA
   refine cvl ((h2 m1).mono ?_)
   clear h2
   rintro r H' m2 hm2 ⟨l2, rfl, rfl⟩
   simp only [go_sem, ↓tfi, ↓fti, ↓reduceIte]
   refine WP_loop puN (fun y : PSt × Ty × Mem => ⟨[⟨0, [], .box 0 0⟩, ⟨2, [], .box 2 0⟩, ⟨3, [], .box 5 0⟩], [], [⟨5, 30, [.v (.int .i64 y.2.1.dim), .v (.int .u8 y.2.1.base), .v (.string (bs y.2.1.name))]⟩, prB en y.1, zEB 2], [tkV ts], 40, y.2.2⟩)
    (fun y => leM m2 y.2.2 ∧ Inv ts y.1 ∧ s.i ≤ y.1.i ∧ y.2.1.name.length ≤ 1000000 ∧ (0 ≤ y.2.1.base ∧ y.2.1.base < 256) ∧ (0 ≤ y.2.1.dim ∧ y.2.1.dim ≤ y.1.i) ∧ ∀ a s', Res ts en y.1 (bndP (newK y.2.1 (ts.drop y.1.i)) newF) a s' → Res ts en s (creK (ts.drop s.i)) a s')
    (fun y => ts.length - y.1.i) (expSt ts en s1 [91], t1, m2) (by kernel_rfl) (fun _ _ => nbl rfl) (fun y hy => hy.1) (fun _ => ?_) ?_ ?_ ?_
   ·simp only [go_sem, ↓tfi, ↓fti, ↓reduceIte]
   ·simp only [go_sem, ↓tfi, ↓fti, ↓reduceIte]
   ·exact ⟨.inl rfl, hI2, by dsimp only; omega, ht3, ht2, ⟨by dsimp only; omega, by dsimp only; omega⟩, fun a s' h => res_bnd hR1 (by rw [if_neg (fun q => hb q.1)]; exact res_exp hR1.inv h)⟩
   ·rintro ⟨s4, t4, m4⟩ ⟨q1, q2, q3, q4, q5, q6, q7⟩
    dsimp only at q1 q2 q3 q4 q5 q6 q7
    have hl := hT.len
    have hil := q2.le
    by_cases h93 : isC ts s4.i [93] = true
    ·have ha := acc_t (en := en) hT h93
     have hi := isC_lt h93
     have hI5 := q2.next hi
     have he := fun m' => exp_spec ts en s4.next [91] m' hT.l8
     have hI6 : Inv ts (expSt ts en s4.next [91]) := inv_expSt hI5
     have hle6 : s4.i + 1 ≤ (expSt ts en s4.next [91]).i := expSt_le hI5
     clear hE
     simp only [go_sem, ↓tfi, ↓fti, ↓reduceIte]
     refine cvl ((ha m4).mono ?_)
     clear ha
     rintro r H' m5 hm5 ⟨l5, rfl, rfl⟩
     simp only [go_sem, ↓tfi, ↓fti, ↓reduceIte]
     refine ⟨by unfold I64; omega, by kernel_rfl, FnV_of ((he m5).mono ?_)⟩
     clear he
     rintro r H' m6 hm6 ⟨l6, rfl, rfl⟩
     simp only [go_sem, ↓tfi, ↓fti, ↓reduceIte]
     refine ⟨(expSt ts en s4.next [91], t4.up, m6), ⟨⟨⟨rfl, rfl, rfl⟩, ⟨rfl, rfl, rfl⟩⟩, .inl rfl⟩, ⟨leM_tr q1 (leM_tr l5 l6), hI6, by dsimp only; omega, q4, q5, ⟨by show 0 ≤ t4.dim + 1; omega, by show t4.dim + 1 ≤ ((expSt ts en s4.next [91]).i : Int); omega⟩, fun a s' h => q7 a s' ?_⟩, by dsimp only; omega⟩
     rw [newK_eq, if_pos (by rw [← isC_P]; exact h93), ← drop_next, bnd_exp]
     exact res_next q2 hi (res_exp hI5 h)
    ·have ha := acc_f (en := en) hT h93
     have he := hE s4 q2 q3
     have he0 : ∀ m' : Mem, FnH Tryz.prog 31 [.box 0 0, .v (.int .i64 0)] (pH ts en s4) m' (ERes ts en s4 (exprK 0 (ts.drop s4.i)) m') := he
     clear hE he
     simp only [go_sem, ↓tfi, ↓fti, ↓reduceIte]
     refine cvl ((ha m4).mono ?_)
     clear ha
     rintro r H' m5 hm5 ⟨l5, rfl, rfl⟩
     simp only [go_sem, ↓tfi, ↓fti, ↓reduceIte]
     refine cvl ((he0 m5).mono ?_)
     clear he0
     rintro r H' m6 hm6 ⟨l6, x, e, s6, rfl, hx, rfl, hR6⟩
     have h7 := fun m' => exp_spec ts en s6 [93] m' hT.l8
     simp only [go_sem, ↓tfi, ↓fti, ↓reduceIte]
     refine cvl ((h7 m6).mono ?_)
     clear h7
     rintro r H' m7 hm7 ⟨l7, rfl, rfl⟩
     simp only [go_sem, ↓tfi, ↓fti, ↓reduceIte]
     exact own_agg 7 rfl rfl (pH ts en (expSt ts en s6 [93])) (List.Sublist.refl _) (.cons _ (List.Sublist.refl _)) fun a cp mm w1 w2 w3 => ⟨leM_tr (leM_tr (leM_tr l1 l2) (leM_tr q1 (leM_tr l5 (leM_tr l6 l7)))) (.inr w1), ⟨14, 0, [], [], t4, a, 1, cp⟩, .mk 14 0 [] [] t4 [e], (expSt ts en s6 [93]), rfl, mk_rep (es := [e]) ⟨by decide, by decide⟩ ⟨by decide, by decide⟩ (Nat.zero_le _) (Nat.zero_le _) ⟨by unfold I64; omega, q5, by unfold big; omega⟩ (by simp) w2 w3 (exs1 (exRep_upM (leM_tr l7 (.inr w1)) hx)), rfl, q7 _ _ (by rw [newK_eq, if_neg (by rw [← isC_P]; exact h93)]; exact res_bnd (res_pure t4 q2) (res_bnd hR6 (res_exp hR6.inv (res_pure _ (inv_expSt hR6.inv)))))⟩
end
section
variable {ts : List Tk} {en : Int} {s : PSt}
theorem keyword_of (hT : TsB ts) (hI : Inv ts s) (hA : ∀ s1, Inv ts s1 → s.i < s1.i → ArgsC ts en s1) (hP : ∀ s1, Inv ts s1 → s.i < s1.i → ParenC ts en s1) (hE : ∀ s1, Inv ts s1 → s.i < s1.i → ExprC ts en 0 s1) (m : Mem) : FnH Tryz.prog 204 [.box 0 0] (pH ts en s) m (ERes ts en s (keyK (ts.drop s.i)) m) := by
 refine enter cfN puN Tryz.func204 rfl rfl (by kernel_rfl) rfl ?_ ?_
 ·simp only [go_sem, ↓tfi, ↓fti, ↓reduceIte]
 ·simp only [go_sem, ↓tfi, ↓fti, ↓reduceIte]
  by_cases h0 : isC ts s.i [110, 117, 108, 108] = true
  ·have ha := acc_t (en := en) hT h0
   have hi := isC_lt h0
   have hI' := hI.next hi
   clear hA hP hE
   refine cvl ((ha m).mono ?_)
   clear ha
   rintro r H' m1 hm1 ⟨l1, rfl, rfl⟩
   simp only [go_sem, ↓tfi, ↓fti, ↓reduceIte]
   exact ⟨l1, ⟨4, 0, [], [], zTy, none, 0, 0⟩, _, s.next, rfl, mk_rep0 ⟨by decide, by decide⟩ ⟨by decide, by decide⟩ (Nat.zero_le _) (Nat.zero_le _) tyOk_z, rfl, by rw [keyK_eq, if_pos (by rw [← isC_P]; exact h0), ← drop_next]; exact res_next hI hi (res_pure _ hI')⟩
  ·have ha := acc_f (en := en) hT h0
   refine cvl ((ha m).mono ?_)
   clear ha
   rintro r H' m1 hm1 ⟨l1, rfl, rfl⟩
   simp only [go_sem, ↓tfi, ↓fti, ↓reduceIte]
   by_cases h1 : isC ts s.i [116, 104, 105, 115] = true
   ·have ha := acc_t (en := en) hT h1
    have hi := isC_lt h1
    have hI' := hI.next hi
    clear hA hP hE
    refine cvl ((ha m1).mono ?_)
    clear ha
    rintro r H' m2 hm2 ⟨l2, rfl, rfl⟩
    simp only [go_sem, ↓tfi, ↓fti, ↓reduceIte]
    exact ⟨(leM_tr l1 l2), ⟨5, 0, [], [], zTy, none, 0, 0⟩, _, s.next, rfl, mk_rep0 ⟨by decide, by decide⟩ ⟨by decide, by decide⟩ (Nat.zero_le _) (Nat.zero_le _) tyOk_z, rfl, by rw [keyK_eq, if_neg (by rw [← isC_P]; exact h0), if_pos (by rw [← isC_P]; exact h1), ← drop_next]; exact res_next hI hi (res_pure _ hI')⟩
   ·have ha := acc_f (en := en) hT h1
    refine cvl ((ha m1).mono ?_)
    clear ha
    rintro r H' m2 hm2 ⟨l2, rfl, rfl⟩
    simp only [go_sem, ↓tfi, ↓fti, ↓reduceIte]
    by_cases h2 : isC ts s.i [115, 117, 112, 101, 114] = true
    ·have ha := acc_t (en := en) hT h2
     have hi := isC_lt h2
     have hI' := hI.next hi
     have hs := supc_of (s := s.next) (en := en) hT hI' (fun s1 g1 g2 => hA s1 g1 (Nat.lt_of_lt_of_le (Nat.lt_succ_self _) g2))
     clear hA hP hE
     refine cvl ((ha m2).mono ?_)
     clear ha
     rintro r H' m3 hm3 ⟨l3, rfl, rfl⟩
     simp only [go_sem, ↓tfi, ↓fti, ↓reduceIte]
     refine cvl ((hs m3).mono ?_)
     clear hs
     rintro r H' m4 hm4 ⟨l4, x, e, s1, rfl, hx, rfl, hR⟩
     simp only [go_sem, ↓tfi, ↓fti, ↓reduceIte]
     exact ⟨(leM_tr (leM_tr (leM_tr l1 l2) l3) l4), x, e, s1, rfl, hx, rfl, by rw [keyK_eq, if_neg (by rw [← isC_P]; exact h0), if_neg (by rw [← isC_P]; exact h1), if_pos (by rw [← isC_P]; exact h2), ← drop_next]; exact res_next hI hi hR⟩
    ·have ha := acc_f (en := en) hT h2
     refine cvl ((ha m2).mono ?_)
     clear ha
     rintro r H' m3 hm3 ⟨l3, rfl, rfl⟩
     simp only [go_sem, ↓tfi, ↓fti, ↓reduceIte]
     by_cases h3 : isC ts s.i [110, 101, 119] = true
     ·have ha := acc_t (en := en) hT h3
      have hi := isC_lt h3
      have hI' := hI.next hi
      have hs := creation_of (s := s.next) (en := en) hT hI' (fun s1 g1 g2 => hA s1 g1 (Nat.lt_of_lt_of_le (Nat.lt_succ_self _) g2)) (fun s1 g1 g2 => hE s1 g1 (Nat.lt_of_lt_of_le (Nat.lt_succ_self _) g2))
      clear hA hP hE
      refine cvl ((ha m3).mono ?_)
      clear ha
      rintro r H' m4 hm4 ⟨l4, rfl, rfl⟩
      simp only [go_sem, ↓tfi, ↓fti, ↓reduceIte]
      refine cvl ((hs m4).mono ?_)
      clear hs
      rintro r H' m5 hm5 ⟨l5, x, e, s1, rfl, hx, rfl, hR⟩
      simp only [go_sem, ↓tfi, ↓fti, ↓reduceIte]
      exact ⟨(leM_tr (leM_tr (leM_tr (leM_tr l1 l2) l3) l4) l5), x, e, s1, rfl, hx, rfl, by rw [keyK_eq, if_neg (by rw [← isC_P]; exact h0), if_neg (by rw [← isC_P]; exact h1), if_neg (by rw [← isC_P]; exact h2), if_pos (by rw [← isC_P]; exact h3), ← drop_next]; exact res_next hI hi hR⟩
     ·have ha := acc_f (en := en) hT h3
      refine cvl ((ha m3).mono ?_)
      clear ha
      rintro r H' m4 hm4 ⟨l4, rfl, rfl⟩
      simp only [go_sem, ↓tfi, ↓fti, ↓reduceIte]
      by_cases h4 : isC ts s.i [108, 101, 110] = true
      ·have ha := acc_t (en := en) hT h4
       have hi := isC_lt h4
       have hI' := hI.next hi
       have hs := conv_of (s := s.next) (en := en) hT 19 ⟨by decide, by decide⟩ (hP s.next hI' (Nat.lt_succ_self _))
       clear hA hP hE
       refine cvl ((ha m4).mono ?_)
       clear ha
       rintro r H' m5 hm5 ⟨l5, rfl, rfl⟩
       simp only [go_sem, ↓tfi, ↓fti, ↓reduceIte]
       refine cvl ((hs m5).mono ?_)
       clear hs
       rintro r H' m6 hm6 ⟨l6, x, e, s1, rfl, hx, rfl, hR⟩
       simp only [go_sem, ↓tfi, ↓fti, ↓reduceIte]
       exact ⟨(leM_tr (leM_tr (leM_tr (leM_tr (leM_tr l1 l2) l3) l4) l5) l6), x, e, s1, rfl, hx, rfl, by rw [keyK_eq, if_neg (by rw [← isC_P]; exact h0), if_neg (by rw [← isC_P]; exact h1), if_neg (by rw [← isC_P]; exact h2), if_neg (by rw [← isC_P]; exact h3), if_pos (by rw [← isC_P]; exact h4), ← drop_next]; exact res_next hI hi hR⟩
      ·have ha := acc_f (en := en) hT h4
       refine cvl ((ha m4).mono ?_)
       clear ha
       rintro r H' m5 hm5 ⟨l5, rfl, rfl⟩
       simp only [go_sem, ↓tfi, ↓fti, ↓reduceIte]
       by_cases h5 : isC ts s.i intS = true
       ·have ha := acc_t (en := en) hT h5
        have hi := isC_lt h5
        have hI' := hI.next hi
        have hs := conv_of (s := s.next) (en := en) hT 20 ⟨by decide, by decide⟩ (hP s.next hI' (Nat.lt_succ_self _))
        clear hA hP hE
        refine cvl ((ha m5).mono ?_)
        clear ha
        rintro r H' m6 hm6 ⟨l6, rfl, rfl⟩
        simp only [go_sem, ↓tfi, ↓fti, ↓reduceIte]
        refine cvl ((hs m6).mono ?_)
        clear hs
        rintro r H' m7 hm7 ⟨l7, x, e, s1, rfl, hx, rfl, hR⟩
        simp only [go_sem, ↓tfi, ↓fti, ↓reduceIte]
        exact ⟨(leM_tr (leM_tr (leM_tr (leM_tr (leM_tr (leM_tr l1 l2) l3) l4) l5) l6) l7), x, e, s1, rfl, hx, rfl, by rw [keyK_eq, if_neg (by rw [← isC_P]; exact h0), if_neg (by rw [← isC_P]; exact h1), if_neg (by rw [← isC_P]; exact h2), if_neg (by rw [← isC_P]; exact h3), if_neg (by rw [← isC_P]; exact h4), if_pos (by rw [← isC_P]; exact h5), ← drop_next]; exact res_next hI hi hR⟩
       ·have ha := acc_f (en := en) hT h5
        refine cvl ((ha m5).mono ?_)
        clear ha
        rintro r H' m6 hm6 ⟨l6, rfl, rfl⟩
        simp only [go_sem, ↓tfi, ↓fti, ↓reduceIte]
        by_cases h6 : isC ts s.i longS = true
        ·have ha := acc_t (en := en) hT h6
         have hi := isC_lt h6
         have hI' := hI.next hi
         have hs := conv_of (s := s.next) (en := en) hT 21 ⟨by decide, by decide⟩ (hP s.next hI' (Nat.lt_succ_self _))
         clear hA hP hE
         refine cvl ((ha m6).mono ?_)
         clear ha
         rintro r H' m7 hm7 ⟨l7, rfl, rfl⟩
         simp only [go_sem, ↓tfi, ↓fti, ↓reduceIte]
         refine cvl ((hs m7).mono ?_)
         clear hs
         rintro r H' m8 hm8 ⟨l8, x, e, s1, rfl, hx, rfl, hR⟩
         simp only [go_sem, ↓tfi, ↓fti, ↓reduceIte]
         exact ⟨(leM_tr (leM_tr (leM_tr (leM_tr (leM_tr (leM_tr (leM_tr l1 l2) l3) l4) l5) l6) l7) l8), x, e, s1, rfl, hx, rfl, by rw [keyK_eq, if_neg (by rw [← isC_P]; exact h0), if_neg (by rw [← isC_P]; exact h1), if_neg (by rw [← isC_P]; exact h2), if_neg (by rw [← isC_P]; exact h3), if_neg (by rw [← isC_P]; exact h4), if_neg (by rw [← isC_P]; exact h5), if_pos (by rw [← isC_P]; exact h6), ← drop_next]; exact res_next hI hi hR⟩
        ·have ha := acc_f (en := en) hT h6
         refine cvl ((ha m6).mono ?_)
         clear ha
         rintro r H' m7 hm7 ⟨l7, rfl, rfl⟩
         simp only [go_sem, ↓tfi, ↓fti, ↓reduceIte]
         have hf := fun m' => fail_spec ts en s m' hT.l8
         clear hA hP hE
         refine cvl ((hf m7).mono ?_)
         clear hf
         rintro r H' m8 hm8 ⟨rfl, rfl, rfl⟩
         simp only [go_sem, ↓tfi, ↓fti, ↓reduceIte]
         exact ⟨(leM_tr (leM_tr (leM_tr (leM_tr (leM_tr (leM_tr l1 l2) l3) l4) l5) l6) l7), ⟨0, 0, [], [], zTy, none, 0, 0⟩, .mk 0 0 [] [] zTy [], _, rfl, mk_rep0 ⟨by decide, by decide⟩ ⟨by decide, by decide⟩ (Nat.zero_le _) (Nat.zero_le _) tyOk_z, rfl, by rw [keyK_eq, if_neg (by rw [← isC_P]; exact h0), if_neg (by rw [← isC_P]; exact h1), if_neg (by rw [← isC_P]; exact h2), if_neg (by rw [← isC_P]; exact h3), if_neg (by rw [← isC_P]; exact h4), if_neg (by rw [← isC_P]; exact h5), if_neg (by rw [← isC_P]; exact h6)]; exact res_fail _ hI⟩
end
section
variable {ts : List Tk} {en : Int} {s : PSt}
theorem isId_t (hT : TsB ts) (h : isIdP (ts.drop s.i) = true) (m : Mem) : FnH Tryz.prog 190 [.box 0 0] (pH ts en s) m fun r H' m' => leM m m' ∧ r = .v (.bool true) ∧ H' = pH ts en s :=
 (isIdent_spec ts en s m hT).mono fun r H' m2 _ q => ⟨q.1, by have := q.2.1; rw [h] at this; exact this, q.2.2⟩
theorem isId_f (hT : TsB ts) (h : ¬ isIdP (ts.drop s.i) = true) (m : Mem) : FnH Tryz.prog 190 [.box 0 0] (pH ts en s) m fun r H' m' => leM m m' ∧ r = .v (.bool false) ∧ H' = pH ts en s :=
 (isIdent_spec ts en s m hT).mono fun r H' m2 _ q => ⟨q.1, by have := q.2.1; rw [(by simpa using h : isIdP (ts.drop s.i) = false)] at this; exact this, q.2.2⟩
theorem isCl_t (hT : TsB ts) (h : isClsP (ts.drop s.i) = true) (m : Mem) : FnH Tryz.prog 126 [.box 0 0] (pH ts en s) m fun r H' m' => leM m m' ∧ r = .v (.bool true) ∧ H' = pH ts en s :=
 (isClass_spec ts en s m hT).mono fun r H' m2 _ q => ⟨q.1, by have := q.2.1; rw [h] at this; exact this, q.2.2⟩
theorem isCl_f (hT : TsB ts) (h : ¬ isClsP (ts.drop s.i) = true) (m : Mem) : FnH Tryz.prog 126 [.box 0 0] (pH ts en s) m fun r H' m' => leM m m' ∧ r = .v (.bool false) ∧ H' = pH ts en s :=
 (isClass_spec ts en s m hT).mono fun r H' m2 _ q => ⟨q.1, by have := q.2.1; rw [(by simpa using h : isClsP (ts.drop s.i) = false)] at this; exact this, q.2.2⟩
theorem operand_of (hT : TsB ts) (hI : Inv ts s) (hA : ∀ s1, Inv ts s1 → s.i < s1.i → ArgsC ts en s1) (hE : ∀ s1, Inv ts s1 → s.i < s1.i → ExprC ts en 0 s1) (hK : ∀ m, FnH Tryz.prog 204 [.box 0 0] (pH ts en s) m (ERes ts en s (keyK (ts.drop s.i)) m)) (m : Mem) :
  FnH Tryz.prog 150 [.box 0 0] (pH ts en s) m (ERes ts en s (operandK (ts.drop s.i)) m) := by
 have hp := peek_spec ts en s m hT.l8
 refine enter cfN puN Tryz.func150 rfl rfl (by kernel_rfl) rfl ?_ ?_
 ·simp only [go_sem, ↓tfi, ↓fti, ↓reduceIte]
 ·simp only [go_sem, ↓tfi, ↓fti, ↓reduceIte]
  refine cvl (hp.mono ?_)
  clear hp
  rintro r H' m1 hm1 ⟨rfl, rfl⟩
  simp only [go_sem, ↓tfi, ↓fti, ↓reduceIte]
  refine ⟨fun hk => ?_, fun hk => ?_⟩
  ·have hi : s.i < ts.length := by
    rcases Nat.lt_or_ge s.i ts.length with h | h
    ·exact h
    ·rw [cur_end h] at hk
     exact absurd hk (by decide)
   have hl := literal_spec (en := en) hT hI hi
   have e : operandK (ts.drop s.i) = litK (ts.drop s.i) := by
    rw [operandK_eq, litK, hdK_cur]
    by_cases h3 : (curT ts s.i).k = 3
    ·rw [if_pos h3, if_pos h3]
    ·by_cases h4 : (curT ts s.i).k = 4
     ·rw [if_neg h3, if_neg h3, if_pos h4, if_pos h4]
     ·rw [if_neg h3, if_neg h3, if_neg h4, if_neg h4, if_pos (by omega)]
   rw [e]
   clear hA hE hK
   refine cvl ((hl m1).mono ?_)
   clear hl
   rintro r H' m2 hm2 ⟨l2, x, e, s1, rfl, hx, rfl, hR⟩
   simp only [go_sem, ↓tfi, ↓fti, ↓reduceIte]
   exact ⟨.inr (leM_le (.inr hm1 : leM m m1) hm2), x, e, s1, rfl, hx, rfl, hR⟩
  ·have e : operandK (ts.drop s.i) = (if isIdP (ts.drop s.i) = true then bndP (idP (ts.drop s.i)) fun s r => .ok (.mk 6 0 s [] zTy [], r) else if isClsP (ts.drop s.i) = true then statK (ts.drop s.i) else if isC ts s.i [40] = true then parenK (ts.drop s.i) else keyK (ts.drop s.i)) := by
    rw [operandK_eq, hdK_cur, if_neg (by omega), if_neg (by omega), if_neg (by omega), isC_P]
    rfl
   rw [e]
   by_cases h1 : isIdP (ts.drop s.i) = true
   ·have ha := isId_t (en := en) hT h1
    have hb := local_spec (en := en) hT hI
    clear hA hE hK
    rw [if_pos h1]
    refine cvl ((ha m1).mono ?_)
    clear ha
    rintro r H' m2 hm2 ⟨l2, rfl, rfl⟩
    simp only [go_sem, ↓tfi, ↓fti, ↓reduceIte]
    refine cvl ((hb m2).mono ?_)
    clear hb
    rintro r H' m3 hm3 ⟨l3, x, e, s1, rfl, hx, rfl, hR⟩
    simp only [go_sem, ↓tfi, ↓fti, ↓reduceIte]
    exact ⟨leM_tr (.inr hm1) (leM_tr l2 l3), x, e, s1, rfl, hx, rfl, hR⟩
   ·have ha := isId_f (en := en) hT h1
    rw [if_neg h1]
    refine cvl ((ha m1).mono ?_)
    clear ha
    rintro r H' m2 hm2 ⟨l2, rfl, rfl⟩
    simp only [go_sem, ↓tfi, ↓fti, ↓reduceIte]
    by_cases h2 : isClsP (ts.drop s.i) = true
    ·have ha := isCl_t (en := en) hT h2
     have hb := static_of (en := en) hT hI h2 hA
     clear hA hE hK
     rw [if_pos h2]
     refine cvl ((ha m2).mono ?_)
     clear ha
     rintro r H' m3 hm3 ⟨l3, rfl, rfl⟩
     simp only [go_sem, ↓tfi, ↓fti, ↓reduceIte]
     refine cvl ((hb m3).mono ?_)
     clear hb
     rintro r H' m4 hm4 ⟨l4, x, e, s1, rfl, hx, rfl, hR⟩
     simp only [go_sem, ↓tfi, ↓fti, ↓reduceIte]
     exact ⟨leM_tr (.inr hm1) (leM_tr l2 (leM_tr l3 l4)), x, e, s1, rfl, hx, rfl, hR⟩
    ·have ha := isCl_f (en := en) hT h2
     rw [if_neg h2]
     refine cvl ((ha m2).mono ?_)
     clear ha
     rintro r H' m3 hm3 ⟨l3, rfl, rfl⟩
     simp only [go_sem, ↓tfi, ↓fti, ↓reduceIte]
     by_cases h3 : isC ts s.i [40] = true
     ·have hi := isC_lt h3
      have e4 : expSt ts en s [40] = s.next := if_pos h3
      have ha := pis_t (en := en) hT h3
      have hb := paren_of (en := en) hT hI (by rw [e4]; exact hE s.next (hI.next hi) (Nat.lt_succ_self _))
      clear hA hE hK
      rw [if_pos h3]
      refine cvl ((ha m3).mono ?_)
      clear ha
      rintro r H' m4 hm4 ⟨l4, rfl, rfl⟩
      simp only [go_sem, ↓tfi, ↓fti, ↓reduceIte]
      refine cvl ((hb m4).mono ?_)
      clear hb
      rintro r H' m5 hm5 ⟨l5, x, e, s1, rfl, hx, rfl, hR⟩
      simp only [go_sem, ↓tfi, ↓fti, ↓reduceIte]
      exact ⟨leM_tr (.inr hm1) (leM_tr l2 (leM_tr l3 (leM_tr l4 l5))), x, e, s1, rfl, hx, rfl, hR⟩
     ·have ha := pis_f (en := en) hT h3
      clear hA hE
      rw [if_neg h3]
      refine cvl ((ha m3).mono ?_)
      clear ha
      rintro r H' m4 hm4 ⟨l4, rfl, rfl⟩
      simp only [go_sem, ↓tfi, ↓fti, ↓reduceIte]
      refine cvl ((hK m4).mono ?_)
      clear hK
      rintro r H' m5 hm5 ⟨l5, x, e, s1, rfl, hx, rfl, hR⟩
      simp only [go_sem, ↓tfi, ↓fti, ↓reduceIte]
      exact ⟨leM_tr (.inr hm1) (leM_tr l2 (leM_tr l3 (leM_tr l4 l5))), x, e, s1, rfl, hx, rfl, hR⟩
end
attribute [go_sem] pubBx_def updB Nd.svs
section
variable {ts : List Tk} {en : Int} {s : PSt}
theorem postfix_of (hT : TsB ts) (hI : Inv ts s) (hA : ∀ s1, Inv ts s1 → s.i < s1.i → ArgsC ts en s1) (hE : ∀ s1, Inv ts s1 → s.i < s1.i → ExprC ts en 0 s1) (x : Nd) (e : Ex) (m : Mem) (hx : exRep m e x.cs) :
  FnH Tryz.prog 149 [.box 0 0, .agg x.svs] (pH ts en s) m (ERes ts en s (postK e (ts.drop s.i)) m) := by
 refine enter cfN puN Tryz.func149 rfl rfl (by kernel_rfl) rfl ?_ ?_
 ·simp only [go_sem, ↓tfi, ↓fti, ↓reduceIte]
 ·simp only [go_sem, ↓tfi, ↓fti, ↓reduceIte]
  refine WP_loopB puN 2 (fun y : PSt × Nd × Ex × Mem => ⟨[⟨0, [], .box 0 0⟩, ⟨3, [], .box 2 0⟩, ⟨4, [], .box 3 0⟩], [], [zEB 3, ⟨2, 33, y.2.1.svs⟩, prB en y.1], [tkV ts], 40, y.2.2.2⟩)
   (fun y => leM m y.2.2.2 ∧ Inv ts y.1 ∧ s.i ≤ y.1.i ∧ exRep y.2.2.2 y.2.2.1 y.2.1.cs ∧ ∀ a s', Res ts en y.1 (postK y.2.2.1 (ts.drop y.1.i)) a s' → Res ts en s (postK e (ts.drop s.i)) a s')
   (fun y => ts.length - y.1.i) (by kernel_rfl) (fun _ _ => nbl rfl) (fun y hy => hy.1) (fun _ => ?_) ?_ ?_
  ·simp only [go_sem, ↓tfi, ↓fti, ↓reduceIte]
  ·simp only [go_sem, ↓tfi, ↓fti, ↓reduceIte]
   exact ⟨(s, x, e, m), ⟨⟨⟨rfl, rfl, rfl, rfl, rfl, rfl, rfl, rfl⟩, ⟨rfl, rfl, rfl⟩⟩, .inl rfl⟩, .inl rfl, hI, Nnr _, hx, fun a s' h => h⟩
  ·rintro ⟨s4, x4, e4, m4⟩ ⟨q1, q2, q3, q4, q5⟩
   dsimp only at q1 q2 q3 q4 q5
   have hl := hT.len
   have hil := q2.le
   by_cases h46 : isC ts s4.i [46] = true
   ·have ha := acc_t (en := en) hT h46
    have hi := isC_lt h46
    have hI5 := q2.next hi
    have h5 := pid_spec ts en s4.next
    simp only [go_sem, ↓tfi, ↓fti, ↓reduceIte]
    refine cvl ((ha m4).mono ?_)
    clear ha
    rintro r H' m5 hm5 ⟨l5, rfl, rfl⟩
    simp only [go_sem, ↓tfi, ↓fti, ↓reduceIte]
    refine cvl ((h5 m5 hT hI5).mono ?_)
    clear h5
    rintro r H' m6 hm6 ⟨l6, w, s6, rfl, hw, rfl, hR6⟩
    have hle6 := hR6.mono
    have hnx : s4.next.i = s4.i + 1 := rfl
    by_cases h40 : isC ts s6.i [40] = true
    ·have ha := pis_t (en := en) hT h40
     have hb := hA s6 hR6.inv (by omega)
     clear hA hE
     simp only [go_sem, ↓tfi, ↓fti, ↓reduceIte]
     refine cvl ((ha m6).mono ?_)
     clear ha
     rintro r H' m7 hm7 ⟨l7, rfl, rfl⟩
     simp only [go_sem, ↓tfi, ↓fti, ↓reduceIte]
     refine WP_draw (.hoist 0 (.hoist 1 (.hoist 3 (.alt 2 [3, 0] (.alt 4 [0] (.alt 5 [0] (.hoist 6 (.alt 7 [] .done .stop)) .stop) .stop) (.alt 4 [1, 0] (.alt 2 [0] (.alt 5 [0] (.hoist 6 (.alt 7 [] .done .stop)) .stop) .stop) .stop))))) puN (by kernel_rfl) (by kernel_rfl) ?_
     simp only [go_sem, ↓tfi, ↓fti, ↓reduceIte]
     refine ⟨cvl ((hb m7).mono ?_), cvl ((hb m7).mono ?_)⟩
     ·clear hb
      rintro r H' m8 hm8 ⟨l8, es, a, cp, xs, s8, rfl, ha1, ha2, ha3, ha4, rfl, hR8⟩
      simp only [go_sem, ↓tfi, ↓fti, ↓reduceIte]
      refine ⟨l8, ⟨xs, ha3, exs_oneC ha3.1 ha4, room_of (by omega) (by decide), l8, fun a9 c9 m9 w1 w2 w3 => ?_⟩⟩
      have hl1 : 1 + es.length = (e4 :: es).length := by rw [Llc, Nat.add_comm]
      rw [hl1] at w2 w3 ⊢
      have hm9 := hR8.mono
      refine ⟨(s8, ⟨10, 0, w, [], zTy, a9, (e4 :: es).length, c9⟩, .mk 10 0 w [] zTy (e4 :: es), m9), ⟨⟨⟨rfl, rfl, rfl, rfl, rfl, rfl, rfl, rfl⟩, ⟨rfl, rfl, rfl⟩⟩, .inl rfl⟩, ⟨leM_tr q1 (leM_tr l5 (leM_tr l6 (leM_tr l7 (leM_tr l8 (.inr w1))))), hR8.inv, by dsimp only; omega, mk_rep ⟨by decide, by decide⟩ ⟨by decide, by decide⟩ hw (Nat.zero_le _) tyOk_z (by rw [Llc]; omega) w2 w3 (exs_consN (exRep_upM (leM_tr l5 (leM_tr l6 (leM_tr l7 (leM_tr l8 (.inr w1))))) q4) (exs_upM (.inr w1) ha4)), fun a s' h => q5 a s' ?_⟩, by dsimp only; omega⟩
      rw [postK_eq, if_pos (by rw [← isC_P]; exact h46), ← drop_next]
      exact res_next q2 hi (res_bnd hR6 (by rw [if_pos (by rw [← isC_P]; exact h40)]; exact res_bnd hR8 h))
     ·clear hb
      rintro r H' m8 hm8 ⟨l8, es, a, cp, xs, s8, rfl, ha1, ha2, ha3, ha4, rfl, hR8⟩
      simp only [go_sem, ↓tfi, ↓fti, ↓reduceIte]
      refine ⟨⟨l8, l8⟩, l8, ⟨xs, ha3, exs_oneC ha3.1 ha4, room_of (by omega) (by decide), l8, fun a9 c9 m9 w1 w2 w3 => ?_⟩⟩
      have hl1 : 1 + es.length = (e4 :: es).length := by rw [Llc, Nat.add_comm]
      rw [hl1] at w2 w3 ⊢
      have hm9 := hR8.mono
      refine ⟨(s8, ⟨10, 0, w, [], zTy, a9, (e4 :: es).length, c9⟩, .mk 10 0 w [] zTy (e4 :: es), m9), ⟨⟨⟨rfl, rfl, rfl, rfl, rfl, rfl, rfl, rfl⟩, ⟨rfl, rfl, rfl⟩⟩, .inl rfl⟩, ⟨leM_tr q1 (leM_tr l5 (leM_tr l6 (leM_tr l7 (leM_tr l8 (.inr w1))))), hR8.inv, by dsimp only; omega, mk_rep ⟨by decide, by decide⟩ ⟨by decide, by decide⟩ hw (Nat.zero_le _) tyOk_z (by rw [Llc]; omega) w2 w3 (exs_consN (exRep_upM (leM_tr l5 (leM_tr l6 (leM_tr l7 (leM_tr l8 (.inr w1))))) q4) (exs_upM (.inr w1) ha4)), fun a s' h => q5 a s' ?_⟩, by dsimp only; omega⟩
      rw [postK_eq, if_pos (by rw [← isC_P]; exact h46), ← drop_next]
      exact res_next q2 hi (res_bnd hR6 (by rw [if_pos (by rw [← isC_P]; exact h40)]; exact res_bnd hR8 h))
    ·have ha := pis_f (en := en) hT h40
     clear hA hE
     simp only [go_sem, ↓tfi, ↓fti, ↓reduceIte]
     refine cvl ((ha m6).mono ?_)
     clear ha
     rintro r H' m7 hm7 ⟨l7, rfl, rfl⟩
     simp only [go_sem, ↓tfi, ↓fti, ↓reduceIte]
     intro a c m8 w1 w2 w3
     refine ⟨(s6, ⟨7, 0, w, [], zTy, a, 1, c⟩, .mk 7 0 w [] zTy [e4], m8), ⟨⟨⟨rfl, rfl, rfl, rfl, rfl, rfl, rfl, rfl⟩, ⟨rfl, rfl, rfl⟩⟩, .inl rfl⟩, ⟨leM_tr q1 (leM_tr l5 (leM_tr l6 (leM_tr l7 (.inr w1)))), hR6.inv, by dsimp only; omega, mk_rep (es := [e4]) ⟨by decide, by decide⟩ ⟨by decide, by decide⟩ hw (Nat.zero_le _) tyOk_z (by simp) w2 w3 (exs1 (exRep_upM (leM_tr l5 (leM_tr l6 (leM_tr l7 (.inr w1)))) q4)), fun a s' h => q5 a s' ?_⟩, by dsimp only; omega⟩
     rw [postK_eq, if_pos (by rw [← isC_P]; exact h46), ← drop_next]
     exact res_next q2 hi (res_bnd hR6 (by rw [if_neg (by rw [← isC_P]; exact h40)]; exact h))
   ·have ha := acc_f (en := en) hT h46
    clear hA
    simp only [go_sem, ↓tfi, ↓fti, ↓reduceIte]
    refine cvl ((ha m4).mono ?_)
    clear ha
    rintro r H' m5 hm5 ⟨l5, rfl, rfl⟩
    simp only [go_sem, ↓tfi, ↓fti, ↓reduceIte]
    by_cases h91 : isC ts s4.i [91] = true
    ·have ha := acc_t (en := en) hT h91
     have hi := isC_lt h91
     have hI5 := q2.next hi
     have hb : ∀ m' : Mem, FnH Tryz.prog 31 [.box 0 0, .v (.int .i64 0)] (pH ts en s4.next) m' (ERes ts en s4.next (exprK 0 (ts.drop s4.next.i)) m') := hE s4.next hI5 (Nat.lt_succ_of_le q3)
     clear hE
     refine cvl ((ha m5).mono ?_)
     clear ha
     rintro r H' m6 hm6 ⟨l6, rfl, rfl⟩
     simp only [go_sem, ↓tfi, ↓fti, ↓reduceIte]
     refine cvl ((hb m6).mono ?_)
     clear hb
     rintro r H' m7 hm7 ⟨l7, x7, e7, s7, rfl, hx7, rfl, hR7⟩
     have hle7 := hR7.mono
     have hnx : s4.next.i = s4.i + 1 := rfl
     have he := fun m' => exp_spec ts en s7 [93] m' hT.l8
     have hle8 : s7.i ≤ (expSt ts en s7 [93]).i := expSt_le hR7.inv
     simp only [go_sem, ↓tfi, ↓fti, ↓reduceIte]
     refine cvl ((he m7).mono ?_)
     clear he
     rintro r H' m8 hm8 ⟨l8, rfl, rfl⟩
     simp only [go_sem, ↓tfi, ↓fti, ↓reduceIte]
     intro a c m9 w1 w2 w3
     refine ⟨(expSt ts en s7 [93], ⟨9, 0, [], [], zTy, a, 2, c⟩, .mk 9 0 [] [] zTy [e4, e7], m9), ⟨⟨⟨rfl, rfl, rfl, rfl, rfl, rfl, rfl, rfl⟩, ⟨rfl, rfl, rfl⟩⟩, .inl rfl⟩, ⟨leM_tr q1 (leM_tr l5 (leM_tr l6 (leM_tr l7 (leM_tr l8 (.inr w1))))), inv_expSt hR7.inv, by dsimp only; omega, mk_rep (es := [e4, e7]) ⟨by decide, by decide⟩ ⟨by decide, by decide⟩ (Nat.zero_le _) (Nat.zero_le _) tyOk_z (by simp) w2 w3 (exs2 (exRep_upM (leM_tr l5 (leM_tr l6 (leM_tr l7 (leM_tr l8 (.inr w1))))) q4) (exRep_upM (leM_tr l8 (.inr w1)) hx7)), fun a s' h => q5 a s' ?_⟩, by dsimp only; omega⟩
     rw [postK_eq, if_neg (by rw [← isC_P]; exact h46), if_pos (by rw [← isC_P]; exact h91), ← drop_next]
     exact res_next q2 hi (res_bnd hR7 (res_exp hR7.inv h))
    ·have ha := acc_f (en := en) hT h91
     clear hE
     refine cvl ((ha m5).mono ?_)
     clear ha
     rintro r H' m6 hm6 ⟨l6, rfl, rfl⟩
     simp only [go_sem, ↓tfi, ↓fti, ↓reduceIte]
     refine ⟨leM_tr q1 (leM_tr l5 l6), x4, e4, s4, rfl, exRep_upM (leM_tr l5 l6) q4, rfl, q5 _ _ ?_⟩
     rw [postK_eq, if_neg (by rw [← isC_P]; exact h46), if_neg (by rw [← isC_P]; exact h91)]
     exact res_pure _ q2
end
section
variable {ts : List Tk} {en : Int} {s : PSt}
def PostC (ts : List Tk) (en : Int) (s : PSt) : Prop := ∀ (x : Nd) (e : Ex) (m : Mem), exRep m e x.cs → FnH Tryz.prog 149 [.box 0 0, .agg x.svs] (pH ts en s) m (ERes ts en s (postK e (ts.drop s.i)) m)
def OperC (ts : List Tk) (en : Int) (s : PSt) : Prop := ∀ m : Mem, FnH Tryz.prog 150 [.box 0 0] (pH ts en s) m (ERes ts en s (operandK (ts.drop s.i)) m)
theorem unary_of (hT : TsB ts) (hI : Inv ts s) (hU : ∀ s1, Inv ts s1 → s.i < s1.i → UnC ts en s1) (hO : OperC ts en s) (hP : ∀ s1, Inv ts s1 → s.i ≤ s1.i → PostC ts en s1) : UnC ts en s := fun m => by
 refine FnH_own (enter cfN puN Tryz.func61 rfl rfl (by kernel_rfl) rfl ?_ ?_)
 ·simp only [go_sem, ↓tfi, ↓fti, ↓reduceIte]
 ·simp only [go_sem, ↓tfi, ↓fti, ↓reduceIte]
  refine WP_loop puN (fun y : Nat × Mem => ⟨[⟨0, [], .box 0 0⟩, ⟨2, [], .box 2 0⟩, ⟨5, [], .vec 3 0⟩, ⟨6, [], .v (.int .i64 2)⟩, ⟨7, [], .v (.int .i64 y.1)⟩], [], [zEB 2, prB en s], [⟨3, 0, 9, 1, 2, [.string (bs [45]), .string (bs [33])]⟩, tkV ts], 40, y.2⟩)
   (fun y => leM m y.2 ∧ y.1 ≤ 2 ∧ (1 ≤ y.1 → ¬ isC ts s.i [45] = true) ∧ (2 ≤ y.1 → ¬ isC ts s.i [33] = true))
   (fun y => 2 - y.1) (0, m) (by kernel_rfl) (fun _ _ => nbl rfl) (fun y hy => hy.1) (fun _ => ?_) ?_ ?_ ?_
  ·simp only [go_sem, ↓tfi, ↓fti, ↓reduceIte]
  ·simp only [go_sem, ↓tfi, ↓fti, ↓reduceIte]
   exact ⟨rfl, rfl⟩
  ·exact ⟨.inl rfl, Nat.zero_le _, fun h => absurd h (Nat.not_succ_le_zero _), fun h => absurd h (Nat.not_succ_le_zero _)⟩
  ·rintro ⟨i, m1⟩ ⟨q1, q2, q3, q4⟩
   dsimp only at q1 q2 q3 q4
   have hs : i = 0 ∨ i = 1 ∨ i = 2 := by omega
   rcases hs with rfl | rfl | rfl
   ·by_cases hc : isC ts s.i [45] = true
    ·have ha := acc_t (en := en) hT hc
     have hi := isC_lt hc
     have hI' := hI.next hi
     have hu := hU s.next hI' (Nat.lt_succ_self _)
     clear hU hO hP
     simp only [go_sem, ↓tfi, ↓fti, ↓reduceIte]
     refine ⟨fun _ => ⟨⟨by decide, by decide⟩, by kernel_rfl, FnV_of ((ha m1).mono ?_)⟩, fun h => absurd (by decide) h⟩
     clear ha
     rintro r H' m2 hm2 ⟨l2, rfl, rfl⟩
     simp only [go_sem, ↓tfi, ↓fti, ↓reduceIte]
     refine cvl ((hu m2).mono ?_)
     clear hu
     rintro r H' m3 hm3 ⟨l3, x, e, s1, rfl, hx, rfl, hR⟩
     simp only [go_sem, ↓tfi, ↓fti, ↓reduceIte]
     exact own_agg 7 rfl rfl (pH ts en s1) (List.Sublist.refl _) (.cons _ (List.Sublist.refl _)) fun a cp mm w1 w2 w3 => ⟨leM_tr (leM_tr q1 (leM_tr l2 l3)) (.inr w1), ⟨15, 0, [45], [], zTy, a, 1, cp⟩, .mk 15 0 [45] [] zTy [e], s1, rfl, mk_rep (es := [e]) ⟨by decide, by decide⟩ ⟨by decide, by decide⟩ (by decide) (Nat.zero_le _) tyOk_z (by simp) w2 w3 (exs1 (exRep_upM (.inr w1) hx)), rfl, by rw [unaryK_eq, if_pos (by rw [← isC_P]; exact hc), ← drop_next]; exact res_next hI hi (res_bnd hR (res_pure _ hR.inv))⟩
    ·have ha := acc_f (en := en) hT hc
     clear hU hO hP
     simp only [go_sem, ↓tfi, ↓fti, ↓reduceIte]
     refine ⟨fun _ => ⟨⟨by decide, by decide⟩, by kernel_rfl, FnV_of ((ha m1).mono ?_)⟩, fun h => absurd (by decide) h⟩
     clear ha
     rintro r H' m2 hm2 ⟨l2, rfl, rfl⟩
     simp only [go_sem, ↓tfi, ↓fti, ↓reduceIte]
     exact ⟨⟨by decide, by decide⟩, (1, m2), ⟨rfl, .inl rfl⟩, ⟨leM_tr q1 l2, (by decide : 1 ≤ 2), fun _ => hc, fun h => absurd h (by decide : ¬ 2 ≤ 1)⟩, (by decide : 2 - 1 < 2 - 0)⟩
   ·by_cases hc : isC ts s.i [33] = true
    ·have ha := acc_t (en := en) hT hc
     have hi := isC_lt hc
     have hI' := hI.next hi
     have hu := hU s.next hI' (Nat.lt_succ_self _)
     clear hU hO hP
     simp only [go_sem, ↓tfi, ↓fti, ↓reduceIte]
     refine ⟨fun _ => ⟨⟨by decide, by decide⟩, by kernel_rfl, FnV_of ((ha m1).mono ?_)⟩, fun h => absurd (by decide) h⟩
     clear ha
     rintro r H' m2 hm2 ⟨l2, rfl, rfl⟩
     simp only [go_sem, ↓tfi, ↓fti, ↓reduceIte]
     refine cvl ((hu m2).mono ?_)
     clear hu
     rintro r H' m3 hm3 ⟨l3, x, e, s1, rfl, hx, rfl, hR⟩
     simp only [go_sem, ↓tfi, ↓fti, ↓reduceIte]
     exact own_agg 7 rfl rfl (pH ts en s1) (List.Sublist.refl _) (.cons _ (List.Sublist.refl _)) fun a cp mm w1 w2 w3 => ⟨leM_tr (leM_tr q1 (leM_tr l2 l3)) (.inr w1), ⟨15, 0, [33], [], zTy, a, 1, cp⟩, .mk 15 0 [33] [] zTy [e], s1, rfl, mk_rep (es := [e]) ⟨by decide, by decide⟩ ⟨by decide, by decide⟩ (by decide) (Nat.zero_le _) tyOk_z (by simp) w2 w3 (exs1 (exRep_upM (.inr w1) hx)), rfl, by rw [unaryK_eq, if_neg (by rw [← isC_P]; exact q3 (Nnr _)), if_pos (by rw [← isC_P]; exact hc), ← drop_next]; exact res_next hI hi (res_bnd hR (res_pure _ hR.inv))⟩
    ·have ha := acc_f (en := en) hT hc
     clear hU hO hP
     simp only [go_sem, ↓tfi, ↓fti, ↓reduceIte]
     refine ⟨fun _ => ⟨⟨by decide, by decide⟩, by kernel_rfl, FnV_of ((ha m1).mono ?_)⟩, fun h => absurd (by decide) h⟩
     clear ha
     rintro r H' m2 hm2 ⟨l2, rfl, rfl⟩
     simp only [go_sem, ↓tfi, ↓fti, ↓reduceIte]
     exact ⟨⟨by decide, by decide⟩, (2, m2), ⟨rfl, .inl rfl⟩, ⟨leM_tr q1 l2, (by decide : 2 ≤ 2), fun _ => q3 (Nnr _), fun h => hc⟩, (by decide : 2 - 2 < 2 - 1)⟩
   ·have hu := hO
    clear hU hO
    simp only [go_sem, ↓tfi, ↓fti, ↓reduceIte]
    refine ⟨fun h => absurd h (by decide), fun _ => cvl ((hu m1).mono ?_)⟩
    clear hu
    rintro r H' m2 hm2 ⟨l2, x, e, s1, rfl, hx, rfl, hR⟩
    have hp := fun m' h => hP s1 hR.inv hR.mono x e m' h
    clear hP
    simp only [go_sem, ↓tfi, ↓fti, ↓reduceIte]
    refine cvl ((hp m2 hx).mono ?_)
    clear hp
    rintro r H' m3 hm3 ⟨l3, x2, e2, s2, rfl, hx2, rfl, hR2⟩
    simp only [go_sem, ↓tfi, ↓fti, ↓reduceIte]
    refine .inl ⟨leM_tr q1 (leM_tr l2 l3), x2, e2, s2, rfl, hx2, rfl, ?_⟩
    rw [unaryK_eq, if_neg (by rw [← isC_P]; exact q3 (by decide)), if_neg (by rw [← isC_P]; exact q4 (by decide))]
    exact res_bnd hR hR2
end
section
variable {ts : List Tk} {en : Int} {s : PSt}
theorem op_t {n : Nat} (hn : n ≤ 9) (hT : TsB ts) (h : isOpP n (ts.drop s.i) = true) (m : Mem) : FnH Tryz.prog 62 [.box 0 0, .v (.int .i64 n)] (pH ts en s) m fun r H' m' => leM m m' ∧ r = .tup [.v (.string (bs (hdS (ts.drop s.i)))), .v (.bool true)] ∧ H' = pH ts en s.next :=
 (operator_spec ts en s m n hn hT).mono fun r H' m2 _ ⟨q1, w, q2, q3, q4⟩ => ⟨q1, by rw [h] at q2; rw [q2, q3 h], by rw [if_pos h] at q4; exact q4⟩
theorem op_f {n : Nat} (hn : n ≤ 9) (hT : TsB ts) (h : ¬ isOpP n (ts.drop s.i) = true) (m : Mem) : FnH Tryz.prog 62 [.box 0 0, .v (.int .i64 n)] (pH ts en s) m fun r H' m' => leM m m' ∧ ∃ w, r = .tup [.v (.string (bs w)), .v (.bool false)] ∧ H' = pH ts en s :=
 (operator_spec ts en s m n hn hT).mono fun r H' m2 _ ⟨q1, w, q2, q3, q4⟩ => ⟨q1, w, by rw [(by simpa using h : isOpP n (ts.drop s.i) = false)] at q2; exact q2, by rw [if_neg h] at q4; exact q4⟩
theorem expr_top (hT : TsB ts) (hU : UnC ts en s) : ExprC ts en 10 s := fun m => by
 rw [exprK_top]
 refine enter cfN puN Tryz.func31 rfl rfl (by kernel_rfl) rfl ?_ ?_
 ·simp only [go_sem, ↓tfi, ↓fti, ↓reduceIte]
 ·simp only [go_sem, ↓tfi, ↓fti, ↓reduceIte]
  refine ⟨fun _ => cvl ((hU m).mono ?_), fun h => absurd rfl h⟩
  clear hU
  rintro r H' m1 hm1 ⟨l1, x, e, s1, rfl, hx, rfl, hR⟩
  simp only [go_sem, ↓tfi, ↓fti, ↓reduceIte]
  exact ⟨l1, x, e, s1, rfl, hx, rfl, hR⟩
theorem expr_lev (hT : TsB ts) (hI : Inv ts s) (n : Nat) (hn : n ≤ 9) (hN : ExprC ts en (n + 1) s) (hE : ∀ s1, Inv ts s1 → s.i < s1.i → ExprC ts en (n + 1) s1) : ExprC ts en n s := fun m => by
 have hN' : ∀ m' : Mem, FnH Tryz.prog 31 [.box 0 0, .v (.int .i64 ((n : Int) + 1))] (pH ts en s) m' (ERes ts en s (exprK (n + 1) (ts.drop s.i)) m') := hN
 clear hN
 refine enter cfN puN Tryz.func31 rfl rfl (by kernel_rfl) rfl ?_ ?_
 ·simp only [go_sem, ↓tfi, ↓fti, ↓reduceIte]
 ·simp only [go_sem, ↓tfi, ↓fti, ↓reduceIte]
  refine ⟨fun h => absurd h (by omega), fun _ => ?_⟩
  refine ⟨by unfold I64; omega, by kernel_rfl, FnV_of ((hN' m).mono ?_)⟩
  clear hN'
  rintro r H' m1 hm1 ⟨l1, x, e, s1, rfl, hx, rfl, hR⟩
  have hle1 := hR.mono
  simp only [go_sem, ↓tfi, ↓fti, ↓reduceIte]
  refine WP_loopB puN 5 (fun y : PSt × Nd × Ex × Mem => ⟨[⟨0, [], .box 0 0⟩, ⟨1, [], .v (.int .i64 n)⟩, ⟨4, [], .box 2 0⟩, ⟨5, [], .box 5 0⟩], [], [⟨5, 33, y.2.1.svs⟩, prB en y.1, zEB 2], [tkV ts], 40, y.2.2.2⟩)
   (fun y => leM m1 y.2.2.2 ∧ Inv ts y.1 ∧ s.i ≤ y.1.i ∧ exRep y.2.2.2 y.2.2.1 y.2.1.cs ∧ ∀ a s', Res ts en y.1 (loopK n y.2.2.1 (ts.drop y.1.i)) a s' → Res ts en s (exprK n (ts.drop s.i)) a s')
   (fun y => ts.length - y.1.i) (by kernel_rfl) (fun _ _ => nbl rfl) (fun y hy => hy.1) (fun _ => ?_) ?_ ?_
  ·simp only [go_sem, ↓tfi, ↓fti, ↓reduceIte]
  ·simp only [go_sem, ↓tfi, ↓fti, ↓reduceIte]
   exact ⟨(s1, x, e, m1), ⟨⟨⟨rfl, rfl, rfl, rfl, rfl, rfl, rfl, rfl⟩, ⟨rfl, rfl, rfl⟩⟩, .inl rfl⟩, .inl rfl, hR.inv, hle1, hx, fun a s' h => by rw [exprK_eq hn]; exact res_bnd hR h⟩
  ·rintro ⟨s4, x4, e4, m4⟩ ⟨q1, q2, q3, q4, q5⟩
   dsimp only at q1 q2 q3 q4 q5
   have hl := hT.len
   have hil := q2.le
   by_cases hop : isOpP n (ts.drop s4.i) = true
   ·have ha := op_t (en := en) hn hT hop
    have hi := opP_lt hop
    have hI5 := q2.next hi
    have hb : ∀ m' : Mem, FnH Tryz.prog 31 [.box 0 0, .v (.int .i64 ((n : Int) + 1))] (pH ts en s4.next) m' (ERes ts en s4.next (exprK (n + 1) (ts.drop s4.next.i)) m') := hE s4.next hI5 (Nat.lt_succ_of_le q3)
    clear hE
    have hw : (hdS (ts.drop s4.i)).length ≤ 1000000 := by rw [hdS_cur]; exact hT.cs s4.i
    simp only [go_sem, ↓tfi, ↓fti, ↓reduceIte]
    refine cvl ((ha m4).mono ?_)
    clear ha
    rintro r H' m5 hm5 ⟨l5, rfl, rfl⟩
    simp only [go_sem, ↓tfi, ↓fti, ↓reduceIte]
    refine WP_draw (.hoist 0 (.hoist 1 (.hoist 2 (.hoist 3 (.hoist 4 (.alt 5 [1, 0] (.alt 6 [0] (.hoist 7 (.alt 8 [] .done .stop)) .stop) .stop)))))) puN (by kernel_rfl) (by kernel_rfl) ?_
    simp only [go_sem, ↓tfi, ↓fti, ↓reduceIte]
    refine ⟨by unfold I64; omega, by kernel_rfl, FnV_of ((hb m5).mono ?_)⟩
    clear hb
    rintro r H' m6 hm6 ⟨l6, x6, e6, s6, rfl, hx6, rfl, hR6⟩
    have hle6 := hR6.mono
    have hnx : s4.next.i = s4.i + 1 := rfl
    simp only [go_sem, ↓tfi, ↓fti, ↓reduceIte]
    try simp only [l6, true_and, and_self]
    intro a c m7 w1 w2 w3
    refine ⟨(s6, ⟨16, 0, hdS (ts.drop s4.i), [], zTy, a, 2, c⟩, .mk 16 0 (hdS (ts.drop s4.i)) [] zTy [e4, e6], m7), ⟨⟨⟨rfl, rfl, rfl, rfl, rfl, rfl, rfl, rfl⟩, ⟨rfl, rfl, rfl⟩⟩, .inl rfl⟩, ⟨leM_tr q1 (leM_tr l5 (leM_tr l6 (.inr w1))), hR6.inv, by dsimp only; omega, mk_rep (es := [e4, e6]) ⟨by decide, by decide⟩ ⟨by decide, by decide⟩ hw (Nat.zero_le _) tyOk_z (by simp) w2 w3 (exs2 (exRep_upM (leM_tr l5 (leM_tr l6 (.inr w1))) q4) (exRep_upM (.inr w1) hx6)), fun a s' h => q5 a s' ?_⟩, by dsimp only; omega⟩
    rw [loopK_eq hn, if_pos hop, ← drop_next]
    exact res_next q2 hi (res_bnd hR6 h)
   ·have ha := op_f (en := en) hn hT hop
    clear hE
    simp only [go_sem, ↓tfi, ↓fti, ↓reduceIte]
    refine cvl ((ha m4).mono ?_)
    clear ha
    rintro r H' m5 hm5 ⟨l5, w5, rfl, rfl⟩
    simp only [go_sem, ↓tfi, ↓fti, ↓reduceIte]
    have hdef : ∀ m', leM m5 m' → (¬ (n = 6 ∧ isP [105, 115] (ts.drop s4.i) = true)) → (¬ (n = 6 ∧ isP [97, 115] (ts.drop s4.i) = true)) → ERes ts en s (exprK n (ts.drop s.i)) m (.agg x4.svs) (pH ts en s4) m' := fun m' hm' h1 h2 =>
     ⟨leM_tr (leM_tr l1 q1) (leM_tr l5 hm'), x4, e4, s4, rfl, exRep_upM (leM_tr l5 hm') q4, rfl, q5 _ _ (by rw [loopK_eq hn, if_neg hop, if_neg h1, if_neg h2]; exact res_pure _ q2)⟩
    refine ⟨fun h6 => ?_, fun h6 => ⟨fun h => absurd h h6, fun _ => hdef m5 (.inl rfl) (fun h => h6 (by rw [h.1]; rfl)) (fun h => h6 (by rw [h.1]; rfl))⟩⟩
    have h6' : n = 6 := by omega
    by_cases his : isC ts s4.i [105, 115] = true
    ·have ha := acc_t (en := en) hT his
     have hi := isC_lt his
     have hI5 := q2.next hi
     have hb := fun m' => ptyp_spec ts en s4.next m' hT hI5
     clear hdef
     refine cvl ((ha m5).mono ?_)
     clear ha
     rintro r H' m6 hm6 ⟨l6, rfl, rfl⟩
     simp only [go_sem, ↓tfi, ↓fti, ↓reduceIte]
     refine WP_draw (.hoist 0 (.hoist 2 (.alt 1 [2] (.alt 3 [] (.hoist 4 (.alt 5 [] .done .stop)) .stop) (.alt 3 [0] (.alt 1 [] (.hoist 4 (.alt 5 [] .done .stop)) .stop) .stop)))) puN (by kernel_rfl) (by kernel_rfl) ?_
     simp only [go_sem, ↓tfi, ↓fti, ↓reduceIte]
     refine ⟨cvl ((hb m6).mono ?_), cvl ((hb m6).mono ?_)⟩
     ·clear hb
      rintro r H' m7 hm7 ⟨l7, t, s7, rfl, hty, htn, rfl, hR7⟩
      have hle7 := hR7.mono
      have hnx : s4.next.i = s4.i + 1 := rfl
      simp only [go_sem, ↓tfi, ↓fti, ↓reduceIte]
      try simp only [l7, true_and, and_self]
      intro a c mz w1 w2 w3
      refine ⟨(s7, ⟨18, 0, [], [], t, a, 1, c⟩, .mk 18 0 [] [] t [e4], mz), ⟨⟨⟨rfl, rfl, rfl, rfl, rfl, rfl, rfl, rfl⟩, ⟨rfl, rfl, rfl⟩⟩, .inl rfl⟩, ⟨leM_tr q1 (leM_tr l5 (leM_tr l6 (leM_tr l7 (.inr w1)))), hR7.inv, by dsimp only; omega, mk_rep (es := [e4]) ⟨by decide, by decide⟩ ⟨by decide, by decide⟩ (Nat.zero_le _) (Nat.zero_le _) hty (by simp) w2 w3 (exs1 (exRep_upM (leM_tr l5 (leM_tr l6 (leM_tr l7 (.inr w1)))) q4)), fun a s' h => q5 a s' ?_⟩, by dsimp only; omega⟩
      rw [loopK_eq hn, if_neg hop, if_pos ⟨h6', by rw [← isC_P]; exact his⟩, ← drop_next]
      exact res_next q2 hi (res_bnd hR7 h)
     ·clear hb
      rintro r H' m7 hm7 ⟨l7, t, s7, rfl, hty, htn, rfl, hR7⟩
      have hle7 := hR7.mono
      have hnx : s4.next.i = s4.i + 1 := rfl
      simp only [go_sem, ↓tfi, ↓fti, ↓reduceIte]
      try simp only [l7, true_and, and_self]
      intro a c mz w1 w2 w3
      refine ⟨(s7, ⟨18, 0, [], [], t, a, 1, c⟩, .mk 18 0 [] [] t [e4], mz), ⟨⟨⟨rfl, rfl, rfl, rfl, rfl, rfl, rfl, rfl⟩, ⟨rfl, rfl, rfl⟩⟩, .inl rfl⟩, ⟨leM_tr q1 (leM_tr l5 (leM_tr l6 (leM_tr l7 (.inr w1)))), hR7.inv, by dsimp only; omega, mk_rep (es := [e4]) ⟨by decide, by decide⟩ ⟨by decide, by decide⟩ (Nat.zero_le _) (Nat.zero_le _) hty (by simp) w2 w3 (exs1 (exRep_upM (leM_tr l5 (leM_tr l6 (leM_tr l7 (.inr w1)))) q4)), fun a s' h => q5 a s' ?_⟩, by dsimp only; omega⟩
      rw [loopK_eq hn, if_neg hop, if_pos ⟨h6', by rw [← isC_P]; exact his⟩, ← drop_next]
      exact res_next q2 hi (res_bnd hR7 h)
    ·have ha := acc_f (en := en) hT his
     refine cvl ((ha m5).mono ?_)
     clear ha
     rintro r H' m6 hm6 ⟨l6, rfl, rfl⟩
     simp only [go_sem, ↓tfi, ↓fti, ↓reduceIte]
     refine ⟨fun _ => ?_, fun h => absurd h6 h⟩
     by_cases has : isC ts s4.i [97, 115] = true
     ·have ha := acc_t (en := en) hT has
      have hi := isC_lt has
      have hI5 := q2.next hi
      have hb := fun m' => ptyp_spec ts en s4.next m' hT hI5
      clear hdef
      refine cvl ((ha m6).mono ?_)
      clear ha
      rintro r H' m7 hm7 ⟨l7, rfl, rfl⟩
      simp only [go_sem, ↓tfi, ↓fti, ↓reduceIte]
      refine WP_draw (.hoist 0 (.hoist 2 (.alt 1 [2] (.alt 3 [] (.hoist 4 (.alt 5 [] .done .stop)) .stop) (.alt 3 [0] (.alt 1 [] (.hoist 4 (.alt 5 [] .done .stop)) .stop) .stop)))) puN (by kernel_rfl) (by kernel_rfl) ?_
      simp only [go_sem, ↓tfi, ↓fti, ↓reduceIte]
      refine ⟨cvl ((hb m7).mono ?_), cvl ((hb m7).mono ?_)⟩
      ·clear hb
       rintro r H' m8 hm8 ⟨l8, t, s7, rfl, hty, htn, rfl, hR7⟩
       have hle7 := hR7.mono
       have hnx : s4.next.i = s4.i + 1 := rfl
       simp only [go_sem, ↓tfi, ↓fti, ↓reduceIte]
       try simp only [l8, true_and, and_self]
       intro a c mz w1 w2 w3
       refine ⟨(s7, ⟨17, 0, [], [], t, a, 1, c⟩, .mk 17 0 [] [] t [e4], mz), ⟨⟨⟨rfl, rfl, rfl, rfl, rfl, rfl, rfl, rfl⟩, ⟨rfl, rfl, rfl⟩⟩, .inl rfl⟩, ⟨leM_tr q1 (leM_tr l5 (leM_tr l6 (leM_tr l7 (leM_tr l8 (.inr w1))))), hR7.inv, by dsimp only; omega, mk_rep (es := [e4]) ⟨by decide, by decide⟩ ⟨by decide, by decide⟩ (Nat.zero_le _) (Nat.zero_le _) hty (by simp) w2 w3 (exs1 (exRep_upM (leM_tr l5 (leM_tr l6 (leM_tr l7 (leM_tr l8 (.inr w1))))) q4)), fun a s' h => q5 a s' ?_⟩, by dsimp only; omega⟩
       rw [loopK_eq hn, if_neg hop, if_neg (fun h => his (by rw [isC_P]; exact h.2)), if_pos ⟨h6', by rw [← isC_P]; exact has⟩, ← drop_next]
       exact res_next q2 hi (res_bnd hR7 h)
      ·clear hb
       rintro r H' m8 hm8 ⟨l8, t, s7, rfl, hty, htn, rfl, hR7⟩
       have hle7 := hR7.mono
       have hnx : s4.next.i = s4.i + 1 := rfl
       simp only [go_sem, ↓tfi, ↓fti, ↓reduceIte]
       try simp only [l8, true_and, and_self]
       intro a c mz w1 w2 w3
       refine ⟨(s7, ⟨17, 0, [], [], t, a, 1, c⟩, .mk 17 0 [] [] t [e4], mz), ⟨⟨⟨rfl, rfl, rfl, rfl, rfl, rfl, rfl, rfl⟩, ⟨rfl, rfl, rfl⟩⟩, .inl rfl⟩, ⟨leM_tr q1 (leM_tr l5 (leM_tr l6 (leM_tr l7 (leM_tr l8 (.inr w1))))), hR7.inv, by dsimp only; omega, mk_rep (es := [e4]) ⟨by decide, by decide⟩ ⟨by decide, by decide⟩ (Nat.zero_le _) (Nat.zero_le _) hty (by simp) w2 w3 (exs1 (exRep_upM (leM_tr l5 (leM_tr l6 (leM_tr l7 (leM_tr l8 (.inr w1))))) q4)), fun a s' h => q5 a s' ?_⟩, by dsimp only; omega⟩
       rw [loopK_eq hn, if_neg hop, if_neg (fun h => his (by rw [isC_P]; exact h.2)), if_pos ⟨h6', by rw [← isC_P]; exact has⟩, ← drop_next]
       exact res_next q2 hi (res_bnd hR7 h)
     ·have ha := acc_f (en := en) hT has
      refine cvl ((ha m6).mono ?_)
      clear ha
      rintro r H' m7 hm7 ⟨l7, rfl, rfl⟩
      simp only [go_sem, ↓tfi, ↓fti, ↓reduceIte]
      exact hdef m7 (leM_tr l6 l7) (fun h => his (by rw [isC_P]; exact h.2)) (fun h => has (by rw [isC_P]; exact h.2))
end
structure EXW (ts : List Tk) (en : Int) (s : PSt) : Prop where
 expr : ∀ n, n ≤ 10 → ExprC ts en n s
 un : UnC ts en s
 args : ArgsC ts en s
 paren : ParenC ts en s
theorem exw_of {ts : List Tk} {en : Int} (hT : TsB ts) (L : Nat) (ih : ∀ s : PSt, Inv ts s → ts.length - s.i < L → EXW ts en s) : ∀ s, Inv ts s → ts.length - s.i = L → EXW ts en s := by
 have later : ∀ s : PSt, ts.length - s.i = L → ∀ s1, Inv ts s1 → s.i < s1.i → EXW ts en s1 := fun s hL s1 h1 h2 => ih s1 h1 (by have := h1.le; omega)
 have hx : ∀ s, Inv ts s → ts.length - s.i = L → UnC ts en s ∧ ∀ n, n ≤ 10 → ExprC ts en n s := fun s hI hL => by
  have lt := later s hL
  have hA := fun s1 h1 h2 => (lt s1 h1 h2).args
  have hE := fun s1 h1 h2 => (lt s1 h1 h2).expr 0 (by decide)
  have hK := keyword_of hT hI hA (fun s1 h1 h2 => (lt s1 h1 h2).paren) hE
  have hO : OperC ts en s := operand_of hT hI hA hE hK
  have hP : ∀ s1, Inv ts s1 → s.i ≤ s1.i → PostC ts en s1 := fun s1 h1 h2 x e m hx =>
   postfix_of hT h1 (fun s2 g1 g2 => hA s2 g1 (Nat.lt_of_le_of_lt h2 g2)) (fun s2 g1 g2 => hE s2 g1 (Nat.lt_of_le_of_lt h2 g2)) x e m hx
  have hU : UnC ts en s := unary_of hT hI (fun s1 h1 h2 => (lt s1 h1 h2).un) hO hP
  have hN : ∀ k n, n + k = 10 → ExprC ts en n s := fun k => by
   induction k with
   | zero =>
    intro n hn
    obtain rfl : n = 10 := by omega
    exact expr_top hT hU
   | succ k ihk =>
    intro n hn
    exact expr_lev hT hI n (by omega) (ihk (n + 1) (by omega)) fun s1 h1 h2 => (lt s1 h1 h2).expr (n + 1) (by omega)
  exact ⟨hU, fun n hn => hN (10 - n) n (by omega)⟩
 intro s hI hL
 have he : ∀ s1, Inv ts s1 → s.i ≤ s1.i → ExprC ts en 0 s1 := fun s1 h1 h2 => by
  rcases Nat.lt_or_ge s.i s1.i with h | h
  ·exact (later s hL s1 h1 h).expr 0 (by decide)
  ·exact (hx s1 h1 (by omega)).2 0 (by decide)
 exact ⟨(hx s hI hL).2, (hx s hI hL).1, args_of hT hI he, paren_of hT hI (he _ (inv_expSt hI) (expSt_le hI))⟩
theorem exw_all {ts : List Tk} {en : Int} (hT : TsB ts) : ∀ (L : Nat) (s : PSt), Inv ts s → ts.length - s.i < L → EXW ts en s
 | 0, s, _, h => absurd h (Nat.not_lt_zero _)
 | L + 1, s, hI, h => by
  rcases Nat.lt_or_ge (ts.length - s.i) L with h1 | h1
  ·exact exw_all hT L s hI h1
  ·exact exw_of hT L (fun s h2 h3 => exw_all hT L s h2 h3) s hI (by omega)
theorem exw {ts : List Tk} {en : Int} {s : PSt} (hT : TsB ts) (hI : Inv ts s) : EXW ts en s := exw_all hT _ s hI (Nat.lt_succ_self _)
abbrev Sd.svs (x : Sd) : List SV := [.v (.int .i64 x.k), .v (.string (bs x.name)), .v (.int .i64 x.ty.dim), .v (.int .u8 x.ty.base), .v (.string (bs x.ty.name)), .v (.int .i64 x.tg.k), .v (.int .i64 x.tg.n), .v (.string (bs x.tg.s)), .v (.string (bs x.tg.c)), .v (.int .i64 x.tg.ty.dim), .v (.int .u8 x.tg.ty.base), .v (.string (bs x.tg.ty.name)), .v (.slice x.tg.a x.tg.l x.tg.cp), .v (.int .i64 x.ex.k), .v (.int .i64 x.ex.n), .v (.string (bs x.ex.s)), .v (.string (bs x.ex.c)), .v (.int .i64 x.ex.ty.dim), .v (.int .u8 x.ex.ty.base), .v (.string (bs x.ex.ty.name)), .v (.slice x.ex.a x.ex.l x.ex.cp), .v (.slice x.a x.l x.cp), .v (.slice x.b x.l2 x.cp2)]
attribute [go_sem] Sd.svs
abbrev SRes (ts : List Tk) (en : Int) (s : PSt) (K : PR St) (m : Mem) : SV → Hp → Mem → Prop := fun r H' m' => leM m m' ∧ ∃ (x : Sd) (e : St) (s' : PSt), r = .agg x.svs ∧ stRep m' e x.cs ∧ H' = pH ts en s' ∧ Res ts en s K e s'
abbrev BRes (ts : List Tk) (en : Int) (s : PSt) (K : PR (List St)) (m : Mem) : SV → Hp → Mem → Prop := fun r H' m' => leM m m' ∧ ∃ (es : List St) (a : Option Addr) (c : Nat) (xs : List Value) (s' : PSt), r = .v (.slice a es.length c) ∧ es.length ≤ c ∧ (es.length + s.i ≤ s'.i + (if s'.fl = true then 1 else 0) ∧ es.length ≤ 1000001) ∧ Rds m' a es.length 23 xs ∧ stsRep m' es xs ∧ H' = pH ts en s' ∧ Res ts en s K es s'
def StmtC (ts : List Tk) (en : Int) (s : PSt) : Prop := ∀ m : Mem, FnH Tryz.prog 38 [.box 0 0] (pH ts en s) m (SRes ts en s (stmtK (ts.drop s.i)) m)
def BlockC (ts : List Tk) (en : Int) (s : PSt) : Prop := ∀ m : Mem, FnH Tryz.prog 128 [.box 0 0] (pH ts en s) m (BRes ts en s (blockK (ts.drop s.i)) m)
theorem mk_st {m : Mem} {k : Int} {nm : List UInt8} {ty : Ty} {tx ex : Nd} {tg e : Ex} {body alt : List St} {a b : Option Addr} {cp cp2 : Nat} {xs ys : List Value} (hk : I64 k) (hn : nm.length ≤ 1000000) (ht : TyOk ty)
  (h1 : exRep m tg tx.cs) (h2 : exRep m e ex.cs) (hl : body.length ≤ 1000001) (hc : body.length ≤ cp) (hr : Rds m a body.length 23 xs) (hs : stsRep m body xs)
  (hl2 : alt.length ≤ 1000001) (hc2 : alt.length ≤ cp2) (hr2 : Rds m b alt.length 23 ys) (hs2 : stsRep m alt ys) :
  stRep m (.mk k nm ty tg e body alt) (Sd.cs ⟨k, nm, ty, tx, ex, a, body.length, cp, b, alt.length, cp2⟩) := by
 simp only [stRep]
 exact ⟨⟨k, nm, ty, tx, ex, a, body.length, cp, b, alt.length, cp2⟩, ⟨rfl, rfl, rfl, rfl⟩, h1, h2, ⟨rfl, hc, rfl, hc2⟩, ⟨hk, by unfold big; omega, ht, by unfold big; omega, by unfold big; omega⟩, xs, ys, hr, hr2, hs, hs2⟩
theorem stsRep_nil (m : Mem) (xs : List Value) : stsRep m [] xs := by simp only [stsRep]
theorem sts1 {m : Mem} {e : St} {x : Sd} (h : stRep m e x.cs) : stsRep m [e] x.cs := by
 simp only [stsRep, and_true]
 exact h
theorem sts_snoc {m : Mem} {e : St} {x : Sd} (hx : stRep m e x.cs) : ∀ {es : List St} {xs : List Value}, xs.length = es.length * 23 → stsRep m es xs → stsRep m (es ++ [e]) (xs ++ x.cs)
 | [], xs, hl, _ => by
  have : xs = [] := List.eq_nil_of_length_eq_zero (by simpa using hl)
  subst this
  exact sts1 hx
 | y :: r, xs, hl, h => by
  simp only [stsRep, List.cons_append] at h ⊢
  simp only [Llc] at hl
  have h8 : 23 ≤ xs.length := by omega
  rw [List.take_append_of_le_length h8, List.drop_append_of_le_length h8]
  exact ⟨h.1, sts_snoc hx (by rw [List.length_drop]; omega) h.2⟩
theorem sts_upM {m m' : Mem} {es : List St} {xs : List Value} (hle : leM m m') (h : stsRep m es xs) : stsRep m' es xs := by
 rcases hle with rfl | hle
 ·exact h
 ·exact stsRep_up hle es xs h
section
variable {ts : List Tk} {en : Int} {s : PSt}
theorem res_fl {α : Type} {K : PR α} (a : α) (hI : Inv ts s) (h : s.fl = true) : Res ts en s K a s :=
 ⟨hI, Nnr _, fun _ => rfl, fun e => (by rw [h] at e; cases e), fun e => (by rw [h] at e; cases e)⟩
theorem res_adv {α : Type} {K : PR α} {a : α} {s' : PSt} (h : Res ts en s K a s') (hf : s.fl = false) (hK : ∀ x r, K = .ok (x, r) → r.length < (ts.drop s.i).length) : s'.fl = true ∨ s.i < s'.i := by
 cases e : K with
 | error r => exact .inl (h.er hf r e).1
 | ok p =>
  obtain ⟨x, r⟩ := p
  obtain ⟨_, _, rfl⟩ := h.ok hf x r e
  have := hK x _ e
  simp only [List.length_drop] at this
  exact .inr (by omega)
theorem exp_t {w : List UInt8} (hT : TsB ts) (h : isC ts s.i w = true) (m : Mem) : FnH Tryz.prog 52 [.box 0 0, .v (.string (bs w))] (pH ts en s) m fun r H' m' => leM m m' ∧ r = .tup [] ∧ H' = pH ts en s.next :=
 (exp_spec ts en s w m hT.l8).mono fun r H' m2 _ q => ⟨q.1, q.2.1, by have := q.2.2; rw [expSt, if_pos h] at this; exact this⟩
theorem stmt_lt (l : List Tk) : ∀ x r, stmtK l = .ok (x, r) → r.length < l.length := fun x r h => ((sx_tot l).stmt.good.ok x r h).2 rfl
theorem block_of (hT : TsB ts) (hI : Inv ts s) (hS : ∀ s1, Inv ts s1 → s.i < s1.i → StmtC ts en s1) : BlockC ts en s := fun m => by
 have h1 := exp_spec ts en s [123] m hT.l8
 have hI1 : Inv ts (expSt ts en s [123]) := inv_expSt hI
 have hle1 : s.i ≤ (expSt ts en s [123]).i := expSt_le hI
 refine FnH_own (enter cfN puN Tryz.func128 rfl rfl (by kernel_rfl) rfl ?_ ?_)
 ·simp only [go_sem, ↓tfi, ↓fti, ↓reduceIte]
 ·simp only [go_sem, ↓tfi, ↓fti, ↓reduceIte]
  refine cvl (h1.mono ?_)
  clear h1
  rintro r H' m1 hm1 ⟨l1, rfl, rfl⟩
  simp only [go_sem, ↓tfi, ↓fti, ↓reduceIte]
  refine WP_adopt 3 73 23 (by decide) rfl ?_
  refine WP_loop puN (fun y : PSt × List St × List Value × Nat × Mem => ⟨[⟨0, [], .box 0 0⟩, ⟨3, [], .vec 4 y.2.2.2.1⟩], [], [prB en y.1], [⟨4, y.2.2.2.1, 73, 23, y.2.1.length, y.2.2.1⟩, tkV ts], 40, y.2.2.2.2⟩)
   (fun y => leM m1 y.2.2.2.2 ∧ Inv ts y.1 ∧ (y.1.fl = false → s.i < y.1.i) ∧ (y.2.1.length + s.i ≤ y.1.i + (if y.1.fl = true then 1 else 0)) ∧ y.2.2.1.length = y.2.1.length * 23 ∧ stsRep y.2.2.2.2 y.2.1 y.2.2.1 ∧ ∀ a s', Res ts en y.1 (stmtsK y.2.1 (ts.drop y.1.i)) a s' → Res ts en s (blockK (ts.drop s.i)) a s')
   (fun y => if y.1.fl = true then 0 else ts.length - y.1.i + 1) (expSt ts en s [123], [], [], 0, m1) (by kernel_rfl) (fun _ _ => nbl rfl) (fun y hy => hy.1) (fun _ => ?_) ?_ ?_ ?_
  ·simp only [go_sem, ↓tfi, ↓fti, ↓reduceIte]
  ·simp only [go_sem, ↓tfi, ↓fti, ↓reduceIte]
  ·refine ⟨.inl rfl, hI1, fun h => ?_, by dsimp only [Lln]; omega, rfl, stsRep_nil _ _, fun a s' h => ?_⟩
   ·dsimp only at h ⊢
    unfold expSt at h ⊢
    split at h
    ·rename_i h'
     rw [if_pos h']
     exact Nat.lt_succ_self _
    ·rw [failS_fl] at h
     cases h
   ·rw [blockK_eq]
    exact res_exp hI h
  ·rintro ⟨s4, es, xs, u, m4⟩ ⟨q1, q2, q3, q4, q5, q6, q7⟩
   dsimp only at q1 q2 q3 q4 q5 q6 q7
   have hl := hT.len
   have hil := q2.le
   by_cases hf : s4.fl = true
   ·clear hS
    have q4' := q4
    rw [if_pos hf] at q4
    simp only [go_sem, ↓tfi, ↓fti, ↓reduceIte]
    refine ⟨fun h => (by rw [hf] at h; cases h), fun _ => own_vec (b := ⟨4, u, 73, 23, es.length, xs⟩) (by simp [lkV]) (pH ts en s4) (List.Sublist.refl _) (.cons _ (List.Sublist.refl _)) fun a c mm w1 w2 w3 => ⟨leM_tr (leM_tr l1 q1) (.inr w1), es, a, c, xs, s4, rfl, w2, ⟨q4', by omega⟩, w3, sts_upM (.inr w1) q6, rfl, q7 _ _ (res_fl es q2 hf)⟩⟩
   ·have hf' : s4.fl = false := by simpa using hf
    have hlt := q3 hf'
    by_cases h1 : isC ts s4.i [125] = true
    ·have ha := acc_t (en := en) hT h1
     have hi := isC_lt h1
     have hI5 := q2.next hi
     clear hS
     rw [if_neg hf] at q4
     simp only [go_sem, ↓tfi, ↓fti, ↓reduceIte]
     refine ⟨fun _ => cvl ((ha m4).mono ?_), fun h => by rw [hf'] at h; cases h⟩
     clear ha
     rintro r H' m5 hm5 ⟨l5, rfl, rfl⟩
     simp only [go_sem, ↓tfi, ↓fti, ↓reduceIte]
     refine own_vec (b := ⟨4, u, 73, 23, es.length, xs⟩) (by simp [lkV]) (pH ts en s4.next) (List.Sublist.refl _) (.cons_cons _ (List.nil_sublist _)) fun a c mm w1 w2 w3 => ⟨leM_tr (leM_tr l1 q1) (leM_tr l5 (.inr w1)), es, a, c, xs, s4.next, rfl, w2, ⟨by have hn : s4.next.i = s4.i + 1 := rfl; omega, by omega⟩, w3, sts_upM (leM_tr l5 (.inr w1)) q6, rfl, q7 _ _ ?_⟩
     rw [stmtsK_eq, if_pos (by rw [← isC_P]; exact h1), ← drop_next]
     exact res_next q2 hi (res_pure _ hI5)
    ·have ha := acc_f (en := en) hT h1
     have hb := hS s4 q2 hlt
     clear hS
     rw [if_neg hf] at q4
     simp only [go_sem, ↓tfi, ↓fti, ↓reduceIte]
     refine ⟨fun _ => cvl ((ha m4).mono ?_), fun h => by rw [hf'] at h; cases h⟩
     clear ha
     rintro r H' m5 hm5 ⟨l5, rfl, rfl⟩
     simp only [go_sem, ↓tfi, ↓fti, ↓reduceIte]
     refine cvl ((hb m5).mono ?_)
     clear hb
     rintro r H' m6 hm6 ⟨l6, x6, e6, s6, rfl, hx6, rfl, hR6⟩
     have hle6 := hR6.mono
     have hadv := res_adv hR6 hf' (stmt_lt _)
     have hI6 := hR6.inv.le
     simp only [go_sem, ↓tfi, ↓fti, ↓reduceIte]
     refine ⟨room_of (by omega) (by decide), (s6, es ++ [e6], xs ++ x6.cs, u + 1, m6), ⟨rfl, ⟨rfl, rfl, rfl⟩, ⟨rfl, by simp, rfl⟩, .inl rfl⟩, ⟨leM_tr q1 (leM_tr l5 l6), hR6.inv, fun h => by dsimp only; omega, ?_, by simp only [Lla, List.length_singleton, q5, Sd.cs, Llc, Lln]; omega, sts_snoc hx6 q5 (sts_upM (leM_tr l5 l6) q6), fun a s' h => q7 a s' ?_⟩, ?_⟩
     ·dsimp only
      rw [Lla, List.length_singleton]
      rcases hadv with h | h
      ·rw [if_pos h]; omega
      ·omega
     ·rw [stmtsK_eq, if_neg (by rw [← isC_P]; exact h1)]
      exact res_bnd hR6 h
     ·dsimp only
      rw [if_neg hf]
      rcases hadv with h | h
      ·rw [if_pos h]; omega
      ·split <;> omega
end
noncomputable def ifK (l : List Tk) : PR St := bndP (parenK l) fun e r => bndP (blockK r) fun b r2 => if isP elseW r2 = true then bndP (blockK r2.tail) fun a r3 => .ok (.mk 4 [] zTy zE e b a, r3) else .ok (.mk 4 [] zTy zE e b [], r2)
noncomputable def guardK (k : Int) (l : List Tk) : PR St := bndP (parenK l) fun e r => bndP (blockK r) fun b r2 => .ok (.mk k [] zTy zE e b [], r2)
noncomputable def retK (l : List Tk) : PR St := if isP [59] l = true then .ok (.mk 6 [] zTy zE zE [] [], l.tail) else bndP (exprK 0 l) fun e r => expP [59] r fun r2 => .ok (.mk 6 [] zTy zE e [] [], r2)
noncomputable def throwK (l : List Tk) : PR St := bndP (exprK 0 l) fun e r => expP [59] r fun r2 => .ok (.mk 7 [] zTy zE e [] [], r2)
noncomputable def tryK (l : List Tk) : PR St := bndP (blockK l) fun b r => expP catchW r fun r2 => expP [40] r2 fun r3 => bndP (typP r3) fun t r4 => bndP (idP r4) fun s r5 => expP [41] r5 fun r6 => bndP (blockK r6) fun a r7 => .ok (.mk 8 s t zE zE b a, r7)
noncomputable def nestK (l : List Tk) : PR St := bndP (blockK l) fun b r => .ok (.mk 10 [] zTy zE zE b [], r)
noncomputable def consK (l : List Tk) : PR St := bndP (argsK l) fun es r => expP [59] r fun r2 => .ok (.mk 11 [] zTy zE (.mk 0 0 [] [] zTy es) [] [], r2)
noncomputable def declK (l : List Tk) : PR St := bndP (typP l) fun t r => bndP (idP r) fun s r2 => expP [61] r2 fun r3 => bndP (exprK 0 r3) fun e r4 => expP [59] r4 fun r5 => .ok (.mk 1 s t zE e [] [], r5)
noncomputable def simpK (l : List Tk) : PR St := bndP (exprK 0 l) fun e r =>
 if isP [61] r = true then bndP (exprK 0 r.tail) fun x r2 => expP [59] r2 fun r3 => .ok (.mk 2 [] zTy e x [] [], r3)
 else expP [59] r fun r2 => .ok (.mk 3 [] zTy zE e [] [], r2)
section
variable {ts : List Tk} {en : Int} {s : PSt}
theorem if_of (hT : TsB ts) (hI : Inv ts s) (hc0 : isC ts s.i ifW = true) (hB : ∀ s1, Inv ts s1 → s.i < s1.i → BlockC ts en s1) (m : Mem) : FnH Tryz.prog 75 [.box 0 0] (pH ts en s) m (SRes ts en s.next (ifK (ts.drop (s.next).i)) m) := by
 have hi := isC_lt hc0
 have hI' := hI.next hi
 have hn : s.next.i = s.i + 1 := rfl
 refine enter cfN puN Tryz.func75 rfl rfl (by kernel_rfl) rfl ?_ ?_
 ·simp only [go_sem, ↓tfi, ↓fti, ↓reduceIte]
 ·simp only [go_sem, ↓tfi, ↓fti, ↓reduceIte]
  have q1 := fun m' => exp_t (en := en) hT hc0 m'
  refine cvl ((q1 m).mono ?_)
  clear q1
  rintro r H' m1 hm1 ⟨l1, rfl, rfl⟩
  simp only [go_sem, ↓tfi, ↓fti, ↓reduceIte]
  have q2 := fun m' => (exw (en := en) hT hI').paren m'
  refine cvl ((q2 m1).mono ?_)
  clear q2
  rintro r H' m2 hm2 ⟨l2, x2, e2, s2, rfl, hx2, rfl, hR2⟩
  simp only [go_sem, ↓tfi, ↓fti, ↓reduceIte]
  have hle2 := hR2.mono
  have q3 := hB s2 hR2.inv (by omega)
  refine cvl ((q3 m2).mono ?_)
  clear q3
  rintro r H' m3 hm3 ⟨l3, bs3, a3, c3, xs3, s3, rfl, ha3, hb3, hc3, hd3, rfl, hR3⟩
  simp only [go_sem, ↓tfi, ↓fti, ↓reduceIte]
  have hle3 := hR3.mono
  by_cases hc4 : isC ts (s3).i elseW = true
  ·have q5 := fun m' => acc_t (en := en) hT hc4 m'
   refine cvl ((q5 m3).mono ?_)
   clear q5
   rintro r H' m4 hm4 ⟨l4, rfl, rfl⟩
   simp only [go_sem, ↓tfi, ↓fti, ↓reduceIte]
   have hI5 := hR3.inv.next (isC_lt hc4)
   have hle5 : (s3).next.i = (s3).i + 1 := rfl
   have q6 := hB (s3).next hI5 (by omega)
   refine cvl ((q6 m4).mono ?_)
   clear q6
   rintro r H' m5 hm5 ⟨l5, bs6, a6, c6, xs6, s6, rfl, ha6, hb6, hc6, hd6, rfl, hR6⟩
   simp only [go_sem, ↓tfi, ↓fti, ↓reduceIte]
   have hle6 := hR6.mono
   exact ⟨(leM_tr l1 (leM_tr l2 (leM_tr l3 (leM_tr l4 l5)))), ⟨4, [], zTy, zNd, x2, a3, bs3.length, c3, a6, bs6.length, c6⟩, .mk 4 [] zTy zE e2 bs3 bs6, s6, rfl, mk_st ⟨by decide, by decide⟩ (Nat.zero_le _) tyOk_z z_rep (exRep_upM (leM_tr l3 (leM_tr l4 l5)) hx2) hb3.2 ha3 (Rds_upM (leM_tr l4 l5) hc3) (sts_upM (leM_tr l4 l5) hd3) hb6.2 ha6 hc6 hd6, rfl, (res_bnd hR2 (res_bnd hR3 (by rw [if_pos (by rw [← isC_P]; exact hc4), ← drop_next]; exact res_next hR3.inv (isC_lt hc4) (res_bnd hR6 (res_pure _ hR6.inv)))))⟩
  ·have q5 := fun m' => acc_f (en := en) hT hc4 m'
   refine cvl ((q5 m3).mono ?_)
   clear q5
   rintro r H' m4 hm4 ⟨l4, rfl, rfl⟩
   simp only [go_sem, ↓tfi, ↓fti, ↓reduceIte]
   exact ⟨(leM_tr l1 (leM_tr l2 (leM_tr l3 l4))), ⟨4, [], zTy, zNd, x2, a3, bs3.length, c3, none, 0, 0⟩, .mk 4 [] zTy zE e2 bs3 [], s3, rfl, mk_st ⟨by decide, by decide⟩ (Nat.zero_le _) tyOk_z z_rep (exRep_upM (leM_tr l3 l4) hx2) hb3.2 ha3 (Rds_upM l4 hc3) (sts_upM l4 hd3) (Nat.zero_le _) (Nnr _) (rds_none _ _) (stsRep_nil _ _), rfl, (res_bnd hR2 (res_bnd hR3 (by rw [if_neg (by rw [← isC_P]; exact hc4)]; exact (res_pure _ hR3.inv))))⟩
theorem while_of (hT : TsB ts) (hI : Inv ts s) (hc0 : isC ts s.i whileW = true) (hB : ∀ s1, Inv ts s1 → s.i < s1.i → BlockC ts en s1) (m : Mem) : FnH Tryz.prog 76 [.box 0 0] (pH ts en s) m (SRes ts en s.next (guardK 5 (ts.drop (s.next).i)) m) := by
 have hi := isC_lt hc0
 have hI' := hI.next hi
 have hn : s.next.i = s.i + 1 := rfl
 refine enter cfN puN Tryz.func76 rfl rfl (by kernel_rfl) rfl ?_ ?_
 ·simp only [go_sem, ↓tfi, ↓fti, ↓reduceIte]
 ·simp only [go_sem, ↓tfi, ↓fti, ↓reduceIte]
  have q1 := fun m' => exp_t (en := en) hT hc0 m'
  refine cvl ((q1 m).mono ?_)
  clear q1
  rintro r H' m1 hm1 ⟨l1, rfl, rfl⟩
  simp only [go_sem, ↓tfi, ↓fti, ↓reduceIte]
  have q2 := fun m' => (exw (en := en) hT hI').paren m'
  refine cvl ((q2 m1).mono ?_)
  clear q2
  rintro r H' m2 hm2 ⟨l2, x2, e2, s2, rfl, hx2, rfl, hR2⟩
  simp only [go_sem, ↓tfi, ↓fti, ↓reduceIte]
  have hle2 := hR2.mono
  have q3 := hB s2 hR2.inv (by omega)
  refine cvl ((q3 m2).mono ?_)
  clear q3
  rintro r H' m3 hm3 ⟨l3, bs3, a3, c3, xs3, s3, rfl, ha3, hb3, hc3, hd3, rfl, hR3⟩
  simp only [go_sem, ↓tfi, ↓fti, ↓reduceIte]
  have hle3 := hR3.mono
  exact ⟨(leM_tr l1 (leM_tr l2 l3)), ⟨5, [], zTy, zNd, x2, a3, bs3.length, c3, none, 0, 0⟩, .mk 5 [] zTy zE e2 bs3 [], s3, rfl, mk_st ⟨by decide, by decide⟩ (Nat.zero_le _) tyOk_z z_rep (exRep_upM l3 hx2) hb3.2 ha3 hc3 hd3 (Nat.zero_le _) (Nnr _) (rds_none _ _) (stsRep_nil _ _), rfl, (res_bnd hR2 (res_bnd hR3 (res_pure _ hR3.inv)))⟩
theorem sync_of (hT : TsB ts) (hI : Inv ts s) (hc0 : isC ts s.i syncW = true) (hB : ∀ s1, Inv ts s1 → s.i < s1.i → BlockC ts en s1) (m : Mem) : FnH Tryz.prog 80 [.box 0 0] (pH ts en s) m (SRes ts en s.next (guardK 9 (ts.drop (s.next).i)) m) := by
 have hi := isC_lt hc0
 have hI' := hI.next hi
 have hn : s.next.i = s.i + 1 := rfl
 refine enter cfN puN Tryz.func80 rfl rfl (by kernel_rfl) rfl ?_ ?_
 ·simp only [go_sem, ↓tfi, ↓fti, ↓reduceIte]
 ·simp only [go_sem, ↓tfi, ↓fti, ↓reduceIte]
  have q1 := fun m' => exp_t (en := en) hT hc0 m'
  refine cvl ((q1 m).mono ?_)
  clear q1
  rintro r H' m1 hm1 ⟨l1, rfl, rfl⟩
  simp only [go_sem, ↓tfi, ↓fti, ↓reduceIte]
  have q2 := fun m' => (exw (en := en) hT hI').paren m'
  refine cvl ((q2 m1).mono ?_)
  clear q2
  rintro r H' m2 hm2 ⟨l2, x2, e2, s2, rfl, hx2, rfl, hR2⟩
  simp only [go_sem, ↓tfi, ↓fti, ↓reduceIte]
  have hle2 := hR2.mono
  have q3 := hB s2 hR2.inv (by omega)
  refine cvl ((q3 m2).mono ?_)
  clear q3
  rintro r H' m3 hm3 ⟨l3, bs3, a3, c3, xs3, s3, rfl, ha3, hb3, hc3, hd3, rfl, hR3⟩
  simp only [go_sem, ↓tfi, ↓fti, ↓reduceIte]
  have hle3 := hR3.mono
  exact ⟨(leM_tr l1 (leM_tr l2 l3)), ⟨9, [], zTy, zNd, x2, a3, bs3.length, c3, none, 0, 0⟩, .mk 9 [] zTy zE e2 bs3 [], s3, rfl, mk_st ⟨by decide, by decide⟩ (Nat.zero_le _) tyOk_z z_rep (exRep_upM l3 hx2) hb3.2 ha3 hc3 hd3 (Nat.zero_le _) (Nnr _) (rds_none _ _) (stsRep_nil _ _), rfl, (res_bnd hR2 (res_bnd hR3 (res_pure _ hR3.inv)))⟩
theorem ret_of (hT : TsB ts) (hI : Inv ts s) (hc0 : isC ts s.i retW = true) (m : Mem) : FnH Tryz.prog 77 [.box 0 0] (pH ts en s) m (SRes ts en s.next (retK (ts.drop (s.next).i)) m) := by
 have hi := isC_lt hc0
 have hI' := hI.next hi
 have hn : s.next.i = s.i + 1 := rfl
 refine enter cfN puN Tryz.func77 rfl rfl (by kernel_rfl) rfl ?_ ?_
 ·simp only [go_sem, ↓tfi, ↓fti, ↓reduceIte]
 ·simp only [go_sem, ↓tfi, ↓fti, ↓reduceIte]
  have q1 := fun m' => exp_t (en := en) hT hc0 m'
  refine cvl ((q1 m).mono ?_)
  clear q1
  rintro r H' m1 hm1 ⟨l1, rfl, rfl⟩
  simp only [go_sem, ↓tfi, ↓fti, ↓reduceIte]
  by_cases hc2 : isC ts (s.next).i [59] = true
  ·have q3 := fun m' => pis_t (en := en) hT hc2 m'
   refine cvl ((q3 m1).mono ?_)
   clear q3
   rintro r H' m2 hm2 ⟨l2, rfl, rfl⟩
   simp only [go_sem, ↓tfi, ↓fti, ↓reduceIte]
   have q4 := fun m' => exp_t (en := en) hT hc2 m'
   refine cvl ((q4 m2).mono ?_)
   clear q4
   rintro r H' m3 hm3 ⟨l3, rfl, rfl⟩
   simp only [go_sem, ↓tfi, ↓fti, ↓reduceIte]
   exact ⟨(leM_tr l1 (leM_tr l2 l3)), ⟨6, [], zTy, zNd, zNd, none, 0, 0, none, 0, 0⟩, .mk 6 [] zTy zE zE [] [], (s.next).next, rfl, mk_st ⟨by decide, by decide⟩ (Nat.zero_le _) tyOk_z z_rep z_rep (Nat.zero_le _) (Nnr _) (rds_none _ _) (stsRep_nil _ _) (Nat.zero_le _) (Nnr _) (rds_none _ _) (stsRep_nil _ _), rfl, (by rw [retK, if_pos (by rw [← isC_P]; exact hc2), ← drop_next]; exact res_next hI' (isC_lt hc2) (res_pure _ (hI'.next (isC_lt hc2))))⟩
  ·have q3 := fun m' => pis_f (en := en) hT hc2 m'
   refine cvl ((q3 m1).mono ?_)
   clear q3
   rintro r H' m2 hm2 ⟨l2, rfl, rfl⟩
   simp only [go_sem, ↓tfi, ↓fti, ↓reduceIte]
   have q4 := fun m' => (show ∀ m' : Mem, FnH Tryz.prog 31 [.box 0 0, .v (.int .i64 0)] (pH ts en s.next) m' (ERes ts en s.next (exprK 0 (ts.drop (s.next).i)) m') from (exw hT hI').expr 0 (by decide)) m'
   refine cvl ((q4 m2).mono ?_)
   clear q4
   rintro r H' m3 hm3 ⟨l3, x4, e4, s4, rfl, hx4, rfl, hR4⟩
   simp only [go_sem, ↓tfi, ↓fti, ↓reduceIte]
   have hle4 := hR4.mono
   have q5 := fun m' => exp_spec ts en s4 [59] m' hT.l8
   have hI5 : Inv ts (expSt ts en s4 [59]) := inv_expSt hR4.inv
   have hle5 : (s4).i ≤ (expSt ts en s4 [59]).i := expSt_le hR4.inv
   refine cvl ((q5 m3).mono ?_)
   clear q5
   rintro r H' m4 hm4 ⟨l4, rfl, rfl⟩
   simp only [go_sem, ↓tfi, ↓fti, ↓reduceIte]
   exact ⟨(leM_tr l1 (leM_tr l2 (leM_tr l3 l4))), ⟨6, [], zTy, zNd, x4, none, 0, 0, none, 0, 0⟩, .mk 6 [] zTy zE e4 [] [], (expSt ts en s4 [59]), rfl, mk_st ⟨by decide, by decide⟩ (Nat.zero_le _) tyOk_z z_rep (exRep_upM l4 hx4) (Nat.zero_le _) (Nnr _) (rds_none _ _) (stsRep_nil _ _) (Nat.zero_le _) (Nnr _) (rds_none _ _) (stsRep_nil _ _), rfl, (by rw [retK, if_neg (by rw [← isC_P]; exact hc2)]; exact (res_bnd hR4 (res_exp hR4.inv (res_pure _ hI5))))⟩
theorem throw_of (hT : TsB ts) (hI : Inv ts s) (hc0 : isC ts s.i throwW = true) (m : Mem) : FnH Tryz.prog 78 [.box 0 0] (pH ts en s) m (SRes ts en s.next (throwK (ts.drop (s.next).i)) m) := by
 have hi := isC_lt hc0
 have hI' := hI.next hi
 have hn : s.next.i = s.i + 1 := rfl
 refine enter cfN puN Tryz.func78 rfl rfl (by kernel_rfl) rfl ?_ ?_
 ·simp only [go_sem, ↓tfi, ↓fti, ↓reduceIte]
 ·simp only [go_sem, ↓tfi, ↓fti, ↓reduceIte]
  have q1 := fun m' => exp_t (en := en) hT hc0 m'
  refine cvl ((q1 m).mono ?_)
  clear q1
  rintro r H' m1 hm1 ⟨l1, rfl, rfl⟩
  simp only [go_sem, ↓tfi, ↓fti, ↓reduceIte]
  have q2 := fun m' => (show ∀ m' : Mem, FnH Tryz.prog 31 [.box 0 0, .v (.int .i64 0)] (pH ts en s.next) m' (ERes ts en s.next (exprK 0 (ts.drop (s.next).i)) m') from (exw hT hI').expr 0 (by decide)) m'
  refine cvl ((q2 m1).mono ?_)
  clear q2
  rintro r H' m2 hm2 ⟨l2, x2, e2, s2, rfl, hx2, rfl, hR2⟩
  simp only [go_sem, ↓tfi, ↓fti, ↓reduceIte]
  have hle2 := hR2.mono
  have q3 := fun m' => exp_spec ts en s2 [59] m' hT.l8
  have hI3 : Inv ts (expSt ts en s2 [59]) := inv_expSt hR2.inv
  have hle3 : (s2).i ≤ (expSt ts en s2 [59]).i := expSt_le hR2.inv
  refine cvl ((q3 m2).mono ?_)
  clear q3
  rintro r H' m3 hm3 ⟨l3, rfl, rfl⟩
  simp only [go_sem, ↓tfi, ↓fti, ↓reduceIte]
  exact ⟨(leM_tr l1 (leM_tr l2 l3)), ⟨7, [], zTy, zNd, x2, none, 0, 0, none, 0, 0⟩, .mk 7 [] zTy zE e2 [] [], (expSt ts en s2 [59]), rfl, mk_st ⟨by decide, by decide⟩ (Nat.zero_le _) tyOk_z z_rep (exRep_upM l3 hx2) (Nat.zero_le _) (Nnr _) (rds_none _ _) (stsRep_nil _ _) (Nat.zero_le _) (Nnr _) (rds_none _ _) (stsRep_nil _ _), rfl, (res_bnd hR2 (res_exp hR2.inv (res_pure _ hI3)))⟩
theorem try_of (hT : TsB ts) (hI : Inv ts s) (hc0 : isC ts s.i tryW = true) (hB : ∀ s1, Inv ts s1 → s.i < s1.i → BlockC ts en s1) (m : Mem) : FnH Tryz.prog 79 [.box 0 0] (pH ts en s) m (SRes ts en s.next (tryK (ts.drop (s.next).i)) m) := by
 have hi := isC_lt hc0
 have hI' := hI.next hi
 have hn : s.next.i = s.i + 1 := rfl
 refine enter cfN puN Tryz.func79 rfl rfl (by kernel_rfl) rfl ?_ ?_
 ·simp only [go_sem, ↓tfi, ↓fti, ↓reduceIte]
 ·simp only [go_sem, ↓tfi, ↓fti, ↓reduceIte]
  have q1 := fun m' => exp_t (en := en) hT hc0 m'
  refine cvl ((q1 m).mono ?_)
  clear q1
  rintro r H' m1 hm1 ⟨l1, rfl, rfl⟩
  simp only [go_sem, ↓tfi, ↓fti, ↓reduceIte]
  have q2 := hB s.next hI' (by omega)
  refine cvl ((q2 m1).mono ?_)
  clear q2
  rintro r H' m2 hm2 ⟨l2, bs2, a2, c2, xs2, s2, rfl, ha2, hb2, hc2, hd2, rfl, hR2⟩
  simp only [go_sem, ↓tfi, ↓fti, ↓reduceIte]
  have hle2 := hR2.mono
  have q3 := fun m' => exp_spec ts en s2 catchW m' hT.l8
  have hI3 : Inv ts (expSt ts en s2 catchW) := inv_expSt hR2.inv
  have hle3 : (s2).i ≤ (expSt ts en s2 catchW).i := expSt_le hR2.inv
  refine cvl ((q3 m2).mono ?_)
  clear q3
  rintro r H' m3 hm3 ⟨l3, rfl, rfl⟩
  simp only [go_sem, ↓tfi, ↓fti, ↓reduceIte]
  have q4 := fun m' => exp_spec ts en (expSt ts en s2 catchW) [40] m' hT.l8
  have hI4 : Inv ts (expSt ts en (expSt ts en s2 catchW) [40]) := inv_expSt hI3
  have hle4 : ((expSt ts en s2 catchW)).i ≤ (expSt ts en (expSt ts en s2 catchW) [40]).i := expSt_le hI3
  refine cvl ((q4 m3).mono ?_)
  clear q4
  rintro r H' m4 hm4 ⟨l4, rfl, rfl⟩
  simp only [go_sem, ↓tfi, ↓fti, ↓reduceIte]
  have q5 := fun m' => ptyp_spec ts en (expSt ts en (expSt ts en s2 catchW) [40]) m' hT hI4
  refine cvl ((q5 m4).mono ?_)
  clear q5
  rintro r H' m5 hm5 ⟨l5, t5, s5, rfl, ht5, hu5, rfl, hR5⟩
  simp only [go_sem, ↓tfi, ↓fti, ↓reduceIte]
  have hle5 := hR5.mono
  have q6 := fun m' => pid_spec ts en s5 m' hT hR5.inv
  refine cvl ((q6 m5).mono ?_)
  clear q6
  rintro r H' m6 hm6 ⟨l6, w6, s6, rfl, hw6, rfl, hR6⟩
  simp only [go_sem, ↓tfi, ↓fti, ↓reduceIte]
  have hle6 := hR6.mono
  have q7 := fun m' => exp_spec ts en s6 [41] m' hT.l8
  have hI7 : Inv ts (expSt ts en s6 [41]) := inv_expSt hR6.inv
  have hle7 : (s6).i ≤ (expSt ts en s6 [41]).i := expSt_le hR6.inv
  refine cvl ((q7 m6).mono ?_)
  clear q7
  rintro r H' m7 hm7 ⟨l7, rfl, rfl⟩
  simp only [go_sem, ↓tfi, ↓fti, ↓reduceIte]
  have q8 := hB (expSt ts en s6 [41]) hI7 (by omega)
  refine cvl ((q8 m7).mono ?_)
  clear q8
  rintro r H' m8 hm8 ⟨l8, bs8, a8, c8, xs8, s8, rfl, ha8, hb8, hc8, hd8, rfl, hR8⟩
  simp only [go_sem, ↓tfi, ↓fti, ↓reduceIte]
  have hle8 := hR8.mono
  exact ⟨(leM_tr l1 (leM_tr l2 (leM_tr l3 (leM_tr l4 (leM_tr l5 (leM_tr l6 (leM_tr l7 l8))))))), ⟨8, w6, t5, zNd, zNd, a2, bs2.length, c2, a8, bs8.length, c8⟩, .mk 8 w6 t5 zE zE bs2 bs8, s8, rfl, mk_st ⟨by decide, by decide⟩ hw6 ht5 z_rep z_rep hb2.2 ha2 (Rds_upM (leM_tr l3 (leM_tr l4 (leM_tr l5 (leM_tr l6 (leM_tr l7 l8))))) hc2) (sts_upM (leM_tr l3 (leM_tr l4 (leM_tr l5 (leM_tr l6 (leM_tr l7 l8))))) hd2) hb8.2 ha8 hc8 hd8, rfl, (res_bnd hR2 (res_exp hR2.inv (res_exp hI3 (res_bnd hR5 (res_bnd hR6 (res_exp hR6.inv (res_bnd hR8 (res_pure _ hR8.inv))))))))⟩
theorem nest_of (hT : TsB ts) (hI : Inv ts s) (hB0 : BlockC ts en s) (m : Mem) : FnH Tryz.prog 81 [.box 0 0] (pH ts en s) m (SRes ts en s (nestK (ts.drop (s).i)) m) := by
 refine enter cfN puN Tryz.func81 rfl rfl (by kernel_rfl) rfl ?_ ?_
 ·simp only [go_sem, ↓tfi, ↓fti, ↓reduceIte]
 ·simp only [go_sem, ↓tfi, ↓fti, ↓reduceIte]
  have q1 := hB0
  refine cvl ((q1 m).mono ?_)
  clear q1
  rintro r H' m1 hm1 ⟨l1, bs1, a1, c1, xs1, s1, rfl, ha1, hb1, hc1, hd1, rfl, hR1⟩
  simp only [go_sem, ↓tfi, ↓fti, ↓reduceIte]
  have hle1 := hR1.mono
  exact ⟨l1, ⟨10, [], zTy, zNd, zNd, a1, bs1.length, c1, none, 0, 0⟩, .mk 10 [] zTy zE zE bs1 [], s1, rfl, mk_st ⟨by decide, by decide⟩ (Nat.zero_le _) tyOk_z z_rep z_rep hb1.2 ha1 hc1 hd1 (Nat.zero_le _) (Nnr _) (rds_none _ _) (stsRep_nil _ _), rfl, (res_bnd hR1 (res_pure _ hR1.inv))⟩
theorem cons_of (hT : TsB ts) (hI : Inv ts s) (hc0 : isC ts s.i superW = true) (m : Mem) : FnH Tryz.prog 83 [.box 0 0] (pH ts en s) m (SRes ts en s.next (consK (ts.drop (s.next).i)) m) := by
 have hi := isC_lt hc0
 have hI' := hI.next hi
 have hn : s.next.i = s.i + 1 := rfl
 refine enter cfN puN Tryz.func83 rfl rfl (by kernel_rfl) rfl ?_ ?_
 ·simp only [go_sem, ↓tfi, ↓fti, ↓reduceIte]
 ·simp only [go_sem, ↓tfi, ↓fti, ↓reduceIte]
  have q1 := fun m' => exp_t (en := en) hT hc0 m'
  refine cvl ((q1 m).mono ?_)
  clear q1
  rintro r H' m1 hm1 ⟨l1, rfl, rfl⟩
  simp only [go_sem, ↓tfi, ↓fti, ↓reduceIte]
  have q2 := fun m' => (exw (en := en) hT hI').args m'
  refine cvl ((q2 m1).mono ?_)
  clear q2
  rintro r H' m2 hm2 ⟨l2, es2, a2, c2, xs2, s2, rfl, ha2, hb2, hc2, hd2, rfl, hR2⟩
  simp only [go_sem, ↓tfi, ↓fti, ↓reduceIte]
  have hle2 := hR2.mono
  have q3 := fun m' => exp_spec ts en s2 [59] m' hT.l8
  have hI3 : Inv ts (expSt ts en s2 [59]) := inv_expSt hR2.inv
  have hle3 : (s2).i ≤ (expSt ts en s2 [59]).i := expSt_le hR2.inv
  refine cvl ((q3 m2).mono ?_)
  clear q3
  rintro r H' m3 hm3 ⟨l3, rfl, rfl⟩
  simp only [go_sem, ↓tfi, ↓fti, ↓reduceIte]
  exact ⟨(leM_tr l1 (leM_tr l2 l3)), ⟨11, [], zTy, zNd, ⟨0, 0, [], [], zTy, a2, es2.length, c2⟩, none, 0, 0, none, 0, 0⟩, .mk 11 [] zTy zE (.mk 0 0 [] [] zTy es2) [] [], (expSt ts en s2 [59]), rfl, mk_st ⟨by decide, by decide⟩ (Nat.zero_le _) tyOk_z z_rep (mk_rep ⟨by decide, by decide⟩ ⟨by decide, by decide⟩ (Nat.zero_le _) (Nat.zero_le _) tyOk_z (Nat.le_succ_of_le hb2) ha2 (Rds_upM l3 hc2) (exs_upM l3 hd2)) (Nat.zero_le _) (Nnr _) (rds_none _ _) (stsRep_nil _ _) (Nat.zero_le _) (Nnr _) (rds_none _ _) (stsRep_nil _ _), rfl, (res_bnd hR2 (res_exp hR2.inv (res_pure _ hI3)))⟩
theorem decl_of (hT : TsB ts) (hI : Inv ts s) (m : Mem) : FnH Tryz.prog 85 [.box 0 0] (pH ts en s) m (SRes ts en s (declK (ts.drop (s).i)) m) := by
 refine enter cfN puN Tryz.func85 rfl rfl (by kernel_rfl) rfl ?_ ?_
 ·simp only [go_sem, ↓tfi, ↓fti, ↓reduceIte]
 ·simp only [go_sem, ↓tfi, ↓fti, ↓reduceIte]
  have q1 := fun m' => ptyp_spec ts en s m' hT hI
  refine cvl ((q1 m).mono ?_)
  clear q1
  rintro r H' m1 hm1 ⟨l1, t1, s1, rfl, ht1, hu1, rfl, hR1⟩
  simp only [go_sem, ↓tfi, ↓fti, ↓reduceIte]
  have hle1 := hR1.mono
  have q2 := fun m' => pid_spec ts en s1 m' hT hR1.inv
  refine cvl ((q2 m1).mono ?_)
  clear q2
  rintro r H' m2 hm2 ⟨l2, w2, s2, rfl, hw2, rfl, hR2⟩
  simp only [go_sem, ↓tfi, ↓fti, ↓reduceIte]
  have hle2 := hR2.mono
  have q3 := fun m' => exp_spec ts en s2 [61] m' hT.l8
  have hI3 : Inv ts (expSt ts en s2 [61]) := inv_expSt hR2.inv
  have hle3 : (s2).i ≤ (expSt ts en s2 [61]).i := expSt_le hR2.inv
  refine cvl ((q3 m2).mono ?_)
  clear q3
  rintro r H' m3 hm3 ⟨l3, rfl, rfl⟩
  simp only [go_sem, ↓tfi, ↓fti, ↓reduceIte]
  have q4 := fun m' => (show ∀ m' : Mem, FnH Tryz.prog 31 [.box 0 0, .v (.int .i64 0)] (pH ts en (expSt ts en s2 [61])) m' (ERes ts en (expSt ts en s2 [61]) (exprK 0 (ts.drop ((expSt ts en s2 [61])).i)) m') from (exw hT hI3).expr 0 (by decide)) m'
  refine cvl ((q4 m3).mono ?_)
  clear q4
  rintro r H' m4 hm4 ⟨l4, x4, e4, s4, rfl, hx4, rfl, hR4⟩
  simp only [go_sem, ↓tfi, ↓fti, ↓reduceIte]
  have hle4 := hR4.mono
  have q5 := fun m' => exp_spec ts en s4 [59] m' hT.l8
  have hI5 : Inv ts (expSt ts en s4 [59]) := inv_expSt hR4.inv
  have hle5 : (s4).i ≤ (expSt ts en s4 [59]).i := expSt_le hR4.inv
  refine cvl ((q5 m4).mono ?_)
  clear q5
  rintro r H' m5 hm5 ⟨l5, rfl, rfl⟩
  simp only [go_sem, ↓tfi, ↓fti, ↓reduceIte]
  exact ⟨(leM_tr l1 (leM_tr l2 (leM_tr l3 (leM_tr l4 l5)))), ⟨1, w2, t1, zNd, x4, none, 0, 0, none, 0, 0⟩, .mk 1 w2 t1 zE e4 [] [], (expSt ts en s4 [59]), rfl, mk_st ⟨by decide, by decide⟩ hw2 ht1 z_rep (exRep_upM l5 hx4) (Nat.zero_le _) (Nnr _) (rds_none _ _) (stsRep_nil _ _) (Nat.zero_le _) (Nnr _) (rds_none _ _) (stsRep_nil _ _), rfl, (res_bnd hR1 (res_bnd hR2 (res_exp hR2.inv (res_bnd hR4 (res_exp hR4.inv (res_pure _ hI5))))))⟩
theorem simp_of (hT : TsB ts) (hI : Inv ts s) (m : Mem) : FnH Tryz.prog 73 [.box 0 0] (pH ts en s) m (SRes ts en s (simpK (ts.drop (s).i)) m) := by
 refine enter cfN puN Tryz.func73 rfl rfl (by kernel_rfl) rfl ?_ ?_
 ·simp only [go_sem, ↓tfi, ↓fti, ↓reduceIte]
 ·simp only [go_sem, ↓tfi, ↓fti, ↓reduceIte]
  have q1 := fun m' => (show ∀ m' : Mem, FnH Tryz.prog 31 [.box 0 0, .v (.int .i64 0)] (pH ts en s) m' (ERes ts en s (exprK 0 (ts.drop (s).i)) m') from (exw hT hI).expr 0 (by decide)) m'
  refine cvl ((q1 m).mono ?_)
  clear q1
  rintro r H' m1 hm1 ⟨l1, x1, e1, s1, rfl, hx1, rfl, hR1⟩
  simp only [go_sem, ↓tfi, ↓fti, ↓reduceIte]
  have hle1 := hR1.mono
  by_cases hc2 : isC ts (s1).i [61] = true
  ·have q3 := fun m' => acc_t (en := en) hT hc2 m'
   refine cvl ((q3 m1).mono ?_)
   clear q3
   rintro r H' m2 hm2 ⟨l2, rfl, rfl⟩
   simp only [go_sem, ↓tfi, ↓fti, ↓reduceIte]
   have hI3 := hR1.inv.next (isC_lt hc2)
   have hle3 : (s1).next.i = (s1).i + 1 := rfl
   refine WP_draw (.hoist 0 (.hoist 1 (.hoist 2 (.alt 3 [1, 0] (.hoist 4 (.alt 5 [] .done .stop)) .stop)))) puN (by kernel_rfl) (by kernel_rfl) ?_
   simp only [go_sem, ↓tfi, ↓fti, ↓reduceIte]
   have q4 := fun m' => (show ∀ m' : Mem, FnH Tryz.prog 31 [.box 0 0, .v (.int .i64 0)] (pH ts en (s1).next) m' (ERes ts en (s1).next (exprK 0 (ts.drop ((s1).next).i)) m') from (exw hT hI3).expr 0 (by decide)) m'
   refine cvl ((q4 m2).mono ?_)
   clear q4
   rintro r H' m3 hm3 ⟨l3, x4, e4, s4, rfl, hx4, rfl, hR4⟩
   simp only [go_sem, ↓tfi, ↓fti, ↓reduceIte]
   have hle4 := hR4.mono
   try simp only [l3, true_and, and_self]
   have q5 := fun m' => exp_spec ts en s4 [59] m' hT.l8
   have hI5 : Inv ts (expSt ts en s4 [59]) := inv_expSt hR4.inv
   have hle5 : (s4).i ≤ (expSt ts en s4 [59]).i := expSt_le hR4.inv
   refine cvl ((q5 m3).mono ?_)
   clear q5
   rintro r H' m4 hm4 ⟨l4, rfl, rfl⟩
   simp only [go_sem, ↓tfi, ↓fti, ↓reduceIte]
   exact ⟨(leM_tr l1 (leM_tr l2 (leM_tr l3 l4))), ⟨2, [], zTy, x1, x4, none, 0, 0, none, 0, 0⟩, .mk 2 [] zTy e1 e4 [] [], (expSt ts en s4 [59]), rfl, mk_st ⟨by decide, by decide⟩ (Nat.zero_le _) tyOk_z (exRep_upM (leM_tr l2 (leM_tr l3 l4)) hx1) (exRep_upM l4 hx4) (Nat.zero_le _) (Nnr _) (rds_none _ _) (stsRep_nil _ _) (Nat.zero_le _) (Nnr _) (rds_none _ _) (stsRep_nil _ _), rfl, (res_bnd hR1 (by rw [if_pos (by rw [← isC_P]; exact hc2), ← drop_next]; exact res_next hR1.inv (isC_lt hc2) (res_bnd hR4 (res_exp hR4.inv (res_pure _ hI5)))))⟩
  ·have q3 := fun m' => acc_f (en := en) hT hc2 m'
   refine cvl ((q3 m1).mono ?_)
   clear q3
   rintro r H' m2 hm2 ⟨l2, rfl, rfl⟩
   simp only [go_sem, ↓tfi, ↓fti, ↓reduceIte]
   have q4 := fun m' => exp_spec ts en s1 [59] m' hT.l8
   have hI4 : Inv ts (expSt ts en s1 [59]) := inv_expSt hR1.inv
   have hle4 : (s1).i ≤ (expSt ts en s1 [59]).i := expSt_le hR1.inv
   refine cvl ((q4 m2).mono ?_)
   clear q4
   rintro r H' m3 hm3 ⟨l3, rfl, rfl⟩
   simp only [go_sem, ↓tfi, ↓fti, ↓reduceIte]
   exact ⟨(leM_tr l1 (leM_tr l2 l3)), ⟨3, [], zTy, zNd, x1, none, 0, 0, none, 0, 0⟩, .mk 3 [] zTy zE e1 [] [], (expSt ts en s1 [59]), rfl, mk_st ⟨by decide, by decide⟩ (Nat.zero_le _) tyOk_z z_rep (exRep_upM (leM_tr l2 l3) hx1) (Nat.zero_le _) (Nnr _) (rds_none _ _) (stsRep_nil _ _) (Nat.zero_le _) (Nnr _) (rds_none _ _) (stsRep_nil _ _), rfl, (res_bnd hR1 (by rw [if_neg (by rw [← isC_P]; exact hc2)]; exact (res_exp hR1.inv (res_pure _ hI4))))⟩
end
section
variable {ts : List Tk} {en : Int} {s : PSt}
theorem follows_spec (hT : TsB ts) (hI : Inv ts s) (w : List UInt8) (m : Mem) : FnH Tryz.prog 82 [.box 0 0, .v (.string (bs w))] (pH ts en s) m fun r H' m' => leM m m' ∧ r = .v (.bool (isP w (ts.drop s.i).tail)) ∧ H' = pH ts en s := by
 have hp := fun m' => pis_spec ts en s.next w m' hT.l8
 have hl := hT.len
 have hil := hI.le
 have e : isC ts s.next.i w = isP w (ts.drop s.i).tail := by rw [isC_P, drop_next]
 rw [e] at hp
 refine enter cfN puN Tryz.func82 rfl rfl (by kernel_rfl) rfl ?_ ?_
 ·simp only [go_sem, ↓tfi, ↓fti, ↓reduceIte]
 ·simp only [go_sem, ↓tfi, ↓fti, ↓reduceIte]
  refine ⟨by unfold I64; omega, ?_⟩
  refine cvl ((hp m).mono ?_)
  clear hp
  rintro r H' m1 hm1 ⟨l1, rfl, rfl⟩
  simp only [go_sem, ↓tfi, ↓fti, ↓reduceIte]
  exact l1
theorem declares_b (hT : TsB ts) (hI : Inv ts s) (b : Bool) (hb : declP (ts.drop s.i) = b) (m : Mem) : FnH Tryz.prog 84 [.box 0 0] (pH ts en s) m fun r H' m' => leM m m' ∧ r = .v (.bool b) ∧ H' = pH ts en s := by
 refine enter cfN puN Tryz.func84 rfl rfl (by kernel_rfl) rfl ?_ ?_
 ·simp only [go_sem, ↓tfi, ↓fti, ↓reduceIte]
 ·simp only [go_sem, ↓tfi, ↓fti, ↓reduceIte]
  by_cases h1 : isC ts s.i intS = true
  ·have ha := pis_t (en := en) hT h1
   have hf := fun m' => follows_spec (en := en) hT hI [40] m'
   have e : declP (ts.drop s.i) = !isP [40] (ts.drop s.i).tail := by rw [declP, if_pos]; rw [← isC_P, h1]; rfl
   refine cvl ((ha m).mono ?_)
   clear ha
   rintro r H' m1 hm1 ⟨l1, rfl, rfl⟩
   simp only [go_sem, ↓tfi, ↓fti, ↓reduceIte]
   refine cvl ((hf m1).mono ?_)
   clear hf
   rintro r H' m2 hm2 ⟨l2, rfl, rfl⟩
   simp only [go_sem, ↓tfi, ↓fti, ↓reduceIte]
   exact ⟨leM_tr l1 l2, by rw [← hb, e]⟩
  ·have ha := pis_f (en := en) hT h1
   refine cvl ((ha m).mono ?_)
   clear ha
   rintro r H' m1 hm1 ⟨l1, rfl, rfl⟩
   simp only [go_sem, ↓tfi, ↓fti, ↓reduceIte]
   by_cases h2 : isC ts s.i longS = true
   ·have ha := pis_t (en := en) hT h2
    have hf := fun m' => follows_spec (en := en) hT hI [40] m'
    have e : declP (ts.drop s.i) = !isP [40] (ts.drop s.i).tail := by rw [declP, if_pos]; rw [← isC_P, ← isC_P, h2, Bool.or_true]
    refine cvl ((ha m1).mono ?_)
    clear ha
    rintro r H' m2 hm2 ⟨l2, rfl, rfl⟩
    simp only [go_sem, ↓tfi, ↓fti, ↓reduceIte]
    refine cvl ((hf m2).mono ?_)
    clear hf
    rintro r H' m3 hm3 ⟨l3, rfl, rfl⟩
    simp only [go_sem, ↓tfi, ↓fti, ↓reduceIte]
    exact ⟨leM_tr l1 (leM_tr l2 l3), by rw [← hb, e]⟩
   ·have ha := pis_f (en := en) hT h2
    have e : declP (ts.drop s.i) = (isClsP (ts.drop s.i) && !isP [46] (ts.drop s.i).tail) := by rw [declP, if_neg]; rw [← isC_P, ← isC_P, Bool.or_eq_true]; rintro (h | h); exact h1 h; exact h2 h
    refine cvl ((ha m1).mono ?_)
    clear ha
    rintro r H' m2 hm2 ⟨l2, rfl, rfl⟩
    simp only [go_sem, ↓tfi, ↓fti, ↓reduceIte]
    by_cases h3 : isClsP (ts.drop s.i) = true
    ·have ha := isCl_t (en := en) hT h3
     have hf := fun m' => follows_spec (en := en) hT hI [46] m'
     refine cvl ((ha m2).mono ?_)
     clear ha
     rintro r H' m3 hm3 ⟨l3, rfl, rfl⟩
     simp only [go_sem, ↓tfi, ↓fti, ↓reduceIte]
     refine cvl ((hf m3).mono ?_)
     clear hf
     rintro r H' m4 hm4 ⟨l4, rfl, rfl⟩
     simp only [go_sem, ↓tfi, ↓fti, ↓reduceIte]
     exact ⟨leM_tr l1 (leM_tr l2 (leM_tr l3 l4)), by rw [← hb, e, h3]; rfl⟩
    ·have ha := isCl_f (en := en) hT h3
     refine cvl ((ha m2).mono ?_)
     clear ha
     rintro r H' m3 hm3 ⟨l3, rfl, rfl⟩
     simp only [go_sem, ↓tfi, ↓fti, ↓reduceIte]
     exact ⟨leM_tr l1 (leM_tr l2 l3), by rw [← hb, e, (by simpa using h3 : isClsP (ts.drop s.i) = false)]; rfl⟩
theorem declares_spec (hT : TsB ts) (hI : Inv ts s) (m : Mem) : FnH Tryz.prog 84 [.box 0 0] (pH ts en s) m fun r H' m' => leM m m' ∧ r = .v (.bool (declP (ts.drop s.i))) ∧ H' = pH ts en s := declares_b hT hI _ rfl m
theorem stmt_of (hT : TsB ts) (hI : Inv ts s) (hB0 : BlockC ts en s) (hB : ∀ s1, Inv ts s1 → s.i < s1.i → BlockC ts en s1) : StmtC ts en s := fun m => by
 refine enter cfN puN Tryz.func38 rfl rfl (by kernel_rfl) rfl ?_ ?_
 ·simp only [go_sem, ↓tfi, ↓fti, ↓reduceIte]
 ·simp only [go_sem, ↓tfi, ↓fti, ↓reduceIte]
  by_cases h0 : isC ts s.i ifW = true
  ·have ha := pis_t (en := en) hT h0
   have hb := if_of (en := en) hT hI h0 hB
   clear hB hB0
   refine cvl ((ha m).mono ?_)
   clear ha
   rintro r H' m1 hm1 ⟨l1, rfl, rfl⟩
   simp only [go_sem, ↓tfi, ↓fti, ↓reduceIte]
   refine cvl ((hb m1).mono ?_)
   clear hb
   rintro r H' m2 hm2 ⟨l2, x, e, s1, rfl, hx, rfl, hR⟩
   simp only [go_sem, ↓tfi, ↓fti, ↓reduceIte]
   exact ⟨(leM_tr l1 l2), x, e, s1, rfl, hx, rfl, by rw [stmtK_eq, if_pos (by rw [← isC_P]; exact h0), ← drop_next]; exact res_next hI (isC_lt h0) hR⟩
  ·have ha := pis_f (en := en) hT h0
   refine cvl ((ha m).mono ?_)
   clear ha
   rintro r H' m1 hm1 ⟨l1, rfl, rfl⟩
   simp only [go_sem, ↓tfi, ↓fti, ↓reduceIte]
   by_cases h1 : isC ts s.i whileW = true
   ·have ha := pis_t (en := en) hT h1
    have hb := while_of (en := en) hT hI h1 hB
    clear hB hB0
    refine cvl ((ha m1).mono ?_)
    clear ha
    rintro r H' m2 hm2 ⟨l2, rfl, rfl⟩
    simp only [go_sem, ↓tfi, ↓fti, ↓reduceIte]
    refine cvl ((hb m2).mono ?_)
    clear hb
    rintro r H' m3 hm3 ⟨l3, x, e, s1, rfl, hx, rfl, hR⟩
    simp only [go_sem, ↓tfi, ↓fti, ↓reduceIte]
    exact ⟨(leM_tr l1 (leM_tr l2 l3)), x, e, s1, rfl, hx, rfl, by rw [stmtK_eq, if_neg (by rw [← isC_P]; exact h0), if_pos (by rw [← isC_P]; exact h1), ← drop_next]; exact res_next hI (isC_lt h1) hR⟩
   ·have ha := pis_f (en := en) hT h1
    refine cvl ((ha m1).mono ?_)
    clear ha
    rintro r H' m2 hm2 ⟨l2, rfl, rfl⟩
    simp only [go_sem, ↓tfi, ↓fti, ↓reduceIte]
    by_cases h2 : isC ts s.i retW = true
    ·have ha := pis_t (en := en) hT h2
     have hb := ret_of (en := en) hT hI h2
     clear hB hB0
     refine cvl ((ha m2).mono ?_)
     clear ha
     rintro r H' m3 hm3 ⟨l3, rfl, rfl⟩
     simp only [go_sem, ↓tfi, ↓fti, ↓reduceIte]
     refine cvl ((hb m3).mono ?_)
     clear hb
     rintro r H' m4 hm4 ⟨l4, x, e, s1, rfl, hx, rfl, hR⟩
     simp only [go_sem, ↓tfi, ↓fti, ↓reduceIte]
     exact ⟨(leM_tr l1 (leM_tr l2 (leM_tr l3 l4))), x, e, s1, rfl, hx, rfl, by rw [stmtK_eq, if_neg (by rw [← isC_P]; exact h0), if_neg (by rw [← isC_P]; exact h1), if_pos (by rw [← isC_P]; exact h2), ← drop_next]; exact res_next hI (isC_lt h2) hR⟩
    ·have ha := pis_f (en := en) hT h2
     refine cvl ((ha m2).mono ?_)
     clear ha
     rintro r H' m3 hm3 ⟨l3, rfl, rfl⟩
     simp only [go_sem, ↓tfi, ↓fti, ↓reduceIte]
     by_cases h3 : isC ts s.i throwW = true
     ·have ha := pis_t (en := en) hT h3
      have hb := throw_of (en := en) hT hI h3
      clear hB hB0
      refine cvl ((ha m3).mono ?_)
      clear ha
      rintro r H' m4 hm4 ⟨l4, rfl, rfl⟩
      simp only [go_sem, ↓tfi, ↓fti, ↓reduceIte]
      refine cvl ((hb m4).mono ?_)
      clear hb
      rintro r H' m5 hm5 ⟨l5, x, e, s1, rfl, hx, rfl, hR⟩
      simp only [go_sem, ↓tfi, ↓fti, ↓reduceIte]
      exact ⟨(leM_tr l1 (leM_tr l2 (leM_tr l3 (leM_tr l4 l5)))), x, e, s1, rfl, hx, rfl, by rw [stmtK_eq, if_neg (by rw [← isC_P]; exact h0), if_neg (by rw [← isC_P]; exact h1), if_neg (by rw [← isC_P]; exact h2), if_pos (by rw [← isC_P]; exact h3), ← drop_next]; exact res_next hI (isC_lt h3) hR⟩
     ·have ha := pis_f (en := en) hT h3
      refine cvl ((ha m3).mono ?_)
      clear ha
      rintro r H' m4 hm4 ⟨l4, rfl, rfl⟩
      simp only [go_sem, ↓tfi, ↓fti, ↓reduceIte]
      by_cases h4 : isC ts s.i tryW = true
      ·have ha := pis_t (en := en) hT h4
       have hb := try_of (en := en) hT hI h4 hB
       clear hB hB0
       refine cvl ((ha m4).mono ?_)
       clear ha
       rintro r H' m5 hm5 ⟨l5, rfl, rfl⟩
       simp only [go_sem, ↓tfi, ↓fti, ↓reduceIte]
       refine cvl ((hb m5).mono ?_)
       clear hb
       rintro r H' m6 hm6 ⟨l6, x, e, s1, rfl, hx, rfl, hR⟩
       simp only [go_sem, ↓tfi, ↓fti, ↓reduceIte]
       exact ⟨(leM_tr l1 (leM_tr l2 (leM_tr l3 (leM_tr l4 (leM_tr l5 l6))))), x, e, s1, rfl, hx, rfl, by rw [stmtK_eq, if_neg (by rw [← isC_P]; exact h0), if_neg (by rw [← isC_P]; exact h1), if_neg (by rw [← isC_P]; exact h2), if_neg (by rw [← isC_P]; exact h3), if_pos (by rw [← isC_P]; exact h4), ← drop_next]; exact res_next hI (isC_lt h4) hR⟩
      ·have ha := pis_f (en := en) hT h4
       refine cvl ((ha m4).mono ?_)
       clear ha
       rintro r H' m5 hm5 ⟨l5, rfl, rfl⟩
       simp only [go_sem, ↓tfi, ↓fti, ↓reduceIte]
       by_cases h5 : isC ts s.i syncW = true
       ·have ha := pis_t (en := en) hT h5
        have hb := sync_of (en := en) hT hI h5 hB
        clear hB hB0
        refine cvl ((ha m5).mono ?_)
        clear ha
        rintro r H' m6 hm6 ⟨l6, rfl, rfl⟩
        simp only [go_sem, ↓tfi, ↓fti, ↓reduceIte]
        refine cvl ((hb m6).mono ?_)
        clear hb
        rintro r H' m7 hm7 ⟨l7, x, e, s1, rfl, hx, rfl, hR⟩
        simp only [go_sem, ↓tfi, ↓fti, ↓reduceIte]
        exact ⟨(leM_tr l1 (leM_tr l2 (leM_tr l3 (leM_tr l4 (leM_tr l5 (leM_tr l6 l7)))))), x, e, s1, rfl, hx, rfl, by rw [stmtK_eq, if_neg (by rw [← isC_P]; exact h0), if_neg (by rw [← isC_P]; exact h1), if_neg (by rw [← isC_P]; exact h2), if_neg (by rw [← isC_P]; exact h3), if_neg (by rw [← isC_P]; exact h4), if_pos (by rw [← isC_P]; exact h5), ← drop_next]; exact res_next hI (isC_lt h5) hR⟩
       ·have ha := pis_f (en := en) hT h5
        refine cvl ((ha m5).mono ?_)
        clear ha
        rintro r H' m6 hm6 ⟨l6, rfl, rfl⟩
        simp only [go_sem, ↓tfi, ↓fti, ↓reduceIte]
        by_cases h6 : isC ts s.i [123] = true
        ·have ha := pis_t (en := en) hT h6
         have hb := nest_of (en := en) hT hI hB0
         clear hB hB0
         refine cvl ((ha m6).mono ?_)
         clear ha
         rintro r H' m7 hm7 ⟨l7, rfl, rfl⟩
         simp only [go_sem, ↓tfi, ↓fti, ↓reduceIte]
         refine cvl ((hb m7).mono ?_)
         clear hb
         rintro r H' m8 hm8 ⟨l8, x, e, s1, rfl, hx, rfl, hR⟩
         simp only [go_sem, ↓tfi, ↓fti, ↓reduceIte]
         exact ⟨(leM_tr l1 (leM_tr l2 (leM_tr l3 (leM_tr l4 (leM_tr l5 (leM_tr l6 (leM_tr l7 l8))))))), x, e, s1, rfl, hx, rfl, by rw [stmtK_eq, if_neg (by rw [← isC_P]; exact h0), if_neg (by rw [← isC_P]; exact h1), if_neg (by rw [← isC_P]; exact h2), if_neg (by rw [← isC_P]; exact h3), if_neg (by rw [← isC_P]; exact h4), if_neg (by rw [← isC_P]; exact h5), if_pos (by rw [← isC_P]; exact h6)]; exact hR⟩
        ·have ha := pis_f (en := en) hT h6
         refine cvl ((ha m6).mono ?_)
         clear ha
         rintro r H' m7 hm7 ⟨l7, rfl, rfl⟩
         simp only [go_sem, ↓tfi, ↓fti, ↓reduceIte]
         by_cases h7 : isC ts s.i superW = true
         ·have ha := pis_t (en := en) hT h7
          have hf := fun m' => follows_spec (en := en) hT hI [40] m'
          refine cvl ((ha m7).mono ?_)
          clear ha
          rintro r H' m8 hm8 ⟨l8, rfl, rfl⟩
          simp only [go_sem, ↓tfi, ↓fti, ↓reduceIte]
          by_cases h8 : isP [40] (ts.drop s.i).tail = true
          ·rw [h8] at hf
           have hb := cons_of (en := en) hT hI h7
           clear hB hB0
           refine cvl ((hf m8).mono ?_)
           clear hf
           rintro r H' m9 hm9 ⟨l9, rfl, rfl⟩
           simp only [go_sem, ↓tfi, ↓fti, ↓reduceIte]
           refine cvl ((hb m9).mono ?_)
           clear hb
           rintro r H' m10 hm10 ⟨l10, x, e, s1, rfl, hx, rfl, hR⟩
           simp only [go_sem, ↓tfi, ↓fti, ↓reduceIte]
           exact ⟨(leM_tr l1 (leM_tr l2 (leM_tr l3 (leM_tr l4 (leM_tr l5 (leM_tr l6 (leM_tr l7 (leM_tr l8 (leM_tr l9 l10))))))))), x, e, s1, rfl, hx, rfl, by rw [stmtK_eq, if_neg (by rw [← isC_P]; exact h0), if_neg (by rw [← isC_P]; exact h1), if_neg (by rw [← isC_P]; exact h2), if_neg (by rw [← isC_P]; exact h3), if_neg (by rw [← isC_P]; exact h4), if_neg (by rw [← isC_P]; exact h5), if_neg (by rw [← isC_P]; exact h6), if_pos ⟨by rw [← isC_P]; exact h7, h8⟩, ← drop_next]; exact res_next hI (isC_lt h7) hR⟩
          ·rw [(by simpa using h8 : isP [40] (ts.drop s.i).tail = false)] at hf
           refine cvl ((hf m8).mono ?_)
           clear hf
           rintro r H' m9 hm9 ⟨l9, rfl, rfl⟩
           simp only [go_sem, ↓tfi, ↓fti, ↓reduceIte]
           have hd := fun m' => declares_spec (en := en) hT hI m'
           refine cvl ((hd m9).mono ?_)
           clear hd
           rintro r H' m10 hm10 ⟨l10, rfl, rfl⟩
           simp only [go_sem, ↓tfi, ↓fti, ↓reduceIte]
           refine ⟨fun h9 => ?_, fun h9 => ?_⟩
           ·have hb := decl_of (en := en) hT hI
            clear hB hB0
            refine cvl ((hb m10).mono ?_)
            clear hb
            rintro r H' m11 hm11 ⟨l11, x, e, s1, rfl, hx, rfl, hR⟩
            simp only [go_sem, ↓tfi, ↓fti, ↓reduceIte]
            exact ⟨(leM_tr l1 (leM_tr l2 (leM_tr l3 (leM_tr l4 (leM_tr l5 (leM_tr l6 (leM_tr l7 (leM_tr l8 (leM_tr l9 (leM_tr l10 l11)))))))))), x, e, s1, rfl, hx, rfl, by rw [stmtK_eq, if_neg (by rw [← isC_P]; exact h0), if_neg (by rw [← isC_P]; exact h1), if_neg (by rw [← isC_P]; exact h2), if_neg (by rw [← isC_P]; exact h3), if_neg (by rw [← isC_P]; exact h4), if_neg (by rw [← isC_P]; exact h5), if_neg (by rw [← isC_P]; exact h6), if_neg (fun q => h8 q.2), if_pos h9]; exact hR⟩
           ·have hb := simp_of (en := en) hT hI
            clear hB hB0
            refine cvl ((hb m10).mono ?_)
            clear hb
            rintro r H' m11 hm11 ⟨l11, x, e, s1, rfl, hx, rfl, hR⟩
            simp only [go_sem, ↓tfi, ↓fti, ↓reduceIte]
            exact ⟨(leM_tr l1 (leM_tr l2 (leM_tr l3 (leM_tr l4 (leM_tr l5 (leM_tr l6 (leM_tr l7 (leM_tr l8 (leM_tr l9 (leM_tr l10 l11)))))))))), x, e, s1, rfl, hx, rfl, by rw [stmtK_eq, if_neg (by rw [← isC_P]; exact h0), if_neg (by rw [← isC_P]; exact h1), if_neg (by rw [← isC_P]; exact h2), if_neg (by rw [← isC_P]; exact h3), if_neg (by rw [← isC_P]; exact h4), if_neg (by rw [← isC_P]; exact h5), if_neg (by rw [← isC_P]; exact h6), if_neg (fun q => h8 q.2), if_neg (by rw [h9]; decide)]; exact hR⟩
         ·have ha := pis_f (en := en) hT h7
          refine cvl ((ha m7).mono ?_)
          clear ha
          rintro r H' m8 hm8 ⟨l8, rfl, rfl⟩
          simp only [go_sem, ↓tfi, ↓fti, ↓reduceIte]
          have hd := fun m' => declares_spec (en := en) hT hI m'
          refine cvl ((hd m8).mono ?_)
          clear hd
          rintro r H' m9 hm9 ⟨l9, rfl, rfl⟩
          simp only [go_sem, ↓tfi, ↓fti, ↓reduceIte]
          refine ⟨fun h9 => ?_, fun h9 => ?_⟩
          ·have hb := decl_of (en := en) hT hI
           clear hB hB0
           refine cvl ((hb m9).mono ?_)
           clear hb
           rintro r H' m10 hm10 ⟨l10, x, e, s1, rfl, hx, rfl, hR⟩
           simp only [go_sem, ↓tfi, ↓fti, ↓reduceIte]
           exact ⟨(leM_tr l1 (leM_tr l2 (leM_tr l3 (leM_tr l4 (leM_tr l5 (leM_tr l6 (leM_tr l7 (leM_tr l8 (leM_tr l9 l10))))))))), x, e, s1, rfl, hx, rfl, by rw [stmtK_eq, if_neg (by rw [← isC_P]; exact h0), if_neg (by rw [← isC_P]; exact h1), if_neg (by rw [← isC_P]; exact h2), if_neg (by rw [← isC_P]; exact h3), if_neg (by rw [← isC_P]; exact h4), if_neg (by rw [← isC_P]; exact h5), if_neg (by rw [← isC_P]; exact h6), if_neg (fun q => h7 (by rw [isC_P]; exact q.1)), if_pos h9]; exact hR⟩
          ·have hb := simp_of (en := en) hT hI
           clear hB hB0
           refine cvl ((hb m9).mono ?_)
           clear hb
           rintro r H' m10 hm10 ⟨l10, x, e, s1, rfl, hx, rfl, hR⟩
           simp only [go_sem, ↓tfi, ↓fti, ↓reduceIte]
           exact ⟨(leM_tr l1 (leM_tr l2 (leM_tr l3 (leM_tr l4 (leM_tr l5 (leM_tr l6 (leM_tr l7 (leM_tr l8 (leM_tr l9 l10))))))))), x, e, s1, rfl, hx, rfl, by rw [stmtK_eq, if_neg (by rw [← isC_P]; exact h0), if_neg (by rw [← isC_P]; exact h1), if_neg (by rw [← isC_P]; exact h2), if_neg (by rw [← isC_P]; exact h3), if_neg (by rw [← isC_P]; exact h4), if_neg (by rw [← isC_P]; exact h5), if_neg (by rw [← isC_P]; exact h6), if_neg (fun q => h7 (by rw [isC_P]; exact q.1)), if_neg (by rw [h9]; decide)]; exact hR⟩
end
theorem stw_all {ts : List Tk} {en : Int} (hT : TsB ts) : ∀ (L : Nat) (s : PSt), Inv ts s → ts.length - s.i < L → StmtC ts en s ∧ BlockC ts en s
 | 0, s, _, h => absurd h (Nat.not_lt_zero _)
 | L + 1, s, hI, h => by
  have later : ∀ s1, Inv ts s1 → s.i < s1.i → StmtC ts en s1 ∧ BlockC ts en s1 := fun s1 h1 h2 => stw_all hT L s1 h1 (by have := h1.le; omega)
  have hb : BlockC ts en s := block_of hT hI fun s1 h1 h2 => (later s1 h1 h2).1
  exact ⟨stmt_of hT hI hb fun s1 h1 h2 => (later s1 h1 h2).2, hb⟩
theorem stw {ts : List Tk} {en : Int} {s : PSt} (hT : TsB ts) (hI : Inv ts s) : StmtC ts en s := (stw_all hT _ s hI (Nat.lt_succ_self _)).1
theorem blw {ts : List Tk} {en : Int} {s : PSt} (hT : TsB ts) (hI : Inv ts s) : BlockC ts en s := (stw_all hT _ s hI (Nat.lt_succ_self _)).2
theorem or_1 : ∀ fl : Int, 0 ≤ fl → fl < 1 → bits .or .i64 fl 1 = fl + 1 := fun fl h0 h1 => by
 have h : (List.range 1).all (fun n => decide (bits .or .i64 (n : Int) 1 = (n : Int) + 1)) = true := by kernel_rfl
 obtain ⟨k, rfl⟩ := Int.eq_ofNat_of_zero_le h0
 exact of_decide_eq_true (List.all_eq_true.1 h k (List.mem_range.2 (by omega)))
theorem or_2 : ∀ fl : Int, 0 ≤ fl → fl < 2 → bits .or .i64 fl 2 = fl + 2 := fun fl h0 h1 => by
 have h : (List.range 2).all (fun n => decide (bits .or .i64 (n : Int) 2 = (n : Int) + 2)) = true := by kernel_rfl
 obtain ⟨k, rfl⟩ := Int.eq_ofNat_of_zero_le h0
 exact of_decide_eq_true (List.all_eq_true.1 h k (List.mem_range.2 (by omega)))
theorem or_4 : ∀ fl : Int, 0 ≤ fl → fl < 4 → bits .or .i64 fl 4 = fl + 4 := fun fl h0 h1 => by
 have h : (List.range 4).all (fun n => decide (bits .or .i64 (n : Int) 4 = (n : Int) + 4)) = true := by kernel_rfl
 obtain ⟨k, rfl⟩ := Int.eq_ofNat_of_zero_le h0
 exact of_decide_eq_true (List.all_eq_true.1 h k (List.mem_range.2 (by omega)))
theorem or_8 : ∀ fl : Int, 0 ≤ fl → fl < 8 → bits .or .i64 fl 8 = fl + 8 := fun fl h0 h1 => by
 have h : (List.range 8).all (fun n => decide (bits .or .i64 (n : Int) 8 = (n : Int) + 8)) = true := by kernel_rfl
 obtain ⟨k, rfl⟩ := Int.eq_ofNat_of_zero_le h0
 exact of_decide_eq_true (List.all_eq_true.1 h k (List.mem_range.2 (by omega)))
theorem or_16 : ∀ fl : Int, 0 ≤ fl → fl < 16 → bits .or .i64 fl 16 = fl + 16 := fun fl h0 h1 => by
 have h : (List.range 16).all (fun n => decide (bits .or .i64 (n : Int) 16 = (n : Int) + 16)) = true := by kernel_rfl
 obtain ⟨k, rfl⟩ := Int.eq_ofNat_of_zero_le h0
 exact of_decide_eq_true (List.all_eq_true.1 h k (List.mem_range.2 (by omega)))
theorem or_32 : ∀ fl : Int, 0 ≤ fl → fl < 32 → bits .or .i64 fl 32 = fl + 32 := fun fl h0 h1 => by
 have h : (List.range 32).all (fun n => decide (bits .or .i64 (n : Int) 32 = (n : Int) + 32)) = true := by kernel_rfl
 obtain ⟨k, rfl⟩ := Int.eq_ofNat_of_zero_le h0
 exact of_decide_eq_true (List.all_eq_true.1 h k (List.mem_range.2 (by omega)))
theorem or_1024 : ∀ fl : Int, 0 ≤ fl → fl < 64 → bits .or .i64 fl 1024 = fl + 1024 := fun fl h0 h1 => by
 have h : (List.range 64).all (fun n => decide (bits .or .i64 (n : Int) 1024 = (n : Int) + 1024)) = true := by kernel_rfl
 obtain ⟨k, rfl⟩ := Int.eq_ofNat_of_zero_le h0
 exact of_decide_eq_true (List.all_eq_true.1 h k (List.mem_range.2 (by omega)))
theorem elLInt : elT Tryz.prog 155 = some 3 := by kernel_rfl
theorem zeroInt : zeroO Tryz.prog 3 = some [.v (.int .i64 0)] := by kernel_rfl
attribute [go_sem] elLInt zeroInt
theorem modsP_cons (p : Int × List UInt8) (q : List (Int × List UInt8)) (fl : Int) (l : List Tk) : modsP (p :: q) fl l = if isP p.2 l = true then modsP q (fl + p.1) l.tail else modsP q fl l := rfl
structure ModR (ts : List Tk) (q : List (Int × List UInt8)) (fl0 : Int) (s : PSt) (v : Int) (s' : PSt) : Prop where
 inv : Inv ts s'
 mono : s.i ≤ s'.i
 fl : s'.fl = s.fl
 same : s.fl = true → s' = s
 val : modsP q fl0 (ts.drop s.i) = (v, ts.drop s'.i)
section
variable {ts : List Tk} {en : Int} {s : PSt}
theorem modifiers_spec (hT : TsB ts) (hI : Inv ts s) (m : Mem) : FnH Tryz.prog 127 [.box 0 0] (pH ts en s) m fun r H' m' => leM m m' ∧ ∃ fl s', r = .v (.int .i64 fl) ∧ (0 ≤ fl ∧ fl < 2048) ∧ H' = pH ts en s' ∧ ModR ts modsL 0 s fl s' := by
 refine enter cfN puN Tryz.func127 rfl rfl (by kernel_rfl) rfl ?_ ?_
 ·simp only [go_sem, ↓tfi, ↓fti, ↓reduceIte]
 ·simp only [go_sem, ↓tfi, ↓fti, ↓reduceIte]
  refine WP_loop puN (fun y : Nat × PSt × Int × Mem => ⟨[⟨0, [], .box 0 0⟩, ⟨3, [], .v (.int .i64 y.2.2.1)⟩, ⟨6, [], .vec 2 0⟩, ⟨7, [], .v (.int .i64 7)⟩, ⟨8, [], .v (.int .i64 y.1)⟩], [], [prB en y.2.1], [⟨2, 0, 9, 1, 7, [.string (bs [112, 117, 98, 108, 105, 99]), .string (bs [112, 114, 105, 118, 97, 116, 101]), .string (bs [112, 114, 111, 116, 101, 99, 116, 101, 100]), .string (bs [115, 116, 97, 116, 105, 99]), .string (bs [102, 105, 110, 97, 108]), .string (bs [115, 121, 110, 99]), .string (bs [97, 98, 115, 116, 114, 97, 99, 116])]⟩, tkV ts], 40, y.2.2.2⟩)
   (fun y => leM m y.2.2.2 ∧ y.1 ≤ 7 ∧ Inv ts y.2.1 ∧ s.i ≤ y.2.1.i ∧ y.2.1.fl = s.fl ∧ (s.fl = true → y.2.1 = s) ∧ (0 ≤ y.2.2.1 ∧ y.2.2.1 < 2048 ∧ (y.1 ≤ 6 → y.2.2.1 < 2 ^ y.1)) ∧ modsP (modsL.drop y.1) y.2.2.1 (ts.drop y.2.1.i) = modsP modsL 0 (ts.drop s.i))
   (fun y => 7 - y.1) (0, s, 0, m) (by kernel_rfl) (fun _ _ => nbl rfl) (fun y hy => hy.1) (fun _ => ?_) ?_ ?_ ?_
  ·simp only [go_sem, ↓tfi, ↓fti, ↓reduceIte]
  ·simp only [go_sem, ↓tfi, ↓fti, ↓reduceIte]
   exact ⟨rfl, rfl⟩
  ·exact ⟨.inl rfl, Nat.zero_le _, hI, Nnr _, rfl, fun _ => rfl, ⟨by dsimp only; omega, by dsimp only; omega, fun _ => by dsimp only; omega⟩, rfl⟩
  ·rintro ⟨i, s1, fl, m1⟩ ⟨q1, q2, q3, q4, q5, q6, ⟨q7, q8, q9⟩, q10⟩
   dsimp only at q1 q2 q3 q4 q5 q6 q7 q8 q9 q10
   have hs : i = 0 ∨ i = 1 ∨ i = 2 ∨ i = 3 ∨ i = 4 ∨ i = 5 ∨ i = 6 ∨ i = 7 := by omega
   rcases hs with rfl | rfl | rfl | rfl | rfl | rfl | rfl | rfl
   ·have hfl : fl < 1 := q9 (by decide)
    have hor := or_1 fl q7 hfl
    by_cases hc : isC ts s1.i [112, 117, 98, 108, 105, 99] = true
    ·have ha := acc_t (en := en) hT hc
     have hi := isC_lt hc
     simp only [go_sem, ↓tfi, ↓fti, ↓reduceIte]
     refine ⟨fun _ => ⟨⟨by decide, by decide⟩, by kernel_rfl, FnV_of ((ha m1).mono ?_)⟩, fun h => absurd (by decide) h⟩
     clear ha
     rintro r H' m2 hm2 ⟨l2, rfl, rfl⟩
     simp only [go_sem, ↓tfi, ↓fti, ↓reduceIte, hor]
     refine ⟨⟨by decide, by decide⟩, ⟨by decide, by decide⟩, (1, s1.next, fl + 1, m2), ⟨⟨rfl, rfl⟩, ⟨rfl, rfl, rfl⟩, .inl rfl⟩, ⟨leM_tr q1 l2, (by decide : 1 ≤ 7), q3.next hi, Nat.le_succ_of_le q4, q5, fun h => ?_, ⟨by dsimp only; omega, by dsimp only; omega, fun h => ?_⟩, ?_⟩, (by decide : 7 - 1 < 7 - 0)⟩
     ·have h1 := q3.nfl hi
      rw [q5, h] at h1
      cases h1
     ·first | (exact absurd h (by decide : ¬ 7 ≤ 6)) | (dsimp only; omega)
     ·rw [show modsL.drop 0 = (1, [112, 117, 98, 108, 105, 99]) :: modsL.drop 1 from rfl, modsP_cons, if_pos (by rw [← isC_P]; exact hc), ← drop_next] at q10
      exact q10
    ·have ha := acc_f (en := en) hT hc
     simp only [go_sem, ↓tfi, ↓fti, ↓reduceIte]
     refine ⟨fun _ => ⟨⟨by decide, by decide⟩, by kernel_rfl, FnV_of ((ha m1).mono ?_)⟩, fun h => absurd (by decide) h⟩
     clear ha
     rintro r H' m2 hm2 ⟨l2, rfl, rfl⟩
     simp only [go_sem, ↓tfi, ↓fti, ↓reduceIte]
     refine ⟨⟨by decide, by decide⟩, (1, s1, fl, m2), ⟨⟨rfl, rfl⟩, ⟨rfl, rfl, rfl⟩, .inl rfl⟩, ⟨leM_tr q1 l2, (by decide : 1 ≤ 7), q3, q4, q5, q6, ⟨q7, q8, fun h => ?_⟩, ?_⟩, (by decide : 7 - 1 < 7 - 0)⟩
     ·first | (exact absurd h (by decide : ¬ 7 ≤ 6)) | (dsimp only; omega)
     ·rw [show modsL.drop 0 = (1, [112, 117, 98, 108, 105, 99]) :: modsL.drop 1 from rfl, modsP_cons, if_neg (by rw [← isC_P]; exact hc)] at q10
      exact q10
   ·have hfl : fl < 2 := q9 (by decide)
    have hor := or_2 fl q7 hfl
    by_cases hc : isC ts s1.i [112, 114, 105, 118, 97, 116, 101] = true
    ·have ha := acc_t (en := en) hT hc
     have hi := isC_lt hc
     simp only [go_sem, ↓tfi, ↓fti, ↓reduceIte]
     refine ⟨fun _ => ⟨⟨by decide, by decide⟩, by kernel_rfl, FnV_of ((ha m1).mono ?_)⟩, fun h => absurd (by decide) h⟩
     clear ha
     rintro r H' m2 hm2 ⟨l2, rfl, rfl⟩
     simp only [go_sem, ↓tfi, ↓fti, ↓reduceIte, hor]
     refine ⟨⟨by decide, by decide⟩, ⟨by decide, by decide⟩, (2, s1.next, fl + 2, m2), ⟨⟨rfl, rfl⟩, ⟨rfl, rfl, rfl⟩, .inl rfl⟩, ⟨leM_tr q1 l2, (by decide : 2 ≤ 7), q3.next hi, Nat.le_succ_of_le q4, q5, fun h => ?_, ⟨by dsimp only; omega, by dsimp only; omega, fun h => ?_⟩, ?_⟩, (by decide : 7 - 2 < 7 - 1)⟩
     ·have h1 := q3.nfl hi
      rw [q5, h] at h1
      cases h1
     ·first | (exact absurd h (by decide : ¬ 7 ≤ 6)) | (dsimp only; omega)
     ·rw [show modsL.drop 1 = (2, [112, 114, 105, 118, 97, 116, 101]) :: modsL.drop 2 from rfl, modsP_cons, if_pos (by rw [← isC_P]; exact hc), ← drop_next] at q10
      exact q10
    ·have ha := acc_f (en := en) hT hc
     simp only [go_sem, ↓tfi, ↓fti, ↓reduceIte]
     refine ⟨fun _ => ⟨⟨by decide, by decide⟩, by kernel_rfl, FnV_of ((ha m1).mono ?_)⟩, fun h => absurd (by decide) h⟩
     clear ha
     rintro r H' m2 hm2 ⟨l2, rfl, rfl⟩
     simp only [go_sem, ↓tfi, ↓fti, ↓reduceIte]
     refine ⟨⟨by decide, by decide⟩, (2, s1, fl, m2), ⟨⟨rfl, rfl⟩, ⟨rfl, rfl, rfl⟩, .inl rfl⟩, ⟨leM_tr q1 l2, (by decide : 2 ≤ 7), q3, q4, q5, q6, ⟨q7, q8, fun h => ?_⟩, ?_⟩, (by decide : 7 - 2 < 7 - 1)⟩
     ·first | (exact absurd h (by decide : ¬ 7 ≤ 6)) | (dsimp only; omega)
     ·rw [show modsL.drop 1 = (2, [112, 114, 105, 118, 97, 116, 101]) :: modsL.drop 2 from rfl, modsP_cons, if_neg (by rw [← isC_P]; exact hc)] at q10
      exact q10
   ·have hfl : fl < 4 := q9 (by decide)
    have hor := or_4 fl q7 hfl
    by_cases hc : isC ts s1.i [112, 114, 111, 116, 101, 99, 116, 101, 100] = true
    ·have ha := acc_t (en := en) hT hc
     have hi := isC_lt hc
     simp only [go_sem, ↓tfi, ↓fti, ↓reduceIte]
     refine ⟨fun _ => ⟨⟨by decide, by decide⟩, by kernel_rfl, FnV_of ((ha m1).mono ?_)⟩, fun h => absurd (by decide) h⟩
     clear ha
     rintro r H' m2 hm2 ⟨l2, rfl, rfl⟩
     simp only [go_sem, ↓tfi, ↓fti, ↓reduceIte, hor]
     refine ⟨⟨by decide, by decide⟩, ⟨by decide, by decide⟩, (3, s1.next, fl + 4, m2), ⟨⟨rfl, rfl⟩, ⟨rfl, rfl, rfl⟩, .inl rfl⟩, ⟨leM_tr q1 l2, (by decide : 3 ≤ 7), q3.next hi, Nat.le_succ_of_le q4, q5, fun h => ?_, ⟨by dsimp only; omega, by dsimp only; omega, fun h => ?_⟩, ?_⟩, (by decide : 7 - 3 < 7 - 2)⟩
     ·have h1 := q3.nfl hi
      rw [q5, h] at h1
      cases h1
     ·first | (exact absurd h (by decide : ¬ 7 ≤ 6)) | (dsimp only; omega)
     ·rw [show modsL.drop 2 = (4, [112, 114, 111, 116, 101, 99, 116, 101, 100]) :: modsL.drop 3 from rfl, modsP_cons, if_pos (by rw [← isC_P]; exact hc), ← drop_next] at q10
      exact q10
    ·have ha := acc_f (en := en) hT hc
     simp only [go_sem, ↓tfi, ↓fti, ↓reduceIte]
     refine ⟨fun _ => ⟨⟨by decide, by decide⟩, by kernel_rfl, FnV_of ((ha m1).mono ?_)⟩, fun h => absurd (by decide) h⟩
     clear ha
     rintro r H' m2 hm2 ⟨l2, rfl, rfl⟩
     simp only [go_sem, ↓tfi, ↓fti, ↓reduceIte]
     refine ⟨⟨by decide, by decide⟩, (3, s1, fl, m2), ⟨⟨rfl, rfl⟩, ⟨rfl, rfl, rfl⟩, .inl rfl⟩, ⟨leM_tr q1 l2, (by decide : 3 ≤ 7), q3, q4, q5, q6, ⟨q7, q8, fun h => ?_⟩, ?_⟩, (by decide : 7 - 3 < 7 - 2)⟩
     ·first | (exact absurd h (by decide : ¬ 7 ≤ 6)) | (dsimp only; omega)
     ·rw [show modsL.drop 2 = (4, [112, 114, 111, 116, 101, 99, 116, 101, 100]) :: modsL.drop 3 from rfl, modsP_cons, if_neg (by rw [← isC_P]; exact hc)] at q10
      exact q10
   ·have hfl : fl < 8 := q9 (by decide)
    have hor := or_8 fl q7 hfl
    by_cases hc : isC ts s1.i [115, 116, 97, 116, 105, 99] = true
    ·have ha := acc_t (en := en) hT hc
     have hi := isC_lt hc
     simp only [go_sem, ↓tfi, ↓fti, ↓reduceIte]
     refine ⟨fun _ => ⟨⟨by decide, by decide⟩, by kernel_rfl, FnV_of ((ha m1).mono ?_)⟩, fun h => absurd (by decide) h⟩
     clear ha
     rintro r H' m2 hm2 ⟨l2, rfl, rfl⟩
     simp only [go_sem, ↓tfi, ↓fti, ↓reduceIte, hor]
     refine ⟨⟨by decide, by decide⟩, ⟨by decide, by decide⟩, (4, s1.next, fl + 8, m2), ⟨⟨rfl, rfl⟩, ⟨rfl, rfl, rfl⟩, .inl rfl⟩, ⟨leM_tr q1 l2, (by decide : 4 ≤ 7), q3.next hi, Nat.le_succ_of_le q4, q5, fun h => ?_, ⟨by dsimp only; omega, by dsimp only; omega, fun h => ?_⟩, ?_⟩, (by decide : 7 - 4 < 7 - 3)⟩
     ·have h1 := q3.nfl hi
      rw [q5, h] at h1
      cases h1
     ·first | (exact absurd h (by decide : ¬ 7 ≤ 6)) | (dsimp only; omega)
     ·rw [show modsL.drop 3 = (8, [115, 116, 97, 116, 105, 99]) :: modsL.drop 4 from rfl, modsP_cons, if_pos (by rw [← isC_P]; exact hc), ← drop_next] at q10
      exact q10
    ·have ha := acc_f (en := en) hT hc
     simp only [go_sem, ↓tfi, ↓fti, ↓reduceIte]
     refine ⟨fun _ => ⟨⟨by decide, by decide⟩, by kernel_rfl, FnV_of ((ha m1).mono ?_)⟩, fun h => absurd (by decide) h⟩
     clear ha
     rintro r H' m2 hm2 ⟨l2, rfl, rfl⟩
     simp only [go_sem, ↓tfi, ↓fti, ↓reduceIte]
     refine ⟨⟨by decide, by decide⟩, (4, s1, fl, m2), ⟨⟨rfl, rfl⟩, ⟨rfl, rfl, rfl⟩, .inl rfl⟩, ⟨leM_tr q1 l2, (by decide : 4 ≤ 7), q3, q4, q5, q6, ⟨q7, q8, fun h => ?_⟩, ?_⟩, (by decide : 7 - 4 < 7 - 3)⟩
     ·first | (exact absurd h (by decide : ¬ 7 ≤ 6)) | (dsimp only; omega)
     ·rw [show modsL.drop 3 = (8, [115, 116, 97, 116, 105, 99]) :: modsL.drop 4 from rfl, modsP_cons, if_neg (by rw [← isC_P]; exact hc)] at q10
      exact q10
   ·have hfl : fl < 16 := q9 (by decide)
    have hor := or_16 fl q7 hfl
    by_cases hc : isC ts s1.i [102, 105, 110, 97, 108] = true
    ·have ha := acc_t (en := en) hT hc
     have hi := isC_lt hc
     simp only [go_sem, ↓tfi, ↓fti, ↓reduceIte]
     refine ⟨fun _ => ⟨⟨by decide, by decide⟩, by kernel_rfl, FnV_of ((ha m1).mono ?_)⟩, fun h => absurd (by decide) h⟩
     clear ha
     rintro r H' m2 hm2 ⟨l2, rfl, rfl⟩
     simp only [go_sem, ↓tfi, ↓fti, ↓reduceIte, hor]
     refine ⟨⟨by decide, by decide⟩, ⟨by decide, by decide⟩, (5, s1.next, fl + 16, m2), ⟨⟨rfl, rfl⟩, ⟨rfl, rfl, rfl⟩, .inl rfl⟩, ⟨leM_tr q1 l2, (by decide : 5 ≤ 7), q3.next hi, Nat.le_succ_of_le q4, q5, fun h => ?_, ⟨by dsimp only; omega, by dsimp only; omega, fun h => ?_⟩, ?_⟩, (by decide : 7 - 5 < 7 - 4)⟩
     ·have h1 := q3.nfl hi
      rw [q5, h] at h1
      cases h1
     ·first | (exact absurd h (by decide : ¬ 7 ≤ 6)) | (dsimp only; omega)
     ·rw [show modsL.drop 4 = (16, [102, 105, 110, 97, 108]) :: modsL.drop 5 from rfl, modsP_cons, if_pos (by rw [← isC_P]; exact hc), ← drop_next] at q10
      exact q10
    ·have ha := acc_f (en := en) hT hc
     simp only [go_sem, ↓tfi, ↓fti, ↓reduceIte]
     refine ⟨fun _ => ⟨⟨by decide, by decide⟩, by kernel_rfl, FnV_of ((ha m1).mono ?_)⟩, fun h => absurd (by decide) h⟩
     clear ha
     rintro r H' m2 hm2 ⟨l2, rfl, rfl⟩
     simp only [go_sem, ↓tfi, ↓fti, ↓reduceIte]
     refine ⟨⟨by decide, by decide⟩, (5, s1, fl, m2), ⟨⟨rfl, rfl⟩, ⟨rfl, rfl, rfl⟩, .inl rfl⟩, ⟨leM_tr q1 l2, (by decide : 5 ≤ 7), q3, q4, q5, q6, ⟨q7, q8, fun h => ?_⟩, ?_⟩, (by decide : 7 - 5 < 7 - 4)⟩
     ·first | (exact absurd h (by decide : ¬ 7 ≤ 6)) | (dsimp only; omega)
     ·rw [show modsL.drop 4 = (16, [102, 105, 110, 97, 108]) :: modsL.drop 5 from rfl, modsP_cons, if_neg (by rw [← isC_P]; exact hc)] at q10
      exact q10
   ·have hfl : fl < 32 := q9 (by decide)
    have hor := or_32 fl q7 hfl
    by_cases hc : isC ts s1.i [115, 121, 110, 99] = true
    ·have ha := acc_t (en := en) hT hc
     have hi := isC_lt hc
     simp only [go_sem, ↓tfi, ↓fti, ↓reduceIte]
     refine ⟨fun _ => ⟨⟨by decide, by decide⟩, by kernel_rfl, FnV_of ((ha m1).mono ?_)⟩, fun h => absurd (by decide) h⟩
     clear ha
     rintro r H' m2 hm2 ⟨l2, rfl, rfl⟩
     simp only [go_sem, ↓tfi, ↓fti, ↓reduceIte, hor]
     refine ⟨⟨by decide, by decide⟩, ⟨by decide, by decide⟩, (6, s1.next, fl + 32, m2), ⟨⟨rfl, rfl⟩, ⟨rfl, rfl, rfl⟩, .inl rfl⟩, ⟨leM_tr q1 l2, (by decide : 6 ≤ 7), q3.next hi, Nat.le_succ_of_le q4, q5, fun h => ?_, ⟨by dsimp only; omega, by dsimp only; omega, fun h => ?_⟩, ?_⟩, (by decide : 7 - 6 < 7 - 5)⟩
     ·have h1 := q3.nfl hi
      rw [q5, h] at h1
      cases h1
     ·first | (exact absurd h (by decide : ¬ 7 ≤ 6)) | (dsimp only; omega)
     ·rw [show modsL.drop 5 = (32, [115, 121, 110, 99]) :: modsL.drop 6 from rfl, modsP_cons, if_pos (by rw [← isC_P]; exact hc), ← drop_next] at q10
      exact q10
    ·have ha := acc_f (en := en) hT hc
     simp only [go_sem, ↓tfi, ↓fti, ↓reduceIte]
     refine ⟨fun _ => ⟨⟨by decide, by decide⟩, by kernel_rfl, FnV_of ((ha m1).mono ?_)⟩, fun h => absurd (by decide) h⟩
     clear ha
     rintro r H' m2 hm2 ⟨l2, rfl, rfl⟩
     simp only [go_sem, ↓tfi, ↓fti, ↓reduceIte]
     refine ⟨⟨by decide, by decide⟩, (6, s1, fl, m2), ⟨⟨rfl, rfl⟩, ⟨rfl, rfl, rfl⟩, .inl rfl⟩, ⟨leM_tr q1 l2, (by decide : 6 ≤ 7), q3, q4, q5, q6, ⟨q7, q8, fun h => ?_⟩, ?_⟩, (by decide : 7 - 6 < 7 - 5)⟩
     ·first | (exact absurd h (by decide : ¬ 7 ≤ 6)) | (dsimp only; omega)
     ·rw [show modsL.drop 5 = (32, [115, 121, 110, 99]) :: modsL.drop 6 from rfl, modsP_cons, if_neg (by rw [← isC_P]; exact hc)] at q10
      exact q10
   ·have hfl : fl < 64 := q9 (by decide)
    have hor := or_1024 fl q7 hfl
    by_cases hc : isC ts s1.i [97, 98, 115, 116, 114, 97, 99, 116] = true
    ·have ha := acc_t (en := en) hT hc
     have hi := isC_lt hc
     simp only [go_sem, ↓tfi, ↓fti, ↓reduceIte]
     refine ⟨fun _ => ⟨⟨by decide, by decide⟩, by kernel_rfl, FnV_of ((ha m1).mono ?_)⟩, fun h => absurd (by decide) h⟩
     clear ha
     rintro r H' m2 hm2 ⟨l2, rfl, rfl⟩
     simp only [go_sem, ↓tfi, ↓fti, ↓reduceIte, hor]
     refine ⟨⟨by decide, by decide⟩, ⟨by decide, by decide⟩, (7, s1.next, fl + 1024, m2), ⟨⟨rfl, rfl⟩, ⟨rfl, rfl, rfl⟩, .inl rfl⟩, ⟨leM_tr q1 l2, (by decide : 7 ≤ 7), q3.next hi, Nat.le_succ_of_le q4, q5, fun h => ?_, ⟨by dsimp only; omega, by dsimp only; omega, fun h => ?_⟩, ?_⟩, (by decide : 7 - 7 < 7 - 6)⟩
     ·have h1 := q3.nfl hi
      rw [q5, h] at h1
      cases h1
     ·first | (exact absurd h (by decide : ¬ 7 ≤ 6)) | (dsimp only; omega)
     ·rw [show modsL.drop 6 = (1024, [97, 98, 115, 116, 114, 97, 99, 116]) :: modsL.drop 7 from rfl, modsP_cons, if_pos (by rw [← isC_P]; exact hc), ← drop_next] at q10
      exact q10
    ·have ha := acc_f (en := en) hT hc
     simp only [go_sem, ↓tfi, ↓fti, ↓reduceIte]
     refine ⟨fun _ => ⟨⟨by decide, by decide⟩, by kernel_rfl, FnV_of ((ha m1).mono ?_)⟩, fun h => absurd (by decide) h⟩
     clear ha
     rintro r H' m2 hm2 ⟨l2, rfl, rfl⟩
     simp only [go_sem, ↓tfi, ↓fti, ↓reduceIte]
     refine ⟨⟨by decide, by decide⟩, (7, s1, fl, m2), ⟨⟨rfl, rfl⟩, ⟨rfl, rfl, rfl⟩, .inl rfl⟩, ⟨leM_tr q1 l2, (by decide : 7 ≤ 7), q3, q4, q5, q6, ⟨q7, q8, fun h => ?_⟩, ?_⟩, (by decide : 7 - 7 < 7 - 6)⟩
     ·first | (exact absurd h (by decide : ¬ 7 ≤ 6)) | (dsimp only; omega)
     ·rw [show modsL.drop 6 = (1024, [97, 98, 115, 116, 114, 97, 99, 116]) :: modsL.drop 7 from rfl, modsP_cons, if_neg (by rw [← isC_P]; exact hc)] at q10
      exact q10
   ·simp only [go_sem, ↓tfi, ↓fti, ↓reduceIte]
    refine ⟨fun h => absurd h (by decide), fun _ => ⟨leM_tr (.inl rfl) q1, fl, s1, rfl, ⟨q7, q8⟩, rfl, q3, q4, q5, q6, q10.symm⟩⟩
end
theorem byPc : byT Tryz.prog 160 = 48 := by kernel_rfl
attribute [go_sem] byPc
abbrev CRes (ts : List Tk) (en : Int) (s : PSt) (K : PR (List (List UInt8))) (m : Mem) : SV → Hp → Mem → Prop := fun r H' m' => leM m m' ∧ ∃ (l : List (List UInt8)) (a : Option Addr) (c : Nat) (s' : PSt), r = .v (.slice a l.length c) ∧ l.length ≤ c ∧ l.length ≤ 1000001 ∧ Rds m' a l.length 1 (strs l) ∧ (∀ w ∈ l, w.length ≤ 1000000) ∧ H' = pH ts en s' ∧ Res ts en s K l s'
abbrev PRes (ts : List Tk) (en : Int) (s : PSt) (K : PR (List Pc)) (m : Mem) : SV → Hp → Mem → Prop := fun r H' m' => leM m m' ∧ ∃ (l : List Pc) (a : Option Addr) (c : Nat) (s' : PSt), r = .v (.slice a l.length c) ∧ l.length ≤ c ∧ l.length ≤ 1000001 ∧ Rds m' a l.length 4 (flat Pc.cs l) ∧ (∀ p ∈ l, PcOk p) ∧ H' = pH ts en s' ∧ Res ts en s K l s'
noncomputable def clsK (l : List Tk) : PR (List (List UInt8)) := bndP (clsP l) fun s r => clsesK [s] r
theorem strs_snoc (l : List (List UInt8)) (w : List UInt8) : strs (l ++ [w]) = strs l ++ [.string (bs w)] := by simp [strs]
theorem flat_snoc {α : Type} (f : α → List Value) (l : List α) (x : α) : flat f (l ++ [x]) = flat f l ++ f x := by simp [flat]
theorem mem_snoc {α : Type} {p : α → Prop} {l : List α} {x : α} (h : ∀ y ∈ l, p y) (hx : p x) : ∀ y ∈ l ++ [x], p y := fun y hy => by
 rcases List.mem_append.1 hy with h1 | h1
 ·exact h y h1
 ·rw [List.mem_singleton.1 h1]; exact hx
section
variable {ts : List Tk} {en : Int} {s : PSt}
theorem classes_spec (hT : TsB ts) (hI : Inv ts s) (m : Mem) : FnH Tryz.prog 51 [.box 0 0] (pH ts en s) m (CRes ts en s (clsK (ts.drop s.i)) m) := by
 have h1 := fun m' => pcls_spec ts en s m' hT hI
 refine FnH_own (enter cfN puN Tryz.func51 rfl rfl (by kernel_rfl) rfl ?_ ?_)
 ·simp only [go_sem, ↓tfi, ↓fti, ↓reduceIte]
 ·simp only [go_sem, ↓tfi, ↓fti, ↓reduceIte]
  refine cvl ((h1 m).mono ?_)
  clear h1
  rintro r H' m1 hm1 ⟨l1, w, s1, rfl, hw, rfl, hR1⟩
  simp only [go_sem, ↓tfi, ↓fti, ↓reduceIte]
  refine WP_loop puN (fun y : PSt × List (List UInt8) × Nat × Mem => ⟨[⟨0, [], .box 0 0⟩, ⟨3, [], .vec 4 y.2.2.1⟩], [], [prB en y.1], [⟨4, y.2.2.1, 9, 1, y.2.1.length, strs y.2.1⟩, tkV ts], 40, y.2.2.2⟩)
   (fun y => leM m1 y.2.2.2 ∧ Inv ts y.1 ∧ y.2.1.length ≤ y.1.i + 1 ∧ (∀ w ∈ y.2.1, w.length ≤ 1000000) ∧ ∀ a s', Res ts en y.1 (clsesK y.2.1 (ts.drop y.1.i)) a s' → Res ts en s (clsK (ts.drop s.i)) a s')
   (fun y => ts.length - y.1.i) (s1, [w], 0, m1) (by kernel_rfl) (fun _ _ => nbl rfl) (fun y hy => hy.1) (fun _ => ?_) ?_ ?_ ?_
  ·simp only [go_sem, ↓tfi, ↓fti, ↓reduceIte]
  ·simp only [go_sem, ↓tfi, ↓fti, ↓reduceIte]
   exact rfl
  ·exact ⟨.inl rfl, hR1.inv, by simp, fun x hx => by rw [List.mem_singleton.1 hx]; exact hw, fun a s' h => res_bnd hR1 h⟩
  ·rintro ⟨s4, l, u, m4⟩ ⟨q1, q2, q3, q4, q5⟩
   dsimp only at q1 q2 q3 q4 q5
   have hl := hT.len
   have hil := q2.le
   by_cases hc : isC ts s4.i [44] = true
   ·have ha := acc_t (en := en) hT hc
    have hi := isC_lt hc
    have hI5 := q2.next hi
    have hb := fun m' => pcls_spec ts en s4.next m' hT hI5
    simp only [go_sem, ↓tfi, ↓fti, ↓reduceIte]
    refine cvl ((ha m4).mono ?_)
    clear ha
    rintro r H' m5 hm5 ⟨l5, rfl, rfl⟩
    simp only [go_sem, ↓tfi, ↓fti, ↓reduceIte]
    refine cvl ((hb m5).mono ?_)
    clear hb
    rintro r H' m6 hm6 ⟨l6, w6, s6, rfl, hw6, rfl, hR6⟩
    have hle6 := hR6.mono
    have hnx : s4.next.i = s4.i + 1 := rfl
    simp only [go_sem, ↓tfi, ↓fti, ↓reduceIte]
    refine ⟨room_of (by omega) (by decide), (s6, l ++ [w6], u + 1, m6), ⟨rfl, ⟨rfl, rfl, rfl⟩, ⟨rfl, by simp, (strs_snoc l w6).symm⟩, .inl rfl⟩, ⟨leM_tr q1 (leM_tr l5 l6), hR6.inv, by simp only [Lla, List.length_singleton]; omega, mem_snoc q4 hw6, fun a s' h => q5 a s' ?_⟩, by dsimp only; omega⟩
    rw [clsesK_eq, if_pos (by rw [← isC_P]; exact hc), ← drop_next]
    exact res_next q2 hi (res_bnd hR6 h)
   ·have ha := acc_f (en := en) hT hc
    simp only [go_sem, ↓tfi, ↓fti, ↓reduceIte]
    refine cvl ((ha m4).mono ?_)
    clear ha
    rintro r H' m5 hm5 ⟨l5, rfl, rfl⟩
    simp only [go_sem, ↓tfi, ↓fti, ↓reduceIte]
    refine own_vec (b := ⟨4, u, 9, 1, l.length, strs l⟩) (by simp [lkV]) (pH ts en s4) (List.Sublist.refl _) (.cons_cons _ (List.nil_sublist _)) fun a c mm w1 w2 w3 => ⟨leM_tr (leM_tr l1 q1) (leM_tr l5 (.inr w1)), l, a, c, s4, rfl, w2, by omega, w3, q4, rfl, q5 _ _ ?_⟩
    rw [clsesK_eq, if_neg (by rw [← isC_P]; exact hc)]
    exact res_pure _ q2
theorem params_spec (hT : TsB ts) (hI : Inv ts s) (m : Mem) : FnH Tryz.prog 129 [.box 0 0] (pH ts en s) m (PRes ts en s (paramsK (ts.drop s.i)) m) := by
 have h1 := fun m' => exp_spec ts en s [40] m' hT.l8
 have hI1 : Inv ts (expSt ts en s [40]) := inv_expSt hI
 by_cases hc : isC ts (expSt ts en s [40]).i [41] = true
 ·have h2 := acc_t (en := en) hT hc
  have hi := isC_lt hc
  refine FnH_own (enter cfN puN Tryz.func129 rfl rfl (by kernel_rfl) rfl ?_ ?_)
  ·simp only [go_sem, ↓tfi, ↓fti, ↓reduceIte]
  ·simp only [go_sem, ↓tfi, ↓fti, ↓reduceIte]
   refine cvl ((h1 m).mono ?_)
   clear h1
   rintro r H' m1 hm1 ⟨l1, rfl, rfl⟩
   simp only [go_sem, ↓tfi, ↓fti, ↓reduceIte]
   refine cvl ((h2 m1).mono ?_)
   clear h2
   rintro r H' m2 hm2 ⟨l2, rfl, rfl⟩
   simp only [go_sem, ↓tfi, ↓fti, ↓reduceIte]
   refine .inl ⟨leM_tr l1 l2, [], none, 0, _, rfl, Nnr _, Nat.zero_le _, rds_none _ _, fun p hp => (by cases hp), rfl, ?_⟩
   unfold paramsK
   refine res_exp hI ?_
   rw [← isC_P, if_pos hc, ← drop_next]
   exact res_next hI1 hi (res_pure _ (hI1.next hi))
 ·have h2 := acc_f (en := en) hT hc
  refine FnH_own (enter cfN puN Tryz.func129 rfl rfl (by kernel_rfl) rfl ?_ ?_)
  ·simp only [go_sem, ↓tfi, ↓fti, ↓reduceIte]
  ·simp only [go_sem, ↓tfi, ↓fti, ↓reduceIte]
   refine cvl ((h1 m).mono ?_)
   clear h1
   rintro r H' m1 hm1 ⟨l1, rfl, rfl⟩
   simp only [go_sem, ↓tfi, ↓fti, ↓reduceIte]
   refine cvl ((h2 m1).mono ?_)
   clear h2
   rintro r H' m2 hm2 ⟨l2, rfl, rfl⟩
   simp only [go_sem, ↓tfi, ↓fti, ↓reduceIte]
   refine WP_adopt 3 160 4 (by decide) rfl ?_
   refine WP_loop puN (fun y : PSt × Bool × List Pc × Nat × Mem => ⟨[⟨0, [], .box 0 0⟩, ⟨3, [], .vec 6 y.2.2.2.1⟩, ⟨4, [], .v (.bool y.2.1)⟩], [], [prB en y.1], [⟨6, y.2.2.2.1, 160, 4, y.2.2.1.length, flat Pc.cs y.2.2.1⟩, tkV ts], 40, y.2.2.2.2⟩)
    (fun y => leM m2 y.2.2.2.2 ∧ Inv ts y.1 ∧ (y.2.2.1.length ≤ y.1.i + (if y.2.1 = true then 0 else 1)) ∧ (∀ p ∈ y.2.2.1, PcOk p) ∧
     (y.2.1 = true → ∀ a s', Res ts en y.1 (bndP (typP (ts.drop y.1.i)) fun t r => bndP (idP r) fun w r2 => pmoreK (y.2.2.1 ++ [⟨t, w⟩]) r2) a s' → Res ts en s (paramsK (ts.drop s.i)) a s') ∧
     (y.2.1 = false → ∀ a s', Res ts en y.1 (expP [41] (ts.drop y.1.i) fun r => .ok (y.2.2.1, r)) a s' → Res ts en s (paramsK (ts.drop s.i)) a s'))
    (fun y => if y.2.1 = true then ts.length - y.1.i + 1 else 0) (expSt ts en s [40], true, [], 0, m2) (by kernel_rfl) (fun _ _ => nbl rfl) (fun y hy => hy.1) (fun _ => ?_) ?_ ?_ ?_
   ·simp only [go_sem, ↓tfi, ↓fti, ↓reduceIte]
   ·simp only [go_sem, ↓tfi, ↓fti, ↓reduceIte]
    exact rfl
   ·refine ⟨.inl rfl, hI1, Nat.zero_le _, fun p hp => (by cases hp), fun _ a s' h => ?_, fun h => (by cases h)⟩
    unfold paramsK
    refine res_exp hI ?_
    rw [← isC_P, if_neg hc]
    exact h
   ·rintro ⟨s4, b, l, u, m4⟩ ⟨q1, q2, q3, q4, q5, q6⟩
    dsimp only at q1 q2 q3 q4 q5 q6
    have hl := hT.len
    have hil := q2.le
    cases b with
    | true =>
     rw [if_pos rfl] at q3
     have hb := fun m' => ptyp_spec ts en s4 m' hT q2
     simp only [go_sem, ↓tfi, ↓fti, ↓reduceIte]
     refine cvl ((hb m4).mono ?_)
     clear hb
     rintro r H' m5 hm5 ⟨l5, t, s5, rfl, ht, hu, rfl, hR5⟩
     have hle5 := hR5.mono
     have hb := fun m' => pid_spec ts en s5 m' hT hR5.inv
     simp only [go_sem, ↓tfi, ↓fti, ↓reduceIte]
     refine WP_draw (.hoist 0 (.hoist 1 (.hoist 2 (.alt 3 [1, 0] (.hoist 4 (.alt 5 [0] (.alt 6 [] (.hoist 7 .done) .stop) .stop)) .stop)))) puN (by kernel_rfl) (by kernel_rfl) ?_
     simp only [go_sem, ↓tfi, ↓fti, ↓reduceIte]
     refine cvl ((hb m5).mono ?_)
     clear hb
     rintro r H' m6 hm6 ⟨l6, w6, s6, rfl, hw6, rfl, hR6⟩
     have hle6 := hR6.mono
     have hpc : PcOk ⟨t, w6⟩ := ⟨ht, by unfold big; dsimp only; omega⟩
     have hil6 := hR6.inv.le
     simp only [go_sem, ↓tfi, ↓fti, ↓reduceIte]
     refine ⟨⟨l6, l6⟩, l6, room_of (by omega) (by decide), ?_⟩
     by_cases h44 : isC ts s6.i [44] = true
     ·have ha := acc_t (en := en) hT h44
      have hi := isC_lt h44
      have hn : s6.next.i = s6.i + 1 := rfl
      refine cvl ((ha m6).mono ?_)
      clear ha
      rintro r H' m7 hm7 ⟨l7, rfl, rfl⟩
      simp only [go_sem, ↓tfi, ↓fti, ↓reduceIte]
      refine ⟨(s6.next, true, l ++ [⟨t, w6⟩], u + 1, m7), ⟨⟨rfl, rfl⟩, ⟨rfl, rfl, rfl⟩, ⟨rfl, by simp, by rw [flat_snoc]; rfl⟩, .inl rfl⟩, ⟨leM_tr q1 (leM_tr l5 (leM_tr l6 l7)), hR6.inv.next hi, ?_, mem_snoc q4 hpc, fun _ a s' h => q5 rfl a s' ?_, fun h => (by cases h)⟩, ?_⟩
      ·dsimp only
       rw [if_pos rfl, Lla, List.length_singleton]
       omega
      ·refine res_bnd hR5 (res_bnd hR6 ?_)
       rw [pmoreK_eq, if_pos (by rw [← isC_P]; exact h44), ← drop_next]
       exact res_next hR6.inv hi h
      ·dsimp only
       try rw [if_pos rfl]
       omega
     ·have ha := acc_f (en := en) hT h44
      refine cvl ((ha m6).mono ?_)
      clear ha
      rintro r H' m7 hm7 ⟨l7, rfl, rfl⟩
      simp only [go_sem, ↓tfi, ↓fti, ↓reduceIte]
      refine ⟨(s6, false, l ++ [⟨t, w6⟩], u + 1, m7), ⟨⟨rfl, rfl⟩, ⟨rfl, rfl, rfl⟩, ⟨rfl, by simp, by rw [flat_snoc]; rfl⟩, .inl rfl⟩, ⟨leM_tr q1 (leM_tr l5 (leM_tr l6 l7)), hR6.inv, ?_, mem_snoc q4 hpc, fun h => (by cases h), fun _ a s' h => q5 rfl a s' ?_⟩, ?_⟩
      ·dsimp only
       rw [if_neg (by decide), Lla, List.length_singleton]
       omega
      ·refine res_bnd hR5 (res_bnd hR6 ?_)
       rw [pmoreK_eq, if_neg (by rw [← isC_P]; exact h44)]
       exact h
      ·dsimp only
       rw [if_neg (by decide)]
       omega
    | false =>
     rw [if_neg (by decide)] at q3
     have hb := fun m' => exp_spec ts en s4 [41] m' hT.l8
     simp only [go_sem, ↓tfi, ↓fti, ↓reduceIte]
     refine cvl ((hb m4).mono ?_)
     clear hb
     rintro r H' m5 hm5 ⟨l5, rfl, rfl⟩
     simp only [go_sem, ↓tfi, ↓fti, ↓reduceIte]
     exact own_vec (b := ⟨6, u, 160, 4, l.length, flat Pc.cs l⟩) (by simp [lkV]) (pH ts en (expSt ts en s4 [41])) (List.Sublist.refl _) (.cons_cons _ (List.nil_sublist _)) fun a c mm w1 w2 w3 => ⟨leM_tr (leM_tr l1 l2) (leM_tr q1 (leM_tr l5 (.inr w1))), l, a, c, _, rfl, w2, by omega, w3, q4, rfl, q6 rfl _ _ (res_exp q2 (res_pure _ (inv_expSt q2)))⟩
end
end Go.Proofs.YtimddhkipjedcaaGreatDoor.E

/- Several texts in one: AstPe, AstPb, AstPc, AstPf, AstPd, AstPg, AstQb, AstPi, AstQd, AstQs, AstQp, AstQe, AstQf, AstQg, AstQh, AstQi, AstQj, AstQk, AstQl, AstQm, AstQn, AstQo, AstQr, AstQt, AstQu, AstQv, AstQw. -/
import Derived.Lib.IndexAny
import Derived.Test.YtimddhkipjedcaaGreatDoorMrg4
set_option linter.unusedSimpArgs false
set_option linter.unusedVariables false
set_option maxHeartbeats 4000000
set_option maxRecDepth 20000
namespace Go.Proofs.YtimddhkipjedcaaGreatDoor.E
open Go
noncomputable def limK {α : Type} (g : Nat → PR α) : PR α := by
 classical
 exact if h : ∃ K, Lim g K then h.choose else .error []
theorem limK_lim {α : Type} {g : Nat → PR α} (h : ∃ K, Lim g K) : Lim g (limK g) := by
 unfold limK
 rw [dif_pos h]
 exact h.choose_spec
theorem limK_eq {α : Type} {g : Nat → PR α} {K : PR α} (h : Lim g K) : limK g = K := lim_eq (limK_lim ⟨K, h⟩) h
structure Good {α : Type} (lt : Bool) (l : List Tk) (K : PR α) : Prop where
 ok : ∀ x r, K = .ok (x, r) → r <:+ l ∧ (lt = true → r.length < l.length)
 er : ∀ r, K = .error r → r <:+ l
def Tot {α : Type} (lt : Bool) (g : Nat → PR α) (l : List Tk) : Prop := ∃ K, Lim g K ∧ Good lt l K
theorem Tot.lim {α : Type} {lt : Bool} {g : Nat → PR α} {l : List Tk} (h : Tot lt g l) : Lim g (limK g) := by
 obtain ⟨K, h1, _⟩ := h
 exact limK_lim ⟨K, h1⟩
theorem Tot.good {α : Type} {lt : Bool} {g : Nat → PR α} {l : List Tk} (h : Tot lt g l) : Good lt l (limK g) := by
 obtain ⟨K, h1, h2⟩ := h
 rw [limK_eq h1]
 exact h2
theorem suf_len {a b : List Tk} (h : a <:+ b) : a.length ≤ b.length := h.length_le
theorem tail_suf (l : List Tk) : l.tail <:+ l := List.tail_suffix l
theorem tail_lt {l : List Tk} (h : l ≠ []) : l.tail.length < l.length := by
 cases l with
 | nil => exact absurd rfl h
 | cons a r => simp
theorem isP_ne {s : List UInt8} {l : List Tk} (h : isP s l = true) : l ≠ [] := fun e => by rw [e] at h; cases h
theorem hdK_ne {l : List Tk} {k : Int} (h : hdK l = k) (hk : k ≠ 0) : l ≠ [] := fun e => by rw [e] at h; exact hk h.symm
theorem tot_ok {α : Type} {l r : List Tk} (x : α) {lt : Bool} (h1 : r <:+ l) (h2 : lt = true → r.length < l.length) : Tot lt (fun _ => .ok (x, r)) l :=
 ⟨_, lim_const _, fun y q e => by cases e; exact ⟨h1, h2⟩, fun q e => by cases e⟩
theorem tot_er {α : Type} {l r : List Tk} {lt : Bool} (h1 : r <:+ l) : Tot (α := α) lt (fun _ => .error r) l :=
 ⟨_, lim_const _, fun y q e => by (cases e), fun q e => by cases e; exact h1⟩
theorem tot_succ {α : Type} {lt : Bool} {g h : Nat → PR α} {l : List Tk} (e : ∀ f, g (f + 1) = h f) (H : Tot lt h l) : Tot lt g l := by
 obtain ⟨K, h1, h2⟩ := H
 exact ⟨K, lim_succ e h1, h2⟩
theorem lim_err {α β : Type} {g : Nat → PR α} {k : Nat → α → List Tk → PR β} {r : List Tk} (hg : Lim g (.error r)) : Lim (fun f => bndP (g f) (k f)) (.error r) := by
 obtain ⟨F, hF⟩ := hg
 exact ⟨F, fun f hf => by simp only [hF f hf, bndP]⟩
theorem tot_bnd {α β : Type} {a b : Bool} {g : Nat → PR α} {k : Nat → α → List Tk → PR β} {l : List Tk} (hg : Tot a g l)
  (hk : ∀ x r, r <:+ l → (a = true → r.length < l.length) → Tot b (fun f => k f x r) r) : Tot (a || b) (fun f => bndP (g f) (k f)) l := by
 obtain ⟨K, h1, h2⟩ := hg
 cases K with
 | error r => exact ⟨.error r, lim_err h1, fun x q e => by (cases e), fun q e => by cases e; exact h2.er _ rfl⟩
 | ok p =>
  obtain ⟨x, r⟩ := p
  obtain ⟨s1, s2⟩ := h2.ok x r rfl
  obtain ⟨K2, h3, h4⟩ := hk x r s1 s2
  refine ⟨K2, lim_bnd h1 h3, fun y q e => ?_, fun q e => (h4.er q e).trans s1⟩
  obtain ⟨t1, t2⟩ := h4.ok y q e
  refine ⟨t1.trans s1, fun hab => ?_⟩
  have u1 := suf_len s1
  have u2 := suf_len t1
  cases a with
  | true => have := s2 rfl; omega
  | false =>
   cases b with
   | true => have := t2 rfl; omega
   | false => cases hab
theorem tot_weak {α : Type} {g : Nat → PR α} {l : List Tk} {a : Bool} (b : Bool) (h : Tot a g l) (hab : b = true → a = true) : Tot b g l := by
 obtain ⟨K, h1, h2⟩ := h
 exact ⟨K, h1, fun x r e => ⟨(h2.ok x r e).1, fun hb => (h2.ok x r e).2 (hab hb)⟩, h2.er⟩
theorem tot_up {α : Type} {g : Nat → PR α} {l r : List Tk} (h1 : r <:+ l) {a : Bool} (h : Tot a g r) : Tot a g l := by
 obtain ⟨K, q1, q2⟩ := h
 refine ⟨K, q1, fun x s e => ?_, fun s e => (q2.er s e).trans h1⟩
 obtain ⟨t1, t2⟩ := q2.ok x s e
 exact ⟨t1.trans h1, fun ha => Nat.lt_of_lt_of_le (t2 ha) (suf_len h1)⟩
theorem tot_lt {α : Type} {g : Nat → PR α} {l r : List Tk} (h1 : r <:+ l) (h2 : r.length < l.length) {a : Bool} (h : Tot a g r) : Tot true g l := by
 obtain ⟨K, q1, q2⟩ := h
 refine ⟨K, q1, fun x s e => ?_, fun s e => (q2.er s e).trans h1⟩
 obtain ⟨t1, t2⟩ := q2.ok x s e
 exact ⟨t1.trans h1, fun _ => Nat.lt_of_le_of_lt (suf_len t1) h2⟩
theorem tot_if {α : Type} {p : Prop} [Decidable p] {g h : Nat → PR α} {l : List Tk} {a : Bool} (h1 : p → Tot a g l) (h2 : ¬ p → Tot a h l) : Tot a (fun f => if p then g f else h f) l := by
 by_cases hp : p
 ·simp only [if_pos hp]; exact h1 hp
 ·simp only [if_neg hp]; exact h2 hp
theorem tot_exp {α : Type} {s : List UInt8} {l : List Tk} {k : Nat → List Tk → PR α} {a : Bool} (h : isP s l = true → l.tail.length < l.length → Tot a (fun f => k f l.tail) l.tail) : Tot true (fun f => expP s l (k f)) l := by
 unfold expP
 refine tot_if (fun hs => ?_) fun _ => tot_er (List.suffix_refl _)
 have := tail_lt (isP_ne hs)
 exact tot_lt (tail_suf l) this (h hs this)
theorem tot_cls (l : List Tk) : Tot true (fun _ => clsP l) l := by
 unfold clsP
 refine tot_if (fun h => ?_) fun _ => tot_er (List.suffix_refl _)
 simp only [isClsP, Bbt, decide_eq_true_eq] at h
 exact tot_ok _ (tail_suf l) fun _ => tail_lt (hdK_ne h.1 (by decide))
theorem tot_id (l : List Tk) : Tot true (fun _ => idP l) l := by
 unfold idP
 refine tot_if (fun h => ?_) fun _ => tot_er (List.suffix_refl _)
 simp only [isIdP, Bbt, decide_eq_true_eq] at h
 exact tot_ok _ (tail_suf l) fun _ => tail_lt (hdK_ne h.1.1 (by decide))
theorem tot_base (l : List Tk) : Tot true (fun _ => baseP l) l := by
 unfold baseP
 refine tot_if (fun h => tot_ok _ (tail_suf l) fun _ => tail_lt (isP_ne h)) fun _ => ?_
 refine tot_if (fun h => tot_ok _ (tail_suf l) fun _ => tail_lt (isP_ne h)) fun _ => ?_
 exact tot_bnd (b := false) (tot_cls l) fun x r h1 h2 => tot_ok _ (List.suffix_refl _) fun h => by cases h
theorem dims_good : ∀ (f : Nat) (t : Ty) (l : List Tk), Good false l (dimsP f t l)
 | 0, t, l => ⟨fun x r e => by cases e; exact ⟨List.suffix_refl _, fun h => by cases h⟩, fun r e => by cases e⟩
 | f + 1, t, l => by
  rw [dimsP]
  by_cases h : isP [91] l = true
  ·rw [if_pos h]
   unfold expP
   by_cases h2 : isP [93] l.tail = true
   ·rw [if_pos h2]
    have ih := dims_good f t.up l.tail.tail
    have s : l.tail.tail <:+ l := (tail_suf _).trans (tail_suf l)
    exact ⟨fun x r e => ⟨(ih.ok x r e).1.trans s, fun h => by cases h⟩, fun r e => (ih.er r e).trans s⟩
   ·rw [if_neg h2]
    exact ⟨fun x r e => by (cases e), fun r e => by cases e; exact tail_suf l⟩
  ·rw [if_neg h]
   exact ⟨fun x r e => by cases e; exact ⟨List.suffix_refl _, fun h => by cases h⟩, fun r e => by cases e⟩
theorem new_good : ∀ (f : Nat) (t : Ty) (l : List Tk), Good false l (newP f t l)
 | 0, t, l => ⟨fun x r e => by cases e; exact ⟨List.suffix_refl _, fun h => by cases h⟩, fun r e => by cases e⟩
 | f + 1, t, l => by
  rw [newP]
  by_cases h : isP [93] l = true
  ·rw [if_pos h]
   unfold expP
   by_cases h2 : isP [91] l.tail = true
   ·rw [if_pos h2]
    have ih := new_good f t.up l.tail.tail
    have s : l.tail.tail <:+ l := (tail_suf _).trans (tail_suf l)
    exact ⟨fun x r e => ⟨(ih.ok x r e).1.trans s, fun h => by cases h⟩, fun r e => (ih.er r e).trans s⟩
   ·rw [if_neg h2]
    exact ⟨fun x r e => by (cases e), fun r e => by cases e; exact tail_suf l⟩
  ·rw [if_neg h]
   exact ⟨fun x r e => by cases e; exact ⟨List.suffix_refl _, fun h => by cases h⟩, fun r e => by cases e⟩
theorem tot_const {α : Type} {K : PR α} {l : List Tk} {a : Bool} (h : Good a l K) : Tot a (fun _ => K) l := ⟨K, lim_const _, h⟩
theorem tot_typ (l : List Tk) : Tot true (fun _ => typP l) l := by
 unfold typP
 exact tot_bnd (b := false) (tot_base l) fun t r _ _ => tot_const (dims_good _ _ _)
structure EX (l : List Tk) : Prop where
 expr : ∀ n, n ≤ 10 → Tot true (fun f => exprP f n l) l
 loop : ∀ n e, n ≤ 9 → Tot false (fun f => loopP f n e l) l
 unary : Tot true (fun f => unaryP f l) l
 post : ∀ e, Tot false (fun f => postP f e l) l
 args : Tot true (fun f => argsP f l) l
 more : ∀ acc, Tot true (fun f => moreP f acc l) l
 paren : Tot true (fun f => parenP f l) l
 operand : Tot true (fun f => operandP f l) l
 key : Tot true (fun f => keyP f l) l
theorem ex_of {l : List Tk} (ih : ∀ r : List Tk, r.length < l.length → EX r) : EX l := by
 have hargs : Tot true (fun f => argsP f l) l := by
  refine tot_succ (h := fun f => expP [40] l fun r => if isP [41] r = true then .ok ([], r.tail) else bndP (exprP f 0 r) fun e r2 => moreP f [e] r2) (fun f => by rw [argsP]) ?_
  refine tot_exp (a := false) fun hs hlt => ?_
  refine tot_if (fun h => tot_ok _ (tail_suf _) fun h => by cases h) fun _ => ?_
  exact tot_weak false (tot_bnd (b := true) ((ih _ hlt).expr 0 (by decide)) fun e r h1 h2 => (ih r (by have := h2 rfl; omega)).more _) fun h => by cases h
 have hparen : Tot true (fun f => parenP f l) l := by
  refine tot_succ (h := fun f => expP [40] l fun r => bndP (exprP f 0 r) fun e r2 => expP [41] r2 fun r3 => .ok (e, r3)) (fun f => by rw [parenP]) ?_
  refine tot_exp (a := true) fun hs hlt => ?_
  exact tot_bnd (b := true) ((ih _ hlt).expr 0 (by decide)) fun e r h1 h2 => tot_exp (a := false) fun _ _ => tot_ok _ (List.suffix_refl _) fun h => by cases h
 have hmore : ∀ acc, Tot true (fun f => moreP f acc l) l := fun acc => by
  refine tot_succ (h := fun f => if isP [44] l = true then bndP (exprP f 0 l.tail) fun e r => moreP f (acc ++ [e]) r else expP [41] l fun r => .ok (acc, r)) (fun f => by rw [moreP]) ?_
  refine tot_if (fun h => ?_) fun _ => tot_exp (a := false) fun _ _ => tot_ok _ (List.suffix_refl _) fun h => by cases h
  have hlt := tail_lt (isP_ne h)
  exact tot_lt (tail_suf l) hlt (tot_bnd (b := true) ((ih _ hlt).expr 0 (by decide)) fun e r h1 h2 => (ih r (by have := h2 rfl; omega)).more _)
 have hpost : ∀ e, Tot false (fun f => postP f e l) l := fun e => by
  refine tot_succ (h := fun f => if isP [46] l = true then bndP (idP l.tail) fun s r =>
   if isP [40] r = true then bndP (argsP f r) fun es r2 => postP f (.mk 10 0 s [] zTy (e :: es)) r2 else postP f (.mk 7 0 s [] zTy [e]) r
   else if isP [91] l = true then bndP (exprP f 0 l.tail) fun i r => expP [93] r fun r2 => postP f (.mk 9 0 [] [] zTy [e, i]) r2
   else .ok (e, l)) (fun f => by rw [postP]) ?_
  refine tot_if (fun h => ?_) fun _ => tot_if (fun h => ?_) fun _ => tot_ok _ (List.suffix_refl _) fun h => by cases h
  ·have hlt := tail_lt (isP_ne h)
   refine tot_up (tail_suf l) (tot_weak false (tot_bnd (b := false) (tot_id l.tail) fun s r h1 h2 => ?_) fun h => by cases h)
   have hr := suf_len h1
   refine tot_if (fun hp => ?_) fun _ => (ih r (by omega)).post _
   exact tot_weak false (tot_bnd (b := false) (ih r (by omega)).args fun es r2 h3 h4 => (ih r2 (by have := suf_len h3; omega)).post _) fun h => by cases h
  ·have hlt := tail_lt (isP_ne h)
   refine tot_up (tail_suf l) (tot_weak false (tot_bnd (b := true) ((ih _ hlt).expr 0 (by decide)) fun i r h1 h2 => ?_) fun h => by cases h)
   have hr := suf_len h1
   exact tot_exp (a := false) fun _ hl2 => (ih _ (by omega)).post _
 have hloop : ∀ n e, n ≤ 9 → Tot false (fun f => loopP f n e l) l := fun n e hn => by
  refine tot_succ (h := fun f => if isOpP n l = true then bndP (exprP f (n + 1) l.tail) fun x r => loopP f n (.mk 16 0 (hdS l) [] zTy [e, x]) r
   else if n = 6 ∧ isP [105, 115] l = true then bndP (typP l.tail) fun t r => loopP f n (.mk 18 0 [] [] t [e]) r
   else if n = 6 ∧ isP [97, 115] l = true then bndP (typP l.tail) fun t r => loopP f n (.mk 17 0 [] [] t [e]) r
   else .ok (e, l)) (fun f => by rw [loopP]) ?_
  refine tot_if (fun h => ?_) fun _ => tot_if (fun h => ?_) fun _ => tot_if (fun h => ?_) fun _ => tot_ok _ (List.suffix_refl _) fun h => by cases h
  ·simp only [isOpP, Bbt, decide_eq_true_eq] at h
   have hlt := tail_lt (hdK_ne h.1 (by decide))
   exact tot_up (tail_suf l) (tot_weak false (tot_bnd (b := false) ((ih _ hlt).expr (n + 1) (by omega)) fun x r h1 h2 => (ih r (by have := suf_len h1; omega)).loop n _ hn) fun h => by cases h)
  ·have hlt := tail_lt (isP_ne h.2)
   exact tot_up (tail_suf l) (tot_weak false (tot_bnd (b := false) (tot_typ l.tail) fun x r h1 h2 => (ih r (by have := suf_len h1; omega)).loop n _ hn) fun h => by cases h)
  ·have hlt := tail_lt (isP_ne h.2)
   exact tot_up (tail_suf l) (tot_weak false (tot_bnd (b := false) (tot_typ l.tail) fun x r h1 h2 => (ih r (by have := suf_len h1; omega)).loop n _ hn) fun h => by cases h)
 have hkey : Tot true (fun f => keyP f l) l := by
  refine tot_succ (h := fun f =>
   if isP [110, 117, 108, 108] l = true then .ok (.mk 4 0 [] [] zTy [], l.tail)
   else if isP [116, 104, 105, 115] l = true then .ok (.mk 5 0 [] [] zTy [], l.tail)
   else if isP [115, 117, 112, 101, 114] l = true then expP [46] l.tail fun r => bndP (idP r) fun s r2 => bndP (argsP f r2) fun es r3 => .ok (.mk 12 0 s [] zTy es, r3)
   else if isP [110, 101, 119] l = true then bndP (baseP l.tail) fun t r =>
    if t.base = 76 ∧ isP [40] r = true then bndP (argsP f r) fun es r2 => .ok (.mk 13 0 [] t.name zTy es, r2)
    else expP [91] r fun r2 => bndP (newP r2.length t r2) fun t2 r3 => bndP (exprP f 0 r3) fun e r4 => expP [93] r4 fun r5 => .ok (.mk 14 0 [] [] t2 [e], r5)
   else if isP [108, 101, 110] l = true then bndP (parenP f l.tail) fun e r => .ok (.mk 19 0 [] [] zTy [e], r)
   else if isP intS l = true then bndP (parenP f l.tail) fun e r => .ok (.mk 20 0 [] [] zTy [e], r)
   else if isP longS l = true then bndP (parenP f l.tail) fun e r => .ok (.mk 21 0 [] [] zTy [e], r)
   else .error l) (fun f => by rw [keyP]) ?_
  have fin : ∀ {x : Ex} {r : List Tk}, Tot false (fun _ => Except.ok (x, r)) r := fun {x r} => tot_ok _ (List.suffix_refl _) fun h => by cases h
  refine tot_if (fun h => tot_ok _ (tail_suf l) fun _ => tail_lt (isP_ne h)) fun _ => tot_if (fun h => tot_ok _ (tail_suf l) fun _ => tail_lt (isP_ne h)) fun _ =>
   tot_if (fun h => ?_) fun _ => tot_if (fun h => ?_) fun _ => tot_if (fun h => ?_) fun _ => tot_if (fun h => ?_) fun _ => tot_if (fun h => ?_) fun _ => tot_er (List.suffix_refl _)
  ·have hlt := tail_lt (isP_ne h)
   refine tot_lt (tail_suf l) hlt (tot_exp (a := true) fun _ hl2 => tot_bnd (b := true) (tot_id _) fun s r2 h1 h2 => ?_)
   have := suf_len h1
   exact tot_bnd (b := false) (ih r2 (by omega)).args fun es r3 _ _ => fin
  ·have hlt := tail_lt (isP_ne h)
   refine tot_lt (tail_suf l) hlt (tot_bnd (b := true) (tot_base _) fun t r h1 h2 => ?_)
   have hr := suf_len h1
   refine tot_if (fun _ => tot_bnd (b := false) (ih r (by omega)).args fun es r2 _ _ => fin) fun _ => ?_
   refine tot_exp (a := true) fun _ hl2 => tot_bnd (a := false) (b := true) (tot_const (new_good _ _ _)) fun t2 r3 h3 _ => ?_
   have := suf_len h3
   exact tot_bnd (b := true) ((ih r3 (by omega)).expr 0 (by decide)) fun e r4 _ _ => tot_exp (a := false) fun _ _ => fin
  ·have hlt := tail_lt (isP_ne h)
   exact tot_lt (tail_suf l) hlt (tot_bnd (b := false) (ih _ hlt).paren fun e r _ _ => fin)
  ·have hlt := tail_lt (isP_ne h)
   exact tot_lt (tail_suf l) hlt (tot_bnd (b := false) (ih _ hlt).paren fun e r _ _ => fin)
  ·have hlt := tail_lt (isP_ne h)
   exact tot_lt (tail_suf l) hlt (tot_bnd (b := false) (ih _ hlt).paren fun e r _ _ => fin)
 have hoperand : Tot true (fun f => operandP f l) l := by
  refine tot_succ (h := fun f =>
   if hdK l = 3 then .ok (.mk 1 (hdN l) [] [] zTy [], l.tail)
   else if hdK l = 4 then .ok (.mk 2 (hdN l) [] [] zTy [], l.tail)
   else if hdK l = 5 then .ok (.mk 3 0 (hdS l) [] zTy [], l.tail)
   else if isIdP l = true then bndP (idP l) fun s r => .ok (.mk 6 0 s [] zTy [], r)
   else if isClsP l = true then bndP (clsP l) fun c r => expP [46] r fun r2 => bndP (idP r2) fun s r3 =>
    if isP [40] r3 = true then bndP (argsP f r3) fun es r4 => .ok (.mk 11 0 s c zTy es, r4) else .ok (.mk 8 0 s c zTy [], r3)
   else if isP [40] l = true then parenP f l
   else keyP f l) (fun f => by rw [operandP]) ?_
  have fin : ∀ {x : Ex} {r : List Tk}, Tot false (fun _ => Except.ok (x, r)) r := fun {x r} => tot_ok _ (List.suffix_refl _) fun h => by cases h
  refine tot_if (fun h => tot_ok _ (tail_suf l) fun _ => tail_lt (hdK_ne h (by decide))) fun _ => tot_if (fun h => tot_ok _ (tail_suf l) fun _ => tail_lt (hdK_ne h (by decide))) fun _ =>
   tot_if (fun h => tot_ok _ (tail_suf l) fun _ => tail_lt (hdK_ne h (by decide))) fun _ => tot_if (fun h => tot_bnd (b := false) (tot_id l) fun _ _ _ _ => fin) fun _ =>
   tot_if (fun h => ?_) fun _ => tot_if (fun _ => hparen) fun _ => hkey
  refine tot_bnd (b := true) (tot_cls l) fun c r h1 h2 => tot_exp (a := true) fun _ hl2 => tot_bnd (b := false) (tot_id _) fun s r3 h3 h4 => ?_
  have q1 := suf_len h1
  have q3 := suf_len h3
  exact tot_if (fun _ => tot_weak false (tot_bnd (b := false) (ih r3 (by have := h2 rfl; omega)).args fun es r4 _ _ => fin) fun h => by cases h) fun _ => fin
 have hunary : Tot true (fun f => unaryP f l) l := by
  refine tot_succ (h := fun f =>
   if isP [45] l = true then bndP (unaryP f l.tail) fun x r => .ok (.mk 15 0 [45] [] zTy [x], r)
   else if isP [33] l = true then bndP (unaryP f l.tail) fun x r => .ok (.mk 15 0 [33] [] zTy [x], r)
   else bndP (operandP f l) fun e r => postP f e r) (fun f => by rw [unaryP]) ?_
  have fin : ∀ {x : Ex} {r : List Tk}, Tot false (fun _ => Except.ok (x, r)) r := fun {x r} => tot_ok _ (List.suffix_refl _) fun h => by cases h
  refine tot_if (fun h => ?_) fun _ => tot_if (fun h => ?_) fun _ => tot_bnd (b := false) hoperand fun e r h1 h2 => (ih r (h2 rfl)).post e
  ·exact tot_lt (tail_suf l) (tail_lt (isP_ne h)) (tot_bnd (b := false) (ih _ (tail_lt (isP_ne h))).unary fun x r _ _ => fin)
  ·exact tot_lt (tail_suf l) (tail_lt (isP_ne h)) (tot_bnd (b := false) (ih _ (tail_lt (isP_ne h))).unary fun x r _ _ => fin)
 have hexpr : ∀ k n, n + k = 10 → Tot true (fun f => exprP f n l) l := fun k => by
  induction k with
  | zero =>
   intro n hn
   exact tot_succ (h := fun f => unaryP f l) (fun f => by rw [exprP, if_pos (by omega)]) hunary
  | succ k ihk =>
   intro n hn
   refine tot_succ (h := fun f => bndP (exprP f (n + 1) l) fun e r => loopP f n e r) (fun f => by rw [exprP, if_neg (by omega)]) ?_
   exact tot_bnd (b := false) (ihk (n + 1) (by omega)) fun e r h1 h2 => (ih r (h2 rfl)).loop n e (by omega)
 exact ⟨fun n hn => hexpr (10 - n) n (by omega), hloop, hunary, hpost, hargs, hmore, hparen, hoperand, hkey⟩
theorem ex_all : ∀ (N : Nat) (l : List Tk), l.length ≤ N → EX l
 | 0, l, h => ex_of fun r hr => by omega
 | N + 1, l, h => ex_of fun r hr => ex_all N r (by omega)
theorem ex_tot (l : List Tk) : EX l := ex_all _ l (Nnr _)
/-! The answers as functions, and their equations. -/
noncomputable def exprK (n : Nat) (l : List Tk) : PR Ex := limK fun f => exprP f n l
noncomputable def loopK (n : Nat) (e : Ex) (l : List Tk) : PR Ex := limK fun f => loopP f n e l
noncomputable def unaryK (l : List Tk) : PR Ex := limK fun f => unaryP f l
noncomputable def postK (e : Ex) (l : List Tk) : PR Ex := limK fun f => postP f e l
noncomputable def argsK (l : List Tk) : PR (List Ex) := limK fun f => argsP f l
noncomputable def moreK (acc : List Ex) (l : List Tk) : PR (List Ex) := limK fun f => moreP f acc l
noncomputable def parenK (l : List Tk) : PR Ex := limK fun f => parenP f l
noncomputable def operandK (l : List Tk) : PR Ex := limK fun f => operandP f l
noncomputable def keyK (l : List Tk) : PR Ex := limK fun f => keyP f l
theorem lim_bndK {α β : Type} {g : Nat → PR α} {k : Nat → α → List Tk → PR β} {K : PR α} {k2 : α → List Tk → PR β} (hg : Lim g K) (hk : ∀ x r, Lim (fun f => k f x r) (k2 x r)) : Lim (fun f => bndP (g f) (k f)) (bndP K k2) := by
 cases K with
 | error r => exact lim_err hg
 | ok p => obtain ⟨x, r⟩ := p; exact lim_bnd hg (hk x r)
theorem lim_expK {α : Type} {s : List UInt8} {l : List Tk} {k : Nat → List Tk → PR α} {k2 : List Tk → PR α} (hk : Lim (fun f => k f l.tail) (k2 l.tail)) : Lim (fun f => expP s l (k f)) (expP s l k2) := by
 unfold expP
 by_cases h : isP s l = true
 ·simp only [if_pos h]; exact hk
 ·simp only [if_neg h]; exact lim_const _
theorem lim_ifK {α : Type} {p : Prop} [Decidable p] {g h : Nat → α} {G H : α} (h1 : Lim g G) (h2 : Lim h H) : Lim (fun f => if p then g f else h f) (if p then G else H) := by
 by_cases hp : p
 ·simp only [if_pos hp]; exact h1
 ·simp only [if_neg hp]; exact h2
theorem lexpr {n : Nat} (hn : n ≤ 10) (l : List Tk) : Lim (fun f => exprP f n l) (exprK n l) := ((ex_tot l).expr n hn).lim
theorem lloop {n : Nat} (hn : n ≤ 9) (e : Ex) (l : List Tk) : Lim (fun f => loopP f n e l) (loopK n e l) := ((ex_tot l).loop n e hn).lim
theorem lunary (l : List Tk) : Lim (fun f => unaryP f l) (unaryK l) := (ex_tot l).unary.lim
theorem lpost (e : Ex) (l : List Tk) : Lim (fun f => postP f e l) (postK e l) := ((ex_tot l).post e).lim
theorem largs (l : List Tk) : Lim (fun f => argsP f l) (argsK l) := (ex_tot l).args.lim
theorem lmore (acc : List Ex) (l : List Tk) : Lim (fun f => moreP f acc l) (moreK acc l) := ((ex_tot l).more acc).lim
theorem lparen (l : List Tk) : Lim (fun f => parenP f l) (parenK l) := (ex_tot l).paren.lim
theorem loperand (l : List Tk) : Lim (fun f => operandP f l) (operandK l) := (ex_tot l).operand.lim
theorem lkey (l : List Tk) : Lim (fun f => keyP f l) (keyK l) := (ex_tot l).key.lim
theorem exprK_eq {n : Nat} (hn : n ≤ 9) (l : List Tk) : exprK n l = bndP (exprK (n + 1) l) fun e r => loopK n e r :=
 limK_eq (lim_succ (h := fun f => bndP (exprP f (n + 1) l) fun e r => loopP f n e r) (fun f => by rw [exprP, if_neg (by omega)]) (lim_bndK (lexpr (by omega) l) fun e r => lloop hn e r))
theorem exprK_top (l : List Tk) : exprK 10 l = unaryK l := limK_eq (lim_succ (h := fun f => unaryP f l) (fun f => by rw [exprP, if_pos rfl]) (lunary l))
theorem loopK_eq {n : Nat} (hn : n ≤ 9) (e : Ex) (l : List Tk) : loopK n e l = (if isOpP n l = true then bndP (exprK (n + 1) l.tail) fun x r => loopK n (.mk 16 0 (hdS l) [] zTy [e, x]) r
  else if n = 6 ∧ isP [105, 115] l = true then bndP (typP l.tail) fun t r => loopK n (.mk 18 0 [] [] t [e]) r
  else if n = 6 ∧ isP [97, 115] l = true then bndP (typP l.tail) fun t r => loopK n (.mk 17 0 [] [] t [e]) r
  else .ok (e, l)) :=
 limK_eq (lim_succ (fun f => by rw [loopP]) (lim_ifK (lim_bndK (lexpr (by omega) _) fun x r => lloop hn _ r) (lim_ifK (lim_bndK (lim_const _) fun t r => lloop hn _ r) (lim_ifK (lim_bndK (lim_const _) fun t r => lloop hn _ r) (lim_const _)))))
theorem unaryK_eq (l : List Tk) : unaryK l = (if isP [45] l = true then bndP (unaryK l.tail) fun x r => .ok (.mk 15 0 [45] [] zTy [x], r)
  else if isP [33] l = true then bndP (unaryK l.tail) fun x r => .ok (.mk 15 0 [33] [] zTy [x], r)
  else bndP (operandK l) fun e r => postK e r) :=
 limK_eq (lim_succ (fun f => by rw [unaryP]) (lim_ifK (lim_bndK (lunary _) fun x r => lim_const _) (lim_ifK (lim_bndK (lunary _) fun x r => lim_const _) (lim_bndK (loperand l) fun e r => lpost e r))))
theorem postK_eq (e : Ex) (l : List Tk) : postK e l = (if isP [46] l = true then bndP (idP l.tail) fun s r =>
   if isP [40] r = true then bndP (argsK r) fun es r2 => postK (.mk 10 0 s [] zTy (e :: es)) r2
   else postK (.mk 7 0 s [] zTy [e]) r
  else if isP [91] l = true then bndP (exprK 0 l.tail) fun i r => expP [93] r fun r2 => postK (.mk 9 0 [] [] zTy [e, i]) r2
  else .ok (e, l)) :=
 limK_eq (lim_succ (fun f => by rw [postP]) (lim_ifK (lim_bndK (lim_const _) fun s r => lim_ifK (lim_bndK (largs r) fun es r2 => lpost _ r2) (lpost _ r)) (lim_ifK (lim_bndK (lexpr (n := 0) (by decide) _) fun i r => lim_expK (lpost _ _)) (lim_const _))))
theorem argsK_eq (l : List Tk) : argsK l = expP [40] l fun r => if isP [41] r = true then .ok ([], r.tail) else bndP (exprK 0 r) fun e r2 => moreK [e] r2 :=
 limK_eq (lim_succ (fun f => by rw [argsP]) (lim_expK (lim_ifK (lim_const _) (lim_bndK (lexpr (n := 0) (by decide) _) fun e r => lmore _ r))))
theorem moreK_eq (acc : List Ex) (l : List Tk) : moreK acc l = (if isP [44] l = true then bndP (exprK 0 l.tail) fun e r => moreK (acc ++ [e]) r else expP [41] l fun r => .ok (acc, r)) :=
 limK_eq (lim_succ (fun f => by rw [moreP]) (lim_ifK (lim_bndK (lexpr (n := 0) (by decide) _) fun e r => lmore _ r) (lim_const _)))
theorem parenK_eq (l : List Tk) : parenK l = expP [40] l fun r => bndP (exprK 0 r) fun e r2 => expP [41] r2 fun r3 => .ok (e, r3) :=
 limK_eq (lim_succ (fun f => by rw [parenP]) (by
  refine lim_expK ?_
  exact lim_bndK (lexpr (n := 0) (by decide) _) fun e r => lim_const _))
theorem operandK_eq (l : List Tk) : operandK l =
  (if hdK l = 3 then .ok (.mk 1 (hdN l) [] [] zTy [], l.tail)
  else if hdK l = 4 then .ok (.mk 2 (hdN l) [] [] zTy [], l.tail)
  else if hdK l = 5 then .ok (.mk 3 0 (hdS l) [] zTy [], l.tail)
  else if isIdP l = true then bndP (idP l) fun s r => .ok (.mk 6 0 s [] zTy [], r)
  else if isClsP l = true then bndP (clsP l) fun c r => expP [46] r fun r2 => bndP (idP r2) fun s r3 =>
   if isP [40] r3 = true then bndP (argsK r3) fun es r4 => .ok (.mk 11 0 s c zTy es, r4) else .ok (.mk 8 0 s c zTy [], r3)
  else if isP [40] l = true then parenK l
  else keyK l) :=
 limK_eq (lim_succ (fun f => by rw [operandP]) (by
  refine lim_ifK (lim_const _) (lim_ifK (lim_const _) (lim_ifK (lim_const _) (lim_ifK (lim_const _) (lim_ifK ?_ (lim_ifK (lparen l) (lkey l))))))
  refine lim_bndK (lim_const _) fun c r => lim_expK ?_
  refine lim_bndK (lim_const _) fun s r3 => ?_
  exact lim_ifK (lim_bndK (largs r3) fun es r4 => lim_const _) (lim_const _)))
theorem keyK_eq (l : List Tk) : keyK l =
  (if isP [110, 117, 108, 108] l = true then .ok (.mk 4 0 [] [] zTy [], l.tail)
  else if isP [116, 104, 105, 115] l = true then .ok (.mk 5 0 [] [] zTy [], l.tail)
  else if isP [115, 117, 112, 101, 114] l = true then expP [46] l.tail fun r => bndP (idP r) fun s r2 => bndP (argsK r2) fun es r3 => .ok (.mk 12 0 s [] zTy es, r3)
  else if isP [110, 101, 119] l = true then bndP (baseP l.tail) fun t r =>
   if t.base = 76 ∧ isP [40] r = true then bndP (argsK r) fun es r2 => .ok (.mk 13 0 [] t.name zTy es, r2)
   else expP [91] r fun r2 => bndP (newP r2.length t r2) fun t2 r3 => bndP (exprK 0 r3) fun e r4 => expP [93] r4 fun r5 => .ok (.mk 14 0 [] [] t2 [e], r5)
  else if isP [108, 101, 110] l = true then bndP (parenK l.tail) fun e r => .ok (.mk 19 0 [] [] zTy [e], r)
  else if isP intS l = true then bndP (parenK l.tail) fun e r => .ok (.mk 20 0 [] [] zTy [e], r)
  else if isP longS l = true then bndP (parenK l.tail) fun e r => .ok (.mk 21 0 [] [] zTy [e], r)
  else .error l) :=
 limK_eq (lim_succ (fun f => by rw [keyP]) (by
  refine lim_ifK (lim_const _) (lim_ifK (lim_const _) (lim_ifK ?_ (lim_ifK ?_ (lim_ifK (lim_bndK (lparen _) fun e r => lim_const _) (lim_ifK (lim_bndK (lparen _) fun e r => lim_const _) (lim_ifK (lim_bndK (lparen _) fun e r => lim_const _) (lim_const _)))))))
  ·refine lim_expK ?_
   exact lim_bndK (lim_const _) fun s r2 => lim_bndK (largs r2) fun es r3 => lim_const _
  ·refine lim_bndK (lim_const _) fun t r => ?_
   refine lim_ifK (lim_bndK (largs r) fun es r2 => lim_const _) (lim_expK ?_)
   refine lim_bndK (lim_const _) fun t2 r3 => ?_
   exact lim_bndK (lexpr (n := 0) (by decide) r3) fun e r4 => lim_const _))
/-! Equal is the same. -/
def ifW : List UInt8 := [105, 102]
def elseW : List UInt8 := [101, 108, 115, 101]
def whileW : List UInt8 := [119, 104, 105, 108, 101]
def retW : List UInt8 := [114, 101, 116, 117, 114, 110]
def throwW : List UInt8 := [116, 104, 114, 111, 119]
def tryW : List UInt8 := [116, 114, 121]
def catchW : List UInt8 := [99, 97, 116, 99, 104]
def syncW : List UInt8 := [115, 121, 110, 99]
def superW : List UInt8 := [115, 117, 112, 101, 114]
def declP (l : List Tk) : Bool := if (isP intS l || isP longS l) = true then !isP [40] l.tail else isClsP l && !isP [46] l.tail
mutual
def blockP : Nat → List Tk → PR (List St)
 | 0, l => .error l
 | f + 1, l => expP [123] l fun r => stmtsP f [] r
def stmtsP : Nat → List St → List Tk → PR (List St)
 | 0, _, l => .error l
 | f + 1, acc, l => if isP [125] l = true then .ok (acc, l.tail) else bndP (stmtP f l) fun s r => stmtsP f (acc ++ [s]) r
def stmtP : Nat → List Tk → PR St
 | 0, l => .error l
 | f + 1, l =>
  if isP ifW l = true then bndP (parenP f l.tail) fun e r => bndP (blockP f r) fun b r2 =>
   if isP elseW r2 = true then bndP (blockP f r2.tail) fun a r3 => .ok (.mk 4 [] zTy zE e b a, r3) else .ok (.mk 4 [] zTy zE e b [], r2)
  else if isP whileW l = true then bndP (parenP f l.tail) fun e r => bndP (blockP f r) fun b r2 => .ok (.mk 5 [] zTy zE e b [], r2)
  else if isP retW l = true then
   if isP [59] l.tail = true then .ok (.mk 6 [] zTy zE zE [] [], l.tail.tail) else bndP (exprP f 0 l.tail) fun e r => expP [59] r fun r2 => .ok (.mk 6 [] zTy zE e [] [], r2)
  else if isP throwW l = true then bndP (exprP f 0 l.tail) fun e r => expP [59] r fun r2 => .ok (.mk 7 [] zTy zE e [] [], r2)
  else if isP tryW l = true then bndP (blockP f l.tail) fun b r => expP catchW r fun r2 => expP [40] r2 fun r3 => bndP (typP r3) fun t r4 => bndP (idP r4) fun s r5 => expP [41] r5 fun r6 => bndP (blockP f r6) fun a r7 => .ok (.mk 8 s t zE zE b a, r7)
  else if isP syncW l = true then bndP (parenP f l.tail) fun e r => bndP (blockP f r) fun b r2 => .ok (.mk 9 [] zTy zE e b [], r2)
  else if isP [123] l = true then bndP (blockP f l) fun b r => .ok (.mk 10 [] zTy zE zE b [], r)
  else if isP superW l = true ∧ isP [40] l.tail = true then bndP (argsP f l.tail) fun es r => expP [59] r fun r2 => .ok (.mk 11 [] zTy zE (.mk 0 0 [] [] zTy es) [] [], r2)
  else if declP l = true then bndP (typP l) fun t r => bndP (idP r) fun s r2 => expP [61] r2 fun r3 => bndP (exprP f 0 r3) fun e r4 => expP [59] r4 fun r5 => .ok (.mk 1 s t zE e [] [], r5)
  else bndP (exprP f 0 l) fun e r =>
   if isP [61] r = true then bndP (exprP f 0 r.tail) fun x r2 => expP [59] r2 fun r3 => .ok (.mk 2 [] zTy e x [] [], r3)
   else expP [59] r fun r2 => .ok (.mk 3 [] zTy zE e [] [], r2)
end
/-! Flags. -/
def modsP : List (Int × List UInt8) → Int → List Tk → Int × List Tk
 | [], fl, l => (fl, l)
 | p :: q, fl, l => if isP p.2 l = true then modsP q (fl + p.1) l.tail else modsP q fl l
/-! Parameters. -/
def pmoreP : Nat → List Pc → List Tk → PR (List Pc)
 | 0, _, l => .error l
 | f + 1, acc, l => if isP [44] l = true then bndP (typP l.tail) fun t r => bndP (idP r) fun s r2 => pmoreP f (acc ++ [⟨t, s⟩]) r2 else expP [41] l fun r => .ok (acc, r)
def paramsP (f : Nat) (l : List Tk) : PR (List Pc) :=
 expP [40] l fun r => if isP [41] r = true then .ok ([], r.tail) else bndP (typP r) fun t r2 => bndP (idP r2) fun s r3 => pmoreP f [⟨t, s⟩] r3
/-! Members. -/
def newW : List UInt8 := [110, 101, 119]
def vTy : Ty := ⟨0, 86, []⟩
def Cd.addF (d : Cd) (x : Fc) : Cd := { d with fields := d.fields ++ [x] }
def Cd.addM (d : Cd) (x : Md) : Cd := { d with methods := d.methods ++ [x] }
def Cd.addI (d : Cd) (x : List St) : Cd := { d with init := d.init ++ x }
def restP (f : Nat) (d : Cd) (fl : Int) (t : Ty) (s : List UInt8) (l : List Tk) : PR Cd :=
 bndP (paramsP f l) fun ps r => if isP [59] r = true then .ok (d.addM ⟨fl, t, s, ps, false, []⟩, r.tail) else bndP (blockP f r) fun b r2 => .ok (d.addM ⟨fl, t, s, ps, true, b⟩, r2)
def memberP (f : Nat) (d : Cd) (fl : Int) (l : List Tk) : PR Cd :=
 if fl = 8 ∧ isP [123] l = true then bndP (blockP f l) fun b r => .ok (d.addI b, r)
 else if isP newW l = true then bndP (paramsP f l.tail) fun ps r => bndP (blockP f r) fun b r2 => .ok (d.addM ⟨fl, vTy, initS, ps, true, b⟩, r2)
 else if isP voidS l = true then bndP (idP l.tail) fun s r => restP f d fl vTy s r
 else bndP (typP l) fun t r => bndP (idP r) fun s r2 => if isP [59] r2 = true then .ok (d.addF ⟨fl, t, s⟩, r2.tail) else restP f d fl t s r2
def memsP : Nat → Cd → List Tk → PR Cd
 | 0, _, l => .error l
 | f + 1, d, l => if isP [125] l = true then .ok (d, l.tail) else bndP (memberP f d (modsP modsL 0 l).1 (modsP modsL 0 l).2) fun e r => memsP f e r
/-! Classes. -/
def pubW : List UInt8 := [112, 117, 98, 108, 105, 99]
def finW : List UInt8 := [102, 105, 110, 97, 108]
def absW : List UInt8 := [97, 98, 115, 116, 114, 97, 99, 116]
def ifcW : List UInt8 := [105, 110, 116, 101, 114, 102, 97, 99, 101]
def extW : List UInt8 := [101, 120, 116, 101, 110, 100, 115]
def impW : List UInt8 := [105, 109, 112, 108, 101, 109, 101, 110, 116, 115]
def clW : List UInt8 := [99, 108, 97, 115, 115]
def p1L : List (Int × List UInt8) := [(1, pubW)]
def p2L : List (Int × List UInt8) := [(16, finW), (1024, absW)]
def clsesP : Nat → List (List UInt8) → List Tk → PR (List (List UInt8))
 | 0, _, l => .error l
 | f + 1, acc, l => if isP [44] l = true then bndP (clsP l.tail) fun s r => clsesP f (acc ++ [s]) r else .ok (acc, l)
def ifsP (f : Nat) (w : List UInt8) (l : List Tk) : PR (List (List UInt8)) := if isP w l = true then bndP (clsP l.tail) fun s r => clsesP f [s] r else .ok ([], l)
def headP (f : Nat) (l : List Tk) : PR Cd :=
 if isP ifcW (modsP p1L 0 l).2 = true then bndP (clsP (modsP p1L 0 l).2.tail) fun n r => bndP (ifsP f extW r) fun is r2 => expP [123] r2 fun r3 => .ok (⟨(modsP p1L 0 l).1 + 1536, n, objS, is, [], [], []⟩, r3)
 else expP clW (modsP p2L (modsP p1L 0 l).1 (modsP p1L 0 l).2).2 fun r => bndP (clsP r) fun n r2 => expP extW r2 fun r3 => bndP (clsP r3) fun sp r4 => bndP (ifsP f impW r4) fun is r5 => expP [123] r5 fun r6 =>
  .ok (⟨(modsP p2L (modsP p1L 0 l).1 (modsP p1L 0 l).2).1, n, sp, is, [], [], []⟩, r6)
def clP (f : Nat) (l : List Tk) : PR Cd := bndP (headP f l) fun d r => memsP f d r
def progP : Nat → List Cd → List Tk → PR (List Cd)
 | 0, _, l => .error l
 | f + 1, acc, l => if l = [] then .ok (acc, []) else bndP (clP f l) fun d r => progP f (acc ++ [d]) r
structure SXs (l : List Tk) : Prop where
 block : Tot true (fun f => blockP f l) l
 stmt : Tot true (fun f => stmtP f l) l
 stmts : ∀ acc, Tot true (fun f => stmtsP f acc l) l
theorem tot_fin {α : Type} {x : α} {r : List Tk} : Tot false (fun _ => Except.ok (x, r)) r := tot_ok _ (List.suffix_refl _) fun h => by cases h
theorem tot_e0 (l : List Tk) : Tot true (fun f => exprP f 0 l) l := (ex_tot l).expr 0 (by decide)
theorem sx_of {l : List Tk} (ih : ∀ r : List Tk, r.length < l.length → SXs r) : SXs l := by
 have hblock : Tot true (fun f => blockP f l) l := by
  refine tot_succ (h := fun f => expP [123] l fun r => stmtsP f [] r) (fun f => by rw [blockP]) ?_
  exact tot_exp (a := true) fun _ hlt => (ih _ hlt).stmts _
 have hpb : ∀ (l2 : List Tk) (k : Nat → Ex → List St → List Tk → PR St), l2.length < l.length → (∀ e b r, r.length < l.length → Tot false (fun f => k f e b r) r) → Tot true (fun f => bndP (parenP f l2) fun e r => bndP (blockP f r) fun b r2 => k f e b r2) l2 := fun l2 k h1 h2 =>
  tot_bnd (b := true) (ex_tot l2).paren fun e r _ h3 => by
   have := h3 rfl
   exact tot_weak true (tot_bnd (b := false) (ih r (by omega)).block fun b r2 h4 _ => h2 e b r2 (by have q := suf_len h4; omega)) fun _ => rfl
 have hstmt : Tot true (fun f => stmtP f l) l := by
  refine tot_succ (h := fun f =>
   if isP ifW l = true then bndP (parenP f l.tail) fun e r => bndP (blockP f r) fun b r2 =>
    if isP elseW r2 = true then bndP (blockP f r2.tail) fun a r3 => .ok (.mk 4 [] zTy zE e b a, r3) else .ok (.mk 4 [] zTy zE e b [], r2)
   else if isP whileW l = true then bndP (parenP f l.tail) fun e r => bndP (blockP f r) fun b r2 => .ok (.mk 5 [] zTy zE e b [], r2)
   else if isP retW l = true then
    if isP [59] l.tail = true then .ok (.mk 6 [] zTy zE zE [] [], l.tail.tail) else bndP (exprP f 0 l.tail) fun e r => expP [59] r fun r2 => .ok (.mk 6 [] zTy zE e [] [], r2)
   else if isP throwW l = true then bndP (exprP f 0 l.tail) fun e r => expP [59] r fun r2 => .ok (.mk 7 [] zTy zE e [] [], r2)
   else if isP tryW l = true then bndP (blockP f l.tail) fun b r => expP catchW r fun r2 => expP [40] r2 fun r3 => bndP (typP r3) fun t r4 => bndP (idP r4) fun s r5 => expP [41] r5 fun r6 => bndP (blockP f r6) fun a r7 => .ok (.mk 8 s t zE zE b a, r7)
   else if isP syncW l = true then bndP (parenP f l.tail) fun e r => bndP (blockP f r) fun b r2 => .ok (.mk 9 [] zTy zE e b [], r2)
   else if isP [123] l = true then bndP (blockP f l) fun b r => .ok (.mk 10 [] zTy zE zE b [], r)
   else if isP superW l = true ∧ isP [40] l.tail = true then bndP (argsP f l.tail) fun es r => expP [59] r fun r2 => .ok (.mk 11 [] zTy zE (.mk 0 0 [] [] zTy es) [] [], r2)
   else if declP l = true then bndP (typP l) fun t r => bndP (idP r) fun s r2 => expP [61] r2 fun r3 => bndP (exprP f 0 r3) fun e r4 => expP [59] r4 fun r5 => .ok (.mk 1 s t zE e [] [], r5)
   else bndP (exprP f 0 l) fun e r =>
    if isP [61] r = true then bndP (exprP f 0 r.tail) fun x r2 => expP [59] r2 fun r3 => .ok (.mk 2 [] zTy e x [] [], r3)
    else expP [59] r fun r2 => .ok (.mk 3 [] zTy zE e [] [], r2)) (fun f => by rw [stmtP]) ?_
  refine tot_if (fun h => ?_) fun _ => tot_if (fun h => ?_) fun _ => tot_if (fun h => ?_) fun _ => tot_if (fun h => ?_) fun _ => tot_if (fun h => ?_) fun _ => tot_if (fun h => ?_) fun _ =>
   tot_if (fun h => ?_) fun _ => tot_if (fun h => ?_) fun _ => tot_if (fun h => ?_) fun _ => ?_
  ·have hlt := tail_lt (isP_ne h)
   refine tot_lt (tail_suf l) hlt (hpb l.tail _ hlt fun e b r hr => ?_)
   exact tot_if (fun h2 => tot_up (tail_suf r) (tot_weak false (tot_bnd (b := false) (ih _ (by have := tail_lt (isP_ne h2); omega)).block fun a r3 _ _ => tot_fin) fun h => by cases h)) fun _ => tot_fin
  ·have hlt := tail_lt (isP_ne h)
   exact tot_lt (tail_suf l) hlt (hpb l.tail _ hlt fun e b r hr => tot_fin)
  ·have hlt := tail_lt (isP_ne h)
   refine tot_if (fun h2 => tot_ok _ ((tail_suf _).trans (tail_suf l)) fun _ => by have := suf_len (tail_suf l.tail); omega) fun _ => ?_
   exact tot_lt (tail_suf l) hlt (tot_bnd (b := true) (tot_e0 _) fun e r _ _ => tot_exp (a := false) fun _ _ => tot_fin)
  ·have hlt := tail_lt (isP_ne h)
   exact tot_lt (tail_suf l) hlt (tot_bnd (b := true) (tot_e0 _) fun e r _ _ => tot_exp (a := false) fun _ _ => tot_fin)
  ·have hlt := tail_lt (isP_ne h)
   refine tot_lt (tail_suf l) hlt (tot_bnd (b := true) (ih _ hlt).block fun b r h1 _ => ?_)
   have q1 := suf_len h1
   refine tot_exp (a := true) fun _ hl1 => tot_exp (a := true) fun _ hl2 => tot_bnd (b := true) (tot_typ _) fun t r4 h2 _ => ?_
   have q2 := suf_len h2
   refine tot_bnd (b := true) (tot_id _) fun s r5 h3 _ => ?_
   have q3 := suf_len h3
   refine tot_exp (a := true) fun _ hl3 => ?_
   exact tot_bnd (b := false) (ih _ (by omega)).block fun a r7 _ _ => tot_fin
  ·have hlt := tail_lt (isP_ne h)
   exact tot_lt (tail_suf l) hlt (hpb l.tail _ hlt fun e b r hr => tot_fin)
  ·exact tot_bnd (b := false) hblock fun b r _ _ => tot_fin
  ·have hlt := tail_lt (isP_ne h.1)
   exact tot_lt (tail_suf l) hlt (tot_bnd (b := true) (ex_tot _).args fun es r _ _ => tot_exp (a := false) fun _ _ => tot_fin)
  ·refine tot_bnd (b := true) (tot_typ l) fun t r _ _ => tot_bnd (b := true) (tot_id r) fun s r2 _ _ => tot_exp (a := true) fun _ _ => tot_bnd (b := true) (tot_e0 _) fun e r4 _ _ => tot_exp (a := false) fun _ _ => tot_fin
  ·refine tot_bnd (b := true) (tot_e0 l) fun e r _ _ => tot_if (fun h => ?_) fun _ => tot_exp (a := false) fun _ _ => tot_fin
   exact tot_lt (tail_suf r) (tail_lt (isP_ne h)) (tot_bnd (b := true) (tot_e0 _) fun x r2 _ _ => tot_exp (a := false) fun _ _ => tot_fin)
 have hstmts : ∀ acc, Tot true (fun f => stmtsP f acc l) l := fun acc => by
  refine tot_succ (h := fun f => if isP [125] l = true then .ok (acc, l.tail) else bndP (stmtP f l) fun s r => stmtsP f (acc ++ [s]) r) (fun f => by rw [stmtsP]) ?_
  refine tot_if (fun h => tot_ok _ (tail_suf l) fun _ => tail_lt (isP_ne h)) fun _ => ?_
  exact tot_bnd (b := true) hstmt fun s r h1 h2 => (ih r (h2 rfl)).stmts _
 exact ⟨hblock, hstmt, hstmts⟩
theorem sx_all : ∀ (N : Nat) (l : List Tk), l.length ≤ N → SXs l
 | 0, l, h => sx_of fun r hr => by omega
 | N + 1, l, h => sx_of fun r hr => sx_all N r (by omega)
theorem sx_tot (l : List Tk) : SXs l := sx_all _ l (Nnr _)
noncomputable def blockK (l : List Tk) : PR (List St) := limK fun f => blockP f l
noncomputable def stmtK (l : List Tk) : PR St := limK fun f => stmtP f l
noncomputable def stmtsK (acc : List St) (l : List Tk) : PR (List St) := limK fun f => stmtsP f acc l
theorem lblock (l : List Tk) : Lim (fun f => blockP f l) (blockK l) := (sx_tot l).block.lim
theorem lstmt (l : List Tk) : Lim (fun f => stmtP f l) (stmtK l) := (sx_tot l).stmt.lim
theorem lstmts (acc : List St) (l : List Tk) : Lim (fun f => stmtsP f acc l) (stmtsK acc l) := ((sx_tot l).stmts acc).lim
theorem le0 (l : List Tk) : Lim (fun f => exprP f 0 l) (exprK 0 l) := lexpr (n := 0) (by decide) l
theorem blockK_eq (l : List Tk) : blockK l = expP [123] l fun r => stmtsK [] r :=
 limK_eq (lim_succ (fun f => by rw [blockP]) (lim_expK (lstmts _ _)))
theorem stmtsK_eq (acc : List St) (l : List Tk) : stmtsK acc l = (if isP [125] l = true then .ok (acc, l.tail) else bndP (stmtK l) fun s r => stmtsK (acc ++ [s]) r) :=
 limK_eq (lim_succ (fun f => by rw [stmtsP]) (lim_ifK (lim_const _) (lim_bndK (lstmt l) fun s r => lstmts _ _)))
theorem stmtK_eq (l : List Tk) : stmtK l =
  (if isP ifW l = true then bndP (parenK l.tail) fun e r => bndP (blockK r) fun b r2 =>
   if isP elseW r2 = true then bndP (blockK r2.tail) fun a r3 => .ok (.mk 4 [] zTy zE e b a, r3) else .ok (.mk 4 [] zTy zE e b [], r2)
  else if isP whileW l = true then bndP (parenK l.tail) fun e r => bndP (blockK r) fun b r2 => .ok (.mk 5 [] zTy zE e b [], r2)
  else if isP retW l = true then
   if isP [59] l.tail = true then .ok (.mk 6 [] zTy zE zE [] [], l.tail.tail) else bndP (exprK 0 l.tail) fun e r => expP [59] r fun r2 => .ok (.mk 6 [] zTy zE e [] [], r2)
  else if isP throwW l = true then bndP (exprK 0 l.tail) fun e r => expP [59] r fun r2 => .ok (.mk 7 [] zTy zE e [] [], r2)
  else if isP tryW l = true then bndP (blockK l.tail) fun b r => expP catchW r fun r2 => expP [40] r2 fun r3 => bndP (typP r3) fun t r4 => bndP (idP r4) fun s r5 => expP [41] r5 fun r6 => bndP (blockK r6) fun a r7 => .ok (.mk 8 s t zE zE b a, r7)
  else if isP syncW l = true then bndP (parenK l.tail) fun e r => bndP (blockK r) fun b r2 => .ok (.mk 9 [] zTy zE e b [], r2)
  else if isP [123] l = true then bndP (blockK l) fun b r => .ok (.mk 10 [] zTy zE zE b [], r)
  else if isP superW l = true ∧ isP [40] l.tail = true then bndP (argsK l.tail) fun es r => expP [59] r fun r2 => .ok (.mk 11 [] zTy zE (.mk 0 0 [] [] zTy es) [] [], r2)
  else if declP l = true then bndP (typP l) fun t r => bndP (idP r) fun s r2 => expP [61] r2 fun r3 => bndP (exprK 0 r3) fun e r4 => expP [59] r4 fun r5 => .ok (.mk 1 s t zE e [] [], r5)
  else bndP (exprK 0 l) fun e r =>
   if isP [61] r = true then bndP (exprK 0 r.tail) fun x r2 => expP [59] r2 fun r3 => .ok (.mk 2 [] zTy e x [] [], r3)
   else expP [59] r fun r2 => .ok (.mk 3 [] zTy zE e [] [], r2)) :=
 limK_eq (lim_succ (fun f => by rw [stmtP]) (by
  refine lim_ifK ?_ (lim_ifK ?_ (lim_ifK (lim_ifK (lim_const _) ?_) (lim_ifK ?_ (lim_ifK ?_ (lim_ifK ?_ (lim_ifK ?_ (lim_ifK ?_ (lim_ifK ?_ ?_))))))))
  ·refine lim_bndK (lparen _) fun e r => lim_bndK (lblock _) fun b r2 => ?_
   exact lim_ifK (lim_bndK (lblock _) fun a r3 => lim_const _) (lim_const _)
  ·exact lim_bndK (lparen _) fun e r => lim_bndK (lblock _) fun b r2 => lim_const _
  ·exact lim_bndK (le0 _) fun e r => lim_const _
  ·exact lim_bndK (le0 _) fun e r => lim_const _
  ·refine lim_bndK (lblock _) fun b r => lim_expK (lim_expK ?_)
   refine lim_bndK (lim_const _) fun t r4 => ?_
   refine lim_bndK (lim_const _) fun s r5 => lim_expK ?_
   exact lim_bndK (lblock _) fun a r7 => lim_const _
  ·exact lim_bndK (lparen _) fun e r => lim_bndK (lblock _) fun b r2 => lim_const _
  ·exact lim_bndK (lblock _) fun b r => lim_const _
  ·exact lim_bndK (largs _) fun es r => lim_const _
  ·refine lim_bndK (lim_const _) fun t r => ?_
   refine lim_bndK (lim_const _) fun s r2 => lim_expK ?_
   exact lim_bndK (le0 _) fun e r4 => lim_const _
  ·refine lim_bndK (le0 _) fun e r => ?_
   exact lim_ifK (lim_bndK (le0 _) fun x r2 => lim_const _) (lim_const _)))
/-! Parameters, members, classes. -/
theorem pmore_tot : ∀ (N : Nat) (acc : List Pc) (l : List Tk), l.length ≤ N → Tot true (fun f => pmoreP f acc l) l := fun N => by
 induction N with
 | zero =>
  intro acc l h
  have hl : l = [] := List.length_eq_zero_iff.1 (by omega)
  subst hl
  refine tot_succ (h := fun _ => .error []) (fun f => by rw [pmoreP]; rfl) (tot_er (List.suffix_refl _))
 | succ N ih =>
  intro acc l h
  refine tot_succ (h := fun f => if isP [44] l = true then bndP (typP l.tail) fun t r => bndP (idP r) fun s r2 => pmoreP f (acc ++ [⟨t, s⟩]) r2 else expP [41] l fun r => .ok (acc, r)) (fun f => by rw [pmoreP]) ?_
  refine tot_if (fun hp => ?_) fun _ => tot_exp (a := false) fun _ _ => tot_fin
  have hlt := tail_lt (isP_ne hp)
  refine tot_lt (tail_suf l) hlt (tot_bnd (b := true) (tot_typ _) fun t r h1 _ => ?_)
  have q1 := suf_len h1
  refine tot_bnd (b := true) (tot_id _) fun s r2 h2 _ => ?_
  have q2 := suf_len h2
  exact ih _ r2 (by omega)
noncomputable def pmoreK (acc : List Pc) (l : List Tk) : PR (List Pc) := limK fun f => pmoreP f acc l
theorem lpmore (acc : List Pc) (l : List Tk) : Lim (fun f => pmoreP f acc l) (pmoreK acc l) := (pmore_tot _ acc l (Nnr _)).lim
theorem pmoreK_eq (acc : List Pc) (l : List Tk) : pmoreK acc l = (if isP [44] l = true then bndP (typP l.tail) fun t r => bndP (idP r) fun s r2 => pmoreK (acc ++ [⟨t, s⟩]) r2 else expP [41] l fun r => .ok (acc, r)) :=
 limK_eq (lim_succ (fun f => by rw [pmoreP]) (by
  refine lim_ifK ?_ (lim_const _)
  refine lim_bndK (lim_const _) fun t r => ?_
  exact lim_bndK (lim_const _) fun s r2 => lpmore _ _))
theorem params_tot (l : List Tk) : Tot true (fun f => paramsP f l) l := by
 unfold paramsP
 refine tot_exp (a := false) fun _ _ => tot_if (fun _ => tot_ok _ (tail_suf _) fun h => by cases h) fun _ => ?_
 refine tot_weak false (tot_bnd (b := true) (tot_typ _) fun t r _ _ => tot_bnd (b := true) (tot_id _) fun s r3 _ _ => pmore_tot _ _ r3 (Nnr _)) fun h => by cases h
noncomputable def paramsK (l : List Tk) : PR (List Pc) := expP [40] l fun r => if isP [41] r = true then .ok ([], r.tail) else bndP (typP r) fun t r2 => bndP (idP r2) fun s r3 => pmoreK [⟨t, s⟩] r3
theorem lparams (l : List Tk) : Lim (fun f => paramsP f l) (paramsK l) := by
 unfold paramsP paramsK
 refine lim_expK (lim_ifK (lim_const _) ?_)
 refine lim_bndK (lim_const _) fun t r => ?_
 exact lim_bndK (lim_const _) fun s r3 => lpmore _ _
noncomputable def restK (d : Cd) (fl : Int) (t : Ty) (s : List UInt8) (l : List Tk) : PR Cd :=
 bndP (paramsK l) fun ps r => if isP [59] r = true then .ok (d.addM ⟨fl, t, s, ps, false, []⟩, r.tail) else bndP (blockK r) fun b r2 => .ok (d.addM ⟨fl, t, s, ps, true, b⟩, r2)
noncomputable def memberK (d : Cd) (fl : Int) (l : List Tk) : PR Cd :=
 if fl = 8 ∧ isP [123] l = true then bndP (blockK l) fun b r => .ok (d.addI b, r)
 else if isP newW l = true then bndP (paramsK l.tail) fun ps r => bndP (blockK r) fun b r2 => .ok (d.addM ⟨fl, vTy, initS, ps, true, b⟩, r2)
 else if isP voidS l = true then bndP (idP l.tail) fun s r => restK d fl vTy s r
 else bndP (typP l) fun t r => bndP (idP r) fun s r2 => if isP [59] r2 = true then .ok (d.addF ⟨fl, t, s⟩, r2.tail) else restK d fl t s r2
theorem lrest (d : Cd) (fl : Int) (t : Ty) (s : List UInt8) (l : List Tk) : Lim (fun f => restP f d fl t s l) (restK d fl t s l) := by
 unfold restP restK
 refine lim_bndK (lparams _) fun ps r => lim_ifK (lim_const _) ?_
 exact lim_bndK (lblock _) fun b r2 => lim_const _
theorem lmember (d : Cd) (fl : Int) (l : List Tk) : Lim (fun f => memberP f d fl l) (memberK d fl l) := by
 unfold memberP memberK
 refine lim_ifK (lim_bndK (lblock _) fun b r => lim_const _) (lim_ifK ?_ (lim_ifK ?_ ?_))
 ·exact lim_bndK (lparams _) fun ps r => lim_bndK (lblock _) fun b r2 => lim_const _
 ·exact lim_bndK (lim_const _) fun s r => lrest _ _ _ _ _
 ·refine lim_bndK (lim_const _) fun t r => ?_
  refine lim_bndK (lim_const _) fun s r2 => ?_
  exact lim_ifK (lim_const _) (lrest _ _ _ _ _)
theorem rest_tot (d : Cd) (fl : Int) (t : Ty) (s : List UInt8) (l : List Tk) : Tot true (fun f => restP f d fl t s l) l := by
 unfold restP
 refine tot_bnd (b := false) (params_tot _) fun ps r _ _ => tot_if (fun _ => tot_ok _ (tail_suf _) fun h => by cases h) fun _ => ?_
 exact tot_weak false (tot_bnd (b := false) (sx_tot r).block fun b r2 _ _ => tot_fin) fun h => by cases h
theorem member_tot (d : Cd) (fl : Int) (l : List Tk) : Tot true (fun f => memberP f d fl l) l := by
 unfold memberP
 refine tot_if (fun _ => tot_bnd (b := false) (sx_tot l).block fun b r _ _ => tot_fin) fun _ => tot_if (fun h => ?_) fun _ => tot_if (fun h => ?_) fun _ => ?_
 ·exact tot_lt (tail_suf l) (tail_lt (isP_ne h)) (tot_bnd (b := true) (params_tot _) fun ps r _ _ => tot_bnd (b := false) (sx_tot r).block fun b r2 _ _ => tot_fin)
 ·exact tot_lt (tail_suf l) (tail_lt (isP_ne h)) (tot_bnd (b := true) (tot_id _) fun s r _ _ => rest_tot _ _ _ _ _)
 ·refine tot_bnd (b := true) (tot_typ _) fun t r _ _ => tot_bnd (b := false) (tot_id _) fun s r2 _ _ => ?_
  exact tot_if (fun _ => tot_ok _ (tail_suf _) fun h => by cases h) fun _ => tot_weak false (rest_tot _ _ _ _ _) fun h => by cases h
theorem modsP_suf : ∀ (q : List (Int × List UInt8)) (fl : Int) (l : List Tk), (modsP q fl l).2 <:+ l
 | [], fl, l => List.suffix_refl _
 | p :: q, fl, l => by
  rw [modsP]
  split
  ·exact (modsP_suf q _ _).trans (tail_suf l)
  ·exact modsP_suf q _ _
theorem mems_tot : ∀ (N : Nat) (d : Cd) (l : List Tk), l.length ≤ N → Tot true (fun f => memsP f d l) l := fun N => by
 have step : ∀ (d : Cd) (l : List Tk), (∀ e (r : List Tk), r.length < l.length → Tot true (fun f => memsP f e r) r) → Tot true (fun f => memsP f d l) l := fun d l ih => by
  refine tot_succ (h := fun f => if isP [125] l = true then .ok (d, l.tail) else bndP (memberP f d (modsP modsL 0 l).1 (modsP modsL 0 l).2) fun e r => memsP f e r) (fun f => by rw [memsP]) ?_
  refine tot_if (fun h => tot_ok _ (tail_suf l) fun _ => tail_lt (isP_ne h)) fun _ => ?_
  have hs := modsP_suf modsL 0 l
  have q := suf_len hs
  exact tot_up hs (tot_bnd (b := true) (member_tot _ _ _) fun e r _ h2 => ih e r (by have := h2 rfl; omega))
 induction N with
 | zero => intro d l h; exact step d l fun e r hr => by omega
 | succ N ih => intro d l h; exact step d l fun e r hr => ih e r (by omega)
noncomputable def memsK (d : Cd) (l : List Tk) : PR Cd := limK fun f => memsP f d l
theorem lmems (d : Cd) (l : List Tk) : Lim (fun f => memsP f d l) (memsK d l) := (mems_tot _ d l (Nnr _)).lim
theorem memsK_eq (d : Cd) (l : List Tk) : memsK d l = (if isP [125] l = true then .ok (d, l.tail) else bndP (memberK d (modsP modsL 0 l).1 (modsP modsL 0 l).2) fun e r => memsK e r) :=
 limK_eq (lim_succ (fun f => by rw [memsP]) (lim_ifK (lim_const _) (lim_bndK (lmember _ _ _) fun e r => lmems _ _)))
theorem clses_tot : ∀ (N : Nat) (acc : List (List UInt8)) (l : List Tk), l.length ≤ N → Tot false (fun f => clsesP f acc l) l := fun N => by
 have step : ∀ (acc : List (List UInt8)) (l : List Tk), (∀ a (r : List Tk), r.length < l.length → Tot false (fun f => clsesP f a r) r) → Tot false (fun f => clsesP f acc l) l := fun acc l ih => by
  refine tot_succ (h := fun f => if isP [44] l = true then bndP (clsP l.tail) fun s r => clsesP f (acc ++ [s]) r else .ok (acc, l)) (fun f => by rw [clsesP]) ?_
  refine tot_if (fun h => ?_) fun _ => tot_fin
  have hlt := tail_lt (isP_ne h)
  exact tot_up (tail_suf l) (tot_weak false (tot_bnd (b := false) (tot_cls _) fun s r h1 _ => ih _ r (by have := suf_len h1; omega)) fun h => by cases h)
 induction N with
 | zero => intro acc l h; exact step acc l fun a r hr => by omega
 | succ N ih => intro acc l h; exact step acc l fun a r hr => ih a r (by omega)
noncomputable def clsesK (acc : List (List UInt8)) (l : List Tk) : PR (List (List UInt8)) := limK fun f => clsesP f acc l
theorem lclses (acc : List (List UInt8)) (l : List Tk) : Lim (fun f => clsesP f acc l) (clsesK acc l) := (clses_tot _ acc l (Nnr _)).lim
theorem clsesK_eq (acc : List (List UInt8)) (l : List Tk) : clsesK acc l = (if isP [44] l = true then bndP (clsP l.tail) fun s r => clsesK (acc ++ [s]) r else .ok (acc, l)) :=
 limK_eq (lim_succ (fun f => by rw [clsesP]) (by
  refine lim_ifK ?_ (lim_const _)
  exact lim_bndK (lim_const _) fun s r => lclses _ _))
noncomputable def ifsK (w : List UInt8) (l : List Tk) : PR (List (List UInt8)) := if isP w l = true then bndP (clsP l.tail) fun s r => clsesK [s] r else .ok ([], l)
theorem lifs (w : List UInt8) (l : List Tk) : Lim (fun f => ifsP f w l) (ifsK w l) := by
 unfold ifsP ifsK
 refine lim_ifK ?_ (lim_const _)
 exact lim_bndK (lim_const _) fun s r => lclses _ _
theorem ifs_tot (w : List UInt8) (l : List Tk) : Tot false (fun f => ifsP f w l) l := by
 unfold ifsP
 refine tot_if (fun h => ?_) fun _ => tot_fin
 exact tot_up (tail_suf l) (tot_weak false (tot_bnd (b := false) (tot_cls _) fun s r _ _ => clses_tot _ _ r (Nnr _)) fun h => by cases h)
noncomputable def headK (l : List Tk) : PR Cd :=
 if isP ifcW (modsP p1L 0 l).2 = true then bndP (clsP (modsP p1L 0 l).2.tail) fun n r => bndP (ifsK extW r) fun is r2 => expP [123] r2 fun r3 => .ok (⟨(modsP p1L 0 l).1 + 1536, n, objS, is, [], [], []⟩, r3)
 else expP clW (modsP p2L (modsP p1L 0 l).1 (modsP p1L 0 l).2).2 fun r => bndP (clsP r) fun n r2 => expP extW r2 fun r3 => bndP (clsP r3) fun sp r4 => bndP (ifsK impW r4) fun is r5 => expP [123] r5 fun r6 =>
  .ok (⟨(modsP p2L (modsP p1L 0 l).1 (modsP p1L 0 l).2).1, n, sp, is, [], [], []⟩, r6)
theorem lhead (l : List Tk) : Lim (fun f => headP f l) (headK l) := by
 unfold headP headK
 refine lim_ifK ?_ (lim_expK ?_)
 ·refine lim_bndK (lim_const _) fun n r => ?_
  exact lim_bndK (lifs _ _) fun is r2 => lim_const _
 ·refine lim_bndK (lim_const _) fun n r2 => lim_expK ?_
  refine lim_bndK (lim_const _) fun sp r4 => ?_
  exact lim_bndK (lifs _ _) fun is r5 => lim_const _
theorem head_tot (l : List Tk) : Tot true (fun f => headP f l) l := by
 unfold headP
 have s1 := modsP_suf p1L 0 l
 have s2 := (modsP_suf p2L (modsP p1L 0 l).1 (modsP p1L 0 l).2).trans s1
 refine tot_if (fun h => tot_up s1 ?_) fun _ => tot_up s2 ?_
 ·exact tot_lt (tail_suf _) (tail_lt (isP_ne h)) (tot_bnd (b := true) (tot_cls _) fun n r _ _ => tot_bnd (a := false) (b := true) (ifs_tot _ _) fun is r2 _ _ => tot_exp (a := false) fun _ _ => tot_fin)
 ·exact tot_exp (a := true) fun _ _ => tot_bnd (b := true) (tot_cls _) fun n r2 _ _ => tot_exp (a := true) fun _ _ => tot_bnd (b := true) (tot_cls _) fun sp r4 _ _ => tot_bnd (a := false) (b := true) (ifs_tot _ _) fun is r5 _ _ => tot_exp (a := false) fun _ _ => tot_fin
noncomputable def clK (l : List Tk) : PR Cd := bndP (headK l) fun d r => memsK d r
theorem lcl (l : List Tk) : Lim (fun f => clP f l) (clK l) := lim_bndK (lhead l) fun d r => lmems d r
theorem cl_tot (l : List Tk) : Tot true (fun f => clP f l) l := tot_bnd (b := true) (head_tot l) fun d r _ _ => mems_tot _ d r (Nnr _)
theorem prog_tot : ∀ (N : Nat) (acc : List Cd) (l : List Tk), l.length ≤ N → Tot false (fun f => progP f acc l) l := fun N => by
 have step : ∀ (acc : List Cd) (l : List Tk), (∀ a (r : List Tk), r.length < l.length → Tot false (fun f => progP f a r) r) → Tot false (fun f => progP f acc l) l := fun acc l ih => by
  refine tot_succ (h := fun f => if l = [] then .ok (acc, []) else bndP (clP f l) fun d r => progP f (acc ++ [d]) r) (fun f => by rw [progP]) ?_
  refine tot_if (fun h => tot_ok _ (by rw [h]; exact List.suffix_refl _) fun h => by cases h) fun _ => ?_
  exact tot_weak false (tot_bnd (b := false) (cl_tot l) fun d r _ h2 => ih _ r (h2 rfl)) fun h => by cases h
 induction N with
 | zero => intro acc l h; exact step acc l fun a r hr => by omega
 | succ N ih => intro acc l h; exact step acc l fun a r hr => ih a r (by omega)
noncomputable def progK (acc : List Cd) (l : List Tk) : PR (List Cd) := limK fun f => progP f acc l
theorem lprog (acc : List Cd) (l : List Tk) : Lim (fun f => progP f acc l) (progK acc l) := (prog_tot _ acc l (Nnr _)).lim
theorem progK_eq (acc : List Cd) (l : List Tk) : progK acc l = (if l = [] then .ok (acc, []) else bndP (clK l) fun d r => progK (acc ++ [d]) r) :=
 limK_eq (lim_succ (fun f => by rw [progP]) (lim_ifK (lim_const _) (lim_bndK (lcl l) fun d r => lprog _ _)))
theorem cur_hd (ts : List Tk) (i : Nat) : curT ts i = (ts.drop i).headD zT := by
 rw [curT, List.getD_eq_getElem?_getD, List.headD_eq_head?_getD, List.head?_drop]
theorem hdK_cur (ts : List Tk) (i : Nat) : hdK (ts.drop i) = (curT ts i).k := by
 rw [cur_hd]; cases ts.drop i <;> rfl
theorem hdS_cur (ts : List Tk) (i : Nat) : hdS (ts.drop i) = (curT ts i).s := by
 rw [cur_hd]; cases ts.drop i <;> rfl
theorem hdN_cur (ts : List Tk) (i : Nat) : hdN (ts.drop i) = (curT ts i).n := by
 rw [cur_hd]; cases ts.drop i <;> rfl
theorem isC_P (ts : List Tk) (i : Nat) (w : List UInt8) : isC ts i w = isP w (ts.drop i) := by
 rw [isC, cur_hd]
 cases ts.drop i with
 | nil => simp [zT, isP]
 | cons t r => rfl
def offR (en : Int) : List Tk → Int
 | [] => en
 | t :: _ => t.at_
structure Inv (ts : List Tk) (s : PSt) : Prop where
 le : s.i ≤ ts.length
 fl : s.fl = true → s.i = ts.length
structure Res {α : Type} (ts : List Tk) (en : Int) (s : PSt) (K : PR α) (a : α) (s' : PSt) : Prop where
 inv : Inv ts s'
 mono : s.i ≤ s'.i
 fl : s.fl = true → s' = s
 ok : s.fl = false → ∀ x r, K = .ok (x, r) → a = x ∧ s'.fl = false ∧ r = ts.drop s'.i
 er : s.fl = false → ∀ r, K = .error r → s'.fl = true ∧ s'.off = offR en r
def expSt (ts : List Tk) (en : Int) (s : PSt) (w : List UInt8) : PSt := if isC ts s.i w = true then s.next else failS ts en s
section
variable {ts : List Tk} {en : Int} {s s1 s' : PSt} {α β : Type}
theorem cur_end {i : Nat} (h : ts.length ≤ i) : curT ts i = zT := by rw [curT, List.getD_eq_getElem?_getD, List.getElem?_eq_none h]; rfl
theorem cur_get {i : Nat} (h : i < ts.length) : curT ts i = ts[i] := by rw [curT, List.getD_eq_getElem?_getD, List.getElem?_eq_getElem h]; rfl
theorem Inv.nfl (h : Inv ts s) (hi : s.i < ts.length) : s.fl = false := by
 cases e : s.fl with
 | false => rfl
 | true => have := h.fl e; omega
theorem Inv.next (h : Inv ts s) (hi : s.i < ts.length) : Inv ts s.next := ⟨hi, fun e => by
 have := h.nfl hi
 have e : s.fl = true := e
 rw [this] at e; cases e⟩
theorem inv_failS (h : Inv ts s) : Inv ts (failS ts en s) := by
 unfold failS
 split
 ·exact h
 ·exact ⟨Nnr _, fun _ => rfl⟩
theorem failS_le (h : Inv ts s) : s.i ≤ (failS ts en s).i := by
 unfold failS
 split
 ·exact Nnr _
 ·exact h.le
theorem failS_fl (s : PSt) : (failS ts en s).fl = true := by
 unfold failS
 split
 ·assumption
 ·rfl
theorem failS_same (h : s.fl = true) : failS ts en s = s := by rw [failS, if_pos h]
theorem failS_off (h : s.fl = false) : (failS ts en s).off = offR en (ts.drop s.i) := by
 rw [failS, if_neg (by rw [h]; decide)]
 show (if _ then _ else _) = _
 split
 ·rename_i hi
  rw [cur_get hi, List.drop_eq_getElem_cons hi]; rfl
 ·rename_i hi
  rw [List.drop_eq_nil_of_le (by omega)]; rfl
theorem res_pure (a : α) (hs : Inv ts s) : Res ts en s (.ok (a, ts.drop s.i)) a s :=
 ⟨hs, Nnr _, fun _ => rfl, fun h x r e => by cases e; exact ⟨rfl, h, rfl⟩, fun _ r e => by cases e⟩
theorem res_fail (a : α) (hs : Inv ts s) : Res ts en s (.error (ts.drop s.i)) a (failS ts en s) :=
 ⟨inv_failS hs, failS_le hs, failS_same, fun _ x r e => by (cases e), fun h r e => by cases e; exact ⟨failS_fl s, failS_off h⟩⟩
theorem res_bnd {K1 : PR α} {K2 : α → List Tk → PR β} {a : α} {b : β} (h1 : Res ts en s K1 a s1) (h2 : Res ts en s1 (K2 a (ts.drop s1.i)) b s') : Res ts en s (bndP K1 K2) b s' := by
 refine ⟨h2.inv, Nat.le_trans h1.mono h2.mono, fun h => ?_, fun h x r e => ?_, fun h r e => ?_⟩
 ·have := h1.fl h
  subst this
  exact h2.fl h
 ·cases hK : K1 with
  | error r1 => rw [hK] at e; cases e
  | ok p =>
   obtain ⟨x1, r1⟩ := p
   obtain ⟨rfl, q2, rfl⟩ := h1.ok h x1 r1 hK
   rw [hK] at e
   exact h2.ok q2 x r e
 ·cases hK : K1 with
  | error r1 =>
   rw [hK] at e
   cases e
   obtain ⟨q1, q2⟩ := h1.er h _ hK
   have := h2.fl q1
   subst this
   exact ⟨q1, q2⟩
  | ok p =>
   obtain ⟨x1, r1⟩ := p
   obtain ⟨rfl, q2, rfl⟩ := h1.ok h x1 r1 hK
   rw [hK] at e
   exact h2.er q2 r e
theorem inv_expSt {w : List UInt8} (h : Inv ts s) : Inv ts (expSt ts en s w) := by
 unfold expSt
 split
 ·rename_i e; exact h.next (isC_lt e)
 ·exact inv_failS h
theorem expSt_le {w : List UInt8} (h : Inv ts s) : s.i ≤ (expSt ts en s w).i := by
 unfold expSt
 split
 ·exact Nat.le_succ _
 ·exact failS_le h
theorem res_next {K : PR α} {a : α} (hs : Inv ts s) (hi : s.i < ts.length) (h : Res ts en s.next K a s') : Res ts en s K a s' := by
 have hf := hs.nfl hi
 exact ⟨h.inv, Nat.le_trans (Nat.le_succ _) h.mono, fun e => (by rw [hf] at e; cases e), fun e => h.ok e, fun e => h.er e⟩
theorem drop_next (ts : List Tk) (s : PSt) : ts.drop s.next.i = (ts.drop s.i).tail := by
 rw [List.tail_drop]; rfl
theorem res_acc {k : List Tk → PR α} {a : α} (hs : Inv ts s) (hi : s.i < ts.length) (h : Res ts en s.next (k (ts.drop s.next.i)) a s') : Res ts en s (k (ts.drop s.i).tail) a s' := by
 rw [← drop_next]
 exact res_next hs hi h
theorem res_exp {k : List Tk → PR α} {a : α} {w : List UInt8} (hs : Inv ts s) (h : Res ts en (expSt ts en s w) (k (ts.drop (expSt ts en s w).i)) a s') : Res ts en s (expP w (ts.drop s.i) k) a s' := by
 unfold expP
 rw [← isC_P]
 unfold expSt at h
 by_cases hc : isC ts s.i w = true
 ·rw [if_pos hc] at h ⊢
  exact res_acc hs (isC_lt hc) h
 ·rw [if_neg hc] at h ⊢
  refine ⟨h.inv, Nat.le_trans (failS_le hs) h.mono, fun e => ?_, fun _ x r e => by (cases e), fun e r e2 => ?_⟩
  ·rw [failS_same e] at h
   exact h.fl e
  ·cases e2
   have := h.fl (failS_fl s)
   rw [this]
   exact ⟨failS_fl s, failS_off e⟩
end
theorem dims_fuel : ∀ (f g : Nat) (t : Ty) (l : List Tk), l.length ≤ f → l.length ≤ g → dimsP f t l = dimsP g t l
 | 0, 0, _, _, _, _ => rfl
 | 0, g + 1, t, l, h, _ => by
  have hl : l = [] := List.length_eq_zero_iff.1 (by omega)
  subst hl
  rw [dimsP, dimsP]; rfl
 | f + 1, 0, t, l, _, h => by
  have hl : l = [] := List.length_eq_zero_iff.1 (by omega)
  subst hl
  rw [dimsP, dimsP]; rfl
 | f + 1, g + 1, t, l, h1, h2 => by
  rw [dimsP, dimsP]
  by_cases h : isP [91] l = true
  ·rw [if_pos h, if_pos h]
   unfold expP
   have q1 := tail_lt (isP_ne h)
   have q2 := suf_len (tail_suf l.tail)
   dsimp only
   rw [dims_fuel f g t.up l.tail.tail (by omega) (by omega)]
  ·rw [if_neg h, if_neg h]
theorem new_fuel : ∀ (f g : Nat) (t : Ty) (l : List Tk), l.length ≤ f → l.length ≤ g → newP f t l = newP g t l
 | 0, 0, _, _, _, _ => rfl
 | 0, g + 1, t, l, h, _ => by
  have hl : l = [] := List.length_eq_zero_iff.1 (by omega)
  subst hl
  rw [newP, newP]; rfl
 | f + 1, 0, t, l, _, h => by
  have hl : l = [] := List.length_eq_zero_iff.1 (by omega)
  subst hl
  rw [newP, newP]; rfl
 | f + 1, g + 1, t, l, h1, h2 => by
  rw [newP, newP]
  by_cases h : isP [93] l = true
  ·rw [if_pos h, if_pos h]
   unfold expP
   have q1 := tail_lt (isP_ne h)
   have q2 := suf_len (tail_suf l.tail)
   dsimp only
   rw [new_fuel f g t.up l.tail.tail (by omega) (by omega)]
  ·rw [if_neg h, if_neg h]
def dimsK (t : Ty) (l : List Tk) : PR Ty := dimsP l.length t l
def newK (t : Ty) (l : List Tk) : PR Ty := newP l.length t l
theorem dimsK_eq (t : Ty) (l : List Tk) : dimsK t l = (if isP [91] l = true then expP [93] l.tail fun r => dimsK t.up r else .ok (t, l)) := by
 rw [dimsK, dims_fuel l.length (l.length + 1) t l (Nnr _) (by omega), dimsP]
 by_cases h : isP [91] l = true
 ·rw [if_pos h, if_pos h]
  unfold expP
  have q1 := suf_len (tail_suf l)
  have q2 := suf_len (tail_suf l.tail)
  dsimp only
  rw [dimsK, dims_fuel l.length l.tail.tail.length t.up l.tail.tail (by omega) (Nnr _)]
 ·rw [if_neg h, if_neg h]
theorem newK_eq (t : Ty) (l : List Tk) : newK t l = (if isP [93] l = true then expP [91] l.tail fun r => newK t.up r else .ok (t, l)) := by
 rw [newK, new_fuel l.length (l.length + 1) t l (Nnr _) (by omega), newP]
 by_cases h : isP [93] l = true
 ·rw [if_pos h, if_pos h]
  unfold expP
  have q1 := suf_len (tail_suf l)
  have q2 := suf_len (tail_suf l.tail)
  dsimp only
  rw [newK, new_fuel l.length l.tail.tail.length t.up l.tail.tail (by omega) (Nnr _)]
 ·rw [if_neg h, if_neg h]
section
variable {t : Tk} {a b : List Tk}
end
theorem typP_K (l : List Tk) : typP l = bndP (baseP l) fun t r => dimsK t r := rfl
end Go.Proofs.YtimddhkipjedcaaGreatDoor.E
namespace Go.Proofs.YtimddhkipjedcaaGreatDoor.E
open Go Go.RowKit
theorem phas_spec (s : List UInt8) (c : UInt8) (m : Mem) : FnH Tryz.prog 228 [.v (.string (bs s)), .v (.string (bs [c]))] ⟨[], []⟩ m fun r H' _ => r = .v (.bool (s.contains c)) ∧ H' = ⟨[], []⟩ := by
 refine (FnH_of (args := [.string (bs s), .string (bs [c])]) (R := fun y => y = .bool (s.contains c)) fun w D hwf hle => ?_).mono ?_
 ·refine (Tryz.strings_Contains_one (bs s) c w).mono ?_
  rintro e w' ⟨rfl, rfl⟩
  refine ⟨_, rfl, ?_, Below.refl _ _⟩
  rw [Lib.contains_iff_indexByte]
  rfl
 ·rintro r H' m' hm ⟨⟨y, rfl, rfl⟩, h1, h2⟩
  exact ⟨rfl, h1⟩
section
variable {P : Program} {cfg : Cfg}
def flatBx (V : Vl) (b : Bx) : Bx := ⟨b.id, b.ty, b.cs.map fun s => .v (denA V s)⟩
theorem flat_den (V : Vl) (l : List SV) : (l.map fun s => SV.v (denA V s)).map (denA V) = l.map (denA V) := by
 induction l with
 | nil => rfl
 | cons s r ih => simp only [List.map_cons, ih]; rfl
theorem okL_flat {nid : Nat} {vc : List Vc} {V : Vl} : ∀ l : List SV, okL nid vc (l.map fun s => SV.v (denA V s))
 | [] => trivial
 | s :: r => ⟨trivial, okL_flat r⟩
theorem flat_ids (V : Vl) : ∀ l : List Bx, (l.map (flatBx V)).map (fun b => V.β b.id) = l.map (fun b => V.β b.id)
 | [] => rfl
 | b :: r => by simp only [List.map_cons, flat_ids V r]; rfl
theorem blks_flat (V : Vl) (H : Hp) : blks V ⟨H.bx.map (flatBx V), H.vc⟩ = blks V H := by
 unfold blks
 rw [flat_ids]
theorem HSat_flat {V : Vl} {D : Nat → Nat} {w : World} {H : Hp} (h : HSat V D w H) : HSat V D w ⟨H.bx.map (flatBx V), H.vc⟩ := by
 refine ⟨fun b hb => ?_, h.vc, ?_, h.uniq⟩
 ·obtain ⟨b0, h0, rfl⟩ := List.mem_map.1 hb
  obtain ⟨⟨o, h1, h2⟩, h3⟩ := h.bx b0 h0
  refine ⟨⟨o, h1, ?_⟩, h3⟩
  show bxObj b0.ty ((b0.cs.map fun s => SV.v (denA V s)).map (denA V)) o
  rw [flat_den]
  exact h2
 ·rw [blks_flat]
  exact h.apart
theorem HSat_unflat {V : Vl} {D : Nat → Nat} {w : World} {H : Hp} (h : HSat V D w ⟨H.bx.map (flatBx V), H.vc⟩) : HSat V D w H := by
 refine ⟨fun b hb => ?_, h.vc, ?_, h.uniq⟩
 ·obtain ⟨⟨o, h1, h2⟩, h3⟩ := h.bx (flatBx V b) (List.mem_map.2 ⟨b, hb, rfl⟩)
  refine ⟨⟨o, h1, ?_⟩, h3⟩
  have h2' : bxObj b.ty ((b.cs.map fun s => SV.v (denA V s)).map (denA V)) o := h2
  rw [flat_den] at h2'
  exact h2'
 ·have := h.apart
  rw [blks_flat] at this
  exact this
theorem blks_subl {V : Vl} {H H2 : Hp} (hb : H2.bx.Sublist H.bx) (hv : H2.vc.Sublist H.vc) : (blks V H2).Sublist (blks V H) := by
 unfold blks
 exact (hb.map _).append (hv.filterMap _)
theorem HSat_subl {V : Vl} {D : Nat → Nat} {w : World} {H H2 : Hp} (h : HSat V D w H) (hb : H2.bx.Sublist H.bx) (hv : H2.vc.Sublist H.vc) : HSat V D w H2 :=
 ⟨fun b h0 => h.bx b (hb.subset h0), fun b h0 => h.vc b (hv.subset h0), h.apart.sublist (blks_subl hb hv), h.uniq.sublist (hv.map _)⟩
theorem FnH_pub {f : FuncId} {args : List SV} {H : Hp} {m : Mem} {R R' : SV → Hp → Mem → Prop} (h : FnH P f args H m R)
  (hR : ∀ r H' m', m.le m' → R r H' m' → R' r H' m' ∨ ∃ (g : SV → SV) (k u : Nat) (b : Vc) (H2 : Hp), lkV H'.vc k u = some b ∧ r = g (.vec k u) ∧
   (∀ (V : Vl) (v : Value), (V.γ k u).val = v → den V (g (.vec k u)) = den V (g (.v v))) ∧ H2.bx.Sublist H'.bx ∧ H2.vc.Sublist H'.vc ∧
   ∀ (a : Option Addr) (c : Nat) (m1 : Mem), m'.le m1 → b.n ≤ c → Rds m1 a b.n b.sz b.xs → R' (g (.v (.slice a b.n c))) H2 m1) : FnH P f args H m R' := by
 intro V w D hwf hle hH
 refine (h V w D hwf hle hH).mono ?_
 rintro e w' ⟨r, V', D', H', m', e1, e2, e3, e4, e5, e6, e7, e8, e9, e10, e11⟩
 rcases hR r H' m' e9 e11 with hr | ⟨g, k, u, b, H2, hb, rfl, hg, s1, s2, hK⟩
 ·exact ⟨r, V', D', H', m', e1, e2, e3, e4, e5, e6, e7, e8, e9, e10, hr⟩
 ·have hW : SatW ⟨w, D, (· ∈ blks V H), ⟨[], []⟩, V', m⟩ (H'.bx.map (flatBx V')) H'.vc (max (topB (H'.bx.map (flatBx V'))) (topV H'.vc)) m' V' D' w' := by
   refine ⟨HSat_flat e3, e2, e6, fun x hx => ?_, fun x hx => (by cases hx), fun x hx => (by cases hx), ⟨fun x hx => ⟨?_, ?_⟩, fun x hx => ?_⟩, e8, e9, e10⟩
   ·rw [blks_flat] at hx
    exact e7 x hx
   ·exact Nat.lt_of_lt_of_le (topB_lt hx) (Nat.le_max_left _ _)
   ·obtain ⟨b0, _, rfl⟩ := List.mem_map.1 hx
    exact okL_flat _
   ·exact Nat.lt_of_lt_of_le (topV_lt hx) (Nat.le_max_right _ _)
  obtain ⟨a, c, m1, D2, q1, q2, q3, q4, q5⟩ := SatW.pub (st := ⟨[], [], H'.bx.map (flatBx V'), H'.vc, max (topB (H'.bx.map (flatBx V'))) (topV H'.vc), m'⟩) hW hb
  have hS := HSat_subl (HSat_unflat q5.heap) s1 s2
  refine ⟨g (.v (.slice a b.n c)), V', D2, H2, m1, ?_, q5.wf, hS, e4, e5, q5.frm, fun x hx => e7 x ((blks_subl s1 s2).subset hx), q5.le0, q5.m0, q5.mle, hK a c m1 q1 q2 q3⟩
  rw [e1, hg V' _ q4]
def MatR (R' : SV → Hp → Mem → Prop) (r : SV) (H' : Hp) (m' : Mem) : Prop := ∃ H2 : Hp, (mBx ⟨[], [], H'.bx, H'.vc, 0, m'⟩ H2.bx ∧ mVc ⟨[], [], H'.bx, H'.vc, 0, m'⟩ H2.vc) ∧ R' r H2 m'
theorem FnH_mat {f : FuncId} {args : List SV} {H : Hp} {m : Mem} {R' : SV → Hp → Mem → Prop} (h : FnH P f args H m (MatR R')) : FnH P f args H m R' := by
 intro V w D hwf hle hH
 refine (h V w D hwf hle hH).mono ?_
 rintro e w' ⟨r, V', D', H', m', e1, e2, e3, e4, e5, e6, e7, e8, e9, e10, H2, ⟨hb, hv⟩, hr⟩
 obtain ⟨hbs, hbu⟩ := mBx_mem hb
 obtain ⟨hvs, hvu⟩ := mVc_mem hv
 have hap' := List.nodup_append.1 e3.apart
 refine ⟨r, V', D', H2, m', e1, e2, ⟨fun b hb => e3.bx b (hbs b hb), fun b hb => e3.vc b (hvs b hb), ?_, hvu⟩, e4, e5, e6, fun b hb => e7 b (blks_sub hbs hvs b hb), e8, e9, e10, hr⟩
 refine List.nodup_append.2 ⟨?_, ?_, fun x hx y hy => ?_⟩
 ·exact map_nodup hbu fun x hx y hy e => nodup_inj hap'.1 x (hbs x hx) y (hbs y hy) e
 ·exact filterMap_nodup hvu fun x hx y hy b e1 e2 => blk_uniq (hvs x hx) (hvs y hy) e1 e2 hap'.2.1
 ·refine hap'.2.2 x ?_ y ?_
  ·obtain ⟨z, hz, e⟩ := List.mem_map.1 hx; exact List.mem_map.2 ⟨z, hbs z hz, e⟩
  ·obtain ⟨z, hz, e⟩ := List.mem_filterMap.1 hy; exact List.mem_filterMap.2 ⟨z, hvs z hz, e⟩
def OwnR (R' : SV → Hp → Mem → Prop) (r : SV) (H' : Hp) (m' : Mem) : Prop := R' r H' m' ∨ ∃ (g : SV → SV) (k u : Nat) (b : Vc) (H2 : Hp), lkV H'.vc k u = some b ∧ r = g (.vec k u) ∧
 (∀ (V : Vl) (v : Value), (V.γ k u).val = v → den V (g (.vec k u)) = den V (g (.v v))) ∧ H2.bx.Sublist H'.bx ∧ H2.vc.Sublist H'.vc ∧
 ∀ (a : Option Addr) (c : Nat) (m1 : Mem), m'.le m1 → b.n ≤ c → Rds m1 a b.n b.sz b.xs → R' (g (.v (.slice a b.n c))) H2 m1
theorem FnH_own {f : FuncId} {args : List SV} {H : Hp} {m : Mem} {R' : SV → Hp → Mem → Prop} (h : FnH P f args H m (OwnR R')) : FnH P f args H m R' :=
 FnH_pub h fun _ _ _ _ hr => hr
theorem own_vec {R' : SV → Hp → Mem → Prop} {H' : Hp} {m' : Mem} {k u : Nat} {b : Vc} (hb : lkV H'.vc k u = some b) (H2 : Hp) (s1 : H2.bx.Sublist H'.bx) (s2 : H2.vc.Sublist H'.vc)
  (h : ∀ (a : Option Addr) (c : Nat) (m1 : Mem), m'.le m1 → b.n ≤ c → Rds m1 a b.n b.sz b.xs → R' (.v (.slice a b.n c)) H2 m1) : OwnR R' (.vec k u) H' m' :=
 .inr ⟨id, k, u, b, H2, hb, rfl, fun _ _ h => h, s1, s2, h⟩
theorem set_den {V : Vl} {v : Value} : ∀ {cs : List SV} {i k u : Nat}, cs[i]? = some (.vec k u) → (V.γ k u).val = v → (cs.set i (.vec k u)).map (denA V) = (cs.set i (.v v)).map (denA V)
 | c :: r, 0, k, u, h, e => by
  show denA V (.vec k u) :: _ = v :: _
  rw [← e]
  rfl
 | c :: r, i + 1, k, u, h, e => by
  simp only [List.set_cons_succ, List.map_cons]
  rw [set_den (cs := r) (i := i) (by simpa using h) e]
theorem own_agg {R' : SV → Hp → Mem → Prop} {H' : Hp} {m' : Mem} {cs : List SV} {k u : Nat} {b : Vc} (i : Nat) (hi : cs[i]? = some (.vec k u)) (hb : lkV H'.vc k u = some b) (H2 : Hp) (s1 : H2.bx.Sublist H'.bx) (s2 : H2.vc.Sublist H'.vc)
  (h : ∀ (a : Option Addr) (c : Nat) (m1 : Mem), m'.le m1 → b.n ≤ c → Rds m1 a b.n b.sz b.xs → R' (.agg (cs.set i (.v (.slice a b.n c)))) H2 m1) : OwnR R' (.agg cs) H' m' := by
 refine .inr ⟨fun z => .agg (cs.set i z), k, u, b, H2, hb, ?_, fun V v e => ?_, s1, s2, h⟩
 ·obtain ⟨hl, he⟩ := List.getElem?_eq_some_iff.1 hi
  simp only [← he, List.set_getElem_self]
 ·show Value.agg ⟨_⟩ = Value.agg ⟨_⟩
  rw [set_den hi e]
def pubBx (k : Nat) (K : LS → Prop) (st : LS) : Prop :=
 withO (.mk (k := fun b : Bx => pubA (.mk (k := fun cs' st' => okL st'.nid st'.vc cs' ∧ K ⟨st'.env, st'.rho, updB st'.bx k cs', st'.vc, st'.nid, st'.m⟩) (st, b.cs))) (lkB st.bx k))
theorem pubBx_def {k : Nat} {K : LS → Prop} {st : LS} : pubBx k K st =
  withO (.mk (k := fun b : Bx => pubA (.mk (k := fun cs' st' => okL st'.nid st'.vc cs' ∧ K ⟨st'.env, st'.rho, updB st'.bx k cs', st'.vc, st'.nid, st'.m⟩) (st, b.cs))) (lkB st.bx k)) := rfl
theorem updB_ids {k : Nat} {cs : List SV} : ∀ bx : List Bx, (updB bx k cs).map (·.id) = bx.map (·.id)
 | [] => rfl
 | ⟨k', t', cs'⟩ :: r => by
  simp only [updB]
  split
  ·rfl
  ·simp only [List.map_cons, updB_ids r]
theorem updB_mem {k : Nat} {cs : List SV} : ∀ {bx : List Bx} {b : Bx}, b ∈ updB bx k cs → b ∈ bx ∨ ∃ b0, b0 ∈ bx ∧ lkB bx k = some b0 ∧ b = ⟨b0.id, b0.ty, cs⟩
 | ⟨k', t', cs'⟩ :: r, b, h => by
  simp only [updB] at h
  split at h
  ·rename_i e
   rcases List.mem_cons.1 h with rfl | h
   ·refine .inr ⟨⟨k', t', cs'⟩, List.mem_cons_self .., ?_, rfl⟩
    simp only [lkB, if_pos e]
   ·exact .inl (List.mem_cons_of_mem _ h)
  ·rename_i e
   rcases List.mem_cons.1 h with rfl | h
   ·exact .inl (List.mem_cons_self ..)
   ·rcases updB_mem h with h | ⟨b0, h1, h2, h3⟩
    ·exact .inl (List.mem_cons_of_mem _ h)
    ·refine .inr ⟨b0, List.mem_cons_of_mem _ h1, ?_, h3⟩
     simp only [lkB, if_neg e]
     exact h2
theorem map_ids {V : Vl} {l l' : List Bx} (h : l'.map (·.id) = l.map (·.id)) : l'.map (fun b => V.β b.id) = l.map (fun b => V.β b.id) := by
 have := congrArg (List.map V.β) h
 simpa only [List.map_map, Function.comp_def] using this
theorem blks_ids {V : Vl} {bx bx' : List Bx} {vc : List Vc} (h : bx'.map (·.id) = bx.map (·.id)) : blks V ⟨bx', vc⟩ = blks V ⟨bx, vc⟩ := by
 unfold blks
 simp only [map_ids h]
theorem pubBx_sound {C : Ctx} {n : Nat} {st : LS} {a : Act} {w : World} {k : Nat} {K : LS → Prop} (hE : SatE C n st a w) (h : pubBx k K st) : ∃ st', SatE C n st' a w ∧ K st' := by
 obtain ⟨hrho, V, D, hS⟩ := hE
 unfold pubBx at h
 obtain ⟨b, hb, h⟩ := withO_some h
 obtain ⟨cs', m1, D1, ⟨ho, hK⟩, hW, hd, _⟩ := pubA_sound (st := st) b.cs _ st.m D h hS.w
 have hbm := (lkB_mem hb).2
 refine ⟨⟨st.env, st.rho, updB st.bx k cs', st.vc, st.nid, m1⟩, ⟨hrho, V, D1, ⟨hS.f, hS.ids, ⟨⟨fun x hx => ?_, hW.heap.vc, ?_, hW.heap.uniq⟩, hW.wf, hW.frm, ?_, hW.baseB, hW.baseV, ⟨fun x hx => ?_, hW.ids.2⟩, hW.le0, hW.m0, hW.mle⟩⟩⟩, hK⟩
 ·rcases updB_mem hx with hx | ⟨b0, h1, h2, rfl⟩
  ·exact hW.heap.bx x hx
  ·have e : b0 = b := by rw [h2] at hb; exact Option.some.inj hb
   subst e
   obtain ⟨⟨o, q1, q2⟩, q3⟩ := hW.heap.bx b0 h1
   refine ⟨⟨o, q1, ?_⟩, q3⟩
   show bxObj b0.ty (cs'.map (denA V)) o
   rw [hd]
   exact q2
 ·rw [blks_ids (updB_ids st.bx)]
  exact hW.heap.apart
 ·rw [blks_ids (updB_ids st.bx)]
  exact hW.own
 ·rcases updB_mem hx with hx | ⟨b0, h1, h2, rfl⟩
  ·exact hW.ids.1 x hx
  ·exact ⟨(hW.ids.1 b0 h1).1, ho⟩
theorem WP_loopT (hpu : PureOk cfg P) {n : Nat} {st : LS} {body : Code} {Q : Exit → LS → Prop} {X : Type} (T : (LS → Prop) → LS → Prop) (hT : ∀ (K : LS → Prop) (C : Ctx) (st : LS) (a : Act) (w : World), SatE C n st a w → T K st → ∃ st', SatE C n st' a w ∧ K st') (S : X → LS) (I : X → Prop) (μ : X → Nat)
  (hd : dstOkC n body = true) (hn : ∀ x, I x → st.nid ≤ (S x).nid) (hm : ∀ x, I x → leM st.m (S x).m) (hok : ∀ x, okHd (S x)) (h0 : T (fun st' => ∃ x, Match st' (S x) ∧ I x) st)
  (round : ∀ x, I x → vcC (.mk (k := (cfg, P, n, body, thenQ (T fun st' => ∃ x', Match st' (S x') ∧ I x' ∧ μ x' < μ x) Q)) (S x))) : WPv (.mk (k := (P, n, .loop body, Q)) st) := by
 rintro C a w ⟨hrho, V, D, hS⟩
 have hB : ∀ b ∈ C.H0.bx, b.id < st.nid := fun b hb => (hS.w.baseB b hb).2
 have hV : ∀ b ∈ C.H0.vc, b.id < st.nid := fun b hb => (hS.w.baseV b hb).2.1
 have hm0 : ∀ x, I x → C.m0.le (S x).m := fun x hx => by
  rcases hm x hx with e | h
  ·rw [← e]; exact hS.w.m0
  ·exact Mem.le_trans hS.w.m0 h
 have weak : ∀ (st1 : LS) (a1 : Act) (w1 : World) (x : X), SatE C n st1 a1 w1 → Match st1 (S x) → I x → SatE C n (S x) a1 w1 := by
  rintro st1 a1 w1 x ⟨_, V1, D1, hS1⟩ hM hx
  exact ⟨hM.2.1, V1, D1, hS1.weaken hM (hok x) (fun b hb => Nat.lt_of_lt_of_le (hB b hb) (hn x hx)) (fun b hb => Nat.lt_of_lt_of_le (hV b hb) (hn x hx)) (hm0 x hx)⟩
 obtain ⟨st1, hE1, x0, hM0, hI0⟩ := hT _ _ _ _ _ ⟨hrho, V, D, hS⟩ h0
 refine wp_loop_ghost (fun k a w => ∃ x, I x ∧ μ x = k ∧ SatE C n (S x) a w) (μ x0) ⟨x0, hI0, rfl, weak _ _ _ _ hE1 hM0 hI0⟩ ?_
 rintro k a1 w1 ⟨x, hx, rfl, hE⟩
 refine wp_mono (vcC_sound hpu hd (round x hx) C a1 w1 hE) ?_
 rintro e a2 w2 ⟨st2, hE2, hq⟩
 cases e with
 | normal =>
  obtain ⟨st3, hE3, x', hM, hx', hlt⟩ := hT _ _ _ _ _ hE2 hq
  exact ⟨μ x', hlt, x', hx', rfl, weak _ _ _ _ hE3 hM hx'⟩
 | exit id => exact ⟨st2, hE2, hq⟩
 | goto l => exact ⟨st2, hE2, hq⟩
 | ret => exact ⟨st2, hE2, hq⟩
 | panic ch => exact ⟨st2, hE2, hq⟩
 | outgrown => exact ⟨st2, hE2, hq⟩
theorem WP_loopB (hpu : PureOk cfg P) {n : Nat} {st : LS} {body : Code} {Q : Exit → LS → Prop} {X : Type} (k : Nat) (S : X → LS) (I : X → Prop) (μ : X → Nat)
  (hd : dstOkC n body = true) (hn : ∀ x, I x → st.nid ≤ (S x).nid) (hm : ∀ x, I x → leM st.m (S x).m) (hok : ∀ x, okHd (S x)) (h0 : pubBx k (fun st' => ∃ x, Match st' (S x) ∧ I x) st)
  (round : ∀ x, I x → vcC (.mk (k := (cfg, P, n, body, thenQ (pubBx k fun st' => ∃ x', Match st' (S x') ∧ I x' ∧ μ x' < μ x) Q)) (S x))) : WPv (.mk (k := (P, n, .loop body, Q)) st) :=
 WP_loopT hpu (pubBx k) (fun _ _ _ _ _ hE h => pubBx_sound hE h) S I μ hd hn hm hok h0 round
end
@[reducible] def prB (en : Int) (s : PSt) : Bx := ⟨0, 62, [.vec 1 0, .v (.int .i64 s.i), .v (.int .i64 en), .v (.bool s.fl), .v (.int .i64 s.off)]⟩
@[reducible] def tkV (ts : List Tk) : Vc := ⟨1, 0, 50, 4, ts.length, tkCells ts⟩
attribute [go_sem] prB tkV
structure TsB (ts : List Tk) : Prop where
 len : ts.length ≤ 1000000
 s : ∀ t ∈ ts, t.s.length ≤ 1000000
 n : ∀ t ∈ ts, I64 t.n
theorem TsB.cs {ts : List Tk} (h : TsB ts) (i : Nat) : (curT ts i).s.length ≤ 1000000 := by
 by_cases hi : i < ts.length
 ·rw [cur_get hi]; exact h.s _ (List.getElem_mem hi)
 ·rw [cur_end (by omega)]; exact Nat.zero_le _
theorem TsB.cn {ts : List Tk} (h : TsB ts) (i : Nat) : I64 (curT ts i).n := by
 by_cases hi : i < ts.length
 ·rw [cur_get hi]; exact h.n _ (List.getElem_mem hi)
 ·rw [cur_end (by omega)]; exact ⟨by decide, by decide⟩
theorem TsB.l8 {ts : List Tk} (h : TsB ts) : ts.length ≤ 100000000 := Nat.le_trans h.len (by decide)
theorem clsP_lt {ts : List Tk} {i : Nat} (h : isClsP (ts.drop i) = true) : i < ts.length := by
 rcases Nat.lt_or_ge i ts.length with hi | hi
 ·exact hi
 ·rw [List.drop_eq_nil_of_le hi] at h; cases h
theorem idP_lt {ts : List Tk} {i : Nat} (h : isIdP (ts.drop i) = true) : i < ts.length := by
 rcases Nat.lt_or_ge i ts.length with hi | hi
 ·exact hi
 ·rw [List.drop_eq_nil_of_le hi] at h; cases h
theorem cur_sc {ts : List Tk} {i : Nat} (h : i < ts.length) : (tkCells ts).getD (i * 4 + 1) undef = .string (bs (curT ts i).s) := by
 have := congrArg (fun l => l[1]?) (cur_cells h)
 simp only [List.getElem?_take, List.getElem?_drop] at this
 rw [if_pos (by decide)] at this
 rw [List.getD_eq_getElem?_getD, this]
 rfl
def pHas : List Value → Option (Prop × Value)
 | [.string a, .string b] => some (tl b = [47], .bool ((tl a).contains 47))
 | _ => none
attribute [go_sem] pHas.eq_1
theorem pureHas : Pure0 Tryz.prog 228 pHas := fun vals y hy hB m => by
 unfold pHas at hy
 split at hy
 ·rename_i a b
  cases hy
  have h := phas_spec (tl a) 47 m
  have e : b = bs [47] := by rw [← bs_tl b, hB]
  rw [e]
  rwa [bs_tl] at h
 ·cases hy
abbrev cfC : Cfg := mkCf (fun _ => false) [(134, pS1 BL fun s => .bool (isCls s)), (228, pHas)]
theorem puC : PureOk cfC Tryz.prog := pure_cons (by kernel_rfl) (pureS fun a m h => isCls_spec a m h) (pure_cons (by kernel_rfl) pureHas pure_nil)
theorem exp_spec (ts : List Tk) (en : Int) (s : PSt) (w : List UInt8) (m : Mem) (hn : ts.length ≤ 100000000) : FnH Tryz.prog 52 [.box 0 0, .v (.string (bs w))] (pH ts en s) m fun r H' m' => leM m m' ∧ r = .tup [] ∧ H' = pH ts en (expSt ts en s w) := expect_spec ts en s w m hn
section
variable (ts : List Tk) (en : Int) (s : PSt) (m : Mem)
theorem isClass_spec (hT : TsB ts) : FnH Tryz.prog 126 [.box 0 0] (pH ts en s) m fun r H' m' => leM m m' ∧ r = .v (.bool (isClsP (ts.drop s.i))) ∧ H' = pH ts en s := by
 have hp := peek_spec ts en s m hT.l8
 have hb := hT.cs s.i
 rw [isClsP, hdK_cur, hdS_cur]
 refine enter cfC puC Tryz.func126 rfl rfl (by kernel_rfl) rfl ?_ ?_
 ·simp only [go_sem, ↓tfi, ↓fti, ↓reduceIte]
 ·simp only [go_sem, ↓tfi, ↓fti, ↓reduceIte]
  refine cvl (hp.mono ?_)
  clear hp
  rintro r H' m1 hm1 ⟨rfl, rfl⟩
  simp only [go_sem, ↓tfi, ↓fti, ↓reduceIte]
  exact ⟨fun _ => by unfold BL; omega, .inr hm1⟩
theorem isIdent_spec (hT : TsB ts) : FnH Tryz.prog 190 [.box 0 0] (pH ts en s) m fun r H' m' => leM m m' ∧ r = .v (.bool (isIdP (ts.drop s.i))) ∧ H' = pH ts en s := by
 have hp := peek_spec ts en s m hT.l8
 have hb := hT.cs s.i
 rw [isIdP, hdK_cur, hdS_cur]
 refine enter cfC puC Tryz.func190 rfl rfl (by kernel_rfl) rfl ?_ ?_
 ·simp only [go_sem, ↓tfi, ↓fti, ↓reduceIte]
 ·simp only [go_sem, ↓tfi, ↓fti, ↓reduceIte]
  refine cvl (hp.mono ?_)
  clear hp
  rintro r H' m1 hm1 ⟨rfl, rfl⟩
  simp only [go_sem, ↓tfi, ↓fti, ↓reduceIte]
  exact ⟨fun _ => by unfold BL; omega, .inr hm1⟩
theorem pcls_spec (hT : TsB ts) (hI : Inv ts s) : FnH Tryz.prog 50 [.box 0 0] (pH ts en s) m fun r H' m' => leM m m' ∧ ∃ w s', r = .v (.string (bs w)) ∧ w.length ≤ 1000000 ∧ H' = pH ts en s' ∧ Res ts en s (clsP (ts.drop s.i)) w s' := by
 have hp := isClass_spec ts en s m hT
 have hb := hT.cs s.i
 by_cases h : isClsP (ts.drop s.i) = true
 ·rw [h] at hp
  have hi := clsP_lt h
  have hR : Res ts en s (clsP (ts.drop s.i)) (curT ts s.i).s s.next := by
   rw [clsP, if_pos h, hdS_cur, ← drop_next]
   exact res_next hI hi (res_pure _ (hI.next hi))
  refine enter cfC puC Tryz.func50 rfl rfl (by kernel_rfl) rfl ?_ ?_
  ·simp only [go_sem, ↓tfi, ↓fti, ↓reduceIte]
  ·simp only [go_sem, ↓tfi, ↓fti, ↓reduceIte]
   refine cvl (hp.mono ?_)
   clear hp
   rintro r H' m1 hm1 ⟨l1, rfl, rfl⟩
   simp only [go_sem, ↓tfi, ↓fti, ↓reduceIte]
   have hl := hT.len
   have ht := tk_len ts
   have e : (s.i + 1 - 1 : Int).toNat = s.i := by omega
   refine ⟨by unfold I64; omega, ?_⟩
   refine WP_draw (.hoist 0 (.hoist 1 (.hoist 2 (.hoist 3 (.hoist 4 (.hoist 5 (.hoist 6 (.hoist 7 (.hoist 8 (.hoist 9 (.hoist 10 (.hoist 11 (.hoist 12 .done))))))))))))) puC (by kernel_rfl) (by kernel_rfl) ?_
   simp only [go_sem, ↓tfi, ↓fti, ↓reduceIte]
   refine ⟨by unfold I64; omega, ⟨by omega, by omega⟩, by omega, by omega, l1, (curT ts s.i).s, s.next, ?_, hb, rfl, hR⟩
   rw [e]
   exact cur_sc hi
 ·have h' : isClsP (ts.drop s.i) = false := by simpa using h
  rw [h'] at hp
  have hf := fun m' => fail_spec ts en s m' hT.l8
  have hR : Res ts en s (clsP (ts.drop s.i)) [] (failS ts en s) := by
   rw [clsP, if_neg h]
   exact res_fail _ hI
  refine enter cfC puC Tryz.func50 rfl rfl (by kernel_rfl) rfl ?_ ?_
  ·simp only [go_sem, ↓tfi, ↓fti, ↓reduceIte]
  ·simp only [go_sem, ↓tfi, ↓fti, ↓reduceIte]
   refine cvl (hp.mono ?_)
   clear hp
   rintro r H' m1 hm1 ⟨l1, rfl, rfl⟩
   simp only [go_sem, ↓tfi, ↓fti, ↓reduceIte]
   refine cvl ((hf m1).mono ?_)
   clear hf
   rintro r H' m2 hm2 ⟨rfl, rfl, rfl⟩
   simp only [go_sem, ↓tfi, ↓fti, ↓reduceIte]
   exact ⟨l1, [], _, rfl, Nat.zero_le _, rfl, hR⟩
theorem pid_spec (hT : TsB ts) (hI : Inv ts s) : FnH Tryz.prog 130 [.box 0 0] (pH ts en s) m fun r H' m' => leM m m' ∧ ∃ w s', r = .v (.string (bs w)) ∧ w.length ≤ 1000000 ∧ H' = pH ts en s' ∧ Res ts en s (idP (ts.drop s.i)) w s' := by
 have hp := isIdent_spec ts en s m hT
 have hb := hT.cs s.i
 by_cases h : isIdP (ts.drop s.i) = true
 ·rw [h] at hp
  have hi := idP_lt h
  have hR : Res ts en s (idP (ts.drop s.i)) (curT ts s.i).s s.next := by
   rw [idP, if_pos h, hdS_cur, ← drop_next]
   exact res_next hI hi (res_pure _ (hI.next hi))
  refine enter cfC puC Tryz.func130 rfl rfl (by kernel_rfl) rfl ?_ ?_
  ·simp only [go_sem, ↓tfi, ↓fti, ↓reduceIte]
  ·simp only [go_sem, ↓tfi, ↓fti, ↓reduceIte]
   refine cvl (hp.mono ?_)
   clear hp
   rintro r H' m1 hm1 ⟨l1, rfl, rfl⟩
   simp only [go_sem, ↓tfi, ↓fti, ↓reduceIte]
   have hl := hT.len
   have ht := tk_len ts
   have e : (s.i + 1 - 1 : Int).toNat = s.i := by omega
   refine ⟨by unfold I64; omega, ?_⟩
   refine WP_draw (.hoist 0 (.hoist 1 (.hoist 2 (.hoist 3 (.hoist 4 (.hoist 5 (.hoist 6 (.hoist 7 (.hoist 8 (.hoist 9 (.hoist 10 (.hoist 11 (.hoist 12 .done))))))))))))) puC (by kernel_rfl) (by kernel_rfl) ?_
   simp only [go_sem, ↓tfi, ↓fti, ↓reduceIte]
   refine ⟨by unfold I64; omega, ⟨by omega, by omega⟩, by omega, by omega, l1, (curT ts s.i).s, s.next, ?_, hb, rfl, hR⟩
   rw [e]
   exact cur_sc hi
 ·have h' : isIdP (ts.drop s.i) = false := by simpa using h
  rw [h'] at hp
  have hf := fun m' => fail_spec ts en s m' hT.l8
  have hR : Res ts en s (idP (ts.drop s.i)) [] (failS ts en s) := by
   rw [idP, if_neg h]
   exact res_fail _ hI
  refine enter cfC puC Tryz.func130 rfl rfl (by kernel_rfl) rfl ?_ ?_
  ·simp only [go_sem, ↓tfi, ↓fti, ↓reduceIte]
  ·simp only [go_sem, ↓tfi, ↓fti, ↓reduceIte]
   refine cvl (hp.mono ?_)
   clear hp
   rintro r H' m1 hm1 ⟨l1, rfl, rfl⟩
   simp only [go_sem, ↓tfi, ↓fti, ↓reduceIte]
   refine cvl ((hf m1).mono ?_)
   clear hf
   rintro r H' m2 hm2 ⟨rfl, rfl, rfl⟩
   simp only [go_sem, ↓tfi, ↓fti, ↓reduceIte]
   exact ⟨l1, [], _, rfl, Nat.zero_le _, rfl, hR⟩
abbrev tyS (t : Ty) : SV := .agg [.v (.int .i64 t.dim), .v (.int .u8 t.base), .v (.string (bs t.name))]
theorem pbase_spec (hT : TsB ts) (hI : Inv ts s) : FnH Tryz.prog 153 [.box 0 0] (pH ts en s) m fun r H' m' => leM m m' ∧ ∃ t s', r = tyS t ∧ t.dim = 0 ∧ (0 ≤ t.base ∧ t.base < 256) ∧ t.name.length ≤ 1000000 ∧ H' = pH ts en s' ∧ Res ts en s (baseP (ts.drop s.i)) t s' := by
 have ha := accept_spec ts en s intS m hT.l8
 have hb := fun m' => accept_spec ts en s longS m' hT.l8
 have hc := fun m' => pcls_spec ts en s m' hT hI
 by_cases h1 : isC ts s.i intS = true
 ·rw [h1] at ha
  have hi := isC_lt h1
  have hR : Res ts en s (baseP (ts.drop s.i)) ⟨0, 73, []⟩ s.next := by
   rw [baseP, ← isC_P, if_pos h1, ← drop_next]
   exact res_next hI hi (res_pure _ (hI.next hi))
  refine enter cfN puN Tryz.func153 rfl rfl (by kernel_rfl) rfl ?_ ?_
  ·simp only [go_sem, ↓tfi, ↓fti, ↓reduceIte]
  ·simp only [go_sem, ↓tfi, ↓fti, ↓reduceIte]
   refine cvl (ha.mono ?_)
   clear ha hb hc
   rintro r H' m1 hm1 ⟨l1, rfl, rfl⟩
   simp only [go_sem, ↓tfi, ↓fti, ↓reduceIte]
   exact ⟨l1, ⟨0, 73, []⟩, s.next, rfl, rfl, by decide, Nat.zero_le _, rfl, hR⟩
 ·have h1' : isC ts s.i intS = false := by simpa using h1
  rw [h1'] at ha
  by_cases h2 : isC ts s.i longS = true
  ·have hb' := fun m' => (hb m').mono fun r H' m2 _ h => (⟨h.1, by have := h.2.1; rw [h2] at this; exact this, by have := h.2.2; rw [if_pos h2] at this; exact this⟩ : leM m' m2 ∧ r = .v (.bool true) ∧ H' = pH ts en s.next)
   clear hb
   have hi := isC_lt h2
   have hR : Res ts en s (baseP (ts.drop s.i)) ⟨0, 74, []⟩ s.next := by
    rw [baseP, ← isC_P, if_neg h1, ← isC_P, if_pos h2, ← drop_next]
    exact res_next hI hi (res_pure _ (hI.next hi))
   refine enter cfN puN Tryz.func153 rfl rfl (by kernel_rfl) rfl ?_ ?_
   ·simp only [go_sem, ↓tfi, ↓fti, ↓reduceIte]
   ·simp only [go_sem, ↓tfi, ↓fti, ↓reduceIte]
    refine cvl (ha.mono ?_)
    clear ha hc
    rintro r H' m1 hm1 ⟨l1, rfl, rfl⟩
    simp only [go_sem, ↓tfi, ↓fti, ↓reduceIte]
    refine cvl ((hb' m1).mono ?_)
    clear hb'
    rintro r H' m2 hm2 ⟨l2, rfl, rfl⟩
    simp only [go_sem, ↓tfi, ↓fti, ↓reduceIte]
    exact ⟨leM_tr l1 l2, ⟨0, 74, []⟩, s.next, rfl, rfl, by decide, Nat.zero_le _, rfl, hR⟩
  ·have h2' : isC ts s.i longS = false := by simpa using h2
   have hb' := fun m' => (hb m').mono fun r H' m2 _ h => (⟨h.1, by have := h.2.1; rw [h2'] at this; exact this, by have := h.2.2; rw [if_neg h2] at this; exact this⟩ : leM m' m2 ∧ r = .v (.bool false) ∧ H' = pH ts en s)
   clear hb
   refine enter cfN puN Tryz.func153 rfl rfl (by kernel_rfl) rfl ?_ ?_
   ·simp only [go_sem, ↓tfi, ↓fti, ↓reduceIte]
   ·simp only [go_sem, ↓tfi, ↓fti, ↓reduceIte]
    refine cvl (ha.mono ?_)
    clear ha
    rintro r H' m1 hm1 ⟨l1, rfl, rfl⟩
    simp only [go_sem, ↓tfi, ↓fti, ↓reduceIte]
    refine cvl ((hb' m1).mono ?_)
    clear hb'
    rintro r H' m2 hm2 ⟨l2, rfl, rfl⟩
    simp only [go_sem, ↓tfi, ↓fti, ↓reduceIte]
    refine cvl ((hc m2).mono ?_)
    clear hc
    rintro r H' m3 hm3 ⟨l3, w, s', rfl, hw, rfl, hR⟩
    simp only [go_sem, ↓tfi, ↓fti, ↓reduceIte]
    refine ⟨leM_tr (leM_tr l1 l2) l3, ⟨0, 76, w⟩, s', rfl, rfl, (by decide : (0 : Int) ≤ 76 ∧ (76 : Int) < 256), hw, rfl, ?_⟩
    rw [baseP, ← isC_P, if_neg h1, ← isC_P, if_neg h2]
    exact res_bnd hR (res_pure _ hR.inv)
theorem ptyp_spec (hT : TsB ts) (hI : Inv ts s) : FnH Tryz.prog 63 [.box 0 0] (pH ts en s) m fun r H' m' => leM m m' ∧ ∃ t s', r = tyS t ∧ TyOk t ∧ t.name.length ≤ 1000000 ∧ H' = pH ts en s' ∧ Res ts en s (typP (ts.drop s.i)) t s' := by
 have hb := pbase_spec ts en s m hT hI
 refine enter cfN puN Tryz.func63 rfl rfl (by kernel_rfl) rfl ?_ ?_
 ·simp only [go_sem, ↓tfi, ↓fti, ↓reduceIte]
 ·simp only [go_sem, ↓tfi, ↓fti, ↓reduceIte]
  refine cvl (hb.mono ?_)
  clear hb
  rintro r H' m1 hm1 ⟨l1, t1, s1, rfl, ht1, ht2, ht3, rfl, hR1⟩
  simp only [go_sem, ↓tfi, ↓fti, ↓reduceIte]
  refine WP_loop puN (fun y : PSt × Ty × Mem => ⟨[⟨0, [], .box 0 0⟩, ⟨2, [], .box 2 0⟩, ⟨3, [], .box 5 0⟩], [], [⟨5, 30, [.v (.int .i64 y.2.1.dim), .v (.int .u8 y.2.1.base), .v (.string (bs y.2.1.name))]⟩, prB en y.1, ⟨2, 30, [.v (.int .i64 0), .v (.int .u8 0), .v (.string (bs []))]⟩], [tkV ts], 20, y.2.2⟩)
   (fun y => leM m1 y.2.2 ∧ Inv ts y.1 ∧ y.2.1.name.length ≤ 1000000 ∧ (0 ≤ y.2.1.base ∧ y.2.1.base < 256) ∧ (0 ≤ y.2.1.dim ∧ y.2.1.dim ≤ y.1.i) ∧ ∀ a s', Res ts en y.1 (dimsK y.2.1 (ts.drop y.1.i)) a s' → Res ts en s (typP (ts.drop s.i)) a s')
   (fun y => ts.length - y.1.i) (s1, t1, m1) (by kernel_rfl) (fun _ _ => nbl rfl) (fun y hy => hy.1) (fun _ => ?_) ?_ ?_ ?_
  ·simp only [go_sem, ↓tfi, ↓fti, ↓reduceIte]
  ·simp only [go_sem, ↓tfi, ↓fti, ↓reduceIte]
  ·exact ⟨.inl rfl, hR1.inv, ht3, ht2, ⟨by dsimp only; omega, by dsimp only; omega⟩, fun a s' h => by rw [typP_K]; exact res_bnd hR1 h⟩
  ·rintro ⟨s2, t2, m2⟩ ⟨q1, q2, q3, q4, q5, q6⟩
   dsimp only at q1 q2 q3 q4 q5 q6
   have hl := hT.len
   have hil := q2.le
   have ha := accept_spec ts en s2 [91] m2 hT.l8
   by_cases h1 : isC ts s2.i [91] = true
   ·rw [h1] at ha
    have hi := isC_lt h1
    have hI3 := q2.next hi
    have he := fun m' => exp_spec ts en s2.next [93] m' hT.l8
    have hI4 : Inv ts (expSt ts en s2.next [93]) := inv_expSt hI3
    have hle : s2.i + 1 ≤ (expSt ts en s2.next [93]).i := expSt_le hI3
    simp only [go_sem, ↓tfi, ↓fti, ↓reduceIte]
    refine cvl (ha.mono ?_)
    clear ha
    rintro r H' m3 hm3 ⟨l3, rfl, rfl⟩
    simp only [go_sem, ↓tfi, ↓fti, ↓reduceIte]
    refine cvl ((he m3).mono ?_)
    clear he
    rintro r H' m4 hm4 ⟨l4, rfl, rfl⟩
    simp only [go_sem, ↓tfi, ↓fti, ↓reduceIte]
    refine ⟨by unfold I64; omega, (expSt ts en s2.next [93], t2.up, m4), ⟨⟨⟨rfl, rfl, rfl⟩, ⟨rfl, rfl, rfl⟩⟩, .inl rfl⟩, ⟨leM_tr (leM_tr q1 l3) l4, hI4, q3, q4, ⟨by show 0 ≤ t2.dim + 1; omega, by show t2.dim + 1 ≤ ((expSt ts en s2.next [93]).i : Int); omega⟩, fun a s' h => q6 a s' ?_⟩, by dsimp only; omega⟩
    rw [dimsK_eq, if_pos (by rw [← isC_P]; exact h1), ← drop_next]
    exact res_next q2 hi (res_exp hI3 h)
   ·have h1' : isC ts s2.i [91] = false := by simpa using h1
    rw [h1'] at ha
    simp only [go_sem, ↓tfi, ↓fti, ↓reduceIte]
    refine cvl (ha.mono ?_)
    clear ha
    rintro r H' m3 hm3 ⟨l3, rfl, rfl⟩
    simp only [go_sem, ↓tfi, ↓fti, ↓reduceIte]
    refine ⟨leM_tr (leM_tr l1 q1) l3, t2, s2, rfl, ⟨by unfold I64; omega, q4, by unfold big; omega⟩, q3, rfl, q6 _ _ ?_⟩
    rw [dimsK_eq, if_neg (by rw [← isC_P]; exact h1)]
    exact res_pure _ q2
end
theorem level_own (n : Nat) (hn : n ≤ 9) (m : Mem) : FnH Tryz.prog 152 [.v (.int .i64 n)] ⟨[], []⟩ m fun r H' m' => m' = m ∧ r = .vec 0 0 ∧ H' = ⟨[], [⟨0, 0, 9, 1, (levL n).length, strs (levL n)⟩]⟩ := by
 refine enter cfN puN Tryz.func152 rfl rfl (by kernel_rfl) rfl ?_ ?_
 ·simp only [go_sem, ↓tfi, ↓fti, ↓reduceIte]
 ·simp only [go_sem, ↓tfi, ↓fti, ↓reduceIte]
  exact ⟨fun h => by obtain rfl : n = 0 := (by omega); rfl, fun h0 => ⟨fun h => by obtain rfl : n = 1 := (by omega); rfl, fun h1 => ⟨fun h => by obtain rfl : n = 2 := (by omega); rfl, fun h2 => ⟨fun h => by obtain rfl : n = 3 := (by omega); rfl, fun h3 => ⟨fun h => by obtain rfl : n = 4 := (by omega); rfl, fun h4 => ⟨fun h => by obtain rfl : n = 5 := (by omega); rfl, fun h5 => ⟨fun h => by obtain rfl : n = 6 := (by omega); rfl, fun h6 => ⟨fun h => by obtain rfl : n = 7 := (by omega); rfl, fun h7 => ⟨fun h => by obtain rfl : n = 8 := (by omega); rfl, fun h8 => by obtain rfl : n = 9 := (by omega); rfl⟩⟩⟩⟩⟩⟩⟩⟩⟩
theorem level_spec (n : Nat) (hn : n ≤ 9) (m : Mem) : FnH Tryz.prog 152 [.v (.int .i64 n)] ⟨[], []⟩ m fun r H' m' => m.le m' ∧ ∃ a c, r = .v (.slice a (levL n).length c) ∧ (levL n).length ≤ c ∧ Rds m' a (levL n).length 1 (strs (levL n)) ∧ H' = ⟨[], []⟩ := by
 refine FnH_pub (level_own n hn m) ?_
 rintro r H' m' hm ⟨rfl, rfl, rfl⟩
 refine .inr ⟨id, 0, 0, _, ⟨[], []⟩, rfl, rfl, fun V v h => h, List.Sublist.refl _, List.nil_sublist _, fun a c m1 h1 h2 h3 => ⟨h1, a, c, rfl, h2, h3, rfl⟩⟩
section
variable (ts : List Tk) (en : Int) (s : PSt) (m : Mem)
theorem opP_lt {ts : List Tk} {n i : Nat} (h : isOpP n (ts.drop i) = true) : i < ts.length := by
 rcases Nat.lt_or_ge i ts.length with hi | hi
 ·exact hi
 ·rw [List.drop_eq_nil_of_le hi, isOpP] at h; cases h
theorem operator_spec (n : Nat) (hn : n ≤ 9) (hT : TsB ts) : FnH Tryz.prog 62 [.box 0 0, .v (.int .i64 n)] (pH ts en s) m fun r H' m' => leM m m' ∧
  ∃ w, r = .tup [.v (.string (bs w)), .v (.bool (isOpP n (ts.drop s.i)))] ∧ (isOpP n (ts.drop s.i) = true → w = hdS (ts.drop s.i)) ∧ H' = pH ts en (if isOpP n (ts.drop s.i) = true then s.next else s) := by
 have hp := peek_spec ts en s m hT.l8
 have hl := fun m' => level_spec n hn m'
 refine enter cfN puN Tryz.func62 rfl rfl (by kernel_rfl) rfl ?_ ?_
 ·simp only [go_sem, ↓tfi, ↓fti, ↓reduceIte]
 ·simp only [go_sem, ↓tfi, ↓fti, ↓reduceIte]
  refine cvl (hp.mono ?_)
  clear hp
  rintro r H' m1 hm1 ⟨rfl, rfl⟩
  simp only [go_sem, ↓tfi, ↓fti, ↓reduceIte]
  refine WP_draw (.hoist 0 (.hoist 1 (.hoist 2 (.hoist 3 (.hoist 4 (.hoist 6 (.hoist 7 (.alt 5 [7, 6] (.alt 8 [] (.hoist 9 .done) .stop) .stop)))))))) puN (by kernel_rfl) (by kernel_rfl) ?_
  simp only [go_sem, ↓tfi, ↓fti, ↓reduceIte]
  have hlen : (levL n).length ≤ 4611686018427387904 := by unfold levL; repeat (first | (split; decide) | split | decide)
  refine ⟨fun hk => cvl ((hl m1).mono ?_), fun hk => ?_⟩
  ·clear hl
   rintro r H' m2 hm2 ⟨_, a, c, rfl, hcp, hrd, rfl⟩
   have hc := contains_spec (levL n) (curT ts s.i).s a _ c m2 hrd hlen
   simp only [go_sem, ↓tfi, ↓fti, ↓reduceIte]
   refine ⟨⟨.inr hm2, .inr hm2⟩, by kernel_rfl, FnV_of (hc.mono ?_)⟩
   clear hc
   rintro r H' m3 hm3 ⟨rfl, rfl⟩
   simp only [go_sem, ↓tfi, ↓fti, ↓reduceIte]
   have hlm : leM m m3 := .inr (Mem.le_trans hm1 (Mem.le_trans hm2 hm3))
   refine ⟨fun h => ?_, fun h => ?_⟩
   ·have hf : isOpP n (ts.drop s.i) = true := by rw [isOpP, hdK_cur, hdS_cur, hk, h]; rfl
    have hi := opP_lt hf
    have hl := hT.len
    rw [hf]
    exact ⟨by unfold I64; omega, hlm, _, rfl, fun _ => (hdS_cur ts s.i).symm, rfl⟩
   ·have hf : isOpP n (ts.drop s.i) = false := by rw [isOpP, hdS_cur, h, Bool.and_false]
    rw [hf]
    exact ⟨hlm, [], rfl, fun h => (by cases h), rfl⟩
  ·have hf : isOpP n (ts.drop s.i) = false := by rw [isOpP, hdK_cur]; simp [hk]
   rw [hf]
   exact ⟨.inr hm1, [], rfl, fun h => (by cases h), rfl⟩
end
abbrev Nd.svs (x : Nd) : List SV := [.v (.int .i64 x.k), .v (.int .i64 x.n), .v (.string (bs x.s)), .v (.string (bs x.c)), .v (.int .i64 x.ty.dim), .v (.int .u8 x.ty.base), .v (.string (bs x.ty.name)), .v (.slice x.a x.l x.cp)]
abbrev ERes (ts : List Tk) (en : Int) (s : PSt) (K : PR Ex) (m : Mem) : SV → Hp → Mem → Prop := fun r H' m' => leM m m' ∧ ∃ (x : Nd) (e : Ex) (s' : PSt), r = .agg x.svs ∧ exRep m' e x.cs ∧ H' = pH ts en s' ∧ Res ts en s K e s'
abbrev ARes (ts : List Tk) (en : Int) (s : PSt) (K : PR (List Ex)) (m : Mem) : SV → Hp → Mem → Prop := fun r H' m' => leM m m' ∧ ∃ (es : List Ex) (a : Option Addr) (c : Nat) (xs : List Value) (s' : PSt), r = .v (.slice a es.length c) ∧ es.length ≤ c ∧ es.length ≤ 1000001 ∧ Rds m' a es.length 8 xs ∧ exsRep m' es xs ∧ H' = pH ts en s' ∧ Res ts en s K es s'
theorem byE : byT Tryz.prog 33 = 104 := by kernel_rfl
theorem byS : byT Tryz.prog 73 = 312 := by kernel_rfl
attribute [go_sem] byE byS
theorem room_of {n b : Nat} (hn : n ≤ 2000002) (hb : b ≤ 1000) : room n b := by
 have : n * b ≤ 2000002 * 1000 := Nat.mul_le_mul hn hb
 exact ⟨by omega, by unfold maxLen; omega⟩
theorem rds_none (m : Mem) (z : Nat) : Rds m none 0 z [] := ⟨by simp, fun h => absurd h (by decide)⟩
theorem mk_rep {m : Mem} {k n : Int} {s c : List UInt8} {ty : Ty} {es : List Ex} {a : Option Addr} {cp : Nat} {xs : List Value} (hk : I64 k) (hn : I64 n) (hs : s.length ≤ 1000000) (hc : c.length ≤ 1000000) (ht : TyOk ty)
  (hl : es.length ≤ 1000002) (hcp : es.length ≤ cp) (hr : Rds m a es.length 8 xs) (he : exsRep m es xs) : exRep m (.mk k n s c ty es) (Nd.cs ⟨k, n, s, c, ty, a, es.length, cp⟩) := by
 simp only [exRep]
 exact ⟨a, cp, xs, rfl, hcp, hr, ⟨hk, hn, by unfold big; omega, by unfold big; omega, ht, by unfold big; omega⟩, he⟩
theorem mk_rep0 {m : Mem} {k n : Int} {s c : List UInt8} {ty : Ty} (hk : I64 k) (hn : I64 n) (hs : s.length ≤ 1000000) (hc : c.length ≤ 1000000) (ht : TyOk ty) : exRep m (.mk k n s c ty []) (Nd.cs ⟨k, n, s, c, ty, none, 0, 0⟩) :=
 mk_rep (es := []) hk hn hs hc ht (Nat.zero_le _) (Nnr _) (rds_none m 8) (by simp only [exsRep])
theorem tyOk_z : TyOk zTy := ⟨⟨by decide, by decide⟩, by decide, by decide⟩
theorem exs1 {m : Mem} {e : Ex} {x : Nd} (h : exRep m e x.cs) : exsRep m [e] x.cs := by
 simp only [exsRep, and_true]
 exact h
theorem exs2 {m : Mem} {e e2 : Ex} {x y : Nd} (h : exRep m e x.cs) (h2 : exRep m e2 y.cs) : exsRep m [e, e2] (x.cs ++ y.cs) := by
 simp only [exsRep, and_true]
 exact ⟨h, h2⟩
theorem exs_snoc {m : Mem} {e : Ex} {x : Nd} (hx : exRep m e x.cs) : ∀ {es : List Ex} {xs : List Value}, xs.length = es.length * 8 → exsRep m es xs → exsRep m (es ++ [e]) (xs ++ x.cs)
 | [], xs, hl, _ => by
  have : xs = [] := List.eq_nil_of_length_eq_zero (by simpa using hl)
  subst this
  exact exs1 hx
 | y :: r, xs, hl, h => by
  simp only [exsRep, List.cons_append] at h ⊢
  simp only [Llc] at hl
  have h8 : 8 ≤ xs.length := by omega
  rw [List.take_append_of_le_length h8, List.drop_append_of_le_length h8]
  exact ⟨h.1, exs_snoc hx (by rw [List.length_drop]; omega) h.2⟩
theorem exs_upM {m m' : Mem} {es : List Ex} {xs : List Value} (hle : leM m m') (h : exsRep m es xs) : exsRep m' es xs := by
 rcases hle with rfl | hle
 ·exact h
 ·exact exsRep_up hle es xs h
theorem ex_one {m : Mem} {e : Ex} {cs : List Value} (h : exRep m e cs) : ∀ u ∈ cs, u.oneCell' = true := by
 obtain ⟨x, rfl⟩ := exRep_nd h
 intro u hu
 simp only [Nd.cs, List.mem_cons, List.not_mem_nil, or_false] at hu
 rcases hu with rfl | rfl | rfl | rfl | rfl | rfl | rfl | rfl <;> rfl
theorem exs_oneC {m : Mem} : ∀ {es : List Ex} {xs : List Value}, xs.length = es.length * 8 → exsRep m es xs → ∀ u ∈ xs, u.oneCell' = true
 | [], xs, hl, _ => by
  have : xs = [] := List.eq_nil_of_length_eq_zero (by simpa using hl)
  subst this
  intro u hu; cases hu
 | y :: r, xs, hl, h => by
  simp only [exsRep] at h
  simp only [Llc] at hl
  intro u hu
  rw [← List.take_append_drop 8 xs] at hu
  rcases List.mem_append.1 hu with hu | hu
  ·exact ex_one h.1 u hu
  ·exact exs_oneC (by rw [List.length_drop]; omega) h.2 u hu
theorem exs_consN {m : Mem} {e : Ex} {x : Nd} {es : List Ex} {xs : List Value} (hx : exRep m e x.cs) (h : exsRep m es xs) : exsRep m (e :: es) (x.cs ++ xs) := by
 simp only [exsRep]
 exact ⟨hx, h⟩
def ExprC (ts : List Tk) (en : Int) (n : Nat) (s : PSt) : Prop := ∀ m : Mem, FnH Tryz.prog 31 [.box 0 0, .v (.int .i64 n)] (pH ts en s) m (ERes ts en s (exprK n (ts.drop s.i)) m)
def ArgsC (ts : List Tk) (en : Int) (s : PSt) : Prop := ∀ m : Mem, FnH Tryz.prog 167 [.box 0 0] (pH ts en s) m (ARes ts en s (argsK (ts.drop s.i)) m)
def ParenC (ts : List Tk) (en : Int) (s : PSt) : Prop := ∀ m : Mem, FnH Tryz.prog 166 [.box 0 0] (pH ts en s) m (ERes ts en s (parenK (ts.drop s.i)) m)
def UnC (ts : List Tk) (en : Int) (s : PSt) : Prop := ∀ m : Mem, FnH Tryz.prog 61 [.box 0 0] (pH ts en s) m (ERes ts en s (unaryK (ts.drop s.i)) m)
section
variable {ts : List Tk} {en : Int} {s : PSt}
theorem paren_of (hT : TsB ts) (hI : Inv ts s) (hE : ExprC ts en 0 (expSt ts en s [40])) : ParenC ts en s := fun m => by
 have h1 := exp_spec ts en s [40] m hT.l8
 have hE0 : ∀ m' : Mem, FnH Tryz.prog 31 [.box 0 0, .v (.int .i64 0)] (pH ts en (expSt ts en s [40])) m' (ERes ts en (expSt ts en s [40]) (exprK 0 (ts.drop (expSt ts en s [40]).i)) m') := hE
 rw [parenK_eq]
 refine enter cfN puN Tryz.func166 rfl rfl (by kernel_rfl) rfl ?_ ?_
 ·simp only [go_sem, ↓tfi, ↓fti, ↓reduceIte]
 ·simp only [go_sem, ↓tfi, ↓fti, ↓reduceIte]
  refine cvl (h1.mono ?_)
  clear h1
  rintro r H' m1 hm1 ⟨l1, rfl, rfl⟩
  simp only [go_sem, ↓tfi, ↓fti, ↓reduceIte]
  refine cvl ((hE0 m1).mono ?_)
  clear hE0
  rintro r H' m2 hm2 ⟨l2, x, e, s2, rfl, hx, rfl, hR⟩
  have h3 := exp_spec ts en s2 [41] m2 hT.l8
  simp only [go_sem, ↓tfi, ↓fti, ↓reduceIte]
  refine cvl (h3.mono ?_)
  clear h3
  rintro r H' m3 hm3 ⟨l3, rfl, rfl⟩
  simp only [go_sem, ↓tfi, ↓fti, ↓reduceIte]
  exact ⟨leM_tr (leM_tr l1 l2) l3, x, e, _, rfl, exRep_upM l3 hx, rfl, res_exp hI (res_bnd hR (res_exp hR.inv (res_pure _ (inv_expSt hR.inv))))⟩
theorem args_of (hT : TsB ts) (hI : Inv ts s) (hE : ∀ s1, Inv ts s1 → s.i ≤ s1.i → ExprC ts en 0 s1) : ArgsC ts en s := fun m => by
 have h1 := exp_spec ts en s [40] m hT.l8
 have hI1 : Inv ts (expSt ts en s [40]) := inv_expSt hI
 have hle1 : s.i ≤ (expSt ts en s [40]).i := expSt_le hI
 by_cases hc : isC ts (expSt ts en s [40]).i [41] = true
 ·have h2 := fun m' => (accept_spec ts en (expSt ts en s [40]) [41] m' hT.l8).mono fun r H' m2 _ h => (⟨h.1, by have := h.2.1; rw [hc] at this; exact this, by have := h.2.2; rw [if_pos hc] at this; exact this⟩ : leM m' m2 ∧ r = .v (.bool true) ∧ H' = pH ts en (expSt ts en s [40]).next)
  have hi := isC_lt hc
  have hR : Res ts en s (argsK (ts.drop s.i)) [] (expSt ts en s [40]).next := by
   rw [argsK_eq]
   refine res_exp hI ?_
   rw [← isC_P, if_pos hc, ← drop_next]
   exact res_next hI1 hi (res_pure _ (hI1.next hi))
  refine enter cfN puN Tryz.func167 rfl rfl (by kernel_rfl) rfl ?_ ?_
  ·simp only [go_sem, ↓tfi, ↓fti, ↓reduceIte]
  ·simp only [go_sem, ↓tfi, ↓fti, ↓reduceIte]
   refine cvl (h1.mono ?_)
   clear h1
   rintro r H' m1 hm1 ⟨l1, rfl, rfl⟩
   simp only [go_sem, ↓tfi, ↓fti, ↓reduceIte]
   refine cvl ((h2 m1).mono ?_)
   clear h2 hE
   rintro r H' m2 hm2 ⟨l2, rfl, rfl⟩
   simp only [go_sem, ↓tfi, ↓fti, ↓reduceIte]
   exact ⟨leM_tr l1 l2, [], none, 0, [], _, rfl, Nnr _, Nat.zero_le _, rds_none _ _, by simp only [exsRep], rfl, hR⟩
 ·have hc' : isC ts (expSt ts en s [40]).i [41] = false := by simpa using hc
  have h2 := fun m' => (accept_spec ts en (expSt ts en s [40]) [41] m' hT.l8).mono fun r H' m2 _ h => (⟨h.1, by have := h.2.1; rw [hc'] at this; exact this, by have := h.2.2; rw [if_neg hc] at this; exact this⟩ : leM m' m2 ∧ r = .v (.bool false) ∧ H' = pH ts en (expSt ts en s [40]))
  have hE0 : ∀ m' : Mem, FnH Tryz.prog 31 [.box 0 0, .v (.int .i64 0)] (pH ts en (expSt ts en s [40])) m' (ERes ts en (expSt ts en s [40]) (exprK 0 (ts.drop (expSt ts en s [40]).i)) m') := hE _ hI1 hle1
  refine FnH_own (enter cfN puN Tryz.func167 rfl rfl (by kernel_rfl) rfl ?_ ?_)
  ·simp only [go_sem, ↓tfi, ↓fti, ↓reduceIte]
  ·simp only [go_sem, ↓tfi, ↓fti, ↓reduceIte]
   refine cvl (h1.mono ?_)
   clear h1
   rintro r H' m1 hm1 ⟨l1, rfl, rfl⟩
   simp only [go_sem, ↓tfi, ↓fti, ↓reduceIte]
   refine cvl ((h2 m1).mono ?_)
   clear h2
   rintro r H' m2 hm2 ⟨l2, rfl, rfl⟩
   simp only [go_sem, ↓tfi, ↓fti, ↓reduceIte]
   refine cvl ((hE0 m2).mono ?_)
   clear hE0
   rintro r H' m3 hm3 ⟨l3, x, e, s3, rfl, hx, rfl, hR3⟩
   simp only [go_sem, ↓tfi, ↓fti, ↓reduceIte]
   have hle3 : s.i ≤ s3.i := Nat.le_trans hle1 hR3.mono
   refine ⟨room_of (by decide) (by decide), ?_⟩
   refine WP_loop puN (fun y : PSt × List Ex × List Value × Nat × Mem => ⟨[⟨0, [], .box 0 0⟩, ⟨3, [], .vec 9 y.2.2.2.1⟩], [], [prB en y.1], [⟨9, y.2.2.2.1, 33, 8, y.2.1.length, y.2.2.1⟩, tkV ts], 20, y.2.2.2.2⟩)
    (fun y => leM m3 y.2.2.2.2 ∧ Inv ts y.1 ∧ s.i ≤ y.1.i ∧ y.2.1.length ≤ y.1.i + 1 ∧ y.2.2.1.length = y.2.1.length * 8 ∧ exsRep y.2.2.2.2 y.2.1 y.2.2.1 ∧ ∀ a s', Res ts en y.1 (moreK y.2.1 (ts.drop y.1.i)) a s' → Res ts en s (argsK (ts.drop s.i)) a s')
    (fun y => ts.length - y.1.i) (s3, [e], x.cs, 0, m3) (by kernel_rfl) (fun _ _ => nbl rfl) (fun y hy => hy.1) (fun _ => ?_) ?_ ?_ ?_
   ·simp only [go_sem, ↓tfi, ↓fti, ↓reduceIte]
   ·simp only [go_sem, ↓tfi, ↓fti, ↓reduceIte]
    exact rfl
   ·exact ⟨.inl rfl, hR3.inv, hle3, by simp, by simp [Nd.cs], exs1 hx, fun a s' h => by
     rw [argsK_eq]
     refine res_exp hI ?_
     rw [← isC_P, if_neg hc]
     exact res_bnd hR3 h⟩
   ·rintro ⟨s4, es, xs, u, m4⟩ ⟨q1, q2, q3, q4, q5, q6, q7⟩
    dsimp only at q1 q2 q3 q4 q5 q6 q7
    have hl := hT.len
    have hil := q2.le
    have ha := accept_spec ts en s4 [44] m4 hT.l8
    by_cases h1 : isC ts s4.i [44] = true
    ·rw [h1] at ha
     have hi := isC_lt h1
     have hI5 := q2.next hi
     have hE1 : ∀ m' : Mem, FnH Tryz.prog 31 [.box 0 0, .v (.int .i64 0)] (pH ts en s4.next) m' (ERes ts en s4.next (exprK 0 (ts.drop s4.next.i)) m') := hE s4.next hI5 (Nat.le_succ_of_le q3)
     clear hE
     simp only [go_sem, ↓tfi, ↓fti, ↓reduceIte]
     refine cvl (ha.mono ?_)
     clear ha
     rintro r H' m5 hm5 ⟨l5, rfl, rfl⟩
     simp only [go_sem, ↓tfi, ↓fti, ↓reduceIte]
     refine cvl ((hE1 m5).mono ?_)
     clear hE1
     rintro r H' m6 hm6 ⟨l6, x6, e6, s6, rfl, hx6, rfl, hR6⟩
     simp only [go_sem, ↓tfi, ↓fti, ↓reduceIte]
     have hm := hR6.mono
     have hnx : s4.next.i = s4.i + 1 := rfl
     refine ⟨room_of (by omega) (by decide), (s6, es ++ [e6], xs ++ x6.cs, u + 1, m6), ⟨rfl, ⟨rfl, rfl, rfl⟩, ⟨rfl, by simp, rfl⟩, .inl rfl⟩, ⟨leM_tr q1 (leM_tr l5 l6), hR6.inv, by dsimp only; omega, by simp only [Lla, List.length_singleton]; omega, by simp only [Lla, List.length_singleton, q5, Nd.cs, Llc, Lln]; omega, exs_snoc hx6 q5 (exs_upM (leM_tr l5 l6) q6), fun a s' h => q7 a s' ?_⟩, by dsimp only; omega⟩
     rw [moreK_eq, if_pos (by rw [← isC_P]; exact h1), ← drop_next]
     exact res_next q2 hi (res_bnd hR6 h)
    ·have h1' : isC ts s4.i [44] = false := by simpa using h1
     rw [h1'] at ha
     have he := fun m' => exp_spec ts en s4 [41] m' hT.l8
     clear hE
     simp only [go_sem, ↓tfi, ↓fti, ↓reduceIte]
     refine cvl (ha.mono ?_)
     clear ha
     rintro r H' m5 hm5 ⟨l5, rfl, rfl⟩
     simp only [go_sem, ↓tfi, ↓fti, ↓reduceIte]
     refine cvl ((he m5).mono ?_)
     clear he
     rintro r H' m6 hm6 ⟨l6, rfl, rfl⟩
     simp only [go_sem, ↓tfi, ↓fti, ↓reduceIte]
     refine own_vec (b := ⟨9, u, 33, 8, es.length, xs⟩) (by simp [lkV]) (pH ts en (expSt ts en s4 [41])) (List.Sublist.refl _) (.cons_cons _ (List.nil_sublist _)) fun a c mm w1 w2 w3 => ⟨leM_tr (leM_tr (leM_tr (leM_tr l1 l2) l3) q1) (leM_tr (leM_tr l5 l6) (.inr w1)), es, a, c, xs, _, rfl, w2, by omega, w3, exs_upM (leM_tr (leM_tr l5 l6) (.inr w1)) q6, rfl, q7 _ _ ?_⟩
     rw [moreK_eq, if_neg (by rw [← isC_P]; exact h1)]
     exact res_exp q2 (res_pure _ (inv_expSt q2))
end
section
variable {ts : List Tk} {en : Int} {s : PSt}
theorem acc_t {w : List UInt8} (hT : TsB ts) (h : isC ts s.i w = true) (m : Mem) : FnH Tryz.prog 49 [.box 0 0, .v (.string (bs w))] (pH ts en s) m fun r H' m' => leM m m' ∧ r = .v (.bool true) ∧ H' = pH ts en s.next :=
 (accept_spec ts en s w m hT.l8).mono fun r H' m2 _ q => ⟨q.1, by have := q.2.1; rw [h] at this; exact this, by have := q.2.2; rw [if_pos h] at this; exact this⟩
theorem acc_f {w : List UInt8} (hT : TsB ts) (h : ¬ isC ts s.i w = true) (m : Mem) : FnH Tryz.prog 49 [.box 0 0, .v (.string (bs w))] (pH ts en s) m fun r H' m' => leM m m' ∧ r = .v (.bool false) ∧ H' = pH ts en s :=
 (accept_spec ts en s w m hT.l8).mono fun r H' m2 _ q => ⟨q.1, by have := q.2.1; rw [(by simpa using h : isC ts s.i w = false)] at this; exact this, by have := q.2.2; rw [if_neg h] at this; exact this⟩
theorem pis_t {w : List UInt8} (hT : TsB ts) (h : isC ts s.i w = true) (m : Mem) : FnH Tryz.prog 74 [.box 0 0, .v (.string (bs w))] (pH ts en s) m fun r H' m' => leM m m' ∧ r = .v (.bool true) ∧ H' = pH ts en s :=
 (pis_spec ts en s w m hT.l8).mono fun r H' m2 _ q => ⟨q.1, by have := q.2.1; rw [h] at this; exact this, q.2.2⟩
theorem pis_f {w : List UInt8} (hT : TsB ts) (h : ¬ isC ts s.i w = true) (m : Mem) : FnH Tryz.prog 74 [.box 0 0, .v (.string (bs w))] (pH ts en s) m fun r H' m' => leM m m' ∧ r = .v (.bool false) ∧ H' = pH ts en s :=
 (pis_spec ts en s w m hT.l8).mono fun r H' m2 _ q => ⟨q.1, by have := q.2.1; rw [(by simpa using h : isC ts s.i w = false)] at this; exact this, q.2.2⟩
theorem res_lt {α : Type} {K : PR α} {a : α} {s' : PSt} (h : Res ts en s K a s') (hI : Inv ts s) (hi : s.i < ts.length) (hK : ∀ x r, K = .ok (x, r) → r.length < (ts.drop s.i).length) : s.i < s'.i := by
 have hf := hI.nfl hi
 cases e : K with
 | error r =>
  have := h.inv.fl (h.er hf r e).1
  omega
 | ok p =>
  obtain ⟨x, r⟩ := p
  obtain ⟨_, _, rfl⟩ := h.ok hf x r e
  have := hK x _ e
  simp only [List.length_drop] at this
  omega
def litK (l : List Tk) : PR Ex := if hdK l = 3 then .ok (.mk 1 (hdN l) [] [] zTy [], l.tail) else if hdK l = 4 then .ok (.mk 2 (hdN l) [] [] zTy [], l.tail) else .ok (.mk 3 0 (hdS l) [] zTy [], l.tail)
noncomputable def statK (l : List Tk) : PR Ex := bndP (clsP l) fun c r => expP [46] r fun r2 => bndP (idP r2) fun s r3 => if isP [40] r3 = true then bndP (argsK r3) fun es r4 => .ok (.mk 11 0 s c zTy es, r4) else .ok (.mk 8 0 s c zTy [], r3)
noncomputable def supK (l : List Tk) : PR Ex := expP [46] l fun r => bndP (idP r) fun s r2 => bndP (argsK r2) fun es r3 => .ok (.mk 12 0 s [] zTy es, r3)
noncomputable def creK (l : List Tk) : PR Ex := bndP (baseP l) fun t r =>
 if t.base = 76 ∧ isP [40] r = true then bndP (argsK r) fun es r2 => .ok (.mk 13 0 [] t.name zTy es, r2)
 else expP [91] r fun r2 => bndP (newK t r2) fun t2 r3 => bndP (exprK 0 r3) fun e r4 => expP [93] r4 fun r5 => .ok (.mk 14 0 [] [] t2 [e], r5)
noncomputable def convK (k : Int) (l : List Tk) : PR Ex := bndP (parenK l) fun e r => .ok (.mk k 0 [] [] zTy [e], r)
theorem local_spec (hT : TsB ts) (hI : Inv ts s) (m : Mem) : FnH Tryz.prog 206 [.box 0 0] (pH ts en s) m (ERes ts en s (bndP (idP (ts.drop s.i)) fun w r => .ok (.mk 6 0 w [] zTy [], r)) m) := by
 have h1 := fun m' => pid_spec ts en s m' hT hI
 refine enter cfN puN Tryz.func206 rfl rfl (by kernel_rfl) rfl ?_ ?_
 ·simp only [go_sem, ↓tfi, ↓fti, ↓reduceIte]
 ·simp only [go_sem, ↓tfi, ↓fti, ↓reduceIte]
  refine cvl ((h1 m).mono ?_)
  clear h1
  rintro r H' m1 hm1 ⟨l1, w, s1, rfl, hw, rfl, hR⟩
  simp only [go_sem, ↓tfi, ↓fti, ↓reduceIte]
  exact ⟨l1, ⟨6, 0, w, [], zTy, none, 0, 0⟩, .mk 6 0 w [] zTy [], s1, rfl, mk_rep0 ⟨by decide, by decide⟩ ⟨by decide, by decide⟩ hw (Nat.zero_le _) tyOk_z, rfl, res_bnd hR (res_pure _ hR.inv)⟩
theorem conv_of (hT : TsB ts) (k : Int) (hk : I64 k) (hP : ParenC ts en s) (m : Mem) : FnH Tryz.prog 239 [.box 0 0, .v (.int .i64 k)] (pH ts en s) m (ERes ts en s (convK k (ts.drop s.i)) m) := by
 refine FnH_own (enter cfN puN Tryz.func239 rfl rfl (by kernel_rfl) rfl ?_ ?_)
 ·simp only [go_sem, ↓tfi, ↓fti, ↓reduceIte]
 ·simp only [go_sem, ↓tfi, ↓fti, ↓reduceIte]
  refine cvl ((hP m).mono ?_)
  clear hP
  rintro r H' m1 hm1 ⟨l1, x, e, s1, rfl, hx, rfl, hR⟩
  simp only [go_sem, ↓tfi, ↓fti, ↓reduceIte]
  exact own_agg 7 rfl rfl (pH ts en s1) (List.Sublist.refl _) (.cons _ (List.Sublist.refl _)) fun a cp mm w1 w2 w3 => ⟨leM_tr l1 (.inr w1), ⟨k, 0, [], [], zTy, a, 1, cp⟩, .mk k 0 [] [] zTy [e], s1, rfl, mk_rep (es := [e]) hk ⟨by decide, by decide⟩ (Nat.zero_le _) (Nat.zero_le _) tyOk_z (by simp) w2 w3 (exs1 (exRep_upM (.inr w1) hx)), rfl, res_bnd hR (res_pure _ hR.inv)⟩
theorem literal_spec (hT : TsB ts) (hI : Inv ts s) (hi : s.i < ts.length) (m : Mem) : FnH Tryz.prog 205 [.box 0 0] (pH ts en s) m (ERes ts en s (litK (ts.drop s.i)) m) := by
 have hp := peek_spec ts en s m hT.l8
 have hl := hT.len
 have hn := hT.cn s.i
 have hs := hT.cs s.i
 rw [litK, hdK_cur, hdN_cur, hdS_cur, ← drop_next]
 refine enter cfN puN Tryz.func205 rfl rfl (by kernel_rfl) rfl ?_ ?_
 ·simp only [go_sem, ↓tfi, ↓fti, ↓reduceIte]
 ·simp only [go_sem, ↓tfi, ↓fti, ↓reduceIte]
  refine cvl (hp.mono ?_)
  clear hp
  rintro r H' m1 hm1 ⟨rfl, rfl⟩
  simp only [go_sem, ↓tfi, ↓fti, ↓reduceIte]
  refine ⟨by unfold I64; omega, fun h3 => ?_, fun h3 => ⟨fun h4 => ?_, fun h4 => ?_⟩⟩
  ·rw [if_pos h3]
   exact ⟨.inr hm1, ⟨1, (curT ts s.i).n, [], [], zTy, none, 0, 0⟩, _, s.next, rfl, mk_rep0 ⟨by decide, by decide⟩ hn (Nat.zero_le _) (Nat.zero_le _) tyOk_z, rfl, res_next hI hi (res_pure _ (hI.next hi))⟩
  ·rw [if_neg h3, if_pos h4]
   exact ⟨.inr hm1, ⟨2, (curT ts s.i).n, [], [], zTy, none, 0, 0⟩, _, s.next, rfl, mk_rep0 ⟨by decide, by decide⟩ hn (Nat.zero_le _) (Nat.zero_le _) tyOk_z, rfl, res_next hI hi (res_pure _ (hI.next hi))⟩
  ·rw [if_neg h3, if_neg h4]
   exact ⟨.inr hm1, ⟨3, 0, (curT ts s.i).s, [], zTy, none, 0, 0⟩, _, s.next, rfl, mk_rep0 ⟨by decide, by decide⟩ ⟨by decide, by decide⟩ hs (Nat.zero_le _) tyOk_z, rfl, res_next hI hi (res_pure _ (hI.next hi))⟩
theorem static_of (hT : TsB ts) (hI : Inv ts s) (hc : isClsP (ts.drop s.i) = true) (hA : ∀ s1, Inv ts s1 → s.i < s1.i → ArgsC ts en s1) (m : Mem) : FnH Tryz.prog 207 [.box 0 0] (pH ts en s) m (ERes ts en s (statK (ts.drop s.i)) m) := by
 have h1 := fun m' => pcls_spec ts en s m' hT hI
 have hi := clsP_lt hc
 refine enter cfN puN Tryz.func207 rfl rfl (by kernel_rfl) rfl ?_ ?_
 ·simp only [go_sem, ↓tfi, ↓fti, ↓reduceIte]
 ·simp only [go_sem, ↓tfi, ↓fti, ↓reduceIte]
  refine cvl ((h1 m).mono ?_)
  clear h1
  rintro r H' m1 hm1 ⟨l1, c, s1, rfl, hcl, rfl, hR1⟩
  simp only [go_sem, ↓tfi, ↓fti, ↓reduceIte]
  have hlt : s.i < s1.i := res_lt hR1 hI hi fun x r e => by
   rw [clsP, if_pos hc] at e
   cases e
   have hne : ts.drop s.i ≠ [] := fun e => by rw [e] at hc; cases hc
   exact tail_lt hne
  have h2 := fun m' => exp_spec ts en s1 [46] m' hT.l8
  have hI2 : Inv ts (expSt ts en s1 [46]) := inv_expSt hR1.inv
  have hle2 : s1.i ≤ (expSt ts en s1 [46]).i := expSt_le hR1.inv
  have h3 := fun m' => pid_spec ts en (expSt ts en s1 [46]) m' hT hI2
  refine cvl ((h2 m1).mono ?_)
  clear h2
  rintro r H' m2 hm2 ⟨l2, rfl, rfl⟩
  simp only [go_sem, ↓tfi, ↓fti, ↓reduceIte]
  refine cvl ((h3 m2).mono ?_)
  clear h3
  rintro r H' m3 hm3 ⟨l3, w, s3, rfl, hw, rfl, hR3⟩
  simp only [go_sem, ↓tfi, ↓fti, ↓reduceIte]
  have hle3 := hR3.mono
  by_cases h40 : isC ts s3.i [40] = true
  ·have h4 := pis_t (en := en) hT h40
   have h5 := hA s3 hR3.inv (by omega)
   clear hA
   refine cvl ((h4 m3).mono ?_)
   clear h4
   rintro r H' m4 hm4 ⟨l4, rfl, rfl⟩
   simp only [go_sem, ↓tfi, ↓fti, ↓reduceIte]
   refine cvl ((h5 m4).mono ?_)
   clear h5
   rintro r H' m5 hm5 ⟨l5, es, a, cp, xs, s5, rfl, ha1, ha2, ha3, ha4, rfl, hR5⟩
   simp only [go_sem, ↓tfi, ↓fti, ↓reduceIte]
   refine ⟨(leM_tr (leM_tr (leM_tr (leM_tr l1 l2) l3) l4) l5), ⟨11, 0, w, c, zTy, a, es.length, cp⟩, .mk 11 0 w c zTy es, s5, rfl, mk_rep ⟨by decide, by decide⟩ ⟨by decide, by decide⟩ hw hcl tyOk_z (Nat.le_succ_of_le ha2) ha1 ha3 ha4, rfl, ?_⟩
   refine res_bnd hR1 (res_exp hR1.inv (res_bnd hR3 ?_))
   rw [if_pos (by rw [← isC_P]; exact h40)]
   exact res_bnd hR5 (res_pure _ hR5.inv)
  ·have h4 := pis_f (en := en) hT h40
   clear hA
   refine cvl ((h4 m3).mono ?_)
   clear h4
   rintro r H' m4 hm4 ⟨l4, rfl, rfl⟩
   simp only [go_sem, ↓tfi, ↓fti, ↓reduceIte]
   refine ⟨(leM_tr (leM_tr (leM_tr l1 l2) l3) l4), ⟨8, 0, w, c, zTy, none, 0, 0⟩, .mk 8 0 w c zTy [], s3, rfl, mk_rep0 ⟨by decide, by decide⟩ ⟨by decide, by decide⟩ hw hcl tyOk_z, rfl, ?_⟩
   refine res_bnd hR1 (res_exp hR1.inv (res_bnd hR3 ?_))
   rw [if_neg (by rw [← isC_P]; exact h40)]
   exact res_pure _ hR3.inv
theorem supc_of (hT : TsB ts) (hI : Inv ts s) (hA : ∀ s1, Inv ts s1 → s.i ≤ s1.i → ArgsC ts en s1) (m : Mem) : FnH Tryz.prog 237 [.box 0 0] (pH ts en s) m (ERes ts en s (supK (ts.drop s.i)) m) := by
 have h2 := fun m' => exp_spec ts en s [46] m' hT.l8
 have hI2 : Inv ts (expSt ts en s [46]) := inv_expSt hI
 have hle2 : s.i ≤ (expSt ts en s [46]).i := expSt_le hI
 have h3 := fun m' => pid_spec ts en (expSt ts en s [46]) m' hT hI2
 refine enter cfN puN Tryz.func237 rfl rfl (by kernel_rfl) rfl ?_ ?_
 ·simp only [go_sem, ↓tfi, ↓fti, ↓reduceIte]
 ·simp only [go_sem, ↓tfi, ↓fti, ↓reduceIte]
  refine cvl ((h2 m).mono ?_)
  clear h2
  rintro r H' m1 hm1 ⟨l1, rfl, rfl⟩
  simp only [go_sem, ↓tfi, ↓fti, ↓reduceIte]
  refine cvl ((h3 m1).mono ?_)
  clear h3
  rintro r H' m2 hm2 ⟨l2, w, s3, rfl, hw, rfl, hR3⟩
  simp only [go_sem, ↓tfi, ↓fti, ↓reduceIte]
  have hle3 := hR3.mono
  have h5 := hA s3 hR3.inv (by omega)
  clear hA
  refine cvl ((h5 m2).mono ?_)
  clear h5
  rintro r H' m3 hm3 ⟨l3, es, a, cp, xs, s5, rfl, ha1, ha2, ha3, ha4, rfl, hR5⟩
  simp only [go_sem, ↓tfi, ↓fti, ↓reduceIte]
  exact ⟨(leM_tr (leM_tr l1 l2) l3), ⟨12, 0, w, [], zTy, a, es.length, cp⟩, .mk 12 0 w [] zTy es, s5, rfl, mk_rep ⟨by decide, by decide⟩ ⟨by decide, by decide⟩ hw (Nat.zero_le _) tyOk_z (Nat.le_succ_of_le ha2) ha1 ha3 ha4, rfl, res_exp hI (res_bnd hR3 (res_bnd hR5 (res_pure _ hR5.inv)))⟩
end
@[reducible] def zEB (k : Nat) : Bx := ⟨k, 33, [.v (.int .i64 0), .v (.int .i64 0), .v (.string (bs [])), .v (.string (bs [])), .v (.int .i64 0), .v (.int .u8 0), .v (.string (bs [])), .v (.slice none 0 0)]⟩
attribute [go_sem] zEB
noncomputable def newF (t2 : Ty) (r3 : List Tk) : PR Ex := bndP (exprK 0 r3) fun e r4 => expP [93] r4 fun r5 => .ok (.mk 14 0 [] [] t2 [e], r5)
theorem bnd_exp {α β : Type} {w : List UInt8} {l : List Tk} {k : List Tk → PR α} {F : α → List Tk → PR β} : bndP (expP w l k) F = expP w l fun r => bndP (k r) F := by
 unfold expP
 split <;> rfl
section
variable {ts : List Tk} {en : Int} {s : PSt}
theorem creation_of (hT : TsB ts) (hI : Inv ts s) (hA : ∀ s1, Inv ts s1 → s.i ≤ s1.i → ArgsC ts en s1) (hE : ∀ s1, Inv ts s1 → s.i ≤ s1.i → ExprC ts en 0 s1) (m : Mem) : FnH Tryz.prog 238 [.box 0 0] (pH ts en s) m (ERes ts en s (creK (ts.drop s.i)) m) := by
 have h1 := fun m' => pbase_spec ts en s m' hT hI
 refine FnH_own (enter cfN puN Tryz.func238 rfl rfl (by kernel_rfl) rfl ?_ ?_)
 ·simp only [go_sem, ↓tfi, ↓fti, ↓reduceIte]
 ·simp only [go_sem, ↓tfi, ↓fti, ↓reduceIte]
  refine cvl ((h1 m).mono ?_)
  clear h1
  rintro r H' m1 hm1 ⟨l1, t1, s1, rfl, ht1, ht2, ht3, rfl, hR1⟩
  simp only [go_sem, ↓tfi, ↓fti, ↓reduceIte]
  have hle1 := hR1.mono
  refine ⟨fun hb => ?_, fun hb => ?_⟩
  ·by_cases h40 : isC ts s1.i [40] = true
   ·have h2 := pis_t (en := en) hT h40
    have h3 := hA s1 hR1.inv hle1
    clear hA hE
    refine cvl ((h2 m1).mono ?_)
    clear h2
    rintro r H' m2 hm2 ⟨l2, rfl, rfl⟩
    simp only [go_sem, ↓tfi, ↓fti, ↓reduceIte]
    refine WP_draw (.hoist 0 (.hoist 1 (.hoist 2 (.alt 3 [1, 0] (.hoist 4 (.alt 5 [] .done .stop)) .stop)))) puN (by kernel_rfl) (by kernel_rfl) ?_
    simp only [go_sem, ↓tfi, ↓fti, ↓reduceIte]
    refine cvl ((h3 m2).mono ?_)
    clear h3
    rintro r H' m3 hm3 ⟨l3, es, a, cp, xs, s5, rfl, ha1, ha2, ha3, ha4, rfl, hR5⟩
    simp only [go_sem, ↓tfi, ↓fti, ↓reduceIte]
    refine ⟨⟨l3, l3⟩, .inl ⟨(leM_tr (leM_tr l1 l2) l3), ⟨13, 0, [], t1.name, zTy, a, es.length, cp⟩, .mk 13 0 [] t1.name zTy es, s5, rfl, mk_rep ⟨by decide, by decide⟩ ⟨by decide, by decide⟩ (Nat.zero_le _) ht3 tyOk_z (Nat.le_succ_of_le ha2) ha1 ha3 ha4, rfl, ?_⟩⟩
    refine res_bnd hR1 ?_
    rw [if_pos ⟨hb, by rw [← isC_P]; exact h40⟩]
    exact res_bnd hR5 (res_pure _ hR5.inv)
   ·have h2 := pis_f (en := en) hT h40
    refine cvl ((h2 m1).mono ?_)
    clear h2
    rintro r H' m2 hm2 ⟨l2, rfl, rfl⟩
    simp only [go_sem, ↓tfi, ↓fti, ↓reduceIte]
    have h2 := fun m' => exp_spec ts en s1 [91] m' hT.l8
    have hI2 : Inv ts (expSt ts en s1 [91]) := inv_expSt hR1.inv
    have hle2 : s1.i ≤ (expSt ts en s1 [91]).i := expSt_le hR1.inv
    clear hA
    refine cvl ((h2 m2).mono ?_)
    clear h2
    rintro r H' m3 hm3 ⟨l3, rfl, rfl⟩
    simp only [go_sem, ↓tfi, ↓fti, ↓reduceIte]
    refine WP_loop puN (fun y : PSt × Ty × Mem => ⟨[⟨0, [], .box 0 0⟩, ⟨2, [], .box 2 0⟩, ⟨3, [], .box 5 0⟩], [], [⟨5, 30, [.v (.int .i64 y.2.1.dim), .v (.int .u8 y.2.1.base), .v (.string (bs y.2.1.name))]⟩, prB en y.1, zEB 2], [tkV ts], 40, y.2.2⟩)
     (fun y => leM m3 y.2.2 ∧ Inv ts y.1 ∧ s.i ≤ y.1.i ∧ y.2.1.name.length ≤ 1000000 ∧ (0 ≤ y.2.1.base ∧ y.2.1.base < 256) ∧ (0 ≤ y.2.1.dim ∧ y.2.1.dim ≤ y.1.i) ∧ ∀ a s', Res ts en y.1 (bndP (newK y.2.1 (ts.drop y.1.i)) newF) a s' → Res ts en s (creK (ts.drop s.i)) a s')
     (fun y => ts.length - y.1.i) (expSt ts en s1 [91], t1, m3) (by kernel_rfl) (fun _ _ => nbl rfl) (fun y hy => hy.1) (fun _ => ?_) ?_ ?_ ?_
    ·simp only [go_sem, ↓tfi, ↓fti, ↓reduceIte]
    ·simp only [go_sem, ↓tfi, ↓fti, ↓reduceIte]
    ·exact ⟨.inl rfl, hI2, by dsimp only; omega, ht3, ht2, ⟨by dsimp only; omega, by dsimp only; omega⟩, fun a s' h => res_bnd hR1 (by rw [if_neg (fun q => h40 (by rw [isC_P]; exact q.2))]; exact res_exp hR1.inv h)⟩
    ·rintro ⟨s4, t4, m4⟩ ⟨q1, q2, q3, q4, q5, q6, q7⟩
     dsimp only at q1 q2 q3 q4 q5 q6 q7
     have hl := hT.len
     have hil := q2.le
     by_cases h93 : isC ts s4.i [93] = true
     ·have ha := acc_t (en := en) hT h93
      have hi := isC_lt h93
      have hI5 := q2.next hi
      have he := fun m' => exp_spec ts en s4.next [91] m' hT.l8
      have hI6 : Inv ts (expSt ts en s4.next [91]) := inv_expSt hI5
      have hle6 : s4.i + 1 ≤ (expSt ts en s4.next [91]).i := expSt_le hI5
      clear hE
      simp only [go_sem, ↓tfi, ↓fti, ↓reduceIte]
      refine cvl ((ha m4).mono ?_)
      clear ha
      rintro r H' m5 hm5 ⟨l5, rfl, rfl⟩
      simp only [go_sem, ↓tfi, ↓fti, ↓reduceIte]
      refine ⟨by unfold I64; omega, by kernel_rfl, FnV_of ((he m5).mono ?_)⟩
      clear he
      rintro r H' m6 hm6 ⟨l6, rfl, rfl⟩
      simp only [go_sem, ↓tfi, ↓fti, ↓reduceIte]
      refine ⟨(expSt ts en s4.next [91], t4.up, m6), ⟨⟨⟨rfl, rfl, rfl⟩, ⟨rfl, rfl, rfl⟩⟩, .inl rfl⟩, ⟨leM_tr q1 (leM_tr l5 l6), hI6, by dsimp only; omega, q4, q5, ⟨by show 0 ≤ t4.dim + 1; omega, by show t4.dim + 1 ≤ ((expSt ts en s4.next [91]).i : Int); omega⟩, fun a s' h => q7 a s' ?_⟩, by dsimp only; omega⟩
      rw [newK_eq, if_pos (by rw [← isC_P]; exact h93), ← drop_next, bnd_exp]
      exact res_next q2 hi (res_exp hI5 h)
     ·have ha := acc_f (en := en) hT h93
      have he := hE s4 q2 q3
      have he0 : ∀ m' : Mem, FnH Tryz.prog 31 [.box 0 0, .v (.int .i64 0)] (pH ts en s4) m' (ERes ts en s4 (exprK 0 (ts.drop s4.i)) m') := he
      clear hE he
      simp only [go_sem, ↓tfi, ↓fti, ↓reduceIte]
      refine cvl ((ha m4).mono ?_)
      clear ha
      rintro r H' m5 hm5 ⟨l5, rfl, rfl⟩
      simp only [go_sem, ↓tfi, ↓fti, ↓reduceIte]
      refine cvl ((he0 m5).mono ?_)
      clear he0
      rintro r H' m6 hm6 ⟨l6, x, e, s6, rfl, hx, rfl, hR6⟩
      have h7 := fun m' => exp_spec ts en s6 [93] m' hT.l8
      simp only [go_sem, ↓tfi, ↓fti, ↓reduceIte]
      refine cvl ((h7 m6).mono ?_)
      clear h7
      rintro r H' m7 hm7 ⟨l7, rfl, rfl⟩
      simp only [go_sem, ↓tfi, ↓fti, ↓reduceIte]
      exact own_agg 7 rfl rfl (pH ts en (expSt ts en s6 [93])) (List.Sublist.refl _) (.cons _ (List.Sublist.refl _)) fun a cp mm w1 w2 w3 => ⟨leM_tr (leM_tr (leM_tr (leM_tr l1 l2) l3) (leM_tr q1 (leM_tr l5 (leM_tr l6 l7)))) (.inr w1), ⟨14, 0, [], [], t4, a, 1, cp⟩, .mk 14 0 [] [] t4 [e], (expSt ts en s6 [93]), rfl, mk_rep (es := [e]) ⟨by decide, by decide⟩ ⟨by decide, by decide⟩ (Nat.zero_le _) (Nat.zero_le _) ⟨by unfold I64; omega, q5, by unfold big; omega⟩ (by simp) w2 w3 (exs1 (exRep_upM (leM_tr l7 (.inr w1)) hx)), rfl, q7 _ _ (by rw [newK_eq, if_neg (by rw [← isC_P]; exact h93)]; exact res_bnd (res_pure t4 q2) (res_bnd hR6 (res_exp hR6.inv (res_pure _ (inv_expSt hR6.inv)))))⟩
  ·have h2 := fun m' => exp_spec ts en s1 [91] m' hT.l8
   have hI2 : Inv ts (expSt ts en s1 [91]) := inv_expSt hR1.inv
   have hle2 : s1.i ≤ (expSt ts en s1 [91]).i := expSt_le hR1.inv
   clear hA
   refine cvl ((h2 m1).mono ?_)
   clear h2
   rintro r H' m2 hm2 ⟨l2, rfl, rfl⟩
   simp only [go_sem, ↓tfi, ↓fti, ↓reduceIte]
   refine WP_loop puN (fun y : PSt × Ty × Mem => ⟨[⟨0, [], .box 0 0⟩, ⟨2, [], .box 2 0⟩, ⟨3, [], .box 5 0⟩], [], [⟨5, 30, [.v (.int .i64 y.2.1.dim), .v (.int .u8 y.2.1.base), .v (.string (bs y.2.1.name))]⟩, prB en y.1, zEB 2], [tkV ts], 40, y.2.2⟩)
    (fun y => leM m2 y.2.2 ∧ Inv ts y.1 ∧ s.i ≤ y.1.i ∧ y.2.1.name.length ≤ 1000000 ∧ (0 ≤ y.2.1.base ∧ y.2.1.base < 256) ∧ (0 ≤ y.2.1.dim ∧ y.2.1.dim ≤ y.1.i) ∧ ∀ a s', Res ts en y.1 (bndP (newK y.2.1 (ts.drop y.1.i)) newF) a s' → Res ts en s (creK (ts.drop s.i)) a s')
    (fun y => ts.length - y.1.i) (expSt ts en s1 [91], t1, m2) (by kernel_rfl) (fun _ _ => nbl rfl) (fun y hy => hy.1) (fun _ => ?_) ?_ ?_ ?_
   ·simp only [go_sem, ↓tfi, ↓fti, ↓reduceIte]
   ·simp only [go_sem, ↓tfi, ↓fti, ↓reduceIte]
   ·exact ⟨.inl rfl, hI2, by dsimp only; omega, ht3, ht2, ⟨by dsimp only; omega, by dsimp only; omega⟩, fun a s' h => res_bnd hR1 (by rw [if_neg (fun q => hb q.1)]; exact res_exp hR1.inv h)⟩
   ·rintro ⟨s4, t4, m4⟩ ⟨q1, q2, q3, q4, q5, q6, q7⟩
    dsimp only at q1 q2 q3 q4 q5 q6 q7
    have hl := hT.len
    have hil := q2.le
    by_cases h93 : isC ts s4.i [93] = true
    ·have ha := acc_t (en := en) hT h93
     have hi := isC_lt h93
     have hI5 := q2.next hi
     have he := fun m' => exp_spec ts en s4.next [91] m' hT.l8
     have hI6 : Inv ts (expSt ts en s4.next [91]) := inv_expSt hI5
     have hle6 : s4.i + 1 ≤ (expSt ts en s4.next [91]).i := expSt_le hI5
     clear hE
     simp only [go_sem, ↓tfi, ↓fti, ↓reduceIte]
     refine cvl ((ha m4).mono ?_)
     clear ha
     rintro r H' m5 hm5 ⟨l5, rfl, rfl⟩
     simp only [go_sem, ↓tfi, ↓fti, ↓reduceIte]
     refine ⟨by unfold I64; omega, by kernel_rfl, FnV_of ((he m5).mono ?_)⟩
     clear he
     rintro r H' m6 hm6 ⟨l6, rfl, rfl⟩
     simp only [go_sem, ↓tfi, ↓fti, ↓reduceIte]
     refine ⟨(expSt ts en s4.next [91], t4.up, m6), ⟨⟨⟨rfl, rfl, rfl⟩, ⟨rfl, rfl, rfl⟩⟩, .inl rfl⟩, ⟨leM_tr q1 (leM_tr l5 l6), hI6, by dsimp only; omega, q4, q5, ⟨by show 0 ≤ t4.dim + 1; omega, by show t4.dim + 1 ≤ ((expSt ts en s4.next [91]).i : Int); omega⟩, fun a s' h => q7 a s' ?_⟩, by dsimp only; omega⟩
     rw [newK_eq, if_pos (by rw [← isC_P]; exact h93), ← drop_next, bnd_exp]
     exact res_next q2 hi (res_exp hI5 h)
    ·have ha := acc_f (en := en) hT h93
     have he := hE s4 q2 q3
     have he0 : ∀ m' : Mem, FnH Tryz.prog 31 [.box 0 0, .v (.int .i64 0)] (pH ts en s4) m' (ERes ts en s4 (exprK 0 (ts.drop s4.i)) m') := he
     clear hE he
     simp only [go_sem, ↓tfi, ↓fti, ↓reduceIte]
     refine cvl ((ha m4).mono ?_)
     clear ha
     rintro r H' m5 hm5 ⟨l5, rfl, rfl⟩
     simp only [go_sem, ↓tfi, ↓fti, ↓reduceIte]
     refine cvl ((he0 m5).mono ?_)
     clear he0
     rintro r H' m6 hm6 ⟨l6, x, e, s6, rfl, hx, rfl, hR6⟩
     have h7 := fun m' => exp_spec ts en s6 [93] m' hT.l8
     simp only [go_sem, ↓tfi, ↓fti, ↓reduceIte]
     refine cvl ((h7 m6).mono ?_)
     clear h7
     rintro r H' m7 hm7 ⟨l7, rfl, rfl⟩
     simp only [go_sem, ↓tfi, ↓fti, ↓reduceIte]
     exact own_agg 7 rfl rfl (pH ts en (expSt ts en s6 [93])) (List.Sublist.refl _) (.cons _ (List.Sublist.refl _)) fun a cp mm w1 w2 w3 => ⟨leM_tr (leM_tr (leM_tr l1 l2) (leM_tr q1 (leM_tr l5 (leM_tr l6 l7)))) (.inr w1), ⟨14, 0, [], [], t4, a, 1, cp⟩, .mk 14 0 [] [] t4 [e], (expSt ts en s6 [93]), rfl, mk_rep (es := [e]) ⟨by decide, by decide⟩ ⟨by decide, by decide⟩ (Nat.zero_le _) (Nat.zero_le _) ⟨by unfold I64; omega, q5, by unfold big; omega⟩ (by simp) w2 w3 (exs1 (exRep_upM (leM_tr l7 (.inr w1)) hx)), rfl, q7 _ _ (by rw [newK_eq, if_neg (by rw [← isC_P]; exact h93)]; exact res_bnd (res_pure t4 q2) (res_bnd hR6 (res_exp hR6.inv (res_pure _ (inv_expSt hR6.inv)))))⟩
end
section
variable {ts : List Tk} {en : Int} {s : PSt}
theorem keyword_of (hT : TsB ts) (hI : Inv ts s) (hA : ∀ s1, Inv ts s1 → s.i < s1.i → ArgsC ts en s1) (hP : ∀ s1, Inv ts s1 → s.i < s1.i → ParenC ts en s1) (hE : ∀ s1, Inv ts s1 → s.i < s1.i → ExprC ts en 0 s1) (m : Mem) : FnH Tryz.prog 204 [.box 0 0] (pH ts en s) m (ERes ts en s (keyK (ts.drop s.i)) m) := by
 refine enter cfN puN Tryz.func204 rfl rfl (by kernel_rfl) rfl ?_ ?_
 ·simp only [go_sem, ↓tfi, ↓fti, ↓reduceIte]
 ·simp only [go_sem, ↓tfi, ↓fti, ↓reduceIte]
  by_cases h0 : isC ts s.i [110, 117, 108, 108] = true
  ·have ha := acc_t (en := en) hT h0
   have hi := isC_lt h0
   have hI' := hI.next hi
   clear hA hP hE
   refine cvl ((ha m).mono ?_)
   clear ha
   rintro r H' m1 hm1 ⟨l1, rfl, rfl⟩
   simp only [go_sem, ↓tfi, ↓fti, ↓reduceIte]
   exact ⟨l1, ⟨4, 0, [], [], zTy, none, 0, 0⟩, _, s.next, rfl, mk_rep0 ⟨by decide, by decide⟩ ⟨by decide, by decide⟩ (Nat.zero_le _) (Nat.zero_le _) tyOk_z, rfl, by rw [keyK_eq, if_pos (by rw [← isC_P]; exact h0), ← drop_next]; exact res_next hI hi (res_pure _ hI')⟩
  ·have ha := acc_f (en := en) hT h0
   refine cvl ((ha m).mono ?_)
   clear ha
   rintro r H' m1 hm1 ⟨l1, rfl, rfl⟩
   simp only [go_sem, ↓tfi, ↓fti, ↓reduceIte]
   by_cases h1 : isC ts s.i [116, 104, 105, 115] = true
   ·have ha := acc_t (en := en) hT h1
    have hi := isC_lt h1
    have hI' := hI.next hi
    clear hA hP hE
    refine cvl ((ha m1).mono ?_)
    clear ha
    rintro r H' m2 hm2 ⟨l2, rfl, rfl⟩
    simp only [go_sem, ↓tfi, ↓fti, ↓reduceIte]
    exact ⟨(leM_tr l1 l2), ⟨5, 0, [], [], zTy, none, 0, 0⟩, _, s.next, rfl, mk_rep0 ⟨by decide, by decide⟩ ⟨by decide, by decide⟩ (Nat.zero_le _) (Nat.zero_le _) tyOk_z, rfl, by rw [keyK_eq, if_neg (by rw [← isC_P]; exact h0), if_pos (by rw [← isC_P]; exact h1), ← drop_next]; exact res_next hI hi (res_pure _ hI')⟩
   ·have ha := acc_f (en := en) hT h1
    refine cvl ((ha m1).mono ?_)
    clear ha
    rintro r H' m2 hm2 ⟨l2, rfl, rfl⟩
    simp only [go_sem, ↓tfi, ↓fti, ↓reduceIte]
    by_cases h2 : isC ts s.i [115, 117, 112, 101, 114] = true
    ·have ha := acc_t (en := en) hT h2
     have hi := isC_lt h2
     have hI' := hI.next hi
     have hs := supc_of (s := s.next) (en := en) hT hI' (fun s1 g1 g2 => hA s1 g1 (Nat.lt_of_lt_of_le (Nat.lt_succ_self _) g2))
     clear hA hP hE
     refine cvl ((ha m2).mono ?_)
     clear ha
     rintro r H' m3 hm3 ⟨l3, rfl, rfl⟩
     simp only [go_sem, ↓tfi, ↓fti, ↓reduceIte]
     refine cvl ((hs m3).mono ?_)
     clear hs
     rintro r H' m4 hm4 ⟨l4, x, e, s1, rfl, hx, rfl, hR⟩
     simp only [go_sem, ↓tfi, ↓fti, ↓reduceIte]
     exact ⟨(leM_tr (leM_tr (leM_tr l1 l2) l3) l4), x, e, s1, rfl, hx, rfl, by rw [keyK_eq, if_neg (by rw [← isC_P]; exact h0), if_neg (by rw [← isC_P]; exact h1), if_pos (by rw [← isC_P]; exact h2), ← drop_next]; exact res_next hI hi hR⟩
    ·have ha := acc_f (en := en) hT h2
     refine cvl ((ha m2).mono ?_)
     clear ha
     rintro r H' m3 hm3 ⟨l3, rfl, rfl⟩
     simp only [go_sem, ↓tfi, ↓fti, ↓reduceIte]
     by_cases h3 : isC ts s.i [110, 101, 119] = true
     ·have ha := acc_t (en := en) hT h3
      have hi := isC_lt h3
      have hI' := hI.next hi
      have hs := creation_of (s := s.next) (en := en) hT hI' (fun s1 g1 g2 => hA s1 g1 (Nat.lt_of_lt_of_le (Nat.lt_succ_self _) g2)) (fun s1 g1 g2 => hE s1 g1 (Nat.lt_of_lt_of_le (Nat.lt_succ_self _) g2))
      clear hA hP hE
      refine cvl ((ha m3).mono ?_)
      clear ha
      rintro r H' m4 hm4 ⟨l4, rfl, rfl⟩
      simp only [go_sem, ↓tfi, ↓fti, ↓reduceIte]
      refine cvl ((hs m4).mono ?_)
      clear hs
      rintro r H' m5 hm5 ⟨l5, x, e, s1, rfl, hx, rfl, hR⟩
      simp only [go_sem, ↓tfi, ↓fti, ↓reduceIte]
      exact ⟨(leM_tr (leM_tr (leM_tr (leM_tr l1 l2) l3) l4) l5), x, e, s1, rfl, hx, rfl, by rw [keyK_eq, if_neg (by rw [← isC_P]; exact h0), if_neg (by rw [← isC_P]; exact h1), if_neg (by rw [← isC_P]; exact h2), if_pos (by rw [← isC_P]; exact h3), ← drop_next]; exact res_next hI hi hR⟩
     ·have ha := acc_f (en := en) hT h3
      refine cvl ((ha m3).mono ?_)
      clear ha
      rintro r H' m4 hm4 ⟨l4, rfl, rfl⟩
      simp only [go_sem, ↓tfi, ↓fti, ↓reduceIte]
      by_cases h4 : isC ts s.i [108, 101, 110] = true
      ·have ha := acc_t (en := en) hT h4
       have hi := isC_lt h4
       have hI' := hI.next hi
       have hs := conv_of (s := s.next) (en := en) hT 19 ⟨by decide, by decide⟩ (hP s.next hI' (Nat.lt_succ_self _))
       clear hA hP hE
       refine cvl ((ha m4).mono ?_)
       clear ha
       rintro r H' m5 hm5 ⟨l5, rfl, rfl⟩
       simp only [go_sem, ↓tfi, ↓fti, ↓reduceIte]
       refine cvl ((hs m5).mono ?_)
       clear hs
       rintro r H' m6 hm6 ⟨l6, x, e, s1, rfl, hx, rfl, hR⟩
       simp only [go_sem, ↓tfi, ↓fti, ↓reduceIte]
       exact ⟨(leM_tr (leM_tr (leM_tr (leM_tr (leM_tr l1 l2) l3) l4) l5) l6), x, e, s1, rfl, hx, rfl, by rw [keyK_eq, if_neg (by rw [← isC_P]; exact h0), if_neg (by rw [← isC_P]; exact h1), if_neg (by rw [← isC_P]; exact h2), if_neg (by rw [← isC_P]; exact h3), if_pos (by rw [← isC_P]; exact h4), ← drop_next]; exact res_next hI hi hR⟩
      ·have ha := acc_f (en := en) hT h4
       refine cvl ((ha m4).mono ?_)
       clear ha
       rintro r H' m5 hm5 ⟨l5, rfl, rfl⟩
       simp only [go_sem, ↓tfi, ↓fti, ↓reduceIte]
       by_cases h5 : isC ts s.i intS = true
       ·have ha := acc_t (en := en) hT h5
        have hi := isC_lt h5
        have hI' := hI.next hi
        have hs := conv_of (s := s.next) (en := en) hT 20 ⟨by decide, by decide⟩ (hP s.next hI' (Nat.lt_succ_self _))
        clear hA hP hE
        refine cvl ((ha m5).mono ?_)
        clear ha
        rintro r H' m6 hm6 ⟨l6, rfl, rfl⟩
        simp only [go_sem, ↓tfi, ↓fti, ↓reduceIte]
        refine cvl ((hs m6).mono ?_)
        clear hs
        rintro r H' m7 hm7 ⟨l7, x, e, s1, rfl, hx, rfl, hR⟩
        simp only [go_sem, ↓tfi, ↓fti, ↓reduceIte]
        exact ⟨(leM_tr (leM_tr (leM_tr (leM_tr (leM_tr (leM_tr l1 l2) l3) l4) l5) l6) l7), x, e, s1, rfl, hx, rfl, by rw [keyK_eq, if_neg (by rw [← isC_P]; exact h0), if_neg (by rw [← isC_P]; exact h1), if_neg (by rw [← isC_P]; exact h2), if_neg (by rw [← isC_P]; exact h3), if_neg (by rw [← isC_P]; exact h4), if_pos (by rw [← isC_P]; exact h5), ← drop_next]; exact res_next hI hi hR⟩
       ·have ha := acc_f (en := en) hT h5
        refine cvl ((ha m5).mono ?_)
        clear ha
        rintro r H' m6 hm6 ⟨l6, rfl, rfl⟩
        simp only [go_sem, ↓tfi, ↓fti, ↓reduceIte]
        by_cases h6 : isC ts s.i longS = true
        ·have ha := acc_t (en := en) hT h6
         have hi := isC_lt h6
         have hI' := hI.next hi
         have hs := conv_of (s := s.next) (en := en) hT 21 ⟨by decide, by decide⟩ (hP s.next hI' (Nat.lt_succ_self _))
         clear hA hP hE
         refine cvl ((ha m6).mono ?_)
         clear ha
         rintro r H' m7 hm7 ⟨l7, rfl, rfl⟩
         simp only [go_sem, ↓tfi, ↓fti, ↓reduceIte]
         refine cvl ((hs m7).mono ?_)
         clear hs
         rintro r H' m8 hm8 ⟨l8, x, e, s1, rfl, hx, rfl, hR⟩
         simp only [go_sem, ↓tfi, ↓fti, ↓reduceIte]
         exact ⟨(leM_tr (leM_tr (leM_tr (leM_tr (leM_tr (leM_tr (leM_tr l1 l2) l3) l4) l5) l6) l7) l8), x, e, s1, rfl, hx, rfl, by rw [keyK_eq, if_neg (by rw [← isC_P]; exact h0), if_neg (by rw [← isC_P]; exact h1), if_neg (by rw [← isC_P]; exact h2), if_neg (by rw [← isC_P]; exact h3), if_neg (by rw [← isC_P]; exact h4), if_neg (by rw [← isC_P]; exact h5), if_pos (by rw [← isC_P]; exact h6), ← drop_next]; exact res_next hI hi hR⟩
        ·have ha := acc_f (en := en) hT h6
         refine cvl ((ha m6).mono ?_)
         clear ha
         rintro r H' m7 hm7 ⟨l7, rfl, rfl⟩
         simp only [go_sem, ↓tfi, ↓fti, ↓reduceIte]
         have hf := fun m' => fail_spec ts en s m' hT.l8
         clear hA hP hE
         refine cvl ((hf m7).mono ?_)
         clear hf
         rintro r H' m8 hm8 ⟨rfl, rfl, rfl⟩
         simp only [go_sem, ↓tfi, ↓fti, ↓reduceIte]
         exact ⟨(leM_tr (leM_tr (leM_tr (leM_tr (leM_tr (leM_tr l1 l2) l3) l4) l5) l6) l7), ⟨0, 0, [], [], zTy, none, 0, 0⟩, .mk 0 0 [] [] zTy [], _, rfl, mk_rep0 ⟨by decide, by decide⟩ ⟨by decide, by decide⟩ (Nat.zero_le _) (Nat.zero_le _) tyOk_z, rfl, by rw [keyK_eq, if_neg (by rw [← isC_P]; exact h0), if_neg (by rw [← isC_P]; exact h1), if_neg (by rw [← isC_P]; exact h2), if_neg (by rw [← isC_P]; exact h3), if_neg (by rw [← isC_P]; exact h4), if_neg (by rw [← isC_P]; exact h5), if_neg (by rw [← isC_P]; exact h6)]; exact res_fail _ hI⟩
end
section
variable {ts : List Tk} {en : Int} {s : PSt}
theorem isId_t (hT : TsB ts) (h : isIdP (ts.drop s.i) = true) (m : Mem) : FnH Tryz.prog 190 [.box 0 0] (pH ts en s) m fun r H' m' => leM m m' ∧ r = .v (.bool true) ∧ H' = pH ts en s :=
 (isIdent_spec ts en s m hT).mono fun r H' m2 _ q => ⟨q.1, by have := q.2.1; rw [h] at this; exact this, q.2.2⟩
theorem isId_f (hT : TsB ts) (h : ¬ isIdP (ts.drop s.i) = true) (m : Mem) : FnH Tryz.prog 190 [.box 0 0] (pH ts en s) m fun r H' m' => leM m m' ∧ r = .v (.bool false) ∧ H' = pH ts en s :=
 (isIdent_spec ts en s m hT).mono fun r H' m2 _ q => ⟨q.1, by have := q.2.1; rw [(by simpa using h : isIdP (ts.drop s.i) = false)] at this; exact this, q.2.2⟩
theorem isCl_t (hT : TsB ts) (h : isClsP (ts.drop s.i) = true) (m : Mem) : FnH Tryz.prog 126 [.box 0 0] (pH ts en s) m fun r H' m' => leM m m' ∧ r = .v (.bool true) ∧ H' = pH ts en s :=
 (isClass_spec ts en s m hT).mono fun r H' m2 _ q => ⟨q.1, by have := q.2.1; rw [h] at this; exact this, q.2.2⟩
theorem isCl_f (hT : TsB ts) (h : ¬ isClsP (ts.drop s.i) = true) (m : Mem) : FnH Tryz.prog 126 [.box 0 0] (pH ts en s) m fun r H' m' => leM m m' ∧ r = .v (.bool false) ∧ H' = pH ts en s :=
 (isClass_spec ts en s m hT).mono fun r H' m2 _ q => ⟨q.1, by have := q.2.1; rw [(by simpa using h : isClsP (ts.drop s.i) = false)] at this; exact this, q.2.2⟩
theorem operand_of (hT : TsB ts) (hI : Inv ts s) (hA : ∀ s1, Inv ts s1 → s.i < s1.i → ArgsC ts en s1) (hE : ∀ s1, Inv ts s1 → s.i < s1.i → ExprC ts en 0 s1) (hK : ∀ m, FnH Tryz.prog 204 [.box 0 0] (pH ts en s) m (ERes ts en s (keyK (ts.drop s.i)) m)) (m : Mem) :
  FnH Tryz.prog 150 [.box 0 0] (pH ts en s) m (ERes ts en s (operandK (ts.drop s.i)) m) := by
 have hp := peek_spec ts en s m hT.l8
 refine enter cfN puN Tryz.func150 rfl rfl (by kernel_rfl) rfl ?_ ?_
 ·simp only [go_sem, ↓tfi, ↓fti, ↓reduceIte]
 ·simp only [go_sem, ↓tfi, ↓fti, ↓reduceIte]
  refine cvl (hp.mono ?_)
  clear hp
  rintro r H' m1 hm1 ⟨rfl, rfl⟩
  simp only [go_sem, ↓tfi, ↓fti, ↓reduceIte]
  refine ⟨fun hk => ?_, fun hk => ?_⟩
  ·have hi : s.i < ts.length := by
    rcases Nat.lt_or_ge s.i ts.length with h | h
    ·exact h
    ·rw [cur_end h] at hk
     exact absurd hk (by decide)
   have hl := literal_spec (en := en) hT hI hi
   have e : operandK (ts.drop s.i) = litK (ts.drop s.i) := by
    rw [operandK_eq, litK, hdK_cur]
    by_cases h3 : (curT ts s.i).k = 3
    ·rw [if_pos h3, if_pos h3]
    ·by_cases h4 : (curT ts s.i).k = 4
     ·rw [if_neg h3, if_neg h3, if_pos h4, if_pos h4]
     ·rw [if_neg h3, if_neg h3, if_neg h4, if_neg h4, if_pos (by omega)]
   rw [e]
   clear hA hE hK
   refine cvl ((hl m1).mono ?_)
   clear hl
   rintro r H' m2 hm2 ⟨l2, x, e, s1, rfl, hx, rfl, hR⟩
   simp only [go_sem, ↓tfi, ↓fti, ↓reduceIte]
   exact ⟨.inr (leM_le (.inr hm1 : leM m m1) hm2), x, e, s1, rfl, hx, rfl, hR⟩
  ·have e : operandK (ts.drop s.i) = (if isIdP (ts.drop s.i) = true then bndP (idP (ts.drop s.i)) fun s r => .ok (.mk 6 0 s [] zTy [], r) else if isClsP (ts.drop s.i) = true then statK (ts.drop s.i) else if isC ts s.i [40] = true then parenK (ts.drop s.i) else keyK (ts.drop s.i)) := by
    rw [operandK_eq, hdK_cur, if_neg (by omega), if_neg (by omega), if_neg (by omega), isC_P]
    rfl
   rw [e]
   by_cases h1 : isIdP (ts.drop s.i) = true
   ·have ha := isId_t (en := en) hT h1
    have hb := local_spec (en := en) hT hI
    clear hA hE hK
    rw [if_pos h1]
    refine cvl ((ha m1).mono ?_)
    clear ha
    rintro r H' m2 hm2 ⟨l2, rfl, rfl⟩
    simp only [go_sem, ↓tfi, ↓fti, ↓reduceIte]
    refine cvl ((hb m2).mono ?_)
    clear hb
    rintro r H' m3 hm3 ⟨l3, x, e, s1, rfl, hx, rfl, hR⟩
    simp only [go_sem, ↓tfi, ↓fti, ↓reduceIte]
    exact ⟨leM_tr (.inr hm1) (leM_tr l2 l3), x, e, s1, rfl, hx, rfl, hR⟩
   ·have ha := isId_f (en := en) hT h1
    rw [if_neg h1]
    refine cvl ((ha m1).mono ?_)
    clear ha
    rintro r H' m2 hm2 ⟨l2, rfl, rfl⟩
    simp only [go_sem, ↓tfi, ↓fti, ↓reduceIte]
    by_cases h2 : isClsP (ts.drop s.i) = true
    ·have ha := isCl_t (en := en) hT h2
     have hb := static_of (en := en) hT hI h2 hA
     clear hA hE hK
     rw [if_pos h2]
     refine cvl ((ha m2).mono ?_)
     clear ha
     rintro r H' m3 hm3 ⟨l3, rfl, rfl⟩
     simp only [go_sem, ↓tfi, ↓fti, ↓reduceIte]
     refine cvl ((hb m3).mono ?_)
     clear hb
     rintro r H' m4 hm4 ⟨l4, x, e, s1, rfl, hx, rfl, hR⟩
     simp only [go_sem, ↓tfi, ↓fti, ↓reduceIte]
     exact ⟨leM_tr (.inr hm1) (leM_tr l2 (leM_tr l3 l4)), x, e, s1, rfl, hx, rfl, hR⟩
    ·have ha := isCl_f (en := en) hT h2
     rw [if_neg h2]
     refine cvl ((ha m2).mono ?_)
     clear ha
     rintro r H' m3 hm3 ⟨l3, rfl, rfl⟩
     simp only [go_sem, ↓tfi, ↓fti, ↓reduceIte]
     by_cases h3 : isC ts s.i [40] = true
     ·have hi := isC_lt h3
      have e4 : expSt ts en s [40] = s.next := if_pos h3
      have ha := pis_t (en := en) hT h3
      have hb := paren_of (en := en) hT hI (by rw [e4]; exact hE s.next (hI.next hi) (Nat.lt_succ_self _))
      clear hA hE hK
      rw [if_pos h3]
      refine cvl ((ha m3).mono ?_)
      clear ha
      rintro r H' m4 hm4 ⟨l4, rfl, rfl⟩
      simp only [go_sem, ↓tfi, ↓fti, ↓reduceIte]
      refine cvl ((hb m4).mono ?_)
      clear hb
      rintro r H' m5 hm5 ⟨l5, x, e, s1, rfl, hx, rfl, hR⟩
      simp only [go_sem, ↓tfi, ↓fti, ↓reduceIte]
      exact ⟨leM_tr (.inr hm1) (leM_tr l2 (leM_tr l3 (leM_tr l4 l5))), x, e, s1, rfl, hx, rfl, hR⟩
     ·have ha := pis_f (en := en) hT h3
      clear hA hE
      rw [if_neg h3]
      refine cvl ((ha m3).mono ?_)
      clear ha
      rintro r H' m4 hm4 ⟨l4, rfl, rfl⟩
      simp only [go_sem, ↓tfi, ↓fti, ↓reduceIte]
      refine cvl ((hK m4).mono ?_)
      clear hK
      rintro r H' m5 hm5 ⟨l5, x, e, s1, rfl, hx, rfl, hR⟩
      simp only [go_sem, ↓tfi, ↓fti, ↓reduceIte]
      exact ⟨leM_tr (.inr hm1) (leM_tr l2 (leM_tr l3 (leM_tr l4 l5))), x, e, s1, rfl, hx, rfl, hR⟩
end
attribute [go_sem] pubBx_def updB Nd.svs
section
variable {ts : List Tk} {en : Int} {s : PSt}
theorem postfix_of (hT : TsB ts) (hI : Inv ts s) (hA : ∀ s1, Inv ts s1 → s.i < s1.i → ArgsC ts en s1) (hE : ∀ s1, Inv ts s1 → s.i < s1.i → ExprC ts en 0 s1) (x : Nd) (e : Ex) (m : Mem) (hx : exRep m e x.cs) :
  FnH Tryz.prog 149 [.box 0 0, .agg x.svs] (pH ts en s) m (ERes ts en s (postK e (ts.drop s.i)) m) := by
 refine enter cfN puN Tryz.func149 rfl rfl (by kernel_rfl) rfl ?_ ?_
 ·simp only [go_sem, ↓tfi, ↓fti, ↓reduceIte]
 ·simp only [go_sem, ↓tfi, ↓fti, ↓reduceIte]
  refine WP_loopB puN 2 (fun y : PSt × Nd × Ex × Mem => ⟨[⟨0, [], .box 0 0⟩, ⟨3, [], .box 2 0⟩, ⟨4, [], .box 3 0⟩], [], [zEB 3, ⟨2, 33, y.2.1.svs⟩, prB en y.1], [tkV ts], 40, y.2.2.2⟩)
   (fun y => leM m y.2.2.2 ∧ Inv ts y.1 ∧ s.i ≤ y.1.i ∧ exRep y.2.2.2 y.2.2.1 y.2.1.cs ∧ ∀ a s', Res ts en y.1 (postK y.2.2.1 (ts.drop y.1.i)) a s' → Res ts en s (postK e (ts.drop s.i)) a s')
   (fun y => ts.length - y.1.i) (by kernel_rfl) (fun _ _ => nbl rfl) (fun y hy => hy.1) (fun _ => ?_) ?_ ?_
  ·simp only [go_sem, ↓tfi, ↓fti, ↓reduceIte]
  ·simp only [go_sem, ↓tfi, ↓fti, ↓reduceIte]
   exact ⟨(s, x, e, m), ⟨⟨⟨rfl, rfl, rfl, rfl, rfl, rfl, rfl, rfl⟩, ⟨rfl, rfl, rfl⟩⟩, .inl rfl⟩, .inl rfl, hI, Nnr _, hx, fun a s' h => h⟩
  ·rintro ⟨s4, x4, e4, m4⟩ ⟨q1, q2, q3, q4, q5⟩
   dsimp only at q1 q2 q3 q4 q5
   have hl := hT.len
   have hil := q2.le
   by_cases h46 : isC ts s4.i [46] = true
   ·have ha := acc_t (en := en) hT h46
    have hi := isC_lt h46
    have hI5 := q2.next hi
    have h5 := pid_spec ts en s4.next
    simp only [go_sem, ↓tfi, ↓fti, ↓reduceIte]
    refine cvl ((ha m4).mono ?_)
    clear ha
    rintro r H' m5 hm5 ⟨l5, rfl, rfl⟩
    simp only [go_sem, ↓tfi, ↓fti, ↓reduceIte]
    refine cvl ((h5 m5 hT hI5).mono ?_)
    clear h5
    rintro r H' m6 hm6 ⟨l6, w, s6, rfl, hw, rfl, hR6⟩
    have hle6 := hR6.mono
    have hnx : s4.next.i = s4.i + 1 := rfl
    by_cases h40 : isC ts s6.i [40] = true
    ·have ha := pis_t (en := en) hT h40
     have hb := hA s6 hR6.inv (by omega)
     clear hA hE
     simp only [go_sem, ↓tfi, ↓fti, ↓reduceIte]
     refine cvl ((ha m6).mono ?_)
     clear ha
     rintro r H' m7 hm7 ⟨l7, rfl, rfl⟩
     simp only [go_sem, ↓tfi, ↓fti, ↓reduceIte]
     refine WP_draw (.hoist 0 (.hoist 1 (.hoist 3 (.alt 2 [3, 0] (.alt 4 [0] (.alt 5 [0] (.hoist 6 (.alt 7 [] .done .stop)) .stop) .stop) (.alt 4 [1, 0] (.alt 2 [0] (.alt 5 [0] (.hoist 6 (.alt 7 [] .done .stop)) .stop) .stop) .stop))))) puN (by kernel_rfl) (by kernel_rfl) ?_
     simp only [go_sem, ↓tfi, ↓fti, ↓reduceIte]
     refine ⟨cvl ((hb m7).mono ?_), cvl ((hb m7).mono ?_)⟩
     ·clear hb
      rintro r H' m8 hm8 ⟨l8, es, a, cp, xs, s8, rfl, ha1, ha2, ha3, ha4, rfl, hR8⟩
      simp only [go_sem, ↓tfi, ↓fti, ↓reduceIte]
      refine ⟨l8, ⟨xs, ha3, exs_oneC ha3.1 ha4, room_of (by omega) (by decide), l8, fun a9 c9 m9 w1 w2 w3 => ?_⟩⟩
      have hl1 : 1 + es.length = (e4 :: es).length := by rw [Llc, Nat.add_comm]
      rw [hl1] at w2 w3 ⊢
      have hm9 := hR8.mono
      refine ⟨(s8, ⟨10, 0, w, [], zTy, a9, (e4 :: es).length, c9⟩, .mk 10 0 w [] zTy (e4 :: es), m9), ⟨⟨⟨rfl, rfl, rfl, rfl, rfl, rfl, rfl, rfl⟩, ⟨rfl, rfl, rfl⟩⟩, .inl rfl⟩, ⟨leM_tr q1 (leM_tr l5 (leM_tr l6 (leM_tr l7 (leM_tr l8 (.inr w1))))), hR8.inv, by dsimp only; omega, mk_rep ⟨by decide, by decide⟩ ⟨by decide, by decide⟩ hw (Nat.zero_le _) tyOk_z (by rw [Llc]; omega) w2 w3 (exs_consN (exRep_upM (leM_tr l5 (leM_tr l6 (leM_tr l7 (leM_tr l8 (.inr w1))))) q4) (exs_upM (.inr w1) ha4)), fun a s' h => q5 a s' ?_⟩, by dsimp only; omega⟩
      rw [postK_eq, if_pos (by rw [← isC_P]; exact h46), ← drop_next]
      exact res_next q2 hi (res_bnd hR6 (by rw [if_pos (by rw [← isC_P]; exact h40)]; exact res_bnd hR8 h))
     ·clear hb
      rintro r H' m8 hm8 ⟨l8, es, a, cp, xs, s8, rfl, ha1, ha2, ha3, ha4, rfl, hR8⟩
      simp only [go_sem, ↓tfi, ↓fti, ↓reduceIte]
      refine ⟨⟨l8, l8⟩, l8, ⟨xs, ha3, exs_oneC ha3.1 ha4, room_of (by omega) (by decide), l8, fun a9 c9 m9 w1 w2 w3 => ?_⟩⟩
      have hl1 : 1 + es.length = (e4 :: es).length := by rw [Llc, Nat.add_comm]
      rw [hl1] at w2 w3 ⊢
      have hm9 := hR8.mono
      refine ⟨(s8, ⟨10, 0, w, [], zTy, a9, (e4 :: es).length, c9⟩, .mk 10 0 w [] zTy (e4 :: es), m9), ⟨⟨⟨rfl, rfl, rfl, rfl, rfl, rfl, rfl, rfl⟩, ⟨rfl, rfl, rfl⟩⟩, .inl rfl⟩, ⟨leM_tr q1 (leM_tr l5 (leM_tr l6 (leM_tr l7 (leM_tr l8 (.inr w1))))), hR8.inv, by dsimp only; omega, mk_rep ⟨by decide, by decide⟩ ⟨by decide, by decide⟩ hw (Nat.zero_le _) tyOk_z (by rw [Llc]; omega) w2 w3 (exs_consN (exRep_upM (leM_tr l5 (leM_tr l6 (leM_tr l7 (leM_tr l8 (.inr w1))))) q4) (exs_upM (.inr w1) ha4)), fun a s' h => q5 a s' ?_⟩, by dsimp only; omega⟩
      rw [postK_eq, if_pos (by rw [← isC_P]; exact h46), ← drop_next]
      exact res_next q2 hi (res_bnd hR6 (by rw [if_pos (by rw [← isC_P]; exact h40)]; exact res_bnd hR8 h))
    ·have ha := pis_f (en := en) hT h40
     clear hA hE
     simp only [go_sem, ↓tfi, ↓fti, ↓reduceIte]
     refine cvl ((ha m6).mono ?_)
     clear ha
     rintro r H' m7 hm7 ⟨l7, rfl, rfl⟩
     simp only [go_sem, ↓tfi, ↓fti, ↓reduceIte]
     intro a c m8 w1 w2 w3
     refine ⟨(s6, ⟨7, 0, w, [], zTy, a, 1, c⟩, .mk 7 0 w [] zTy [e4], m8), ⟨⟨⟨rfl, rfl, rfl, rfl, rfl, rfl, rfl, rfl⟩, ⟨rfl, rfl, rfl⟩⟩, .inl rfl⟩, ⟨leM_tr q1 (leM_tr l5 (leM_tr l6 (leM_tr l7 (.inr w1)))), hR6.inv, by dsimp only; omega, mk_rep (es := [e4]) ⟨by decide, by decide⟩ ⟨by decide, by decide⟩ hw (Nat.zero_le _) tyOk_z (by simp) w2 w3 (exs1 (exRep_upM (leM_tr l5 (leM_tr l6 (leM_tr l7 (.inr w1)))) q4)), fun a s' h => q5 a s' ?_⟩, by dsimp only; omega⟩
     rw [postK_eq, if_pos (by rw [← isC_P]; exact h46), ← drop_next]
     exact res_next q2 hi (res_bnd hR6 (by rw [if_neg (by rw [← isC_P]; exact h40)]; exact h))
   ·have ha := acc_f (en := en) hT h46
    clear hA
    simp only [go_sem, ↓tfi, ↓fti, ↓reduceIte]
    refine cvl ((ha m4).mono ?_)
    clear ha
    rintro r H' m5 hm5 ⟨l5, rfl, rfl⟩
    simp only [go_sem, ↓tfi, ↓fti, ↓reduceIte]
    by_cases h91 : isC ts s4.i [91] = true
    ·have ha := acc_t (en := en) hT h91
     have hi := isC_lt h91
     have hI5 := q2.next hi
     have hb : ∀ m' : Mem, FnH Tryz.prog 31 [.box 0 0, .v (.int .i64 0)] (pH ts en s4.next) m' (ERes ts en s4.next (exprK 0 (ts.drop s4.next.i)) m') := hE s4.next hI5 (Nat.lt_succ_of_le q3)
     clear hE
     refine cvl ((ha m5).mono ?_)
     clear ha
     rintro r H' m6 hm6 ⟨l6, rfl, rfl⟩
     simp only [go_sem, ↓tfi, ↓fti, ↓reduceIte]
     refine cvl ((hb m6).mono ?_)
     clear hb
     rintro r H' m7 hm7 ⟨l7, x7, e7, s7, rfl, hx7, rfl, hR7⟩
     have hle7 := hR7.mono
     have hnx : s4.next.i = s4.i + 1 := rfl
     have he := fun m' => exp_spec ts en s7 [93] m' hT.l8
     have hle8 : s7.i ≤ (expSt ts en s7 [93]).i := expSt_le hR7.inv
     simp only [go_sem, ↓tfi, ↓fti, ↓reduceIte]
     refine cvl ((he m7).mono ?_)
     clear he
     rintro r H' m8 hm8 ⟨l8, rfl, rfl⟩
     simp only [go_sem, ↓tfi, ↓fti, ↓reduceIte]
     intro a c m9 w1 w2 w3
     refine ⟨(expSt ts en s7 [93], ⟨9, 0, [], [], zTy, a, 2, c⟩, .mk 9 0 [] [] zTy [e4, e7], m9), ⟨⟨⟨rfl, rfl, rfl, rfl, rfl, rfl, rfl, rfl⟩, ⟨rfl, rfl, rfl⟩⟩, .inl rfl⟩, ⟨leM_tr q1 (leM_tr l5 (leM_tr l6 (leM_tr l7 (leM_tr l8 (.inr w1))))), inv_expSt hR7.inv, by dsimp only; omega, mk_rep (es := [e4, e7]) ⟨by decide, by decide⟩ ⟨by decide, by decide⟩ (Nat.zero_le _) (Nat.zero_le _) tyOk_z (by simp) w2 w3 (exs2 (exRep_upM (leM_tr l5 (leM_tr l6 (leM_tr l7 (leM_tr l8 (.inr w1))))) q4) (exRep_upM (leM_tr l8 (.inr w1)) hx7)), fun a s' h => q5 a s' ?_⟩, by dsimp only; omega⟩
     rw [postK_eq, if_neg (by rw [← isC_P]; exact h46), if_pos (by rw [← isC_P]; exact h91), ← drop_next]
     exact res_next q2 hi (res_bnd hR7 (res_exp hR7.inv h))
    ·have ha := acc_f (en := en) hT h91
     clear hE
     refine cvl ((ha m5).mono ?_)
     clear ha
     rintro r H' m6 hm6 ⟨l6, rfl, rfl⟩
     simp only [go_sem, ↓tfi, ↓fti, ↓reduceIte]
     refine ⟨leM_tr q1 (leM_tr l5 l6), x4, e4, s4, rfl, exRep_upM (leM_tr l5 l6) q4, rfl, q5 _ _ ?_⟩
     rw [postK_eq, if_neg (by rw [← isC_P]; exact h46), if_neg (by rw [← isC_P]; exact h91)]
     exact res_pure _ q2
end
section
variable {ts : List Tk} {en : Int} {s : PSt}
def PostC (ts : List Tk) (en : Int) (s : PSt) : Prop := ∀ (x : Nd) (e : Ex) (m : Mem), exRep m e x.cs → FnH Tryz.prog 149 [.box 0 0, .agg x.svs] (pH ts en s) m (ERes ts en s (postK e (ts.drop s.i)) m)
def OperC (ts : List Tk) (en : Int) (s : PSt) : Prop := ∀ m : Mem, FnH Tryz.prog 150 [.box 0 0] (pH ts en s) m (ERes ts en s (operandK (ts.drop s.i)) m)
theorem unary_of (hT : TsB ts) (hI : Inv ts s) (hU : ∀ s1, Inv ts s1 → s.i < s1.i → UnC ts en s1) (hO : OperC ts en s) (hP : ∀ s1, Inv ts s1 → s.i ≤ s1.i → PostC ts en s1) : UnC ts en s := fun m => by
 refine FnH_own (enter cfN puN Tryz.func61 rfl rfl (by kernel_rfl) rfl ?_ ?_)
 ·simp only [go_sem, ↓tfi, ↓fti, ↓reduceIte]
 ·simp only [go_sem, ↓tfi, ↓fti, ↓reduceIte]
  refine WP_loop puN (fun y : Nat × Mem => ⟨[⟨0, [], .box 0 0⟩, ⟨2, [], .box 2 0⟩, ⟨5, [], .vec 3 0⟩, ⟨6, [], .v (.int .i64 2)⟩, ⟨7, [], .v (.int .i64 y.1)⟩], [], [zEB 2, prB en s], [⟨3, 0, 9, 1, 2, [.string (bs [45]), .string (bs [33])]⟩, tkV ts], 40, y.2⟩)
   (fun y => leM m y.2 ∧ y.1 ≤ 2 ∧ (1 ≤ y.1 → ¬ isC ts s.i [45] = true) ∧ (2 ≤ y.1 → ¬ isC ts s.i [33] = true))
   (fun y => 2 - y.1) (0, m) (by kernel_rfl) (fun _ _ => nbl rfl) (fun y hy => hy.1) (fun _ => ?_) ?_ ?_ ?_
  ·simp only [go_sem, ↓tfi, ↓fti, ↓reduceIte]
  ·simp only [go_sem, ↓tfi, ↓fti, ↓reduceIte]
   exact ⟨rfl, rfl⟩
  ·exact ⟨.inl rfl, Nat.zero_le _, fun h => absurd h (Nat.not_succ_le_zero _), fun h => absurd h (Nat.not_succ_le_zero _)⟩
  ·rintro ⟨i, m1⟩ ⟨q1, q2, q3, q4⟩
   dsimp only at q1 q2 q3 q4
   have hs : i = 0 ∨ i = 1 ∨ i = 2 := by omega
   rcases hs with rfl | rfl | rfl
   ·by_cases hc : isC ts s.i [45] = true
    ·have ha := acc_t (en := en) hT hc
     have hi := isC_lt hc
     have hI' := hI.next hi
     have hu := hU s.next hI' (Nat.lt_succ_self _)
     clear hU hO hP
     simp only [go_sem, ↓tfi, ↓fti, ↓reduceIte]
     refine ⟨fun _ => ⟨⟨by decide, by decide⟩, by kernel_rfl, FnV_of ((ha m1).mono ?_)⟩, fun h => absurd (by decide) h⟩
     clear ha
     rintro r H' m2 hm2 ⟨l2, rfl, rfl⟩
     simp only [go_sem, ↓tfi, ↓fti, ↓reduceIte]
     refine cvl ((hu m2).mono ?_)
     clear hu
     rintro r H' m3 hm3 ⟨l3, x, e, s1, rfl, hx, rfl, hR⟩
     simp only [go_sem, ↓tfi, ↓fti, ↓reduceIte]
     exact own_agg 7 rfl rfl (pH ts en s1) (List.Sublist.refl _) (.cons _ (List.Sublist.refl _)) fun a cp mm w1 w2 w3 => ⟨leM_tr (leM_tr q1 (leM_tr l2 l3)) (.inr w1), ⟨15, 0, [45], [], zTy, a, 1, cp⟩, .mk 15 0 [45] [] zTy [e], s1, rfl, mk_rep (es := [e]) ⟨by decide, by decide⟩ ⟨by decide, by decide⟩ (by decide) (Nat.zero_le _) tyOk_z (by simp) w2 w3 (exs1 (exRep_upM (.inr w1) hx)), rfl, by rw [unaryK_eq, if_pos (by rw [← isC_P]; exact hc), ← drop_next]; exact res_next hI hi (res_bnd hR (res_pure _ hR.inv))⟩
    ·have ha := acc_f (en := en) hT hc
     clear hU hO hP
     simp only [go_sem, ↓tfi, ↓fti, ↓reduceIte]
     refine ⟨fun _ => ⟨⟨by decide, by decide⟩, by kernel_rfl, FnV_of ((ha m1).mono ?_)⟩, fun h => absurd (by decide) h⟩
     clear ha
     rintro r H' m2 hm2 ⟨l2, rfl, rfl⟩
     simp only [go_sem, ↓tfi, ↓fti, ↓reduceIte]
     exact ⟨⟨by decide, by decide⟩, (1, m2), ⟨rfl, .inl rfl⟩, ⟨leM_tr q1 l2, (by decide : 1 ≤ 2), fun _ => hc, fun h => absurd h (by decide : ¬ 2 ≤ 1)⟩, (by decide : 2 - 1 < 2 - 0)⟩
   ·by_cases hc : isC ts s.i [33] = true
    ·have ha := acc_t (en := en) hT hc
     have hi := isC_lt hc
     have hI' := hI.next hi
     have hu := hU s.next hI' (Nat.lt_succ_self _)
     clear hU hO hP
     simp only [go_sem, ↓tfi, ↓fti, ↓reduceIte]
     refine ⟨fun _ => ⟨⟨by decide, by decide⟩, by kernel_rfl, FnV_of ((ha m1).mono ?_)⟩, fun h => absurd (by decide) h⟩
     clear ha
     rintro r H' m2 hm2 ⟨l2, rfl, rfl⟩
     simp only [go_sem, ↓tfi, ↓fti, ↓reduceIte]
     refine cvl ((hu m2).mono ?_)
     clear hu
     rintro r H' m3 hm3 ⟨l3, x, e, s1, rfl, hx, rfl, hR⟩
     simp only [go_sem, ↓tfi, ↓fti, ↓reduceIte]
     exact own_agg 7 rfl rfl (pH ts en s1) (List.Sublist.refl _) (.cons _ (List.Sublist.refl _)) fun a cp mm w1 w2 w3 => ⟨leM_tr (leM_tr q1 (leM_tr l2 l3)) (.inr w1), ⟨15, 0, [33], [], zTy, a, 1, cp⟩, .mk 15 0 [33] [] zTy [e], s1, rfl, mk_rep (es := [e]) ⟨by decide, by decide⟩ ⟨by decide, by decide⟩ (by decide) (Nat.zero_le _) tyOk_z (by simp) w2 w3 (exs1 (exRep_upM (.inr w1) hx)), rfl, by rw [unaryK_eq, if_neg (by rw [← isC_P]; exact q3 (Nnr _)), if_pos (by rw [← isC_P]; exact hc), ← drop_next]; exact res_next hI hi (res_bnd hR (res_pure _ hR.inv))⟩
    ·have ha := acc_f (en := en) hT hc
     clear hU hO hP
     simp only [go_sem, ↓tfi, ↓fti, ↓reduceIte]
     refine ⟨fun _ => ⟨⟨by decide, by decide⟩, by kernel_rfl, FnV_of ((ha m1).mono ?_)⟩, fun h => absurd (by decide) h⟩
     clear ha
     rintro r H' m2 hm2 ⟨l2, rfl, rfl⟩
     simp only [go_sem, ↓tfi, ↓fti, ↓reduceIte]
     exact ⟨⟨by decide, by decide⟩, (2, m2), ⟨rfl, .inl rfl⟩, ⟨leM_tr q1 l2, (by decide : 2 ≤ 2), fun _ => q3 (Nnr _), fun h => hc⟩, (by decide : 2 - 2 < 2 - 1)⟩
   ·have hu := hO
    clear hU hO
    simp only [go_sem, ↓tfi, ↓fti, ↓reduceIte]
    refine ⟨fun h => absurd h (by decide), fun _ => cvl ((hu m1).mono ?_)⟩
    clear hu
    rintro r H' m2 hm2 ⟨l2, x, e, s1, rfl, hx, rfl, hR⟩
    have hp := fun m' h => hP s1 hR.inv hR.mono x e m' h
    clear hP
    simp only [go_sem, ↓tfi, ↓fti, ↓reduceIte]
    refine cvl ((hp m2 hx).mono ?_)
    clear hp
    rintro r H' m3 hm3 ⟨l3, x2, e2, s2, rfl, hx2, rfl, hR2⟩
    simp only [go_sem, ↓tfi, ↓fti, ↓reduceIte]
    refine .inl ⟨leM_tr q1 (leM_tr l2 l3), x2, e2, s2, rfl, hx2, rfl, ?_⟩
    rw [unaryK_eq, if_neg (by rw [← isC_P]; exact q3 (by decide)), if_neg (by rw [← isC_P]; exact q4 (by decide))]
    exact res_bnd hR hR2
end
section
variable {ts : List Tk} {en : Int} {s : PSt}
theorem op_t {n : Nat} (hn : n ≤ 9) (hT : TsB ts) (h : isOpP n (ts.drop s.i) = true) (m : Mem) : FnH Tryz.prog 62 [.box 0 0, .v (.int .i64 n)] (pH ts en s) m fun r H' m' => leM m m' ∧ r = .tup [.v (.string (bs (hdS (ts.drop s.i)))), .v (.bool true)] ∧ H' = pH ts en s.next :=
 (operator_spec ts en s m n hn hT).mono fun r H' m2 _ ⟨q1, w, q2, q3, q4⟩ => ⟨q1, by rw [h] at q2; rw [q2, q3 h], by rw [if_pos h] at q4; exact q4⟩
theorem op_f {n : Nat} (hn : n ≤ 9) (hT : TsB ts) (h : ¬ isOpP n (ts.drop s.i) = true) (m : Mem) : FnH Tryz.prog 62 [.box 0 0, .v (.int .i64 n)] (pH ts en s) m fun r H' m' => leM m m' ∧ ∃ w, r = .tup [.v (.string (bs w)), .v (.bool false)] ∧ H' = pH ts en s :=
 (operator_spec ts en s m n hn hT).mono fun r H' m2 _ ⟨q1, w, q2, q3, q4⟩ => ⟨q1, w, by rw [(by simpa using h : isOpP n (ts.drop s.i) = false)] at q2; exact q2, by rw [if_neg h] at q4; exact q4⟩
theorem expr_top (hT : TsB ts) (hU : UnC ts en s) : ExprC ts en 10 s := fun m => by
 rw [exprK_top]
 refine enter cfN puN Tryz.func31 rfl rfl (by kernel_rfl) rfl ?_ ?_
 ·simp only [go_sem, ↓tfi, ↓fti, ↓reduceIte]
 ·simp only [go_sem, ↓tfi, ↓fti, ↓reduceIte]
  refine ⟨fun _ => cvl ((hU m).mono ?_), fun h => absurd rfl h⟩
  clear hU
  rintro r H' m1 hm1 ⟨l1, x, e, s1, rfl, hx, rfl, hR⟩
  simp only [go_sem, ↓tfi, ↓fti, ↓reduceIte]
  exact ⟨l1, x, e, s1, rfl, hx, rfl, hR⟩
theorem expr_lev (hT : TsB ts) (hI : Inv ts s) (n : Nat) (hn : n ≤ 9) (hN : ExprC ts en (n + 1) s) (hE : ∀ s1, Inv ts s1 → s.i < s1.i → ExprC ts en (n + 1) s1) : ExprC ts en n s := fun m => by
 have hN' : ∀ m' : Mem, FnH Tryz.prog 31 [.box 0 0, .v (.int .i64 ((n : Int) + 1))] (pH ts en s) m' (ERes ts en s (exprK (n + 1) (ts.drop s.i)) m') := hN
 clear hN
 refine enter cfN puN Tryz.func31 rfl rfl (by kernel_rfl) rfl ?_ ?_
 ·simp only [go_sem, ↓tfi, ↓fti, ↓reduceIte]
 ·simp only [go_sem, ↓tfi, ↓fti, ↓reduceIte]
  refine ⟨fun h => absurd h (by omega), fun _ => ?_⟩
  refine ⟨by unfold I64; omega, by kernel_rfl, FnV_of ((hN' m).mono ?_)⟩
  clear hN'
  rintro r H' m1 hm1 ⟨l1, x, e, s1, rfl, hx, rfl, hR⟩
  have hle1 := hR.mono
  simp only [go_sem, ↓tfi, ↓fti, ↓reduceIte]
  refine WP_loopB puN 5 (fun y : PSt × Nd × Ex × Mem => ⟨[⟨0, [], .box 0 0⟩, ⟨1, [], .v (.int .i64 n)⟩, ⟨4, [], .box 2 0⟩, ⟨5, [], .box 5 0⟩], [], [⟨5, 33, y.2.1.svs⟩, prB en y.1, zEB 2], [tkV ts], 40, y.2.2.2⟩)
   (fun y => leM m1 y.2.2.2 ∧ Inv ts y.1 ∧ s.i ≤ y.1.i ∧ exRep y.2.2.2 y.2.2.1 y.2.1.cs ∧ ∀ a s', Res ts en y.1 (loopK n y.2.2.1 (ts.drop y.1.i)) a s' → Res ts en s (exprK n (ts.drop s.i)) a s')
   (fun y => ts.length - y.1.i) (by kernel_rfl) (fun _ _ => nbl rfl) (fun y hy => hy.1) (fun _ => ?_) ?_ ?_
  ·simp only [go_sem, ↓tfi, ↓fti, ↓reduceIte]
  ·simp only [go_sem, ↓tfi, ↓fti, ↓reduceIte]
   exact ⟨(s1, x, e, m1), ⟨⟨⟨rfl, rfl, rfl, rfl, rfl, rfl, rfl, rfl⟩, ⟨rfl, rfl, rfl⟩⟩, .inl rfl⟩, .inl rfl, hR.inv, hle1, hx, fun a s' h => by rw [exprK_eq hn]; exact res_bnd hR h⟩
  ·rintro ⟨s4, x4, e4, m4⟩ ⟨q1, q2, q3, q4, q5⟩
   dsimp only at q1 q2 q3 q4 q5
   have hl := hT.len
   have hil := q2.le
   by_cases hop : isOpP n (ts.drop s4.i) = true
   ·have ha := op_t (en := en) hn hT hop
    have hi := opP_lt hop
    have hI5 := q2.next hi
    have hb : ∀ m' : Mem, FnH Tryz.prog 31 [.box 0 0, .v (.int .i64 ((n : Int) + 1))] (pH ts en s4.next) m' (ERes ts en s4.next (exprK (n + 1) (ts.drop s4.next.i)) m') := hE s4.next hI5 (Nat.lt_succ_of_le q3)
    clear hE
    have hw : (hdS (ts.drop s4.i)).length ≤ 1000000 := by rw [hdS_cur]; exact hT.cs s4.i
    simp only [go_sem, ↓tfi, ↓fti, ↓reduceIte]
    refine cvl ((ha m4).mono ?_)
    clear ha
    rintro r H' m5 hm5 ⟨l5, rfl, rfl⟩
    simp only [go_sem, ↓tfi, ↓fti, ↓reduceIte]
    refine WP_draw (.hoist 0 (.hoist 1 (.hoist 2 (.hoist 3 (.hoist 4 (.alt 5 [1, 0] (.alt 6 [0] (.hoist 7 (.alt 8 [] .done .stop)) .stop) .stop)))))) puN (by kernel_rfl) (by kernel_rfl) ?_
    simp only [go_sem, ↓tfi, ↓fti, ↓reduceIte]
    refine ⟨by unfold I64; omega, by kernel_rfl, FnV_of ((hb m5).mono ?_)⟩
    clear hb
    rintro r H' m6 hm6 ⟨l6, x6, e6, s6, rfl, hx6, rfl, hR6⟩
    have hle6 := hR6.mono
    have hnx : s4.next.i = s4.i + 1 := rfl
    simp only [go_sem, ↓tfi, ↓fti, ↓reduceIte]
    try simp only [l6, true_and, and_self]
    intro a c m7 w1 w2 w3
    refine ⟨(s6, ⟨16, 0, hdS (ts.drop s4.i), [], zTy, a, 2, c⟩, .mk 16 0 (hdS (ts.drop s4.i)) [] zTy [e4, e6], m7), ⟨⟨⟨rfl, rfl, rfl, rfl, rfl, rfl, rfl, rfl⟩, ⟨rfl, rfl, rfl⟩⟩, .inl rfl⟩, ⟨leM_tr q1 (leM_tr l5 (leM_tr l6 (.inr w1))), hR6.inv, by dsimp only; omega, mk_rep (es := [e4, e6]) ⟨by decide, by decide⟩ ⟨by decide, by decide⟩ hw (Nat.zero_le _) tyOk_z (by simp) w2 w3 (exs2 (exRep_upM (leM_tr l5 (leM_tr l6 (.inr w1))) q4) (exRep_upM (.inr w1) hx6)), fun a s' h => q5 a s' ?_⟩, by dsimp only; omega⟩
    rw [loopK_eq hn, if_pos hop, ← drop_next]
    exact res_next q2 hi (res_bnd hR6 h)
   ·have ha := op_f (en := en) hn hT hop
    clear hE
    simp only [go_sem, ↓tfi, ↓fti, ↓reduceIte]
    refine cvl ((ha m4).mono ?_)
    clear ha
    rintro r H' m5 hm5 ⟨l5, w5, rfl, rfl⟩
    simp only [go_sem, ↓tfi, ↓fti, ↓reduceIte]
    have hdef : ∀ m', leM m5 m' → (¬ (n = 6 ∧ isP [105, 115] (ts.drop s4.i) = true)) → (¬ (n = 6 ∧ isP [97, 115] (ts.drop s4.i) = true)) → ERes ts en s (exprK n (ts.drop s.i)) m (.agg x4.svs) (pH ts en s4) m' := fun m' hm' h1 h2 =>
     ⟨leM_tr (leM_tr l1 q1) (leM_tr l5 hm'), x4, e4, s4, rfl, exRep_upM (leM_tr l5 hm') q4, rfl, q5 _ _ (by rw [loopK_eq hn, if_neg hop, if_neg h1, if_neg h2]; exact res_pure _ q2)⟩
    refine ⟨fun h6 => ?_, fun h6 => ⟨fun h => absurd h h6, fun _ => hdef m5 (.inl rfl) (fun h => h6 (by rw [h.1]; rfl)) (fun h => h6 (by rw [h.1]; rfl))⟩⟩
    have h6' : n = 6 := by omega
    by_cases his : isC ts s4.i [105, 115] = true
    ·have ha := acc_t (en := en) hT his
     have hi := isC_lt his
     have hI5 := q2.next hi
     have hb := fun m' => ptyp_spec ts en s4.next m' hT hI5
     clear hdef
     refine cvl ((ha m5).mono ?_)
     clear ha
     rintro r H' m6 hm6 ⟨l6, rfl, rfl⟩
     simp only [go_sem, ↓tfi, ↓fti, ↓reduceIte]
     refine WP_draw (.hoist 0 (.hoist 2 (.alt 1 [2] (.alt 3 [] (.hoist 4 (.alt 5 [] .done .stop)) .stop) (.alt 3 [0] (.alt 1 [] (.hoist 4 (.alt 5 [] .done .stop)) .stop) .stop)))) puN (by kernel_rfl) (by kernel_rfl) ?_
     simp only [go_sem, ↓tfi, ↓fti, ↓reduceIte]
     refine ⟨cvl ((hb m6).mono ?_), cvl ((hb m6).mono ?_)⟩
     ·clear hb
      rintro r H' m7 hm7 ⟨l7, t, s7, rfl, hty, htn, rfl, hR7⟩
      have hle7 := hR7.mono
      have hnx : s4.next.i = s4.i + 1 := rfl
      simp only [go_sem, ↓tfi, ↓fti, ↓reduceIte]
      try simp only [l7, true_and, and_self]
      intro a c mz w1 w2 w3
      refine ⟨(s7, ⟨18, 0, [], [], t, a, 1, c⟩, .mk 18 0 [] [] t [e4], mz), ⟨⟨⟨rfl, rfl, rfl, rfl, rfl, rfl, rfl, rfl⟩, ⟨rfl, rfl, rfl⟩⟩, .inl rfl⟩, ⟨leM_tr q1 (leM_tr l5 (leM_tr l6 (leM_tr l7 (.inr w1)))), hR7.inv, by dsimp only; omega, mk_rep (es := [e4]) ⟨by decide, by decide⟩ ⟨by decide, by decide⟩ (Nat.zero_le _) (Nat.zero_le _) hty (by simp) w2 w3 (exs1 (exRep_upM (leM_tr l5 (leM_tr l6 (leM_tr l7 (.inr w1)))) q4)), fun a s' h => q5 a s' ?_⟩, by dsimp only; omega⟩
      rw [loopK_eq hn, if_neg hop, if_pos ⟨h6', by rw [← isC_P]; exact his⟩, ← drop_next]
      exact res_next q2 hi (res_bnd hR7 h)
     ·clear hb
      rintro r H' m7 hm7 ⟨l7, t, s7, rfl, hty, htn, rfl, hR7⟩
      have hle7 := hR7.mono
      have hnx : s4.next.i = s4.i + 1 := rfl
      simp only [go_sem, ↓tfi, ↓fti, ↓reduceIte]
      try simp only [l7, true_and, and_self]
      intro a c mz w1 w2 w3
      refine ⟨(s7, ⟨18, 0, [], [], t, a, 1, c⟩, .mk 18 0 [] [] t [e4], mz), ⟨⟨⟨rfl, rfl, rfl, rfl, rfl, rfl, rfl, rfl⟩, ⟨rfl, rfl, rfl⟩⟩, .inl rfl⟩, ⟨leM_tr q1 (leM_tr l5 (leM_tr l6 (leM_tr l7 (.inr w1)))), hR7.inv, by dsimp only; omega, mk_rep (es := [e4]) ⟨by decide, by decide⟩ ⟨by decide, by decide⟩ (Nat.zero_le _) (Nat.zero_le _) hty (by simp) w2 w3 (exs1 (exRep_upM (leM_tr l5 (leM_tr l6 (leM_tr l7 (.inr w1)))) q4)), fun a s' h => q5 a s' ?_⟩, by dsimp only; omega⟩
      rw [loopK_eq hn, if_neg hop, if_pos ⟨h6', by rw [← isC_P]; exact his⟩, ← drop_next]
      exact res_next q2 hi (res_bnd hR7 h)
    ·have ha := acc_f (en := en) hT his
     refine cvl ((ha m5).mono ?_)
     clear ha
     rintro r H' m6 hm6 ⟨l6, rfl, rfl⟩
     simp only [go_sem, ↓tfi, ↓fti, ↓reduceIte]
     refine ⟨fun _ => ?_, fun h => absurd h6 h⟩
     by_cases has : isC ts s4.i [97, 115] = true
     ·have ha := acc_t (en := en) hT has
      have hi := isC_lt has
      have hI5 := q2.next hi
      have hb := fun m' => ptyp_spec ts en s4.next m' hT hI5
      clear hdef
      refine cvl ((ha m6).mono ?_)
      clear ha
      rintro r H' m7 hm7 ⟨l7, rfl, rfl⟩
      simp only [go_sem, ↓tfi, ↓fti, ↓reduceIte]
      refine WP_draw (.hoist 0 (.hoist 2 (.alt 1 [2] (.alt 3 [] (.hoist 4 (.alt 5 [] .done .stop)) .stop) (.alt 3 [0] (.alt 1 [] (.hoist 4 (.alt 5 [] .done .stop)) .stop) .stop)))) puN (by kernel_rfl) (by kernel_rfl) ?_
      simp only [go_sem, ↓tfi, ↓fti, ↓reduceIte]
      refine ⟨cvl ((hb m7).mono ?_), cvl ((hb m7).mono ?_)⟩
      ·clear hb
       rintro r H' m8 hm8 ⟨l8, t, s7, rfl, hty, htn, rfl, hR7⟩
       have hle7 := hR7.mono
       have hnx : s4.next.i = s4.i + 1 := rfl
       simp only [go_sem, ↓tfi, ↓fti, ↓reduceIte]
       try simp only [l8, true_and, and_self]
       intro a c mz w1 w2 w3
       refine ⟨(s7, ⟨17, 0, [], [], t, a, 1, c⟩, .mk 17 0 [] [] t [e4], mz), ⟨⟨⟨rfl, rfl, rfl, rfl, rfl, rfl, rfl, rfl⟩, ⟨rfl, rfl, rfl⟩⟩, .inl rfl⟩, ⟨leM_tr q1 (leM_tr l5 (leM_tr l6 (leM_tr l7 (leM_tr l8 (.inr w1))))), hR7.inv, by dsimp only; omega, mk_rep (es := [e4]) ⟨by decide, by decide⟩ ⟨by decide, by decide⟩ (Nat.zero_le _) (Nat.zero_le _) hty (by simp) w2 w3 (exs1 (exRep_upM (leM_tr l5 (leM_tr l6 (leM_tr l7 (leM_tr l8 (.inr w1))))) q4)), fun a s' h => q5 a s' ?_⟩, by dsimp only; omega⟩
       rw [loopK_eq hn, if_neg hop, if_neg (fun h => his (by rw [isC_P]; exact h.2)), if_pos ⟨h6', by rw [← isC_P]; exact has⟩, ← drop_next]
       exact res_next q2 hi (res_bnd hR7 h)
      ·clear hb
       rintro r H' m8 hm8 ⟨l8, t, s7, rfl, hty, htn, rfl, hR7⟩
       have hle7 := hR7.mono
       have hnx : s4.next.i = s4.i + 1 := rfl
       simp only [go_sem, ↓tfi, ↓fti, ↓reduceIte]
       try simp only [l8, true_and, and_self]
       intro a c mz w1 w2 w3
       refine ⟨(s7, ⟨17, 0, [], [], t, a, 1, c⟩, .mk 17 0 [] [] t [e4], mz), ⟨⟨⟨rfl, rfl, rfl, rfl, rfl, rfl, rfl, rfl⟩, ⟨rfl, rfl, rfl⟩⟩, .inl rfl⟩, ⟨leM_tr q1 (leM_tr l5 (leM_tr l6 (leM_tr l7 (leM_tr l8 (.inr w1))))), hR7.inv, by dsimp only; omega, mk_rep (es := [e4]) ⟨by decide, by decide⟩ ⟨by decide, by decide⟩ (Nat.zero_le _) (Nat.zero_le _) hty (by simp) w2 w3 (exs1 (exRep_upM (leM_tr l5 (leM_tr l6 (leM_tr l7 (leM_tr l8 (.inr w1))))) q4)), fun a s' h => q5 a s' ?_⟩, by dsimp only; omega⟩
       rw [loopK_eq hn, if_neg hop, if_neg (fun h => his (by rw [isC_P]; exact h.2)), if_pos ⟨h6', by rw [← isC_P]; exact has⟩, ← drop_next]
       exact res_next q2 hi (res_bnd hR7 h)
     ·have ha := acc_f (en := en) hT has
      refine cvl ((ha m6).mono ?_)
      clear ha
      rintro r H' m7 hm7 ⟨l7, rfl, rfl⟩
      simp only [go_sem, ↓tfi, ↓fti, ↓reduceIte]
      exact hdef m7 (leM_tr l6 l7) (fun h => his (by rw [isC_P]; exact h.2)) (fun h => has (by rw [isC_P]; exact h.2))
end
structure EXW (ts : List Tk) (en : Int) (s : PSt) : Prop where
 expr : ∀ n, n ≤ 10 → ExprC ts en n s
 un : UnC ts en s
 args : ArgsC ts en s
 paren : ParenC ts en s
theorem exw_of {ts : List Tk} {en : Int} (hT : TsB ts) (L : Nat) (ih : ∀ s : PSt, Inv ts s → ts.length - s.i < L → EXW ts en s) : ∀ s, Inv ts s → ts.length - s.i = L → EXW ts en s := by
 have later : ∀ s : PSt, ts.length - s.i = L → ∀ s1, Inv ts s1 → s.i < s1.i → EXW ts en s1 := fun s hL s1 h1 h2 => ih s1 h1 (by have := h1.le; omega)
 have hx : ∀ s, Inv ts s → ts.length - s.i = L → UnC ts en s ∧ ∀ n, n ≤ 10 → ExprC ts en n s := fun s hI hL => by
  have lt := later s hL
  have hA := fun s1 h1 h2 => (lt s1 h1 h2).args
  have hE := fun s1 h1 h2 => (lt s1 h1 h2).expr 0 (by decide)
  have hK := keyword_of hT hI hA (fun s1 h1 h2 => (lt s1 h1 h2).paren) hE
  have hO : OperC ts en s := operand_of hT hI hA hE hK
  have hP : ∀ s1, Inv ts s1 → s.i ≤ s1.i → PostC ts en s1 := fun s1 h1 h2 x e m hx =>
   postfix_of hT h1 (fun s2 g1 g2 => hA s2 g1 (Nat.lt_of_le_of_lt h2 g2)) (fun s2 g1 g2 => hE s2 g1 (Nat.lt_of_le_of_lt h2 g2)) x e m hx
  have hU : UnC ts en s := unary_of hT hI (fun s1 h1 h2 => (lt s1 h1 h2).un) hO hP
  have hN : ∀ k n, n + k = 10 → ExprC ts en n s := fun k => by
   induction k with
   | zero =>
    intro n hn
    obtain rfl : n = 10 := by omega
    exact expr_top hT hU
   | succ k ihk =>
    intro n hn
    exact expr_lev hT hI n (by omega) (ihk (n + 1) (by omega)) fun s1 h1 h2 => (lt s1 h1 h2).expr (n + 1) (by omega)
  exact ⟨hU, fun n hn => hN (10 - n) n (by omega)⟩
 intro s hI hL
 have he : ∀ s1, Inv ts s1 → s.i ≤ s1.i → ExprC ts en 0 s1 := fun s1 h1 h2 => by
  rcases Nat.lt_or_ge s.i s1.i with h | h
  ·exact (later s hL s1 h1 h).expr 0 (by decide)
  ·exact (hx s1 h1 (by omega)).2 0 (by decide)
 exact ⟨(hx s hI hL).2, (hx s hI hL).1, args_of hT hI he, paren_of hT hI (he _ (inv_expSt hI) (expSt_le hI))⟩
theorem exw_all {ts : List Tk} {en : Int} (hT : TsB ts) : ∀ (L : Nat) (s : PSt), Inv ts s → ts.length - s.i < L → EXW ts en s
 | 0, s, _, h => absurd h (Nat.not_lt_zero _)
 | L + 1, s, hI, h => by
  rcases Nat.lt_or_ge (ts.length - s.i) L with h1 | h1
  ·exact exw_all hT L s hI h1
  ·exact exw_of hT L (fun s h2 h3 => exw_all hT L s h2 h3) s hI (by omega)
theorem exw {ts : List Tk} {en : Int} {s : PSt} (hT : TsB ts) (hI : Inv ts s) : EXW ts en s := exw_all hT _ s hI (Nat.lt_succ_self _)
abbrev Sd.svs (x : Sd) : List SV := [.v (.int .i64 x.k), .v (.string (bs x.name)), .v (.int .i64 x.ty.dim), .v (.int .u8 x.ty.base), .v (.string (bs x.ty.name)), .v (.int .i64 x.tg.k), .v (.int .i64 x.tg.n), .v (.string (bs x.tg.s)), .v (.string (bs x.tg.c)), .v (.int .i64 x.tg.ty.dim), .v (.int .u8 x.tg.ty.base), .v (.string (bs x.tg.ty.name)), .v (.slice x.tg.a x.tg.l x.tg.cp), .v (.int .i64 x.ex.k), .v (.int .i64 x.ex.n), .v (.string (bs x.ex.s)), .v (.string (bs x.ex.c)), .v (.int .i64 x.ex.ty.dim), .v (.int .u8 x.ex.ty.base), .v (.string (bs x.ex.ty.name)), .v (.slice x.ex.a x.ex.l x.ex.cp), .v (.slice x.a x.l x.cp), .v (.slice x.b x.l2 x.cp2)]
attribute [go_sem] Sd.svs
abbrev SRes (ts : List Tk) (en : Int) (s : PSt) (K : PR St) (m : Mem) : SV → Hp → Mem → Prop := fun r H' m' => leM m m' ∧ ∃ (x : Sd) (e : St) (s' : PSt), r = .agg x.svs ∧ stRep m' e x.cs ∧ H' = pH ts en s' ∧ Res ts en s K e s'
abbrev BRes (ts : List Tk) (en : Int) (s : PSt) (K : PR (List St)) (m : Mem) : SV → Hp → Mem → Prop := fun r H' m' => leM m m' ∧ ∃ (es : List St) (a : Option Addr) (c : Nat) (xs : List Value) (s' : PSt), r = .v (.slice a es.length c) ∧ es.length ≤ c ∧ (es.length + s.i ≤ s'.i + (if s'.fl = true then 1 else 0) ∧ es.length ≤ 1000001) ∧ Rds m' a es.length 23 xs ∧ stsRep m' es xs ∧ H' = pH ts en s' ∧ Res ts en s K es s'
def StmtC (ts : List Tk) (en : Int) (s : PSt) : Prop := ∀ m : Mem, FnH Tryz.prog 38 [.box 0 0] (pH ts en s) m (SRes ts en s (stmtK (ts.drop s.i)) m)
def BlockC (ts : List Tk) (en : Int) (s : PSt) : Prop := ∀ m : Mem, FnH Tryz.prog 128 [.box 0 0] (pH ts en s) m (BRes ts en s (blockK (ts.drop s.i)) m)
theorem mk_st {m : Mem} {k : Int} {nm : List UInt8} {ty : Ty} {tx ex : Nd} {tg e : Ex} {body alt : List St} {a b : Option Addr} {cp cp2 : Nat} {xs ys : List Value} (hk : I64 k) (hn : nm.length ≤ 1000000) (ht : TyOk ty)
  (h1 : exRep m tg tx.cs) (h2 : exRep m e ex.cs) (hl : body.length ≤ 1000001) (hc : body.length ≤ cp) (hr : Rds m a body.length 23 xs) (hs : stsRep m body xs)
  (hl2 : alt.length ≤ 1000001) (hc2 : alt.length ≤ cp2) (hr2 : Rds m b alt.length 23 ys) (hs2 : stsRep m alt ys) :
  stRep m (.mk k nm ty tg e body alt) (Sd.cs ⟨k, nm, ty, tx, ex, a, body.length, cp, b, alt.length, cp2⟩) := by
 simp only [stRep]
 exact ⟨⟨k, nm, ty, tx, ex, a, body.length, cp, b, alt.length, cp2⟩, ⟨rfl, rfl, rfl, rfl⟩, h1, h2, ⟨rfl, hc, rfl, hc2⟩, ⟨hk, by unfold big; omega, ht, by unfold big; omega, by unfold big; omega⟩, xs, ys, hr, hr2, hs, hs2⟩
theorem stsRep_nil (m : Mem) (xs : List Value) : stsRep m [] xs := by simp only [stsRep]
theorem sts1 {m : Mem} {e : St} {x : Sd} (h : stRep m e x.cs) : stsRep m [e] x.cs := by
 simp only [stsRep, and_true]
 exact h
theorem sts_snoc {m : Mem} {e : St} {x : Sd} (hx : stRep m e x.cs) : ∀ {es : List St} {xs : List Value}, xs.length = es.length * 23 → stsRep m es xs → stsRep m (es ++ [e]) (xs ++ x.cs)
 | [], xs, hl, _ => by
  have : xs = [] := List.eq_nil_of_length_eq_zero (by simpa using hl)
  subst this
  exact sts1 hx
 | y :: r, xs, hl, h => by
  simp only [stsRep, List.cons_append] at h ⊢
  simp only [Llc] at hl
  have h8 : 23 ≤ xs.length := by omega
  rw [List.take_append_of_le_length h8, List.drop_append_of_le_length h8]
  exact ⟨h.1, sts_snoc hx (by rw [List.length_drop]; omega) h.2⟩
theorem sts_upM {m m' : Mem} {es : List St} {xs : List Value} (hle : leM m m') (h : stsRep m es xs) : stsRep m' es xs := by
 rcases hle with rfl | hle
 ·exact h
 ·exact stsRep_up hle es xs h
section
variable {ts : List Tk} {en : Int} {s : PSt}
theorem res_fl {α : Type} {K : PR α} (a : α) (hI : Inv ts s) (h : s.fl = true) : Res ts en s K a s :=
 ⟨hI, Nnr _, fun _ => rfl, fun e => (by rw [h] at e; cases e), fun e => (by rw [h] at e; cases e)⟩
theorem res_adv {α : Type} {K : PR α} {a : α} {s' : PSt} (h : Res ts en s K a s') (hf : s.fl = false) (hK : ∀ x r, K = .ok (x, r) → r.length < (ts.drop s.i).length) : s'.fl = true ∨ s.i < s'.i := by
 cases e : K with
 | error r => exact .inl (h.er hf r e).1
 | ok p =>
  obtain ⟨x, r⟩ := p
  obtain ⟨_, _, rfl⟩ := h.ok hf x r e
  have := hK x _ e
  simp only [List.length_drop] at this
  exact .inr (by omega)
theorem exp_t {w : List UInt8} (hT : TsB ts) (h : isC ts s.i w = true) (m : Mem) : FnH Tryz.prog 52 [.box 0 0, .v (.string (bs w))] (pH ts en s) m fun r H' m' => leM m m' ∧ r = .tup [] ∧ H' = pH ts en s.next :=
 (exp_spec ts en s w m hT.l8).mono fun r H' m2 _ q => ⟨q.1, q.2.1, by have := q.2.2; rw [expSt, if_pos h] at this; exact this⟩
theorem stmt_lt (l : List Tk) : ∀ x r, stmtK l = .ok (x, r) → r.length < l.length := fun x r h => ((sx_tot l).stmt.good.ok x r h).2 rfl
theorem block_of (hT : TsB ts) (hI : Inv ts s) (hS : ∀ s1, Inv ts s1 → s.i < s1.i → StmtC ts en s1) : BlockC ts en s := fun m => by
 have h1 := exp_spec ts en s [123] m hT.l8
 have hI1 : Inv ts (expSt ts en s [123]) := inv_expSt hI
 have hle1 : s.i ≤ (expSt ts en s [123]).i := expSt_le hI
 refine FnH_own (enter cfN puN Tryz.func128 rfl rfl (by kernel_rfl) rfl ?_ ?_)
 ·simp only [go_sem, ↓tfi, ↓fti, ↓reduceIte]
 ·simp only [go_sem, ↓tfi, ↓fti, ↓reduceIte]
  refine cvl (h1.mono ?_)
  clear h1
  rintro r H' m1 hm1 ⟨l1, rfl, rfl⟩
  simp only [go_sem, ↓tfi, ↓fti, ↓reduceIte]
  refine WP_adopt 3 73 23 (by decide) rfl ?_
  refine WP_loop puN (fun y : PSt × List St × List Value × Nat × Mem => ⟨[⟨0, [], .box 0 0⟩, ⟨3, [], .vec 4 y.2.2.2.1⟩], [], [prB en y.1], [⟨4, y.2.2.2.1, 73, 23, y.2.1.length, y.2.2.1⟩, tkV ts], 40, y.2.2.2.2⟩)
   (fun y => leM m1 y.2.2.2.2 ∧ Inv ts y.1 ∧ (y.1.fl = false → s.i < y.1.i) ∧ (y.2.1.length + s.i ≤ y.1.i + (if y.1.fl = true then 1 else 0)) ∧ y.2.2.1.length = y.2.1.length * 23 ∧ stsRep y.2.2.2.2 y.2.1 y.2.2.1 ∧ ∀ a s', Res ts en y.1 (stmtsK y.2.1 (ts.drop y.1.i)) a s' → Res ts en s (blockK (ts.drop s.i)) a s')
   (fun y => if y.1.fl = true then 0 else ts.length - y.1.i + 1) (expSt ts en s [123], [], [], 0, m1) (by kernel_rfl) (fun _ _ => nbl rfl) (fun y hy => hy.1) (fun _ => ?_) ?_ ?_ ?_
  ·simp only [go_sem, ↓tfi, ↓fti, ↓reduceIte]
  ·simp only [go_sem, ↓tfi, ↓fti, ↓reduceIte]
  ·refine ⟨.inl rfl, hI1, fun h => ?_, by dsimp only [Lln]; omega, rfl, stsRep_nil _ _, fun a s' h => ?_⟩
   ·dsimp only at h ⊢
    unfold expSt at h ⊢
    split at h
    ·rename_i h'
     rw [if_pos h']
     exact Nat.lt_succ_self _
    ·rw [failS_fl] at h
     cases h
   ·rw [blockK_eq]
    exact res_exp hI h
  ·rintro ⟨s4, es, xs, u, m4⟩ ⟨q1, q2, q3, q4, q5, q6, q7⟩
   dsimp only at q1 q2 q3 q4 q5 q6 q7
   have hl := hT.len
   have hil := q2.le
   by_cases hf : s4.fl = true
   ·clear hS
    have q4' := q4
    rw [if_pos hf] at q4
    simp only [go_sem, ↓tfi, ↓fti, ↓reduceIte]
    refine ⟨fun h => (by rw [hf] at h; cases h), fun _ => own_vec (b := ⟨4, u, 73, 23, es.length, xs⟩) (by simp [lkV]) (pH ts en s4) (List.Sublist.refl _) (.cons _ (List.Sublist.refl _)) fun a c mm w1 w2 w3 => ⟨leM_tr (leM_tr l1 q1) (.inr w1), es, a, c, xs, s4, rfl, w2, ⟨q4', by omega⟩, w3, sts_upM (.inr w1) q6, rfl, q7 _ _ (res_fl es q2 hf)⟩⟩
   ·have hf' : s4.fl = false := by simpa using hf
    have hlt := q3 hf'
    by_cases h1 : isC ts s4.i [125] = true
    ·have ha := acc_t (en := en) hT h1
     have hi := isC_lt h1
     have hI5 := q2.next hi
     clear hS
     rw [if_neg hf] at q4
     simp only [go_sem, ↓tfi, ↓fti, ↓reduceIte]
     refine ⟨fun _ => cvl ((ha m4).mono ?_), fun h => by rw [hf'] at h; cases h⟩
     clear ha
     rintro r H' m5 hm5 ⟨l5, rfl, rfl⟩
     simp only [go_sem, ↓tfi, ↓fti, ↓reduceIte]
     refine own_vec (b := ⟨4, u, 73, 23, es.length, xs⟩) (by simp [lkV]) (pH ts en s4.next) (List.Sublist.refl _) (.cons_cons _ (List.nil_sublist _)) fun a c mm w1 w2 w3 => ⟨leM_tr (leM_tr l1 q1) (leM_tr l5 (.inr w1)), es, a, c, xs, s4.next, rfl, w2, ⟨by have hn : s4.next.i = s4.i + 1 := rfl; omega, by omega⟩, w3, sts_upM (leM_tr l5 (.inr w1)) q6, rfl, q7 _ _ ?_⟩
     rw [stmtsK_eq, if_pos (by rw [← isC_P]; exact h1), ← drop_next]
     exact res_next q2 hi (res_pure _ hI5)
    ·have ha := acc_f (en := en) hT h1
     have hb := hS s4 q2 hlt
     clear hS
     rw [if_neg hf] at q4
     simp only [go_sem, ↓tfi, ↓fti, ↓reduceIte]
     refine ⟨fun _ => cvl ((ha m4).mono ?_), fun h => by rw [hf'] at h; cases h⟩
     clear ha
     rintro r H' m5 hm5 ⟨l5, rfl, rfl⟩
     simp only [go_sem, ↓tfi, ↓fti, ↓reduceIte]
     refine cvl ((hb m5).mono ?_)
     clear hb
     rintro r H' m6 hm6 ⟨l6, x6, e6, s6, rfl, hx6, rfl, hR6⟩
     have hle6 := hR6.mono
     have hadv := res_adv hR6 hf' (stmt_lt _)
     have hI6 := hR6.inv.le
     simp only [go_sem, ↓tfi, ↓fti, ↓reduceIte]
     refine ⟨room_of (by omega) (by decide), (s6, es ++ [e6], xs ++ x6.cs, u + 1, m6), ⟨rfl, ⟨rfl, rfl, rfl⟩, ⟨rfl, by simp, rfl⟩, .inl rfl⟩, ⟨leM_tr q1 (leM_tr l5 l6), hR6.inv, fun h => by dsimp only; omega, ?_, by simp only [Lla, List.length_singleton, q5, Sd.cs, Llc, Lln]; omega, sts_snoc hx6 q5 (sts_upM (leM_tr l5 l6) q6), fun a s' h => q7 a s' ?_⟩, ?_⟩
     ·dsimp only
      rw [Lla, List.length_singleton]
      rcases hadv with h | h
      ·rw [if_pos h]; omega
      ·omega
     ·rw [stmtsK_eq, if_neg (by rw [← isC_P]; exact h1)]
      exact res_bnd hR6 h
     ·dsimp only
      rw [if_neg hf]
      rcases hadv with h | h
      ·rw [if_pos h]; omega
      ·split <;> omega
end
noncomputable def ifK (l : List Tk) : PR St := bndP (parenK l) fun e r => bndP (blockK r) fun b r2 => if isP elseW r2 = true then bndP (blockK r2.tail) fun a r3 => .ok (.mk 4 [] zTy zE e b a, r3) else .ok (.mk 4 [] zTy zE e b [], r2)
noncomputable def guardK (k : Int) (l : List Tk) : PR St := bndP (parenK l) fun e r => bndP (blockK r) fun b r2 => .ok (.mk k [] zTy zE e b [], r2)
noncomputable def retK (l : List Tk) : PR St := if isP [59] l = true then .ok (.mk 6 [] zTy zE zE [] [], l.tail) else bndP (exprK 0 l) fun e r => expP [59] r fun r2 => .ok (.mk 6 [] zTy zE e [] [], r2)
noncomputable def throwK (l : List Tk) : PR St := bndP (exprK 0 l) fun e r => expP [59] r fun r2 => .ok (.mk 7 [] zTy zE e [] [], r2)
noncomputable def tryK (l : List Tk) : PR St := bndP (blockK l) fun b r => expP catchW r fun r2 => expP [40] r2 fun r3 => bndP (typP r3) fun t r4 => bndP (idP r4) fun s r5 => expP [41] r5 fun r6 => bndP (blockK r6) fun a r7 => .ok (.mk 8 s t zE zE b a, r7)
noncomputable def nestK (l : List Tk) : PR St := bndP (blockK l) fun b r => .ok (.mk 10 [] zTy zE zE b [], r)
noncomputable def consK (l : List Tk) : PR St := bndP (argsK l) fun es r => expP [59] r fun r2 => .ok (.mk 11 [] zTy zE (.mk 0 0 [] [] zTy es) [] [], r2)
noncomputable def declK (l : List Tk) : PR St := bndP (typP l) fun t r => bndP (idP r) fun s r2 => expP [61] r2 fun r3 => bndP (exprK 0 r3) fun e r4 => expP [59] r4 fun r5 => .ok (.mk 1 s t zE e [] [], r5)
noncomputable def simpK (l : List Tk) : PR St := bndP (exprK 0 l) fun e r =>
 if isP [61] r = true then bndP (exprK 0 r.tail) fun x r2 => expP [59] r2 fun r3 => .ok (.mk 2 [] zTy e x [] [], r3)
 else expP [59] r fun r2 => .ok (.mk 3 [] zTy zE e [] [], r2)
section
variable {ts : List Tk} {en : Int} {s : PSt}
theorem if_of (hT : TsB ts) (hI : Inv ts s) (hc0 : isC ts s.i ifW = true) (hB : ∀ s1, Inv ts s1 → s.i < s1.i → BlockC ts en s1) (m : Mem) : FnH Tryz.prog 75 [.box 0 0] (pH ts en s) m (SRes ts en s.next (ifK (ts.drop (s.next).i)) m) := by
 have hi := isC_lt hc0
 have hI' := hI.next hi
 have hn : s.next.i = s.i + 1 := rfl
 refine enter cfN puN Tryz.func75 rfl rfl (by kernel_rfl) rfl ?_ ?_
 ·simp only [go_sem, ↓tfi, ↓fti, ↓reduceIte]
 ·simp only [go_sem, ↓tfi, ↓fti, ↓reduceIte]
  have q1 := fun m' => exp_t (en := en) hT hc0 m'
  refine cvl ((q1 m).mono ?_)
  clear q1
  rintro r H' m1 hm1 ⟨l1, rfl, rfl⟩
  simp only [go_sem, ↓tfi, ↓fti, ↓reduceIte]
  have q2 := fun m' => (exw (en := en) hT hI').paren m'
  refine cvl ((q2 m1).mono ?_)
  clear q2
  rintro r H' m2 hm2 ⟨l2, x2, e2, s2, rfl, hx2, rfl, hR2⟩
  simp only [go_sem, ↓tfi, ↓fti, ↓reduceIte]
  have hle2 := hR2.mono
  have q3 := hB s2 hR2.inv (by omega)
  refine cvl ((q3 m2).mono ?_)
  clear q3
  rintro r H' m3 hm3 ⟨l3, bs3, a3, c3, xs3, s3, rfl, ha3, hb3, hc3, hd3, rfl, hR3⟩
  simp only [go_sem, ↓tfi, ↓fti, ↓reduceIte]
  have hle3 := hR3.mono
  by_cases hc4 : isC ts (s3).i elseW = true
  ·have q5 := fun m' => acc_t (en := en) hT hc4 m'
   refine cvl ((q5 m3).mono ?_)
   clear q5
   rintro r H' m4 hm4 ⟨l4, rfl, rfl⟩
   simp only [go_sem, ↓tfi, ↓fti, ↓reduceIte]
   have hI5 := hR3.inv.next (isC_lt hc4)
   have hle5 : (s3).next.i = (s3).i + 1 := rfl
   have q6 := hB (s3).next hI5 (by omega)
   refine cvl ((q6 m4).mono ?_)
   clear q6
   rintro r H' m5 hm5 ⟨l5, bs6, a6, c6, xs6, s6, rfl, ha6, hb6, hc6, hd6, rfl, hR6⟩
   simp only [go_sem, ↓tfi, ↓fti, ↓reduceIte]
   have hle6 := hR6.mono
   exact ⟨(leM_tr l1 (leM_tr l2 (leM_tr l3 (leM_tr l4 l5)))), ⟨4, [], zTy, zNd, x2, a3, bs3.length, c3, a6, bs6.length, c6⟩, .mk 4 [] zTy zE e2 bs3 bs6, s6, rfl, mk_st ⟨by decide, by decide⟩ (Nat.zero_le _) tyOk_z z_rep (exRep_upM (leM_tr l3 (leM_tr l4 l5)) hx2) hb3.2 ha3 (Rds_upM (leM_tr l4 l5) hc3) (sts_upM (leM_tr l4 l5) hd3) hb6.2 ha6 hc6 hd6, rfl, (res_bnd hR2 (res_bnd hR3 (by rw [if_pos (by rw [← isC_P]; exact hc4), ← drop_next]; exact res_next hR3.inv (isC_lt hc4) (res_bnd hR6 (res_pure _ hR6.inv)))))⟩
  ·have q5 := fun m' => acc_f (en := en) hT hc4 m'
   refine cvl ((q5 m3).mono ?_)
   clear q5
   rintro r H' m4 hm4 ⟨l4, rfl, rfl⟩
   simp only [go_sem, ↓tfi, ↓fti, ↓reduceIte]
   exact ⟨(leM_tr l1 (leM_tr l2 (leM_tr l3 l4))), ⟨4, [], zTy, zNd, x2, a3, bs3.length, c3, none, 0, 0⟩, .mk 4 [] zTy zE e2 bs3 [], s3, rfl, mk_st ⟨by decide, by decide⟩ (Nat.zero_le _) tyOk_z z_rep (exRep_upM (leM_tr l3 l4) hx2) hb3.2 ha3 (Rds_upM l4 hc3) (sts_upM l4 hd3) (Nat.zero_le _) (Nnr _) (rds_none _ _) (stsRep_nil _ _), rfl, (res_bnd hR2 (res_bnd hR3 (by rw [if_neg (by rw [← isC_P]; exact hc4)]; exact (res_pure _ hR3.inv))))⟩
theorem while_of (hT : TsB ts) (hI : Inv ts s) (hc0 : isC ts s.i whileW = true) (hB : ∀ s1, Inv ts s1 → s.i < s1.i → BlockC ts en s1) (m : Mem) : FnH Tryz.prog 76 [.box 0 0] (pH ts en s) m (SRes ts en s.next (guardK 5 (ts.drop (s.next).i)) m) := by
 have hi := isC_lt hc0
 have hI' := hI.next hi
 have hn : s.next.i = s.i + 1 := rfl
 refine enter cfN puN Tryz.func76 rfl rfl (by kernel_rfl) rfl ?_ ?_
 ·simp only [go_sem, ↓tfi, ↓fti, ↓reduceIte]
 ·simp only [go_sem, ↓tfi, ↓fti, ↓reduceIte]
  have q1 := fun m' => exp_t (en := en) hT hc0 m'
  refine cvl ((q1 m).mono ?_)
  clear q1
  rintro r H' m1 hm1 ⟨l1, rfl, rfl⟩
  simp only [go_sem, ↓tfi, ↓fti, ↓reduceIte]
  have q2 := fun m' => (exw (en := en) hT hI').paren m'
  refine cvl ((q2 m1).mono ?_)
  clear q2
  rintro r H' m2 hm2 ⟨l2, x2, e2, s2, rfl, hx2, rfl, hR2⟩
  simp only [go_sem, ↓tfi, ↓fti, ↓reduceIte]
  have hle2 := hR2.mono
  have q3 := hB s2 hR2.inv (by omega)
  refine cvl ((q3 m2).mono ?_)
  clear q3
  rintro r H' m3 hm3 ⟨l3, bs3, a3, c3, xs3, s3, rfl, ha3, hb3, hc3, hd3, rfl, hR3⟩
  simp only [go_sem, ↓tfi, ↓fti, ↓reduceIte]
  have hle3 := hR3.mono
  exact ⟨(leM_tr l1 (leM_tr l2 l3)), ⟨5, [], zTy, zNd, x2, a3, bs3.length, c3, none, 0, 0⟩, .mk 5 [] zTy zE e2 bs3 [], s3, rfl, mk_st ⟨by decide, by decide⟩ (Nat.zero_le _) tyOk_z z_rep (exRep_upM l3 hx2) hb3.2 ha3 hc3 hd3 (Nat.zero_le _) (Nnr _) (rds_none _ _) (stsRep_nil _ _), rfl, (res_bnd hR2 (res_bnd hR3 (res_pure _ hR3.inv)))⟩
theorem sync_of (hT : TsB ts) (hI : Inv ts s) (hc0 : isC ts s.i syncW = true) (hB : ∀ s1, Inv ts s1 → s.i < s1.i → BlockC ts en s1) (m : Mem) : FnH Tryz.prog 80 [.box 0 0] (pH ts en s) m (SRes ts en s.next (guardK 9 (ts.drop (s.next).i)) m) := by
 have hi := isC_lt hc0
 have hI' := hI.next hi
 have hn : s.next.i = s.i + 1 := rfl
 refine enter cfN puN Tryz.func80 rfl rfl (by kernel_rfl) rfl ?_ ?_
 ·simp only [go_sem, ↓tfi, ↓fti, ↓reduceIte]
 ·simp only [go_sem, ↓tfi, ↓fti, ↓reduceIte]
  have q1 := fun m' => exp_t (en := en) hT hc0 m'
  refine cvl ((q1 m).mono ?_)
  clear q1
  rintro r H' m1 hm1 ⟨l1, rfl, rfl⟩
  simp only [go_sem, ↓tfi, ↓fti, ↓reduceIte]
  have q2 := fun m' => (exw (en := en) hT hI').paren m'
  refine cvl ((q2 m1).mono ?_)
  clear q2
  rintro r H' m2 hm2 ⟨l2, x2, e2, s2, rfl, hx2, rfl, hR2⟩
  simp only [go_sem, ↓tfi, ↓fti, ↓reduceIte]
  have hle2 := hR2.mono
  have q3 := hB s2 hR2.inv (by omega)
  refine cvl ((q3 m2).mono ?_)
  clear q3
  rintro r H' m3 hm3 ⟨l3, bs3, a3, c3, xs3, s3, rfl, ha3, hb3, hc3, hd3, rfl, hR3⟩
  simp only [go_sem, ↓tfi, ↓fti, ↓reduceIte]
  have hle3 := hR3.mono
  exact ⟨(leM_tr l1 (leM_tr l2 l3)), ⟨9, [], zTy, zNd, x2, a3, bs3.length, c3, none, 0, 0⟩, .mk 9 [] zTy zE e2 bs3 [], s3, rfl, mk_st ⟨by decide, by decide⟩ (Nat.zero_le _) tyOk_z z_rep (exRep_upM l3 hx2) hb3.2 ha3 hc3 hd3 (Nat.zero_le _) (Nnr _) (rds_none _ _) (stsRep_nil _ _), rfl, (res_bnd hR2 (res_bnd hR3 (res_pure _ hR3.inv)))⟩
theorem ret_of (hT : TsB ts) (hI : Inv ts s) (hc0 : isC ts s.i retW = true) (m : Mem) : FnH Tryz.prog 77 [.box 0 0] (pH ts en s) m (SRes ts en s.next (retK (ts.drop (s.next).i)) m) := by
 have hi := isC_lt hc0
 have hI' := hI.next hi
 have hn : s.next.i = s.i + 1 := rfl
 refine enter cfN puN Tryz.func77 rfl rfl (by kernel_rfl) rfl ?_ ?_
 ·simp only [go_sem, ↓tfi, ↓fti, ↓reduceIte]
 ·simp only [go_sem, ↓tfi, ↓fti, ↓reduceIte]
  have q1 := fun m' => exp_t (en := en) hT hc0 m'
  refine cvl ((q1 m).mono ?_)
  clear q1
  rintro r H' m1 hm1 ⟨l1, rfl, rfl⟩
  simp only [go_sem, ↓tfi, ↓fti, ↓reduceIte]
  by_cases hc2 : isC ts (s.next).i [59] = true
  ·have q3 := fun m' => pis_t (en := en) hT hc2 m'
   refine cvl ((q3 m1).mono ?_)
   clear q3
   rintro r H' m2 hm2 ⟨l2, rfl, rfl⟩
   simp only [go_sem, ↓tfi, ↓fti, ↓reduceIte]
   have q4 := fun m' => exp_t (en := en) hT hc2 m'
   refine cvl ((q4 m2).mono ?_)
   clear q4
   rintro r H' m3 hm3 ⟨l3, rfl, rfl⟩
   simp only [go_sem, ↓tfi, ↓fti, ↓reduceIte]
   exact ⟨(leM_tr l1 (leM_tr l2 l3)), ⟨6, [], zTy, zNd, zNd, none, 0, 0, none, 0, 0⟩, .mk 6 [] zTy zE zE [] [], (s.next).next, rfl, mk_st ⟨by decide, by decide⟩ (Nat.zero_le _) tyOk_z z_rep z_rep (Nat.zero_le _) (Nnr _) (rds_none _ _) (stsRep_nil _ _) (Nat.zero_le _) (Nnr _) (rds_none _ _) (stsRep_nil _ _), rfl, (by rw [retK, if_pos (by rw [← isC_P]; exact hc2), ← drop_next]; exact res_next hI' (isC_lt hc2) (res_pure _ (hI'.next (isC_lt hc2))))⟩
  ·have q3 := fun m' => pis_f (en := en) hT hc2 m'
   refine cvl ((q3 m1).mono ?_)
   clear q3
   rintro r H' m2 hm2 ⟨l2, rfl, rfl⟩
   simp only [go_sem, ↓tfi, ↓fti, ↓reduceIte]
   have q4 := fun m' => (show ∀ m' : Mem, FnH Tryz.prog 31 [.box 0 0, .v (.int .i64 0)] (pH ts en s.next) m' (ERes ts en s.next (exprK 0 (ts.drop (s.next).i)) m') from (exw hT hI').expr 0 (by decide)) m'
   refine cvl ((q4 m2).mono ?_)
   clear q4
   rintro r H' m3 hm3 ⟨l3, x4, e4, s4, rfl, hx4, rfl, hR4⟩
   simp only [go_sem, ↓tfi, ↓fti, ↓reduceIte]
   have hle4 := hR4.mono
   have q5 := fun m' => exp_spec ts en s4 [59] m' hT.l8
   have hI5 : Inv ts (expSt ts en s4 [59]) := inv_expSt hR4.inv
   have hle5 : (s4).i ≤ (expSt ts en s4 [59]).i := expSt_le hR4.inv
   refine cvl ((q5 m3).mono ?_)
   clear q5
   rintro r H' m4 hm4 ⟨l4, rfl, rfl⟩
   simp only [go_sem, ↓tfi, ↓fti, ↓reduceIte]
   exact ⟨(leM_tr l1 (leM_tr l2 (leM_tr l3 l4))), ⟨6, [], zTy, zNd, x4, none, 0, 0, none, 0, 0⟩, .mk 6 [] zTy zE e4 [] [], (expSt ts en s4 [59]), rfl, mk_st ⟨by decide, by decide⟩ (Nat.zero_le _) tyOk_z z_rep (exRep_upM l4 hx4) (Nat.zero_le _) (Nnr _) (rds_none _ _) (stsRep_nil _ _) (Nat.zero_le _) (Nnr _) (rds_none _ _) (stsRep_nil _ _), rfl, (by rw [retK, if_neg (by rw [← isC_P]; exact hc2)]; exact (res_bnd hR4 (res_exp hR4.inv (res_pure _ hI5))))⟩
theorem throw_of (hT : TsB ts) (hI : Inv ts s) (hc0 : isC ts s.i throwW = true) (m : Mem) : FnH Tryz.prog 78 [.box 0 0] (pH ts en s) m (SRes ts en s.next (throwK (ts.drop (s.next).i)) m) := by
 have hi := isC_lt hc0
 have hI' := hI.next hi
 have hn : s.next.i = s.i + 1 := rfl
 refine enter cfN puN Tryz.func78 rfl rfl (by kernel_rfl) rfl ?_ ?_
 ·simp only [go_sem, ↓tfi, ↓fti, ↓reduceIte]
 ·simp only [go_sem, ↓tfi, ↓fti, ↓reduceIte]
  have q1 := fun m' => exp_t (en := en) hT hc0 m'
  refine cvl ((q1 m).mono ?_)
  clear q1
  rintro r H' m1 hm1 ⟨l1, rfl, rfl⟩
  simp only [go_sem, ↓tfi, ↓fti, ↓reduceIte]
  have q2 := fun m' => (show ∀ m' : Mem, FnH Tryz.prog 31 [.box 0 0, .v (.int .i64 0)] (pH ts en s.next) m' (ERes ts en s.next (exprK 0 (ts.drop (s.next).i)) m') from (exw hT hI').expr 0 (by decide)) m'
  refine cvl ((q2 m1).mono ?_)
  clear q2
  rintro r H' m2 hm2 ⟨l2, x2, e2, s2, rfl, hx2, rfl, hR2⟩
  simp only [go_sem, ↓tfi, ↓fti, ↓reduceIte]
  have hle2 := hR2.mono
  have q3 := fun m' => exp_spec ts en s2 [59] m' hT.l8
  have hI3 : Inv ts (expSt ts en s2 [59]) := inv_expSt hR2.inv
  have hle3 : (s2).i ≤ (expSt ts en s2 [59]).i := expSt_le hR2.inv
  refine cvl ((q3 m2).mono ?_)
  clear q3
  rintro r H' m3 hm3 ⟨l3, rfl, rfl⟩
  simp only [go_sem, ↓tfi, ↓fti, ↓reduceIte]
  exact ⟨(leM_tr l1 (leM_tr l2 l3)), ⟨7, [], zTy, zNd, x2, none, 0, 0, none, 0, 0⟩, .mk 7 [] zTy zE e2 [] [], (expSt ts en s2 [59]), rfl, mk_st ⟨by decide, by decide⟩ (Nat.zero_le _) tyOk_z z_rep (exRep_upM l3 hx2) (Nat.zero_le _) (Nnr _) (rds_none _ _) (stsRep_nil _ _) (Nat.zero_le _) (Nnr _) (rds_none _ _) (stsRep_nil _ _), rfl, (res_bnd hR2 (res_exp hR2.inv (res_pure _ hI3)))⟩
theorem try_of (hT : TsB ts) (hI : Inv ts s) (hc0 : isC ts s.i tryW = true) (hB : ∀ s1, Inv ts s1 → s.i < s1.i → BlockC ts en s1) (m : Mem) : FnH Tryz.prog 79 [.box 0 0] (pH ts en s) m (SRes ts en s.next (tryK (ts.drop (s.next).i)) m) := by
 have hi := isC_lt hc0
 have hI' := hI.next hi
 have hn : s.next.i = s.i + 1 := rfl
 refine enter cfN puN Tryz.func79 rfl rfl (by kernel_rfl) rfl ?_ ?_
 ·simp only [go_sem, ↓tfi, ↓fti, ↓reduceIte]
 ·simp only [go_sem, ↓tfi, ↓fti, ↓reduceIte]
  have q1 := fun m' => exp_t (en := en) hT hc0 m'
  refine cvl ((q1 m).mono ?_)
  clear q1
  rintro r H' m1 hm1 ⟨l1, rfl, rfl⟩
  simp only [go_sem, ↓tfi, ↓fti, ↓reduceIte]
  have q2 := hB s.next hI' (by omega)
  refine cvl ((q2 m1).mono ?_)
  clear q2
  rintro r H' m2 hm2 ⟨l2, bs2, a2, c2, xs2, s2, rfl, ha2, hb2, hc2, hd2, rfl, hR2⟩
  simp only [go_sem, ↓tfi, ↓fti, ↓reduceIte]
  have hle2 := hR2.mono
  have q3 := fun m' => exp_spec ts en s2 catchW m' hT.l8
  have hI3 : Inv ts (expSt ts en s2 catchW) := inv_expSt hR2.inv
  have hle3 : (s2).i ≤ (expSt ts en s2 catchW).i := expSt_le hR2.inv
  refine cvl ((q3 m2).mono ?_)
  clear q3
  rintro r H' m3 hm3 ⟨l3, rfl, rfl⟩
  simp only [go_sem, ↓tfi, ↓fti, ↓reduceIte]
  have q4 := fun m' => exp_spec ts en (expSt ts en s2 catchW) [40] m' hT.l8
  have hI4 : Inv ts (expSt ts en (expSt ts en s2 catchW) [40]) := inv_expSt hI3
  have hle4 : ((expSt ts en s2 catchW)).i ≤ (expSt ts en (expSt ts en s2 catchW) [40]).i := expSt_le hI3
  refine cvl ((q4 m3).mono ?_)
  clear q4
  rintro r H' m4 hm4 ⟨l4, rfl, rfl⟩
  simp only [go_sem, ↓tfi, ↓fti, ↓reduceIte]
  have q5 := fun m' => ptyp_spec ts en (expSt ts en (expSt ts en s2 catchW) [40]) m' hT hI4
  refine cvl ((q5 m4).mono ?_)
  clear q5
  rintro r H' m5 hm5 ⟨l5, t5, s5, rfl, ht5, hu5, rfl, hR5⟩
  simp only [go_sem, ↓tfi, ↓fti, ↓reduceIte]
  have hle5 := hR5.mono
  have q6 := fun m' => pid_spec ts en s5 m' hT hR5.inv
  refine cvl ((q6 m5).mono ?_)
  clear q6
  rintro r H' m6 hm6 ⟨l6, w6, s6, rfl, hw6, rfl, hR6⟩
  simp only [go_sem, ↓tfi, ↓fti, ↓reduceIte]
  have hle6 := hR6.mono
  have q7 := fun m' => exp_spec ts en s6 [41] m' hT.l8
  have hI7 : Inv ts (expSt ts en s6 [41]) := inv_expSt hR6.inv
  have hle7 : (s6).i ≤ (expSt ts en s6 [41]).i := expSt_le hR6.inv
  refine cvl ((q7 m6).mono ?_)
  clear q7
  rintro r H' m7 hm7 ⟨l7, rfl, rfl⟩
  simp only [go_sem, ↓tfi, ↓fti, ↓reduceIte]
  have q8 := hB (expSt ts en s6 [41]) hI7 (by omega)
  refine cvl ((q8 m7).mono ?_)
  clear q8
  rintro r H' m8 hm8 ⟨l8, bs8, a8, c8, xs8, s8, rfl, ha8, hb8, hc8, hd8, rfl, hR8⟩
  simp only [go_sem, ↓tfi, ↓fti, ↓reduceIte]
  have hle8 := hR8.mono
  exact ⟨(leM_tr l1 (leM_tr l2 (leM_tr l3 (leM_tr l4 (leM_tr l5 (leM_tr l6 (leM_tr l7 l8))))))), ⟨8, w6, t5, zNd, zNd, a2, bs2.length, c2, a8, bs8.length, c8⟩, .mk 8 w6 t5 zE zE bs2 bs8, s8, rfl, mk_st ⟨by decide, by decide⟩ hw6 ht5 z_rep z_rep hb2.2 ha2 (Rds_upM (leM_tr l3 (leM_tr l4 (leM_tr l5 (leM_tr l6 (leM_tr l7 l8))))) hc2) (sts_upM (leM_tr l3 (leM_tr l4 (leM_tr l5 (leM_tr l6 (leM_tr l7 l8))))) hd2) hb8.2 ha8 hc8 hd8, rfl, (res_bnd hR2 (res_exp hR2.inv (res_exp hI3 (res_bnd hR5 (res_bnd hR6 (res_exp hR6.inv (res_bnd hR8 (res_pure _ hR8.inv))))))))⟩
theorem nest_of (hT : TsB ts) (hI : Inv ts s) (hB0 : BlockC ts en s) (m : Mem) : FnH Tryz.prog 81 [.box 0 0] (pH ts en s) m (SRes ts en s (nestK (ts.drop (s).i)) m) := by
 refine enter cfN puN Tryz.func81 rfl rfl (by kernel_rfl) rfl ?_ ?_
 ·simp only [go_sem, ↓tfi, ↓fti, ↓reduceIte]
 ·simp only [go_sem, ↓tfi, ↓fti, ↓reduceIte]
  have q1 := hB0
  refine cvl ((q1 m).mono ?_)
  clear q1
  rintro r H' m1 hm1 ⟨l1, bs1, a1, c1, xs1, s1, rfl, ha1, hb1, hc1, hd1, rfl, hR1⟩
  simp only [go_sem, ↓tfi, ↓fti, ↓reduceIte]
  have hle1 := hR1.mono
  exact ⟨l1, ⟨10, [], zTy, zNd, zNd, a1, bs1.length, c1, none, 0, 0⟩, .mk 10 [] zTy zE zE bs1 [], s1, rfl, mk_st ⟨by decide, by decide⟩ (Nat.zero_le _) tyOk_z z_rep z_rep hb1.2 ha1 hc1 hd1 (Nat.zero_le _) (Nnr _) (rds_none _ _) (stsRep_nil _ _), rfl, (res_bnd hR1 (res_pure _ hR1.inv))⟩
theorem cons_of (hT : TsB ts) (hI : Inv ts s) (hc0 : isC ts s.i superW = true) (m : Mem) : FnH Tryz.prog 83 [.box 0 0] (pH ts en s) m (SRes ts en s.next (consK (ts.drop (s.next).i)) m) := by
 have hi := isC_lt hc0
 have hI' := hI.next hi
 have hn : s.next.i = s.i + 1 := rfl
 refine enter cfN puN Tryz.func83 rfl rfl (by kernel_rfl) rfl ?_ ?_
 ·simp only [go_sem, ↓tfi, ↓fti, ↓reduceIte]
 ·simp only [go_sem, ↓tfi, ↓fti, ↓reduceIte]
  have q1 := fun m' => exp_t (en := en) hT hc0 m'
  refine cvl ((q1 m).mono ?_)
  clear q1
  rintro r H' m1 hm1 ⟨l1, rfl, rfl⟩
  simp only [go_sem, ↓tfi, ↓fti, ↓reduceIte]
  have q2 := fun m' => (exw (en := en) hT hI').args m'
  refine cvl ((q2 m1).mono ?_)
  clear q2
  rintro r H' m2 hm2 ⟨l2, es2, a2, c2, xs2, s2, rfl, ha2, hb2, hc2, hd2, rfl, hR2⟩
  simp only [go_sem, ↓tfi, ↓fti, ↓reduceIte]
  have hle2 := hR2.mono
  have q3 := fun m' => exp_spec ts en s2 [59] m' hT.l8
  have hI3 : Inv ts (expSt ts en s2 [59]) := inv_expSt hR2.inv
  have hle3 : (s2).i ≤ (expSt ts en s2 [59]).i := expSt_le hR2.inv
  refine cvl ((q3 m2).mono ?_)
  clear q3
  rintro r H' m3 hm3 ⟨l3, rfl, rfl⟩
  simp only [go_sem, ↓tfi, ↓fti, ↓reduceIte]
  exact ⟨(leM_tr l1 (leM_tr l2 l3)), ⟨11, [], zTy, zNd, ⟨0, 0, [], [], zTy, a2, es2.length, c2⟩, none, 0, 0, none, 0, 0⟩, .mk 11 [] zTy zE (.mk 0 0 [] [] zTy es2) [] [], (expSt ts en s2 [59]), rfl, mk_st ⟨by decide, by decide⟩ (Nat.zero_le _) tyOk_z z_rep (mk_rep ⟨by decide, by decide⟩ ⟨by decide, by decide⟩ (Nat.zero_le _) (Nat.zero_le _) tyOk_z (Nat.le_succ_of_le hb2) ha2 (Rds_upM l3 hc2) (exs_upM l3 hd2)) (Nat.zero_le _) (Nnr _) (rds_none _ _) (stsRep_nil _ _) (Nat.zero_le _) (Nnr _) (rds_none _ _) (stsRep_nil _ _), rfl, (res_bnd hR2 (res_exp hR2.inv (res_pure _ hI3)))⟩
theorem decl_of (hT : TsB ts) (hI : Inv ts s) (m : Mem) : FnH Tryz.prog 85 [.box 0 0] (pH ts en s) m (SRes ts en s (declK (ts.drop (s).i)) m) := by
 refine enter cfN puN Tryz.func85 rfl rfl (by kernel_rfl) rfl ?_ ?_
 ·simp only [go_sem, ↓tfi, ↓fti, ↓reduceIte]
 ·simp only [go_sem, ↓tfi, ↓fti, ↓reduceIte]
  have q1 := fun m' => ptyp_spec ts en s m' hT hI
  refine cvl ((q1 m).mono ?_)
  clear q1
  rintro r H' m1 hm1 ⟨l1, t1, s1, rfl, ht1, hu1, rfl, hR1⟩
  simp only [go_sem, ↓tfi, ↓fti, ↓reduceIte]
  have hle1 := hR1.mono
  have q2 := fun m' => pid_spec ts en s1 m' hT hR1.inv
  refine cvl ((q2 m1).mono ?_)
  clear q2
  rintro r H' m2 hm2 ⟨l2, w2, s2, rfl, hw2, rfl, hR2⟩
  simp only [go_sem, ↓tfi, ↓fti, ↓reduceIte]
  have hle2 := hR2.mono
  have q3 := fun m' => exp_spec ts en s2 [61] m' hT.l8
  have hI3 : Inv ts (expSt ts en s2 [61]) := inv_expSt hR2.inv
  have hle3 : (s2).i ≤ (expSt ts en s2 [61]).i := expSt_le hR2.inv
  refine cvl ((q3 m2).mono ?_)
  clear q3
  rintro r H' m3 hm3 ⟨l3, rfl, rfl⟩
  simp only [go_sem, ↓tfi, ↓fti, ↓reduceIte]
  have q4 := fun m' => (show ∀ m' : Mem, FnH Tryz.prog 31 [.box 0 0, .v (.int .i64 0)] (pH ts en (expSt ts en s2 [61])) m' (ERes ts en (expSt ts en s2 [61]) (exprK 0 (ts.drop ((expSt ts en s2 [61])).i)) m') from (exw hT hI3).expr 0 (by decide)) m'
  refine cvl ((q4 m3).mono ?_)
  clear q4
  rintro r H' m4 hm4 ⟨l4, x4, e4, s4, rfl, hx4, rfl, hR4⟩
  simp only [go_sem, ↓tfi, ↓fti, ↓reduceIte]
  have hle4 := hR4.mono
  have q5 := fun m' => exp_spec ts en s4 [59] m' hT.l8
  have hI5 : Inv ts (expSt ts en s4 [59]) := inv_expSt hR4.inv
  have hle5 : (s4).i ≤ (expSt ts en s4 [59]).i := expSt_le hR4.inv
  refine cvl ((q5 m4).mono ?_)
  clear q5
  rintro r H' m5 hm5 ⟨l5, rfl, rfl⟩
  simp only [go_sem, ↓tfi, ↓fti, ↓reduceIte]
  exact ⟨(leM_tr l1 (leM_tr l2 (leM_tr l3 (leM_tr l4 l5)))), ⟨1, w2, t1, zNd, x4, none, 0, 0, none, 0, 0⟩, .mk 1 w2 t1 zE e4 [] [], (expSt ts en s4 [59]), rfl, mk_st ⟨by decide, by decide⟩ hw2 ht1 z_rep (exRep_upM l5 hx4) (Nat.zero_le _) (Nnr _) (rds_none _ _) (stsRep_nil _ _) (Nat.zero_le _) (Nnr _) (rds_none _ _) (stsRep_nil _ _), rfl, (res_bnd hR1 (res_bnd hR2 (res_exp hR2.inv (res_bnd hR4 (res_exp hR4.inv (res_pure _ hI5))))))⟩
theorem simp_of (hT : TsB ts) (hI : Inv ts s) (m : Mem) : FnH Tryz.prog 73 [.box 0 0] (pH ts en s) m (SRes ts en s (simpK (ts.drop (s).i)) m) := by
 refine enter cfN puN Tryz.func73 rfl rfl (by kernel_rfl) rfl ?_ ?_
 ·simp only [go_sem, ↓tfi, ↓fti, ↓reduceIte]
 ·simp only [go_sem, ↓tfi, ↓fti, ↓reduceIte]
  have q1 := fun m' => (show ∀ m' : Mem, FnH Tryz.prog 31 [.box 0 0, .v (.int .i64 0)] (pH ts en s) m' (ERes ts en s (exprK 0 (ts.drop (s).i)) m') from (exw hT hI).expr 0 (by decide)) m'
  refine cvl ((q1 m).mono ?_)
  clear q1
  rintro r H' m1 hm1 ⟨l1, x1, e1, s1, rfl, hx1, rfl, hR1⟩
  simp only [go_sem, ↓tfi, ↓fti, ↓reduceIte]
  have hle1 := hR1.mono
  by_cases hc2 : isC ts (s1).i [61] = true
  ·have q3 := fun m' => acc_t (en := en) hT hc2 m'
   refine cvl ((q3 m1).mono ?_)
   clear q3
   rintro r H' m2 hm2 ⟨l2, rfl, rfl⟩
   simp only [go_sem, ↓tfi, ↓fti, ↓reduceIte]
   have hI3 := hR1.inv.next (isC_lt hc2)
   have hle3 : (s1).next.i = (s1).i + 1 := rfl
   refine WP_draw (.hoist 0 (.hoist 1 (.hoist 2 (.alt 3 [1, 0] (.hoist 4 (.alt 5 [] .done .stop)) .stop)))) puN (by kernel_rfl) (by kernel_rfl) ?_
   simp only [go_sem, ↓tfi, ↓fti, ↓reduceIte]
   have q4 := fun m' => (show ∀ m' : Mem, FnH Tryz.prog 31 [.box 0 0, .v (.int .i64 0)] (pH ts en (s1).next) m' (ERes ts en (s1).next (exprK 0 (ts.drop ((s1).next).i)) m') from (exw hT hI3).expr 0 (by decide)) m'
   refine cvl ((q4 m2).mono ?_)
   clear q4
   rintro r H' m3 hm3 ⟨l3, x4, e4, s4, rfl, hx4, rfl, hR4⟩
   simp only [go_sem, ↓tfi, ↓fti, ↓reduceIte]
   have hle4 := hR4.mono
   try simp only [l3, true_and, and_self]
   have q5 := fun m' => exp_spec ts en s4 [59] m' hT.l8
   have hI5 : Inv ts (expSt ts en s4 [59]) := inv_expSt hR4.inv
   have hle5 : (s4).i ≤ (expSt ts en s4 [59]).i := expSt_le hR4.inv
   refine cvl ((q5 m3).mono ?_)
   clear q5
   rintro r H' m4 hm4 ⟨l4, rfl, rfl⟩
   simp only [go_sem, ↓tfi, ↓fti, ↓reduceIte]
   exact ⟨(leM_tr l1 (leM_tr l2 (leM_tr l3 l4))), ⟨2, [], zTy, x1, x4, none, 0, 0, none, 0, 0⟩, .mk 2 [] zTy e1 e4 [] [], (expSt ts en s4 [59]), rfl, mk_st ⟨by decide, by decide⟩ (Nat.zero_le _) tyOk_z (exRep_upM (leM_tr l2 (leM_tr l3 l4)) hx1) (exRep_upM l4 hx4) (Nat.zero_le _) (Nnr _) (rds_none _ _) (stsRep_nil _ _) (Nat.zero_le _) (Nnr _) (rds_none _ _) (stsRep_nil _ _), rfl, (res_bnd hR1 (by rw [if_pos (by rw [← isC_P]; exact hc2), ← drop_next]; exact res_next hR1.inv (isC_lt hc2) (res_bnd hR4 (res_exp hR4.inv (res_pure _ hI5)))))⟩
  ·have q3 := fun m' => acc_f (en := en) hT hc2 m'
   refine cvl ((q3 m1).mono ?_)
   clear q3
   rintro r H' m2 hm2 ⟨l2, rfl, rfl⟩
   simp only [go_sem, ↓tfi, ↓fti, ↓reduceIte]
   have q4 := fun m' => exp_spec ts en s1 [59] m' hT.l8
   have hI4 : Inv ts (expSt ts en s1 [59]) := inv_expSt hR1.inv
   have hle4 : (s1).i ≤ (expSt ts en s1 [59]).i := expSt_le hR1.inv
   refine cvl ((q4 m2).mono ?_)
   clear q4
   rintro r H' m3 hm3 ⟨l3, rfl, rfl⟩
   simp only [go_sem, ↓tfi, ↓fti, ↓reduceIte]
   exact ⟨(leM_tr l1 (leM_tr l2 l3)), ⟨3, [], zTy, zNd, x1, none, 0, 0, none, 0, 0⟩, .mk 3 [] zTy zE e1 [] [], (expSt ts en s1 [59]), rfl, mk_st ⟨by decide, by decide⟩ (Nat.zero_le _) tyOk_z z_rep (exRep_upM (leM_tr l2 l3) hx1) (Nat.zero_le _) (Nnr _) (rds_none _ _) (stsRep_nil _ _) (Nat.zero_le _) (Nnr _) (rds_none _ _) (stsRep_nil _ _), rfl, (res_bnd hR1 (by rw [if_neg (by rw [← isC_P]; exact hc2)]; exact (res_exp hR1.inv (res_pure _ hI4))))⟩
end
section
variable {ts : List Tk} {en : Int} {s : PSt}
theorem follows_spec (hT : TsB ts) (hI : Inv ts s) (w : List UInt8) (m : Mem) : FnH Tryz.prog 82 [.box 0 0, .v (.string (bs w))] (pH ts en s) m fun r H' m' => leM m m' ∧ r = .v (.bool (isP w (ts.drop s.i).tail)) ∧ H' = pH ts en s := by
 have hp := fun m' => pis_spec ts en s.next w m' hT.l8
 have hl := hT.len
 have hil := hI.le
 have e : isC ts s.next.i w = isP w (ts.drop s.i).tail := by rw [isC_P, drop_next]
 rw [e] at hp
 refine enter cfN puN Tryz.func82 rfl rfl (by kernel_rfl) rfl ?_ ?_
 ·simp only [go_sem, ↓tfi, ↓fti, ↓reduceIte]
 ·simp only [go_sem, ↓tfi, ↓fti, ↓reduceIte]
  refine ⟨by unfold I64; omega, ?_⟩
  refine cvl ((hp m).mono ?_)
  clear hp
  rintro r H' m1 hm1 ⟨l1, rfl, rfl⟩
  simp only [go_sem, ↓tfi, ↓fti, ↓reduceIte]
  exact l1
theorem declares_b (hT : TsB ts) (hI : Inv ts s) (b : Bool) (hb : declP (ts.drop s.i) = b) (m : Mem) : FnH Tryz.prog 84 [.box 0 0] (pH ts en s) m fun r H' m' => leM m m' ∧ r = .v (.bool b) ∧ H' = pH ts en s := by
 refine enter cfN puN Tryz.func84 rfl rfl (by kernel_rfl) rfl ?_ ?_
 ·simp only [go_sem, ↓tfi, ↓fti, ↓reduceIte]
 ·simp only [go_sem, ↓tfi, ↓fti, ↓reduceIte]
  by_cases h1 : isC ts s.i intS = true
  ·have ha := pis_t (en := en) hT h1
   have hf := fun m' => follows_spec (en := en) hT hI [40] m'
   have e : declP (ts.drop s.i) = !isP [40] (ts.drop s.i).tail := by rw [declP, if_pos]; rw [← isC_P, h1]; rfl
   refine cvl ((ha m).mono ?_)
   clear ha
   rintro r H' m1 hm1 ⟨l1, rfl, rfl⟩
   simp only [go_sem, ↓tfi, ↓fti, ↓reduceIte]
   refine cvl ((hf m1).mono ?_)
   clear hf
   rintro r H' m2 hm2 ⟨l2, rfl, rfl⟩
   simp only [go_sem, ↓tfi, ↓fti, ↓reduceIte]
   exact ⟨leM_tr l1 l2, by rw [← hb, e]⟩
  ·have ha := pis_f (en := en) hT h1
   refine cvl ((ha m).mono ?_)
   clear ha
   rintro r H' m1 hm1 ⟨l1, rfl, rfl⟩
   simp only [go_sem, ↓tfi, ↓fti, ↓reduceIte]
   by_cases h2 : isC ts s.i longS = true
   ·have ha := pis_t (en := en) hT h2
    have hf := fun m' => follows_spec (en := en) hT hI [40] m'
    have e : declP (ts.drop s.i) = !isP [40] (ts.drop s.i).tail := by rw [declP, if_pos]; rw [← isC_P, ← isC_P, h2, Bool.or_true]
    refine cvl ((ha m1).mono ?_)
    clear ha
    rintro r H' m2 hm2 ⟨l2, rfl, rfl⟩
    simp only [go_sem, ↓tfi, ↓fti, ↓reduceIte]
    refine cvl ((hf m2).mono ?_)
    clear hf
    rintro r H' m3 hm3 ⟨l3, rfl, rfl⟩
    simp only [go_sem, ↓tfi, ↓fti, ↓reduceIte]
    exact ⟨leM_tr l1 (leM_tr l2 l3), by rw [← hb, e]⟩
   ·have ha := pis_f (en := en) hT h2
    have e : declP (ts.drop s.i) = (isClsP (ts.drop s.i) && !isP [46] (ts.drop s.i).tail) := by rw [declP, if_neg]; rw [← isC_P, ← isC_P, Bool.or_eq_true]; rintro (h | h); exact h1 h; exact h2 h
    refine cvl ((ha m1).mono ?_)
    clear ha
    rintro r H' m2 hm2 ⟨l2, rfl, rfl⟩
    simp only [go_sem, ↓tfi, ↓fti, ↓reduceIte]
    by_cases h3 : isClsP (ts.drop s.i) = true
    ·have ha := isCl_t (en := en) hT h3
     have hf := fun m' => follows_spec (en := en) hT hI [46] m'
     refine cvl ((ha m2).mono ?_)
     clear ha
     rintro r H' m3 hm3 ⟨l3, rfl, rfl⟩
     simp only [go_sem, ↓tfi, ↓fti, ↓reduceIte]
     refine cvl ((hf m3).mono ?_)
     clear hf
     rintro r H' m4 hm4 ⟨l4, rfl, rfl⟩
     simp only [go_sem, ↓tfi, ↓fti, ↓reduceIte]
     exact ⟨leM_tr l1 (leM_tr l2 (leM_tr l3 l4)), by rw [← hb, e, h3]; rfl⟩
    ·have ha := isCl_f (en := en) hT h3
     refine cvl ((ha m2).mono ?_)
     clear ha
     rintro r H' m3 hm3 ⟨l3, rfl, rfl⟩
     simp only [go_sem, ↓tfi, ↓fti, ↓reduceIte]
     exact ⟨leM_tr l1 (leM_tr l2 l3), by rw [← hb, e, (by simpa using h3 : isClsP (ts.drop s.i) = false)]; rfl⟩
theorem declares_spec (hT : TsB ts) (hI : Inv ts s) (m : Mem) : FnH Tryz.prog 84 [.box 0 0] (pH ts en s) m fun r H' m' => leM m m' ∧ r = .v (.bool (declP (ts.drop s.i))) ∧ H' = pH ts en s := declares_b hT hI _ rfl m
theorem stmt_of (hT : TsB ts) (hI : Inv ts s) (hB0 : BlockC ts en s) (hB : ∀ s1, Inv ts s1 → s.i < s1.i → BlockC ts en s1) : StmtC ts en s := fun m => by
 refine enter cfN puN Tryz.func38 rfl rfl (by kernel_rfl) rfl ?_ ?_
 ·simp only [go_sem, ↓tfi, ↓fti, ↓reduceIte]
 ·simp only [go_sem, ↓tfi, ↓fti, ↓reduceIte]
  by_cases h0 : isC ts s.i ifW = true
  ·have ha := pis_t (en := en) hT h0
   have hb := if_of (en := en) hT hI h0 hB
   clear hB hB0
   refine cvl ((ha m).mono ?_)
   clear ha
   rintro r H' m1 hm1 ⟨l1, rfl, rfl⟩
   simp only [go_sem, ↓tfi, ↓fti, ↓reduceIte]
   refine cvl ((hb m1).mono ?_)
   clear hb
   rintro r H' m2 hm2 ⟨l2, x, e, s1, rfl, hx, rfl, hR⟩
   simp only [go_sem, ↓tfi, ↓fti, ↓reduceIte]
   exact ⟨(leM_tr l1 l2), x, e, s1, rfl, hx, rfl, by rw [stmtK_eq, if_pos (by rw [← isC_P]; exact h0), ← drop_next]; exact res_next hI (isC_lt h0) hR⟩
  ·have ha := pis_f (en := en) hT h0
   refine cvl ((ha m).mono ?_)
   clear ha
   rintro r H' m1 hm1 ⟨l1, rfl, rfl⟩
   simp only [go_sem, ↓tfi, ↓fti, ↓reduceIte]
   by_cases h1 : isC ts s.i whileW = true
   ·have ha := pis_t (en := en) hT h1
    have hb := while_of (en := en) hT hI h1 hB
    clear hB hB0
    refine cvl ((ha m1).mono ?_)
    clear ha
    rintro r H' m2 hm2 ⟨l2, rfl, rfl⟩
    simp only [go_sem, ↓tfi, ↓fti, ↓reduceIte]
    refine cvl ((hb m2).mono ?_)
    clear hb
    rintro r H' m3 hm3 ⟨l3, x, e, s1, rfl, hx, rfl, hR⟩
    simp only [go_sem, ↓tfi, ↓fti, ↓reduceIte]
    exact ⟨(leM_tr l1 (leM_tr l2 l3)), x, e, s1, rfl, hx, rfl, by rw [stmtK_eq, if_neg (by rw [← isC_P]; exact h0), if_pos (by rw [← isC_P]; exact h1), ← drop_next]; exact res_next hI (isC_lt h1) hR⟩
   ·have ha := pis_f (en := en) hT h1
    refine cvl ((ha m1).mono ?_)
    clear ha
    rintro r H' m2 hm2 ⟨l2, rfl, rfl⟩
    simp only [go_sem, ↓tfi, ↓fti, ↓reduceIte]
    by_cases h2 : isC ts s.i retW = true
    ·have ha := pis_t (en := en) hT h2
     have hb := ret_of (en := en) hT hI h2
     clear hB hB0
     refine cvl ((ha m2).mono ?_)
     clear ha
     rintro r H' m3 hm3 ⟨l3, rfl, rfl⟩
     simp only [go_sem, ↓tfi, ↓fti, ↓reduceIte]
     refine cvl ((hb m3).mono ?_)
     clear hb
     rintro r H' m4 hm4 ⟨l4, x, e, s1, rfl, hx, rfl, hR⟩
     simp only [go_sem, ↓tfi, ↓fti, ↓reduceIte]
     exact ⟨(leM_tr l1 (leM_tr l2 (leM_tr l3 l4))), x, e, s1, rfl, hx, rfl, by rw [stmtK_eq, if_neg (by rw [← isC_P]; exact h0), if_neg (by rw [← isC_P]; exact h1), if_pos (by rw [← isC_P]; exact h2), ← drop_next]; exact res_next hI (isC_lt h2) hR⟩
    ·have ha := pis_f (en := en) hT h2
     refine cvl ((ha m2).mono ?_)
     clear ha
     rintro r H' m3 hm3 ⟨l3, rfl, rfl⟩
     simp only [go_sem, ↓tfi, ↓fti, ↓reduceIte]
     by_cases h3 : isC ts s.i throwW = true
     ·have ha := pis_t (en := en) hT h3
      have hb := throw_of (en := en) hT hI h3
      clear hB hB0
      refine cvl ((ha m3).mono ?_)
      clear ha
      rintro r H' m4 hm4 ⟨l4, rfl, rfl⟩
      simp only [go_sem, ↓tfi, ↓fti, ↓reduceIte]
      refine cvl ((hb m4).mono ?_)
      clear hb
      rintro r H' m5 hm5 ⟨l5, x, e, s1, rfl, hx, rfl, hR⟩
      simp only [go_sem, ↓tfi, ↓fti, ↓reduceIte]
      exact ⟨(leM_tr l1 (leM_tr l2 (leM_tr l3 (leM_tr l4 l5)))), x, e, s1, rfl, hx, rfl, by rw [stmtK_eq, if_neg (by rw [← isC_P]; exact h0), if_neg (by rw [← isC_P]; exact h1), if_neg (by rw [← isC_P]; exact h2), if_pos (by rw [← isC_P]; exact h3), ← drop_next]; exact res_next hI (isC_lt h3) hR⟩
     ·have ha := pis_f (en := en) hT h3
      refine cvl ((ha m3).mono ?_)
      clear ha
      rintro r H' m4 hm4 ⟨l4, rfl, rfl⟩
      simp only [go_sem, ↓tfi, ↓fti, ↓reduceIte]
      by_cases h4 : isC ts s.i tryW = true
      ·have ha := pis_t (en := en) hT h4
       have hb := try_of (en := en) hT hI h4 hB
       clear hB hB0
       refine cvl ((ha m4).mono ?_)
       clear ha
       rintro r H' m5 hm5 ⟨l5, rfl, rfl⟩
       simp only [go_sem, ↓tfi, ↓fti, ↓reduceIte]
       refine cvl ((hb m5).mono ?_)
       clear hb
       rintro r H' m6 hm6 ⟨l6, x, e, s1, rfl, hx, rfl, hR⟩
       simp only [go_sem, ↓tfi, ↓fti, ↓reduceIte]
       exact ⟨(leM_tr l1 (leM_tr l2 (leM_tr l3 (leM_tr l4 (leM_tr l5 l6))))), x, e, s1, rfl, hx, rfl, by rw [stmtK_eq, if_neg (by rw [← isC_P]; exact h0), if_neg (by rw [← isC_P]; exact h1), if_neg (by rw [← isC_P]; exact h2), if_neg (by rw [← isC_P]; exact h3), if_pos (by rw [← isC_P]; exact h4), ← drop_next]; exact res_next hI (isC_lt h4) hR⟩
      ·have ha := pis_f (en := en) hT h4
       refine cvl ((ha m4).mono ?_)
       clear ha
       rintro r H' m5 hm5 ⟨l5, rfl, rfl⟩
       simp only [go_sem, ↓tfi, ↓fti, ↓reduceIte]
       by_cases h5 : isC ts s.i syncW = true
       ·have ha := pis_t (en := en) hT h5
        have hb := sync_of (en := en) hT hI h5 hB
        clear hB hB0
        refine cvl ((ha m5).mono ?_)
        clear ha
        rintro r H' m6 hm6 ⟨l6, rfl, rfl⟩
        simp only [go_sem, ↓tfi, ↓fti, ↓reduceIte]
        refine cvl ((hb m6).mono ?_)
        clear hb
        rintro r H' m7 hm7 ⟨l7, x, e, s1, rfl, hx, rfl, hR⟩
        simp only [go_sem, ↓tfi, ↓fti, ↓reduceIte]
        exact ⟨(leM_tr l1 (leM_tr l2 (leM_tr l3 (leM_tr l4 (leM_tr l5 (leM_tr l6 l7)))))), x, e, s1, rfl, hx, rfl, by rw [stmtK_eq, if_neg (by rw [← isC_P]; exact h0), if_neg (by rw [← isC_P]; exact h1), if_neg (by rw [← isC_P]; exact h2), if_neg (by rw [← isC_P]; exact h3), if_neg (by rw [← isC_P]; exact h4), if_pos (by rw [← isC_P]; exact h5), ← drop_next]; exact res_next hI (isC_lt h5) hR⟩
       ·have ha := pis_f (en := en) hT h5
        refine cvl ((ha m5).mono ?_)
        clear ha
        rintro r H' m6 hm6 ⟨l6, rfl, rfl⟩
        simp only [go_sem, ↓tfi, ↓fti, ↓reduceIte]
        by_cases h6 : isC ts s.i [123] = true
        ·have ha := pis_t (en := en) hT h6
         have hb := nest_of (en := en) hT hI hB0
         clear hB hB0
         refine cvl ((ha m6).mono ?_)
         clear ha
         rintro r H' m7 hm7 ⟨l7, rfl, rfl⟩
         simp only [go_sem, ↓tfi, ↓fti, ↓reduceIte]
         refine cvl ((hb m7).mono ?_)
         clear hb
         rintro r H' m8 hm8 ⟨l8, x, e, s1, rfl, hx, rfl, hR⟩
         simp only [go_sem, ↓tfi, ↓fti, ↓reduceIte]
         exact ⟨(leM_tr l1 (leM_tr l2 (leM_tr l3 (leM_tr l4 (leM_tr l5 (leM_tr l6 (leM_tr l7 l8))))))), x, e, s1, rfl, hx, rfl, by rw [stmtK_eq, if_neg (by rw [← isC_P]; exact h0), if_neg (by rw [← isC_P]; exact h1), if_neg (by rw [← isC_P]; exact h2), if_neg (by rw [← isC_P]; exact h3), if_neg (by rw [← isC_P]; exact h4), if_neg (by rw [← isC_P]; exact h5), if_pos (by rw [← isC_P]; exact h6)]; exact hR⟩
        ·have ha := pis_f (en := en) hT h6
         refine cvl ((ha m6).mono ?_)
         clear ha
         rintro r H' m7 hm7 ⟨l7, rfl, rfl⟩
         simp only [go_sem, ↓tfi, ↓fti, ↓reduceIte]
         by_cases h7 : isC ts s.i superW = true
         ·have ha := pis_t (en := en) hT h7
          have hf := fun m' => follows_spec (en := en) hT hI [40] m'
          refine cvl ((ha m7).mono ?_)
          clear ha
          rintro r H' m8 hm8 ⟨l8, rfl, rfl⟩
          simp only [go_sem, ↓tfi, ↓fti, ↓reduceIte]
          by_cases h8 : isP [40] (ts.drop s.i).tail = true
          ·rw [h8] at hf
           have hb := cons_of (en := en) hT hI h7
           clear hB hB0
           refine cvl ((hf m8).mono ?_)
           clear hf
           rintro r H' m9 hm9 ⟨l9, rfl, rfl⟩
           simp only [go_sem, ↓tfi, ↓fti, ↓reduceIte]
           refine cvl ((hb m9).mono ?_)
           clear hb
           rintro r H' m10 hm10 ⟨l10, x, e, s1, rfl, hx, rfl, hR⟩
           simp only [go_sem, ↓tfi, ↓fti, ↓reduceIte]
           exact ⟨(leM_tr l1 (leM_tr l2 (leM_tr l3 (leM_tr l4 (leM_tr l5 (leM_tr l6 (leM_tr l7 (leM_tr l8 (leM_tr l9 l10))))))))), x, e, s1, rfl, hx, rfl, by rw [stmtK_eq, if_neg (by rw [← isC_P]; exact h0), if_neg (by rw [← isC_P]; exact h1), if_neg (by rw [← isC_P]; exact h2), if_neg (by rw [← isC_P]; exact h3), if_neg (by rw [← isC_P]; exact h4), if_neg (by rw [← isC_P]; exact h5), if_neg (by rw [← isC_P]; exact h6), if_pos ⟨by rw [← isC_P]; exact h7, h8⟩, ← drop_next]; exact res_next hI (isC_lt h7) hR⟩
          ·rw [(by simpa using h8 : isP [40] (ts.drop s.i).tail = false)] at hf
           refine cvl ((hf m8).mono ?_)
           clear hf
           rintro r H' m9 hm9 ⟨l9, rfl, rfl⟩
           simp only [go_sem, ↓tfi, ↓fti, ↓reduceIte]
           have hd := fun m' => declares_spec (en := en) hT hI m'
           refine cvl ((hd m9).mono ?_)
           clear hd
           rintro r H' m10 hm10 ⟨l10, rfl, rfl⟩
           simp only [go_sem, ↓tfi, ↓fti, ↓reduceIte]
           refine ⟨fun h9 => ?_, fun h9 => ?_⟩
           ·have hb := decl_of (en := en) hT hI
            clear hB hB0
            refine cvl ((hb m10).mono ?_)
            clear hb
            rintro r H' m11 hm11 ⟨l11, x, e, s1, rfl, hx, rfl, hR⟩
            simp only [go_sem, ↓tfi, ↓fti, ↓reduceIte]
            exact ⟨(leM_tr l1 (leM_tr l2 (leM_tr l3 (leM_tr l4 (leM_tr l5 (leM_tr l6 (leM_tr l7 (leM_tr l8 (leM_tr l9 (leM_tr l10 l11)))))))))), x, e, s1, rfl, hx, rfl, by rw [stmtK_eq, if_neg (by rw [← isC_P]; exact h0), if_neg (by rw [← isC_P]; exact h1), if_neg (by rw [← isC_P]; exact h2), if_neg (by rw [← isC_P]; exact h3), if_neg (by rw [← isC_P]; exact h4), if_neg (by rw [← isC_P]; exact h5), if_neg (by rw [← isC_P]; exact h6), if_neg (fun q => h8 q.2), if_pos h9]; exact hR⟩
           ·have hb := simp_of (en := en) hT hI
            clear hB hB0
            refine cvl ((hb m10).mono ?_)
            clear hb
            rintro r H' m11 hm11 ⟨l11, x, e, s1, rfl, hx, rfl, hR⟩
            simp only [go_sem, ↓tfi, ↓fti, ↓reduceIte]
            exact ⟨(leM_tr l1 (leM_tr l2 (leM_tr l3 (leM_tr l4 (leM_tr l5 (leM_tr l6 (leM_tr l7 (leM_tr l8 (leM_tr l9 (leM_tr l10 l11)))))))))), x, e, s1, rfl, hx, rfl, by rw [stmtK_eq, if_neg (by rw [← isC_P]; exact h0), if_neg (by rw [← isC_P]; exact h1), if_neg (by rw [← isC_P]; exact h2), if_neg (by rw [← isC_P]; exact h3), if_neg (by rw [← isC_P]; exact h4), if_neg (by rw [← isC_P]; exact h5), if_neg (by rw [← isC_P]; exact h6), if_neg (fun q => h8 q.2), if_neg (by rw [h9]; decide)]; exact hR⟩
         ·have ha := pis_f (en := en) hT h7
          refine cvl ((ha m7).mono ?_)
          clear ha
          rintro r H' m8 hm8 ⟨l8, rfl, rfl⟩
          simp only [go_sem, ↓tfi, ↓fti, ↓reduceIte]
          have hd := fun m' => declares_spec (en := en) hT hI m'
          refine cvl ((hd m8).mono ?_)
          clear hd
          rintro r H' m9 hm9 ⟨l9, rfl, rfl⟩
          simp only [go_sem, ↓tfi, ↓fti, ↓reduceIte]
          refine ⟨fun h9 => ?_, fun h9 => ?_⟩
          ·have hb := decl_of (en := en) hT hI
           clear hB hB0
           refine cvl ((hb m9).mono ?_)
           clear hb
           rintro r H' m10 hm10 ⟨l10, x, e, s1, rfl, hx, rfl, hR⟩
           simp only [go_sem, ↓tfi, ↓fti, ↓reduceIte]
           exact ⟨(leM_tr l1 (leM_tr l2 (leM_tr l3 (leM_tr l4 (leM_tr l5 (leM_tr l6 (leM_tr l7 (leM_tr l8 (leM_tr l9 l10))))))))), x, e, s1, rfl, hx, rfl, by rw [stmtK_eq, if_neg (by rw [← isC_P]; exact h0), if_neg (by rw [← isC_P]; exact h1), if_neg (by rw [← isC_P]; exact h2), if_neg (by rw [← isC_P]; exact h3), if_neg (by rw [← isC_P]; exact h4), if_neg (by rw [← isC_P]; exact h5), if_neg (by rw [← isC_P]; exact h6), if_neg (fun q => h7 (by rw [isC_P]; exact q.1)), if_pos h9]; exact hR⟩
          ·have hb := simp_of (en := en) hT hI
           clear hB hB0
           refine cvl ((hb m9).mono ?_)
           clear hb
           rintro r H' m10 hm10 ⟨l10, x, e, s1, rfl, hx, rfl, hR⟩
           simp only [go_sem, ↓tfi, ↓fti, ↓reduceIte]
           exact ⟨(leM_tr l1 (leM_tr l2 (leM_tr l3 (leM_tr l4 (leM_tr l5 (leM_tr l6 (leM_tr l7 (leM_tr l8 (leM_tr l9 l10))))))))), x, e, s1, rfl, hx, rfl, by rw [stmtK_eq, if_neg (by rw [← isC_P]; exact h0), if_neg (by rw [← isC_P]; exact h1), if_neg (by rw [← isC_P]; exact h2), if_neg (by rw [← isC_P]; exact h3), if_neg (by rw [← isC_P]; exact h4), if_neg (by rw [← isC_P]; exact h5), if_neg (by rw [← isC_P]; exact h6), if_neg (fun q => h7 (by rw [isC_P]; exact q.1)), if_neg (by rw [h9]; decide)]; exact hR⟩
end
theorem stw_all {ts : List Tk} {en : Int} (hT : TsB ts) : ∀ (L : Nat) (s : PSt), Inv ts s → ts.length - s.i < L → StmtC ts en s ∧ BlockC ts en s
 | 0, s, _, h => absurd h (Nat.not_lt_zero _)
 | L + 1, s, hI, h => by
  have later : ∀ s1, Inv ts s1 → s.i < s1.i → StmtC ts en s1 ∧ BlockC ts en s1 := fun s1 h1 h2 => stw_all hT L s1 h1 (by have := h1.le; omega)
  have hb : BlockC ts en s := block_of hT hI fun s1 h1 h2 => (later s1 h1 h2).1
  exact ⟨stmt_of hT hI hb fun s1 h1 h2 => (later s1 h1 h2).2, hb⟩
theorem stw {ts : List Tk} {en : Int} {s : PSt} (hT : TsB ts) (hI : Inv ts s) : StmtC ts en s := (stw_all hT _ s hI (Nat.lt_succ_self _)).1
theorem blw {ts : List Tk} {en : Int} {s : PSt} (hT : TsB ts) (hI : Inv ts s) : BlockC ts en s := (stw_all hT _ s hI (Nat.lt_succ_self _)).2
end Go.Proofs.YtimddhkipjedcaaGreatDoor.E

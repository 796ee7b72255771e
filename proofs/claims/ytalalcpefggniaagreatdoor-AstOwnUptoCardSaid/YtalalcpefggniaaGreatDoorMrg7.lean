/- Several texts in one: AstPc, AstPd, AstSb, AstSe, AstXj, AstXk. -/
import Derived.Test.YtalalcpefggniaaGreatDoorMrg6
set_option linter.unusedSimpArgs false
set_option linter.unusedVariables false
set_option maxHeartbeats 4000000
set_option maxRecDepth 20000
namespace Go.Proofs.YtalalcpefggniaaGreatDoor.E
open Go

/-! Equal is the same. -/
theorem Ty.of_eq {x y : Ty} (h : Ty.eq x y = true) : x = y := by
  cases x; cases y
  simp only [Ty.eq, Bool.and_eq_true, decide_eq_true_eq] at h
  obtain ⟨rfl, rfl, rfl⟩ := h
  rfl
mutual
theorem of_eqE : ∀ (a b : Ex), eqE a b = true → a = b
  | .mk k n s c ty args, .mk k' n' s' c' ty' args', h => by
    simp only [eqE, Bool.and_eq_true, decide_eq_true_eq] at h
    have h1 := of_eqEs args args' (by grind)
    have h2 : ty = ty' := Ty.of_eq (by grind)
    subst h1 h2
    congr 1 <;> grind
theorem of_eqEs : ∀ (a b : List Ex), eqEs a b = true → a = b
  | [], [], _ => rfl
  | [], _ :: _, h => by simp only [eqEs] at h; cases h
  | _ :: _, [], h => by simp only [eqEs] at h; cases h
  | x :: r, y :: t, h => by
    simp only [eqEs, Bool.and_eq_true] at h
    rw [of_eqE x y h.1, of_eqEs r t h.2]
end
mutual
theorem of_eqS : ∀ (a b : St), eqS a b = true → a = b
  | .mk k nm ty tg ex body alt, .mk k' nm' ty' tg' ex' body' alt', h => by
    simp only [eqS, Bool.and_eq_true, decide_eq_true_eq] at h
    have h1 := of_eqSs body body' (by grind)
    have h2 := of_eqSs alt alt' (by grind)
    have h3 := of_eqE tg tg' (by grind)
    have h4 := of_eqE ex ex' (by grind)
    have h5 : ty = ty' := Ty.of_eq (by grind)
    subst h1 h2 h3 h4 h5
    congr 1 <;> grind
theorem of_eqSs : ∀ (a b : List St), eqSs a b = true → a = b
  | [], [], _ => rfl
  | [], _ :: _, h => by simp only [eqSs] at h; cases h
  | _ :: _, [], h => by simp only [eqSs] at h; cases h
  | x :: r, y :: t, h => by
    simp only [eqSs, Bool.and_eq_true] at h
    rw [of_eqS x y h.1, of_eqSs r t h.2]
end
def ifW : List UInt8 := [105, 102]
def elseW : List UInt8 := [101, 108, 115, 101]
def whileW : List UInt8 := [119, 104, 105, 108, 101]
def retW : List UInt8 := [114, 101, 116, 117, 114, 110]
def throwW : List UInt8 := [116, 104, 114, 111, 119]
def tryW : List UInt8 := [116, 114, 121]
def catchW : List UInt8 := [99, 97, 116, 99, 104]
def syncW : List UInt8 := [115, 121, 110, 99]
def superW : List UInt8 := [115, 117, 112, 101, 114]
def declP (l : List Tk) : Bool := if (isP intS l || isP longS l) = true then !isP [40] l.tail else isClsP l && !isP [46] l.tail
mutual
def blockP : Nat → List Tk → PR (List St)
  | 0, l => .error l
  | f + 1, l => expP [123] l fun r => stmtsP f [] r
def stmtsP : Nat → List St → List Tk → PR (List St)
  | 0, _, l => .error l
  | f + 1, acc, l => if isP [125] l = true then .ok (acc, l.tail) else bndP (stmtP f l) fun s r => stmtsP f (acc ++ [s]) r
def stmtP : Nat → List Tk → PR St
  | 0, l => .error l
  | f + 1, l =>
    if isP ifW l = true then bndP (parenP f l.tail) fun e r => bndP (blockP f r) fun b r2 =>
      if isP elseW r2 = true then bndP (blockP f r2.tail) fun a r3 => .ok (.mk 4 [] zTy zE e b a, r3) else .ok (.mk 4 [] zTy zE e b [], r2)
    else if isP whileW l = true then bndP (parenP f l.tail) fun e r => bndP (blockP f r) fun b r2 => .ok (.mk 5 [] zTy zE e b [], r2)
    else if isP retW l = true then
      if isP [59] l.tail = true then .ok (.mk 6 [] zTy zE zE [] [], l.tail.tail) else bndP (exprP f 0 l.tail) fun e r => expP [59] r fun r2 => .ok (.mk 6 [] zTy zE e [] [], r2)
    else if isP throwW l = true then bndP (exprP f 0 l.tail) fun e r => expP [59] r fun r2 => .ok (.mk 7 [] zTy zE e [] [], r2)
    else if isP tryW l = true then bndP (blockP f l.tail) fun b r => expP catchW r fun r2 => expP [40] r2 fun r3 => bndP (typP r3) fun t r4 => bndP (idP r4) fun s r5 => expP [41] r5 fun r6 => bndP (blockP f r6) fun a r7 => .ok (.mk 8 s t zE zE b a, r7)
    else if isP syncW l = true then bndP (parenP f l.tail) fun e r => bndP (blockP f r) fun b r2 => .ok (.mk 9 [] zTy zE e b [], r2)
    else if isP [123] l = true then bndP (blockP f l) fun b r => .ok (.mk 10 [] zTy zE zE b [], r)
    else if isP superW l = true ∧ isP [40] l.tail = true then bndP (argsP f l.tail) fun es r => expP [59] r fun r2 => .ok (.mk 11 [] zTy zE (.mk 0 0 [] [] zTy es) [] [], r2)
    else if declP l = true then bndP (typP l) fun t r => bndP (idP r) fun s r2 => expP [61] r2 fun r3 => bndP (exprP f 0 r3) fun e r4 => expP [59] r4 fun r5 => .ok (.mk 1 s t zE e [] [], r5)
    else bndP (exprP f 0 l) fun e r =>
      if isP [61] r = true then bndP (exprP f 0 r.tail) fun x r2 => expP [59] r2 fun r3 => .ok (.mk 2 [] zTy e x [] [], r3)
      else expP [59] r fun r2 => .ok (.mk 3 [] zTy zE e [] [], r2)
end
/-- A statement's text is read back, unless an 'else' follows. -/
def RS (s : St) : Prop := ∀ r, isP elseW r = false → Lim (fun f => stmtP f (stmtT s ++ r)) (.ok (s, r))
/-- No statement begins so. -/
def SHd (l : List Tk) : Prop := ∀ r, isP [125] (l ++ r) = false ∧ isP elseW (l ++ r) = false
theorem shd_kw {w : List UInt8} {l : List Tk} (h1 : w ≠ [125]) (h2 : w ≠ elseW) : SHd (kw w :: l) := fun r => by simp [isP, kw, h1, h2]
theorem shd_ex {e : Ex} (h : validE e = true) (l : List Tk) : SHd (exprT e ++ l) := fun r => by
  have hh : HdE (exprT e ++ l ++ r) := hd_app (hd_app (expr_hd e h))
  exact ⟨hd_is hh (by decide), hd_is hh (by decide)⟩
theorem shd_ty {t : Ty} (h : valueTy t.dim t.base t.name = true) (l : List Tk) : SHd (typT t.dim t.base t.name ++ l) := fun r => by
  obtain ⟨_, _, h3⟩ := value_base h
  have e : ∀ w, isP w (typT t.dim t.base t.name ++ l ++ r) = isP w [baseT t.base t.name] := fun w => rfl
  rw [e, e]
  rcases h3 with ⟨h1, _⟩ | ⟨h1, _⟩ | ⟨h1, _⟩
  · rw [h1]; exact ⟨rfl, rfl⟩
  · rw [h1]; exact ⟨rfl, rfl⟩
  · rw [h1]
    have : baseT 76 t.name = nm1 t.name := rfl
    rw [this]
    exact ⟨rfl, rfl⟩
theorem stm_hd {s : St} (hv : validS s = true) : SHd (stmtT s) := by
  cases s with
  | mk k nm ty tg ex body alt =>
    simp only [validS, Bool.and_eq_true] at hv
    have hv1 := hv.1
    rcases okStm_kind hv1 with rfl | rfl | rfl | rfl | rfl | rfl | rfl | rfl | rfl | rfl | rfl
    · have hv2 : (identL nm && valueTy ty.dim ty.base ty.name && validE ex) = true := hv1
      simp only [Bool.and_eq_true] at hv2
      have e : stmtT (.mk 1 nm ty tg ex body alt) = typT ty.dim ty.base ty.name ++ (nm1 nm :: sg [61] :: (exprT ex ++ [sg [59]])) := by
        show (typT ty.dim ty.base ty.name ++ [nm1 nm] ++ [sg [61]] ++ exprT ex) ++ [sg [59]] = _
        simp
      rw [e]; exact shd_ty hv2.1.2 _
    · have hv2 : (targetE tg && validE ex) = true := hv1
      simp only [Bool.and_eq_true] at hv2
      have e : stmtT (.mk 2 nm ty tg ex body alt) = exprT tg ++ (sg [61] :: (exprT ex ++ [sg [59]])) := by
        show (exprT tg ++ [sg [61]] ++ exprT ex) ++ [sg [59]] = _
        simp
      rw [e]; exact shd_ex (target_valid hv2.1) _
    · have hv2 : callE ex = true := hv1
      exact shd_ex (call_valid hv2) [sg [59]]
    · exact shd_kw (by decide) (by decide)
    · exact shd_kw (by decide) (by decide)
    · exact shd_kw (by decide) (by decide)
    · exact shd_kw (by decide) (by decide)
    · exact shd_kw (by decide) (by decide)
    · exact shd_kw (by decide) (by decide)
    · exact fun r => ⟨rfl, rfl⟩
    · exact shd_kw (by decide) (by decide)
theorem stmts_rt : ∀ (l acc : List St) (r : List Tk), (∀ s ∈ l, RS s ∧ SHd (stmtT s)) → Lim (fun f => stmtsP f acc (stmtsT l ++ (sg [125] :: r))) (.ok (acc ++ l, r))
  | [], acc, r, _ => lim_succ (h := fun _ => .ok (acc ++ [], r)) (fun f => by rw [stmtsP]; simp [stmtsT, isP, sg]) (lim_const _)
  | s :: l, acc, r, h => by
    have ih := stmts_rt l (acc ++ [s]) r fun x hx => h x (List.mem_cons_of_mem _ hx)
    have hs := h s (List.mem_cons_self ..)
    have e1 : stmtsT (s :: l) ++ (sg [125] :: r) = stmtT s ++ (stmtsT l ++ (sg [125] :: r)) := by simp [stmtsT]
    rw [e1]
    refine lim_succ (h := fun f => bndP (stmtP f (stmtT s ++ (stmtsT l ++ (sg [125] :: r)))) fun s r => stmtsP f (acc ++ [s]) r) (fun f => by rw [stmtsP, (hs.2 _).1]; rfl) (lim_bnd (hs.1 _ ?_) ?_)
    · cases l with
      | nil => rfl
      | cons x l =>
        have := ((h x (by simp)).2 (stmtsT l ++ (sg [125] :: r))).2
        simpa [stmtsT] using this
    · simpa using ih
theorem block_rt {l : List St} (h : ∀ s ∈ l, RS s ∧ SHd (stmtT s)) (r : List Tk) : Lim (fun f => blockP f (brT (stmtsT l) ++ r)) (.ok (l, r)) := by
  have e1 : brT (stmtsT l) ++ r = sg [123] :: (stmtsT l ++ (sg [125] :: r)) := by simp [brT]
  rw [e1]
  exact lim_succ (h := fun f => stmtsP f [] (stmtsT l ++ (sg [125] :: r))) (fun f => by rw [blockP]; rfl) (by simpa using stmts_rt l [] r h)
theorem zE_of {e : Ex} (h : emptyE e = true) : e = zE := by
  cases e with
  | mk k n s c ty args =>
    simp only [emptyE, emptyL, Bool.and_eq_true, decide_eq_true_eq] at h
    obtain ⟨⟨⟨⟨⟨h0, rfl⟩, rfl⟩, rfl⟩, rfl⟩, h1⟩ := h
    rw [Ty.of_eq h1, List.length_eq_zero_iff.1 h0]
    rfl
theorem super_of {e : Ex} (h : superE e = true) : e = .mk 0 0 [] [] zTy e.args := by
  cases e with
  | mk k n s c ty args =>
    simp only [superE, emptyL, Bool.and_eq_true, decide_eq_true_eq] at h
    obtain ⟨⟨⟨⟨⟨⟨⟨_, rfl⟩, rfl⟩, rfl⟩, rfl⟩, h1⟩, _⟩, _⟩ := h
    rw [Ty.of_eq h1]
    rfl
theorem expr_z {e : Ex} (h : validE e = true) : RT0 e := (expr_rt _ e (Nat.le_refl _) h).z
/-- Neither a declaration nor a call of the super constructor begins so. -/
def Nd2 (l : List Tk) : Prop := ∀ r, declP (l ++ r) = false ∧ ¬ (isP superW (l ++ r) = true ∧ isP [40] (l ++ r).tail = true)
theorem nd_app {a b : List Tk} (h : Nd2 a) : Nd2 (a ++ b) := fun r => by
  rw [List.append_assoc]; exact h (b ++ r)
theorem nd_one {t : Tk} (l : List Tk) (h1 : isP intS [t] = false) (h2 : isP longS [t] = false) (h3 : isClsP [t] = false) (h4 : isP superW [t] = false) : Nd2 (t :: l) := fun r => by
  have e : ∀ w, isP w (t :: l ++ r) = isP w [t] := fun w => rfl
  have e2 : isClsP (t :: l ++ r) = isClsP [t] := rfl
  refine ⟨?_, ?_⟩
  · rw [declP, e, e, e2, h1, h2, h3]; rfl
  · rw [e, h4]; simp
theorem nd_list (l : List (List Tk)) : Nd2 (listT l) := nd_one (t := sg [40]) _ rfl rfl rfl rfl
theorem nd_opd {b : Bool} {t : List Tk} (h : Nd2 t) : Nd2 (opdT b t) := by
  cases b
  · exact h
  · exact nd_list _
theorem nd_nm {s : List UInt8} (h : identL s = true) (l : List Tk) : Nd2 (nm1 s :: l) := nd_one _ rfl rfl (id_rt h []).2.1 rfl
theorem nd_cls {s : List UInt8} (l : List Tk) : Nd2 (nm1 s :: sg [46] :: l) := fun r => by
  have h1 : isP intS (nm1 s :: sg [46] :: l ++ r) = false := rfl
  have h2 : isP longS (nm1 s :: sg [46] :: l ++ r) = false := rfl
  have h3 : isP [46] (nm1 s :: sg [46] :: l ++ r).tail = true := rfl
  have h4 : isP superW (nm1 s :: sg [46] :: l ++ r) = false := rfl
  refine ⟨?_, ?_⟩
  · rw [declP, h1, h2, h3]; simp
  · rw [h4]; simp
mutual
theorem expr_nd : ∀ (e : Ex), validE e = true → Nd2 (exprT e)
  | .mk k n s c ty args, hv => by
    simp only [validE, Bool.and_eq_true] at hv
    obtain ⟨hn, hvs⟩ := hv
    have hx := exprs_nd args hvs
    obtain ⟨hk, har, _⟩ := node_kind hn
    simp only [exprT]
    simp only [nodeL, Bool.and_eq_true, decide_eq_true_eq] at hn
    have hi := hn.1.1.2
    have o0 : 1 ≤ args.length → Nd2 (oAt (exprTs args) 0) := fun h => by rw [oAt_eq (by omega)]; exact nd_opd (hx _ (List.getElem_mem _))
    rcases kinds hk with h | h | h | h | h | h | h | h | h | h | h | h | h | h | h | h | h | h | h | h | h <;> subst h
    · exact nd_one _ rfl rfl rfl rfl
    · exact nd_one _ rfl rfl rfl rfl
    · exact nd_one _ rfl rfl rfl rfl
    · exact nd_one _ rfl rfl rfl rfl
    · exact nd_one _ rfl rfl rfl rfl
    · have hi : (identL s && decide (n = 0)) = true := hi
      simp only [Bool.and_eq_true, decide_eq_true_eq] at hi
      exact nd_nm hi.1 []
    · exact nd_app (nd_app (o0 (by simp [shapeL] at har; omega)))
    · exact nd_cls _
    · exact nd_app (nd_app (nd_app (o0 (by simp [shapeL] at har; omega))))
    · exact nd_app (nd_app (nd_app (o0 (by simp [shapeL] at har; omega))))
    · exact nd_cls _
    · exact fun r => ⟨rfl, fun h => by have h2 : false = true := h.2; cases h2⟩
    · exact nd_one _ rfl rfl rfl rfl
    · exact nd_one _ rfl rfl rfl rfl
    · have hi : (decide (n = 0) && (decide (s = [45]) || decide (s = [33]))) = true := hi
      simp only [Bool.and_eq_true, Bool.or_eq_true, decide_eq_true_eq] at hi
      rcases hi.2 with rfl | rfl <;> exact nd_one _ rfl rfl rfl rfl
    · exact nd_app (nd_app (o0 (by simp [shapeL] at har; omega)))
    · exact nd_app (nd_app (o0 (by simp [shapeL] at har; omega)))
    · exact nd_app (nd_app (o0 (by simp [shapeL] at har; omega)))
    · exact nd_one _ rfl rfl rfl rfl
    · exact fun r => ⟨rfl, by intro h; cases h.1⟩
    · exact fun r => ⟨rfl, by intro h; cases h.1⟩
theorem exprs_nd : ∀ (l : List Ex), validEs l = true → ∀ x ∈ l, Nd2 (exprT x)
  | [], _, x, hx => by cases hx
  | e :: r, hv, x, hx => by
    simp only [validEs, Bool.and_eq_true] at hv
    rcases List.mem_cons.1 hx with hx | hx
    · rw [hx]; exact expr_nd e hv.1
    · exact exprs_nd r hv.2 x hx
end
theorem simp_rt {e : Ex} (h : validE e = true) (r : List Tk) (f : Nat) : stmtP (f + 1) (exprT e ++ r) = bndP (exprP f 0 (exprT e ++ r)) fun e r =>
    if isP [61] r = true then bndP (exprP f 0 r.tail) fun x r2 => expP [59] r2 fun r3 => .ok (.mk 2 [] zTy e x [] [], r3) else expP [59] r fun r2 => .ok (.mk 3 [] zTy zE e [] [], r2) := by
  have hh : HdE (exprT e ++ r) := hd_app (expr_hd e h)
  have hn := expr_nd e h r
  rw [stmtP, hd_is (w := ifW) hh (by decide), hd_is (w := whileW) hh (by decide), hd_is (w := retW) hh (by decide), hd_is (w := throwW) hh (by decide), hd_is (w := tryW) hh (by decide), hd_is (w := syncW) hh (by decide), hd_is (w := [123]) hh (by decide), if_neg hn.2, hn.1]
  rfl
theorem lim_of {α : Type} {g h : Nat → α} {K : α} (e : ∀ f, g f = h f) (H : Lim h K) : Lim g K := by
  have : g = h := funext e
  rw [this]; exact H
theorem stm_rt : ∀ (h : Nat) (s : St), depthS s ≤ h → validS s = true → RS s
  | 0, .mk k nm ty tg ex body alt, hd, _ => by simp [depthS] at hd
  | h + 1, .mk k nm ty tg ex body alt, hd, hv => by
    simp only [depthS] at hd
    have hv0 := hv
    simp only [validS, Bool.and_eq_true] at hv
    obtain ⟨hv1, hq⟩ := hv
    have hq := of_eqS _ _ hq
    have hBd : ∀ {q : Bool}, (decide (body.length ≤ 32) && validSs false body && q) = true → ∀ r, Lim (fun f => blockP f (brT (stmtsT body) ++ r)) (.ok (body, r)) := fun hvb r => by
      simp only [Bool.and_eq_true] at hvb
      exact block_rt (fun s hs => ⟨stm_rt h s (by have := depthSs_mem hs; omega) (validSs_mem hvb.1.2 s hs), stm_hd (validSs_mem hvb.1.2 s hs)⟩) r
    have hAl : ∀ {q : Bool}, (q && (decide (alt.length ≤ 32) && validSs false alt)) = true → ∀ r, Lim (fun f => blockP f (brT (stmtsT alt) ++ r)) (.ok (alt, r)) := fun hvb r => by
      simp only [Bool.and_eq_true] at hvb
      exact block_rt (fun s hs => ⟨stm_rt h s (by have := depthSs_mem hs; omega) (validSs_mem hvb.2.2 s hs), stm_hd (validSs_mem hvb.2.2 s hs)⟩) r
    intro r hr
    rcases okStm_kind hv1 with rfl | rfl | rfl | rfl | rfl | rfl | rfl | rfl | rfl | rfl | rfl
    · have hv2 : (identL nm && valueTy ty.dim ty.base ty.name && validE ex) = true := hv1
      simp only [Bool.and_eq_true] at hv2
      have hq : St.mk 1 nm ty tg ex body alt = .mk 1 nm ty zE ex [] [] := hq
      simp only [St.mk.injEq, true_and] at hq
      obtain ⟨rfl, rfl, rfl⟩ := hq
      have e1 : stmtT (.mk 1 nm ty zE ex [] []) ++ r = typT ty.dim ty.base ty.name ++ (nm1 nm :: sg [61] :: (exprT ex ++ (sg [59] :: r))) := by
        show ((typT ty.dim ty.base ty.name ++ [nm1 nm] ++ [sg [61]] ++ exprT ex) ++ [sg [59]]) ++ r = _
        simp
      have hid := id_rt hv2.1.1 (sg [61] :: (exprT ex ++ (sg [59] :: r)))
      have hty := typ_rt hv2.1.2 (nm1 nm :: sg [61] :: (exprT ex ++ (sg [59] :: r))) rfl
      obtain ⟨hd0, _, hb3⟩ := value_base hv2.1.2
      rw [e1]
      have hnk : ∀ w, isP w (typT ty.dim ty.base ty.name ++ (nm1 nm :: sg [61] :: (exprT ex ++ (sg [59] :: r)))) = isP w [baseT ty.base ty.name] := fun w => rfl
      have h2 : ∀ w, w = [40] ∨ w = [46] → isP w (typT ty.dim ty.base ty.name ++ (nm1 nm :: sg [61] :: (exprT ex ++ (sg [59] :: r)))).tail = false := fun w hw => by
        show isP w (dimT ty.dim ++ (nm1 nm :: sg [61] :: (exprT ex ++ (sg [59] :: r)))) = false
        unfold dimT
        cases ty.dim.toNat with
        | zero => rcases hw with rfl | rfl <;> rfl
        | succ n => rcases hw with rfl | rfl <;> rfl
      refine lim_succ (h := fun f => bndP (exprP f 0 (exprT ex ++ (sg [59] :: r))) fun e r4 => expP [59] r4 fun r5 => .ok (.mk 1 nm ty zE e [] [], r5)) (fun f => ?_) (lim_bnd (expr_z hv2.2 _ (fol_of (by decide) _)) (lim_const _))
      have hdec : declP (typT ty.dim ty.base ty.name ++ (nm1 nm :: sg [61] :: (exprT ex ++ (sg [59] :: r)))) = true := by
        rw [declP, hnk, hnk, h2 _ (.inl rfl), h2 _ (.inr rfl)]
        rcases hb3 with ⟨g1, _⟩ | ⟨g1, _⟩ | ⟨g1, g2⟩
        · rw [g1]; rfl
        · rw [g1]; rfl
        · have hc : isClsP (typT ty.dim ty.base ty.name ++ (nm1 nm :: sg [61] :: (exprT ex ++ (sg [59] :: r)))) = true := by
            show (decide ((baseT ty.base ty.name).k = 1) && isCls (baseT ty.base ty.name).s) = true
            rw [g1]
            show (decide ((1 : Int) = 1) && isCls ty.name) = true
            rw [g2]; rfl
          rw [hc]
          split <;> rfl
      have hno : ∀ w, w ≠ intS → w ≠ longS → isP w [baseT ty.base ty.name] = false := fun w w1 w2 => by
        rcases hb3 with ⟨g1, _⟩ | ⟨g1, _⟩ | ⟨g1, _⟩
        · rw [g1]; simp [baseT, isP, kw, Ne.symm w1]
        · rw [g1]; simp [baseT, isP, kw, Ne.symm w2]
        · rw [g1]; simp [baseT, isP, nm1]
      rw [stmtP, hnk, hnk, hnk, hnk, hnk, hnk, hnk, hnk, hno ifW (by decide) (by decide), hno whileW (by decide) (by decide), hno retW (by decide) (by decide), hno throwW (by decide) (by decide), hno tryW (by decide) (by decide), hno syncW (by decide) (by decide), hno [123] (by decide) (by decide), hno superW (by decide) (by decide), hdec, hty]
      show bndP (idP (nm1 nm :: sg [61] :: (exprT ex ++ (sg [59] :: r)))) _ = _
      rw [hid.2.2]
      rfl
    · have hv2 : (targetE tg && validE ex) = true := hv1
      simp only [Bool.and_eq_true] at hv2
      have hq : St.mk 2 nm ty tg ex body alt = .mk 2 [] zTy tg ex [] [] := hq
      simp only [St.mk.injEq, true_and] at hq
      obtain ⟨rfl, rfl, rfl, rfl⟩ := hq
      have e1 : stmtT (.mk 2 [] zTy tg ex [] []) ++ r = exprT tg ++ (sg [61] :: (exprT ex ++ (sg [59] :: r))) := by
        show ((exprT tg ++ [sg [61]] ++ exprT ex) ++ [sg [59]]) ++ r = _
        simp
      rw [e1]
      have hs := simp_rt (target_valid hv2.1) (sg [61] :: (exprT ex ++ (sg [59] :: r)))
      refine lim_succ (h := fun f => bndP (exprP f 0 (exprT tg ++ (sg [61] :: (exprT ex ++ (sg [59] :: r))))) fun e r => if isP [61] r = true then bndP (exprP f 0 r.tail) fun x r2 => expP [59] r2 fun r3 => .ok (.mk 2 [] zTy e x [] [], r3) else expP [59] r fun r2 => .ok (.mk 3 [] zTy zE e [] [], r2)) hs (lim_bnd (expr_z (target_valid hv2.1) _ (fol_of (by decide) _)) ?_)
      exact lim_bnd (g := fun f => exprP f 0 (exprT ex ++ (sg [59] :: r))) (expr_z hv2.2 _ (fol_of (by decide) _)) (lim_const _)
    · have hv2 : callE ex = true := hv1
      have hq : St.mk 3 nm ty tg ex body alt = .mk 3 [] zTy zE ex [] [] := hq
      simp only [St.mk.injEq, true_and] at hq
      obtain ⟨rfl, rfl, rfl, rfl, rfl⟩ := hq
      have e1 : stmtT (.mk 3 [] zTy zE ex [] []) ++ r = exprT ex ++ (sg [59] :: r) := by
        show (exprT ex ++ [sg [59]]) ++ r = _
        simp
      rw [e1]
      exact lim_succ (simp_rt (call_valid hv2) (sg [59] :: r)) (lim_bnd (expr_z (call_valid hv2) _ (fol_of (by decide) _)) (lim_const _))
    · have hv2 : ((decide (body.length ≤ 32) && validSs false body && (decide (alt.length ≤ 32) && validSs false alt)) && validE ex) = true := hv1
      rw [Bool.and_eq_true] at hv2
      have hq : St.mk 4 nm ty tg ex body alt = .mk 4 [] zTy zE ex body alt := hq
      simp only [St.mk.injEq, true_and] at hq
      obtain ⟨rfl, rfl, rfl, -⟩ := hq
      have hB := hBd hv2.1
      have hA := hAl hv2.1
      have hx := expr_z hv2.2
      clear hBd hAl hv1 hv0 hv2
      cases alt with
      | nil =>
        have e1 : stmtT (.mk 4 [] zTy zE ex body []) ++ r = kw ifW :: (listT [exprT ex] ++ (brT (stmtsT body) ++ r)) := by
          show ([kw ifW] ++ listT [exprT ex] ++ brT (stmtsT body) ++ []) ++ r = _
          simp
        rw [e1]
        refine lim_succ (h := fun f => bndP (parenP f (listT [exprT ex] ++ (brT (stmtsT body) ++ r))) fun e r => bndP (blockP f r) fun b r2 => if isP elseW r2 = true then bndP (blockP f r2.tail) fun a r3 => .ok (.mk 4 [] zTy zE e b a, r3) else .ok (.mk 4 [] zTy zE e b [], r2)) (fun f => by rw [stmtP]; rfl) (lim_bnd (paren_rt hx _) (lim_bnd (hB r) ?_))
        rw [hr]
        exact lim_const _
      | cons x l =>
        have e1 : stmtT (.mk 4 [] zTy zE ex body (x :: l)) ++ r = kw ifW :: (listT [exprT ex] ++ (brT (stmtsT body) ++ (kw elseW :: (brT (stmtsT (x :: l)) ++ r)))) := by
          show ([kw ifW] ++ listT [exprT ex] ++ brT (stmtsT body) ++ ([kw elseW] ++ brT (stmtsT (x :: l)))) ++ r = _
          simp
        rw [e1]
        refine lim_succ (h := fun f => bndP (parenP f (listT [exprT ex] ++ (brT (stmtsT body) ++ (kw elseW :: (brT (stmtsT (x :: l)) ++ r))))) fun e r => bndP (blockP f r) fun b r2 => if isP elseW r2 = true then bndP (blockP f r2.tail) fun a r3 => .ok (.mk 4 [] zTy zE e b a, r3) else .ok (.mk 4 [] zTy zE e b [], r2)) (fun f => by rw [stmtP]; rfl) (lim_bnd (paren_rt hx _) (lim_bnd (hB _) ?_))
        exact lim_bnd (hA r) (lim_const _)
    · have hv2 : ((decide (body.length ≤ 32) && validSs false body && (decide (alt.length ≤ 32) && validSs false alt)) && validE ex) = true := hv1
      rw [Bool.and_eq_true] at hv2
      have hq : St.mk 5 nm ty tg ex body alt = .mk 5 [] zTy zE ex body [] := hq
      simp only [St.mk.injEq, true_and] at hq
      obtain ⟨rfl, rfl, rfl, rfl⟩ := hq
      have e1 : stmtT (.mk 5 [] zTy zE ex body []) ++ r = kw whileW :: (listT [exprT ex] ++ (brT (stmtsT body) ++ r)) := by
        show ([kw whileW] ++ listT [exprT ex] ++ brT (stmtsT body)) ++ r = _
        simp
      rw [e1]
      exact lim_succ (h := fun f => bndP (parenP f (listT [exprT ex] ++ (brT (stmtsT body) ++ r))) fun e r => bndP (blockP f r) fun b r2 => .ok (.mk 5 [] zTy zE e b [], r2)) (fun f => by rw [stmtP]; rfl) (lim_bnd (paren_rt (expr_z hv2.2) _) (lim_bnd (hBd hv2.1 r) (lim_const _)))
    · have hv2 : (emptyE ex || validE ex) = true := hv1
      have hq : St.mk 6 nm ty tg ex body alt = .mk 6 [] zTy zE ex [] [] := hq
      simp only [St.mk.injEq, true_and] at hq
      obtain ⟨rfl, rfl, rfl, rfl, rfl⟩ := hq
      rw [Bool.or_eq_true] at hv2
      rcases hv2 with hv2 | hv2
      · obtain rfl := zE_of hv2
        have e1 : stmtT (.mk 6 [] zTy zE zE [] []) ++ r = kw retW :: sg [59] :: r := rfl
        rw [e1]
        exact lim_succ (h := fun f => .ok (.mk 6 [] zTy zE zE [] [], r)) (fun f => by rw [stmtP]; rfl) (lim_const _)
      · have e1 : stmtT (.mk 6 [] zTy zE ex [] []) ++ r = kw retW :: (exprT ex ++ (sg [59] :: r)) := by
          show (([kw retW] ++ (if ex.k ≠ 0 then exprT ex else [])) ++ [sg [59]]) ++ r = _
          rw [if_pos (valid_k hv2)]
          simp
        have hh : HdE (exprT ex ++ (sg [59] :: r)) := hd_app (expr_hd ex hv2)
        rw [e1]
        refine lim_succ (h := fun f => bndP (exprP f 0 (exprT ex ++ (sg [59] :: r))) fun e r => expP [59] r fun r2 => .ok (.mk 6 [] zTy zE e [] [], r2)) (fun f => ?_) (lim_bnd (expr_z hv2 _ (fol_of (by decide) _)) (lim_const _))
        rw [stmtP]
        show (if isP [59] (exprT ex ++ (sg [59] :: r)) = true then _ else _) = _
        rw [hd_is (w := [59]) hh (by decide)]
        rfl
    · have hv2 : validE ex = true := hv1
      have hq : St.mk 7 nm ty tg ex body alt = .mk 7 [] zTy zE ex [] [] := hq
      simp only [St.mk.injEq, true_and] at hq
      obtain ⟨rfl, rfl, rfl, rfl, rfl⟩ := hq
      have e1 : stmtT (.mk 7 [] zTy zE ex [] []) ++ r = kw throwW :: (exprT ex ++ (sg [59] :: r)) := by
        show (([kw throwW] ++ exprT ex) ++ [sg [59]]) ++ r = _
        simp
      rw [e1]
      exact lim_succ (h := fun f => bndP (exprP f 0 (exprT ex ++ (sg [59] :: r))) fun e r => expP [59] r fun r2 => .ok (.mk 7 [] zTy zE e [] [], r2)) (fun f => by rw [stmtP]; rfl) (lim_bnd (expr_z hv2 _ (fol_of (by decide) _)) (lim_const _))
    · have hv2 : ((decide (body.length ≤ 32) && validSs false body && (decide (alt.length ≤ 32) && validSs false alt)) && identL nm && valueTy ty.dim ty.base ty.name) = true := hv1
      rw [Bool.and_eq_true, Bool.and_eq_true] at hv2
      have hq : St.mk 8 nm ty tg ex body alt = .mk 8 nm ty zE zE body alt := hq
      simp only [St.mk.injEq, true_and] at hq
      obtain ⟨rfl, rfl, -⟩ := hq
      have e1 : stmtT (.mk 8 nm ty zE zE body alt) ++ r = kw tryW :: (brT (stmtsT body) ++ (kw catchW :: sg [40] :: (typT ty.dim ty.base ty.name ++ (nm1 nm :: sg [41] :: (brT (stmtsT alt) ++ r))))) := by
        show ([kw tryW] ++ brT (stmtsT body) ++ [kw catchW] ++ [sg [40]] ++ typT ty.dim ty.base ty.name ++ [nm1 nm] ++ [sg [41]] ++ brT (stmtsT alt)) ++ r = _
        simp
      have hid := id_rt hv2.1.2 (sg [41] :: (brT (stmtsT alt) ++ r))
      have hty := typ_rt hv2.2 (nm1 nm :: sg [41] :: (brT (stmtsT alt) ++ r)) rfl
      rw [e1]
      refine lim_succ (h := fun f => bndP (blockP f (brT (stmtsT body) ++ (kw catchW :: sg [40] :: (typT ty.dim ty.base ty.name ++ (nm1 nm :: sg [41] :: (brT (stmtsT alt) ++ r)))))) fun b r => expP catchW r fun r2 => expP [40] r2 fun r3 => bndP (typP r3) fun t r4 => bndP (idP r4) fun s r5 => expP [41] r5 fun r6 => bndP (blockP f r6) fun a r7 => .ok (.mk 8 s t zE zE b a, r7)) (fun f => by rw [stmtP]; rfl) (lim_bnd (hBd hv2.1.1 _) ?_)
      refine lim_of (h := fun f => bndP (blockP f (brT (stmtsT alt) ++ r)) fun a r7 => .ok (.mk 8 nm ty zE zE body a, r7)) (fun f => ?_) (lim_bnd (hAl hv2.1.1 r) (lim_const _))
      show bndP (typP (typT ty.dim ty.base ty.name ++ (nm1 nm :: sg [41] :: (brT (stmtsT alt) ++ r)))) _ = _
      rw [hty]
      show bndP (idP (nm1 nm :: sg [41] :: (brT (stmtsT alt) ++ r))) _ = _
      rw [hid.2.2]
      rfl
    · have hv2 : ((decide (body.length ≤ 32) && validSs false body && (decide (alt.length ≤ 32) && validSs false alt)) && validE ex) = true := hv1
      rw [Bool.and_eq_true] at hv2
      have hq : St.mk 9 nm ty tg ex body alt = .mk 9 [] zTy zE ex body [] := hq
      simp only [St.mk.injEq, true_and] at hq
      obtain ⟨rfl, rfl, rfl, rfl⟩ := hq
      have e1 : stmtT (.mk 9 [] zTy zE ex body []) ++ r = kw syncW :: (listT [exprT ex] ++ (brT (stmtsT body) ++ r)) := by
        show ([kw syncW] ++ listT [exprT ex] ++ brT (stmtsT body)) ++ r = _
        simp
      rw [e1]
      exact lim_succ (h := fun f => bndP (parenP f (listT [exprT ex] ++ (brT (stmtsT body) ++ r))) fun e r => bndP (blockP f r) fun b r2 => .ok (.mk 9 [] zTy zE e b [], r2)) (fun f => by rw [stmtP]; rfl) (lim_bnd (paren_rt (expr_z hv2.2) _) (lim_bnd (hBd hv2.1 r) (lim_const _)))
    · have hv2 : (decide (body.length ≤ 32) && validSs false body && (decide (alt.length ≤ 32) && validSs false alt)) = true := hv1
      have hq : St.mk 10 nm ty tg ex body alt = .mk 10 [] zTy zE zE body [] := hq
      simp only [St.mk.injEq, true_and] at hq
      obtain ⟨rfl, rfl, rfl, rfl, rfl⟩ := hq
      have e1 : stmtT (.mk 10 [] zTy zE zE body []) ++ r = brT (stmtsT body) ++ r := rfl
      rw [e1]
      exact lim_succ (h := fun f => bndP (blockP f (brT (stmtsT body) ++ r)) fun b r => .ok (.mk 10 [] zTy zE zE b [], r)) (fun f => by rw [stmtP]; rfl) (lim_bnd (hBd hv2 r) (lim_const _))
    · have hv2 : superE ex = true := hv1
      have hq : St.mk 11 nm ty tg ex body alt = .mk 11 [] zTy zE ex [] [] := hq
      simp only [St.mk.injEq, true_and] at hq
      obtain ⟨rfl, rfl, rfl, rfl, rfl⟩ := hq
      have e1 : stmtT (.mk 11 [] zTy zE ex [] []) ++ r = kw superW :: (listT (ex.args.map exprT) ++ (sg [59] :: r)) := by
        show (([kw superW] ++ listT (ex.args.map exprT)) ++ [sg [59]]) ++ r = _
        simp
      have hva := super_args hv2
      have hK : (Except.ok (St.mk 11 [] zTy zE ex [] [], r) : PR St) = .ok (.mk 11 [] zTy zE (.mk 0 0 [] [] zTy ex.args) [] [], r) := by rw [← super_of hv2]
      rw [e1, hK]
      exact lim_succ (h := fun f => bndP (argsP f (listT (ex.args.map exprT) ++ (sg [59] :: r))) fun es r => expP [59] r fun r2 => .ok (.mk 11 [] zTy zE (.mk 0 0 [] [] zTy es) [] [], r2)) (fun f => by rw [stmtP]; rfl) (lim_bnd (args_rt (fun e he => expr_z (validEs_mem hva e he)) hva _) (lim_const _))
end Go.Proofs.YtalalcpefggniaaGreatDoor.E

namespace Go.Proofs.YtalalcpefggniaaGreatDoor.E
open Go

/-! Flags. -/
theorem bv_sub {a b : BitVec 64} (h : a &&& ~~~b = 0#64) : a.toNat ≤ b.toNat := by
  have e : a = a &&& b := by
    apply BitVec.eq_of_getLsbD_eq
    intro i hi
    have h2 := congrArg (fun x => x.getLsbD i) h
    simp only [BitVec.getLsbD_and, BitVec.getLsbD_not, hi, decide_true, Bool.true_and, BitVec.getLsbD_zero] at h2
    rw [BitVec.getLsbD_and]
    cases ha : a.getLsbD i <;> cases hb : b.getLsbD i <;> simp_all
  rw [e, BitVec.toNat_and]
  exact Nat.and_le_right
theorem only_range {fl : Int} {al : Nat} (hI : I64 fl) (ha : al ≤ 4095) (h : onlyL fl al = true) : 0 ≤ fl ∧ fl ≤ al := by
  have h2 : (BitVec.ofInt 64 fl &&& ~~~BitVec.ofInt 64 (al : Int)).toNat = 0 := by
    have hlt := (BitVec.ofInt 64 fl &&& ~~~BitVec.ofInt 64 (al : Int)).isLt
    have h3 : IntKind.wrap .i64 ((BitVec.ofInt 64 fl &&& ~~~BitVec.ofInt 64 (al : Int)).toNat : Int) = 0 := of_decide_eq_true (p := bits .andNot .i64 fl al = 0) h
    generalize (BitVec.ofInt 64 fl &&& ~~~BitVec.ofInt 64 (al : Int)).toNat = n at *
    simp [IntKind.wrap, IntKind.bits, IntKind.signed] at h3
    omega
  have h4 := bv_sub (BitVec.eq_of_toNat_eq (by rw [h2]; rfl))
  rw [BitVec.toNat_ofInt, BitVec.toNat_ofInt] at h4
  obtain ⟨i1, i2⟩ := hI
  omega
def modSum (fl : Int) : Int := ((modsL.filter fun p => hasB fl p.1).map (·.1)).sum
theorem mod_sum {fl : Int} (hI : I64 fl) (h : onlyL fl 1087 = true) : modSum fl = fl := by
  have hr := only_range (al := 1087) hI (by decide) h
  have hall : ∀ n : Fin 1088, onlyL (n.val : Int) 1087 = true → modSum (n.val : Int) = (n.val : Int) := by decide +kernel
  have e : fl = (fl.toNat : Int) := by omega
  have := hall ⟨fl.toNat, by omega⟩
  simp only at this
  rw [← e] at this
  exact this h
theorem only_up {fl : Int} {al : Nat} (hI : I64 fl) (ha : al = 31 ∨ al = 7) (h : onlyL fl al = true) : onlyL fl 1087 = true := by
  have hr := only_range (al := al) hI (by omega) h
  have hall : ∀ n : Fin 32, onlyL (n.val : Int) 1087 = true := by decide +kernel
  have e : fl = (fl.toNat : Int) := by omega
  have := hall ⟨fl.toNat, by omega⟩
  simp only at this
  rw [← e] at this
  exact this
def modsP : List (Int × List UInt8) → Int → List Tk → Int × List Tk
  | [], fl, l => (fl, l)
  | p :: q, fl, l => if isP p.2 l = true then modsP q (fl + p.1) l.tail else modsP q fl l
theorem isP_kw (w s : List UInt8) (l : List Tk) : isP w (kw s :: l) = decide (s = w) := rfl
theorem mod_hd {fl : Int} {w : List UInt8} {q : List (Int × List UInt8)} {X : List Tk} (hw : ∀ p ∈ q, p.2 ≠ w) (hX : isP w X = false) : isP w ((q.filter fun p => hasB fl p.1).map (fun p => kw p.2) ++ X) = false := by
  cases hq : (q.filter fun p => hasB fl p.1) with
  | nil => exact hX
  | cons p t =>
    have hp : p ∈ q := (List.mem_filter.1 (show p ∈ q.filter fun p => hasB fl p.1 by rw [hq]; exact List.mem_cons_self ..)).1
    show isP w (kw p.2 :: _) = false
    rw [isP_kw]
    simp [hw p hp]
theorem modsP_rt {fl : Int} {X : List Tk} : ∀ (q : List (Int × List UInt8)) (a : Int), (q.map (·.2)).Nodup → (∀ p ∈ q, isP p.2 X = false) → modsP q a ((q.filter fun p => hasB fl p.1).map (fun p => kw p.2) ++ X) = (a + ((q.filter fun p => hasB fl p.1).map (·.1)).sum, X)
  | [], a, _, _ => by simp [modsP]
  | p :: q, a, hd, hX => by
    have hd2 : (∀ x ∈ q, x.2 ≠ p.2) ∧ (q.map (·.2)).Nodup := by
      simp only [List.map_cons, List.nodup_cons] at hd
      exact ⟨fun x hx h => hd.1 (h ▸ List.mem_map_of_mem hx), hd.2⟩
    have hX2 : ∀ p ∈ q, isP p.2 X = false := fun x hx => hX x (List.mem_cons_of_mem _ hx)
    cases hb : hasB fl p.1 with
    | true =>
      simp only [List.filter_cons, hb, if_true, List.map_cons, List.cons_append]
      rw [modsP, isP_kw]
      simp only [decide_true, if_true, List.tail_cons]
      rw [modsP_rt q _ hd2.2 hX2]
      simp only [List.sum_cons]
      congr 1
      omega
    | false =>
      simp only [List.filter_cons, hb, Bool.false_eq_true, if_false]
      rw [modsP, mod_hd hd2.1 (hX p (List.mem_cons_self ..))]
      simp only [Bool.false_eq_true, if_false]
      exact modsP_rt q a hd2.2 hX2
/-- No modifier begins so. -/
def NoMod (X : List Tk) : Prop := ∀ p ∈ modsL, isP p.2 X = false
theorem mods_rt {fl : Int} {X : List Tk} (hI : I64 fl) (h : onlyL fl 1087 = true) (hX : NoMod X) : modsP modsL 0 (modT fl ++ X) = (fl, X) := by
  have := modsP_rt (fl := fl) modsL 0 (by decide) hX
  rw [Int.zero_add] at this
  have e := mod_sum hI h
  rw [modSum] at e
  rw [modT, this, e]
/-! Parameters. -/
def pmoreP : Nat → List Pc → List Tk → PR (List Pc)
  | 0, _, l => .error l
  | f + 1, acc, l => if isP [44] l = true then bndP (typP l.tail) fun t r => bndP (idP r) fun s r2 => pmoreP f (acc ++ [⟨t, s⟩]) r2 else expP [41] l fun r => .ok (acc, r)
def paramsP (f : Nat) (l : List Tk) : PR (List Pc) :=
  expP [40] l fun r => if isP [41] r = true then .ok ([], r.tail) else bndP (typP r) fun t r2 => bndP (idP r2) fun s r3 => pmoreP f [⟨t, s⟩] r3
theorem param_rt {p : Pc} (h : paramL p = true) {β : Type} (k : Ty → List UInt8 → List Tk → PR β) (r : List Tk) : (bndP (typP (paramT p ++ r)) fun t r2 => bndP (idP r2) fun s r3 => k t s r3) = k p.ty p.name r := by
  simp only [paramL, Bool.and_eq_true] at h
  have e : paramT p ++ r = typT p.ty.dim p.ty.base p.ty.name ++ (nm1 p.name :: r) := by simp [paramT]
  rw [e, typ_rt h.1 _ rfl]
  show bndP (idP (nm1 p.name :: r)) _ = _
  rw [(id_rt h.2 r).2.2]
  rfl
theorem pmore_rt : ∀ (l acc : List Pc) (r : List Tk), (∀ p ∈ l, paramL p = true) → Lim (fun f => pmoreP f acc (commaT false (l.map paramT) ++ (sg [41] :: r))) (.ok (acc ++ l, r))
  | [], acc, r, _ => lim_succ (h := fun _ => .ok (acc ++ [], r)) (fun f => by rw [pmoreP]; simp [commaT, isP, sg, expP]) (lim_const _)
  | p :: l, acc, r, h => by
    have ih := pmore_rt l (acc ++ [p]) r fun x hx => h x (List.mem_cons_of_mem _ hx)
    have e1 : commaT false ((p :: l).map paramT) ++ (sg [41] :: r) = sg [44] :: (paramT p ++ (commaT false (l.map paramT) ++ (sg [41] :: r))) := by simp [commaT]
    rw [e1]
    refine lim_succ (h := fun f => pmoreP f (acc ++ [p]) (commaT false (l.map paramT) ++ (sg [41] :: r))) (fun f => ?_) (by simpa using ih)
    rw [pmoreP]
    show (bndP (typP (paramT p ++ (commaT false (l.map paramT) ++ (sg [41] :: r)))) fun t r2 => bndP (idP r2) fun s r3 => pmoreP f (acc ++ [⟨t, s⟩]) r3) = _
    exact param_rt (h p (List.mem_cons_self ..)) (fun t s r3 => pmoreP f (acc ++ [(⟨t, s⟩ : Pc)]) r3) _
theorem ty_head {t : Ty} (h : valueTy t.dim t.base t.name = true) {w : List UInt8} (h1 : w ≠ intS) (h2 : w ≠ longS) (l : List Tk) : isP w (typT t.dim t.base t.name ++ l) = false := by
  obtain ⟨_, _, hb3⟩ := value_base h
  have e : isP w (typT t.dim t.base t.name ++ l) = isP w [baseT t.base t.name] := rfl
  rw [e]
  rcases hb3 with ⟨g1, _⟩ | ⟨g1, _⟩ | ⟨g1, _⟩
  · rw [g1]; simp [baseT, isP, kw, Ne.symm h1]
  · rw [g1]; simp [baseT, isP, kw, Ne.symm h2]
  · rw [g1]; simp [baseT, isP, nm1]
theorem params_rt {l : List Pc} (h : ∀ p ∈ l, paramL p = true) (r : List Tk) : Lim (fun f => paramsP f (listT (l.map paramT) ++ r)) (.ok (l, r)) := by
  cases l with
  | nil => exact lim_of (h := fun _ => .ok ([], r)) (fun f => rfl) (lim_const _)
  | cons p l =>
    have e1 : listT ((p :: l).map paramT) ++ r = sg [40] :: (paramT p ++ (commaT false (l.map paramT) ++ (sg [41] :: r))) := by simp [listT, commaT]
    have hp := h p (List.mem_cons_self ..)
    have hp2 := hp
    simp only [paramL, Bool.and_eq_true] at hp2
    have hno : isP [41] (paramT p ++ (commaT false (l.map paramT) ++ (sg [41] :: r))) = false := by
      rw [paramT, List.append_assoc]; exact ty_head hp2.1 (by decide) (by decide) _
    rw [e1]
    refine lim_of (h := fun f => pmoreP f [p] (commaT false (l.map paramT) ++ (sg [41] :: r))) (fun f => ?_) (pmore_rt l [p] r fun x hx => h x (List.mem_cons_of_mem _ hx))
    show (if isP [41] (paramT p ++ (commaT false (l.map paramT) ++ (sg [41] :: r))) = true then _ else (bndP (typP (paramT p ++ (commaT false (l.map paramT) ++ (sg [41] :: r)))) fun t r2 => bndP (idP r2) fun s r3 => pmoreP f [⟨t, s⟩] r3)) = _
    rw [hno]
    exact param_rt hp (fun t s r3 => pmoreP f [(⟨t, s⟩ : Pc)] r3) _
/-! Members. -/
def newW : List UInt8 := [110, 101, 119]
def vTy : Ty := ⟨0, 86, []⟩
def Cd.addF (d : Cd) (x : Fc) : Cd := { d with fields := d.fields ++ [x] }
def Cd.addM (d : Cd) (x : Md) : Cd := { d with methods := d.methods ++ [x] }
def Cd.addI (d : Cd) (x : List St) : Cd := { d with init := d.init ++ x }
def restP (f : Nat) (d : Cd) (fl : Int) (t : Ty) (s : List UInt8) (l : List Tk) : PR Cd :=
  bndP (paramsP f l) fun ps r => if isP [59] r = true then .ok (d.addM ⟨fl, t, s, ps, false, []⟩, r.tail) else bndP (blockP f r) fun b r2 => .ok (d.addM ⟨fl, t, s, ps, true, b⟩, r2)
def memberP (f : Nat) (d : Cd) (fl : Int) (l : List Tk) : PR Cd :=
  if fl = 8 ∧ isP [123] l = true then bndP (blockP f l) fun b r => .ok (d.addI b, r)
  else if isP newW l = true then bndP (paramsP f l.tail) fun ps r => bndP (blockP f r) fun b r2 => .ok (d.addM ⟨fl, vTy, initS, ps, true, b⟩, r2)
  else if isP voidS l = true then bndP (idP l.tail) fun s r => restP f d fl vTy s r
  else bndP (typP l) fun t r => bndP (idP r) fun s r2 => if isP [59] r2 = true then .ok (d.addF ⟨fl, t, s⟩, r2.tail) else restP f d fl t s r2
def memsP : Nat → Cd → List Tk → PR Cd
  | 0, _, l => .error l
  | f + 1, d, l => if isP [125] l = true then .ok (d, l.tail) else bndP (memberP f d (modsP modsL 0 l).1 (modsP modsL 0 l).2) fun e r => memsP f e r
theorem nomod_ty {t : Ty} (h : valueTy t.dim t.base t.name = true) (l : List Tk) : NoMod (typT t.dim t.base t.name ++ l) := fun p hp => by
  refine ty_head h ?_ ?_ l
  · have : ∀ p ∈ modsL, p.2 ≠ intS := by decide
    exact this p hp
  · have : ∀ p ∈ modsL, p.2 ≠ longS := by decide
    exact this p hp
theorem nomod_kw {w : List UInt8} (h : ∀ p ∈ modsL, w ≠ p.2) (l : List Tk) : NoMod (kw w :: l) := fun p hp => by
  rw [isP_kw]; simp [h p hp]
/-- One member more. -/
theorem mems_step {d e : Cd} {fl : Int} {X r : List Tk} {K : PR Cd} (hI : I64 fl) (ho : onlyL fl 1087 = true) (hX : NoMod X) (h0 : isP [125] X = false) (h1 : Lim (fun f => memberP f d fl X) (.ok (e, r))) (h2 : Lim (fun f => memsP f e r) K) : Lim (fun f => memsP f d (modT fl ++ X)) K := by
  refine lim_succ (h := fun f => bndP (memberP f d fl X) fun e r => memsP f e r) (fun f => ?_) (lim_bnd h1 h2)
  rw [memsP, mods_rt hI ho hX]
  have : isP [125] (modT fl ++ X) = false := mod_hd (q := modsL) (by decide) h0
  rw [this]
  rfl
theorem block_ok {q : Bool} {l : List St} (h : blockL q l = true) (r : List Tk) : Lim (fun f => blockP f (brT (stmtsT l) ++ r)) (.ok (l, r)) := by
  simp only [blockL, Bool.and_eq_true] at h
  exact block_rt (fun s hs => ⟨stm_rt _ s (Nat.le_refl _) (validSs_mem h.2 s hs), stm_hd (validSs_mem h.2 s hs)⟩) r
theorem field_rt {d : Cd} {x : Fc} (hI : I64 x.fl) (h : fieldL x = true) {r : List Tk} {K : PR Cd} (hK : Lim (fun f => memsP f (d.addF x) r) K) : Lim (fun f => memsP f d (fieldT x ++ r)) K := by
  simp only [fieldL, Bool.and_eq_true] at h
  have e1 : fieldT x ++ r = modT x.fl ++ (typT x.ty.dim x.ty.base x.ty.name ++ (nm1 x.name :: sg [59] :: r)) := by simp [fieldT]
  rw [e1]
  refine mems_step hI (only_up (al := 31) hI (.inl rfl) h.2) (nomod_ty h.1.1.1 _) (ty_head h.1.1.1 (by decide) (by decide) _) (lim_of (h := fun _ => .ok (d.addF x, r)) (fun f => ?_) (lim_const _)) hK
  rw [memberP, ty_head (w := [123]) h.1.1.1 (by decide) (by decide), ty_head (w := newW) h.1.1.1 (by decide) (by decide), ty_head (w := voidS) h.1.1.1 (by decide) (by decide), typ_rt h.1.1.1 _ rfl]
  simp only [Bool.false_eq_true, and_false, if_false, bndP]
  rw [(id_rt h.1.1.2 _).2.2]
  rfl
theorem fields_rt : ∀ (l : List Fc) (d : Cd) (r : List Tk) (K : PR Cd), (∀ x ∈ l, I64 x.fl ∧ fieldL x = true) → Lim (fun f => memsP f { d with fields := d.fields ++ l } r) K → Lim (fun f => memsP f d ((l.map fieldT).flatten ++ r)) K
  | [], d, r, K, _, hK => by simpa using hK
  | x :: l, d, r, K, h, hK => by
    have e1 : ((x :: l).map fieldT).flatten ++ r = fieldT x ++ ((l.map fieldT).flatten ++ r) := by simp
    rw [e1]
    have hx := h x (List.mem_cons_self ..)
    refine field_rt hx.1 hx.2 (fields_rt l _ r K (fun y hy => h y (List.mem_cons_of_mem _ hy)) ?_)
    simpa [Cd.addF] using hK
theorem init_rt {d : Cd} {l : List St} (h : blockL false l = true) {r : List Tk} {K : PR Cd} (hK : Lim (fun f => memsP f (d.addI l) r) K) : Lim (fun f => memsP f d ((if 0 < l.length then [kw [115, 116, 97, 116, 105, 99]] ++ brT (stmtsT l) else []) ++ r)) K := by
  by_cases h0 : 0 < l.length
  · rw [if_pos h0]
    have e1 : [kw [115, 116, 97, 116, 105, 99]] ++ brT (stmtsT l) ++ r = modT 8 ++ (brT (stmtsT l) ++ r) := by
      have : modT 8 = [kw [115, 116, 97, 116, 105, 99]] := by kernel_rfl
      rw [this]; simp
    rw [e1]
    refine mems_step (fl := 8) (by unfold I64; omega) (by decide +kernel) (fun p hp => ?_) rfl (lim_of (h := fun f => bndP (blockP f (brT (stmtsT l) ++ r)) fun b r => .ok (d.addI b, r)) (fun f => by rw [memberP]; rfl) (lim_bnd (block_ok h r) (lim_const _))) hK
    have : ∀ p ∈ modsL, isP p.2 [sg [123]] = false := by decide
    exact this p hp
  · rw [if_neg h0]
    have e : l = [] := List.length_eq_zero_iff.1 (by omega)
    subst e
    simpa [Cd.addI] using hK
theorem rest_rt {d : Cd} {fl : Int} {t : Ty} {s : List UInt8} {ps : List Pc} {hb q : Bool} {body : List St} (hp : ∀ p ∈ ps, paramL p = true) (hq : blockL q body = true) (h0 : hb = true ∨ body = []) (r : List Tk) :
    Lim (fun f => restP f d fl t s (listT (ps.map paramT) ++ ((if hb = true then brT (stmtsT body) else [sg [59]]) ++ r))) (.ok (d.addM ⟨fl, t, s, ps, hb, body⟩, r)) := by
  refine lim_bnd (params_rt hp _) ?_
  cases hb with
  | true => exact lim_of (h := fun f => bndP (blockP f (brT (stmtsT body) ++ r)) fun b r2 => .ok (d.addM ⟨fl, t, s, ps, true, b⟩, r2)) (fun f => rfl) (lim_bnd (block_ok hq r) (lim_const _))
  | false =>
    rcases h0 with h0 | h0
    · cases h0
    · subst h0
      exact lim_of (h := fun _ => .ok (d.addM ⟨fl, t, s, ps, false, []⟩, r)) (fun f => rfl) (lim_const _)
theorem void_eq {t : Ty} (h : voidTy t = true) : t = vTy := by
  simp only [voidTy, Bool.and_eq_true, decide_eq_true_eq] at h
  cases t
  simp only at h
  obtain ⟨rfl, rfl, rfl⟩ := h
  rfl
theorem method_rt {d : Cd} {x : Md} (hI : I64 x.fl) (h : methodL x = true) {r : List Tk} {K : PR Cd} (hK : Lim (fun f => memsP f (d.addM x) r) K) : Lim (fun f => memsP f d (methodT x ++ r)) K := by
  obtain ⟨fl, res, name, ps, hb, body⟩ := x
  simp only [methodL, Bool.and_eq_true, Bool.not_eq_true', List.any_eq_false] at h
  obtain ⟨⟨⟨hh, hm⟩, hps⟩, hbl⟩ := h
  have hps : ∀ p ∈ ps, paramL p = true := fun p hp => by have := hps p hp; simpa using this
  simp only [mMid, Bool.and_eq_true, Bool.or_eq_true, decide_eq_true_eq] at hm
  obtain ⟨⟨⟨hf, _⟩, hbd⟩, _⟩ := hm
  have hbd : hb = true ∨ body = [] := hbd.elim .inl fun h => .inr (List.length_eq_zero_iff.1 h)
  simp only [mflagsL, Bool.and_eq_true] at hf
  have ho : onlyL fl 1087 = true := hf.1.1.2
  by_cases hn : name = initS
  · subst hn
    simp only [mHead, if_true, Bool.and_eq_true] at hh
    obtain ⟨⟨hv, hb1⟩, _⟩ := hh
    obtain rfl := void_eq hv
    subst hb1
    have e1 : methodT ⟨fl, vTy, initS, ps, true, body⟩ ++ r = modT fl ++ (kw newW :: (listT (ps.map paramT) ++ (brT (stmtsT body) ++ r))) := by
      show (modT fl ++ [kw newW] ++ listT (ps.map paramT) ++ brT (stmtsT body)) ++ r = _
      simp
    rw [e1]
    refine mems_step hI ho (nomod_kw (by decide) _) rfl (lim_of (h := fun f => bndP (paramsP f (listT (ps.map paramT) ++ (brT (stmtsT body) ++ r))) fun ps r => bndP (blockP f r) fun b r2 => .ok (d.addM ⟨fl, vTy, initS, ps, true, b⟩, r2)) (fun f => ?_) (lim_bnd (params_rt hps _) (lim_bnd (block_ok hbl r) (lim_const _)))) hK
    rw [memberP, if_neg (by intro h; cases h.2)]
    rfl
  · simp only [mHead, if_neg hn, Bool.and_eq_true, Bool.or_eq_true] at hh
    obtain ⟨hid, hty⟩ := hh
    have e1 : methodT ⟨fl, res, name, ps, hb, body⟩ ++ r = modT fl ++ (typT res.dim res.base res.name ++ (nm1 name :: (listT (ps.map paramT) ++ ((if hb = true then brT (stmtsT body) else [sg [59]]) ++ r)))) := by
      simp only [methodT, if_neg hn]
      simp
    rw [e1]
    have hrest := fun (t : Ty) => rest_rt (d := d) (fl := fl) (t := t) (s := name) hps hbl hbd r
    rcases hty with hv | hv
    · obtain rfl := void_eq hv
      refine mems_step hI ho (nomod_kw (w := voidS) (by decide) _) rfl (lim_of (h := fun f => restP f d fl vTy name (listT (ps.map paramT) ++ ((if hb = true then brT (stmtsT body) else [sg [59]]) ++ r))) (fun f => ?_) (hrest vTy)) hK
      rw [memberP, if_neg (by intro h; cases h.2)]
      show bndP (idP (nm1 name :: (listT (ps.map paramT) ++ ((if hb = true then brT (stmtsT body) else [sg [59]]) ++ r)))) _ = _
      rw [(id_rt hid _).2.2]
      rfl
    · refine mems_step hI ho (nomod_ty hv _) (ty_head hv (by decide) (by decide) _) (lim_of (h := fun f => restP f d fl res name (listT (ps.map paramT) ++ ((if hb = true then brT (stmtsT body) else [sg [59]]) ++ r))) (fun f => ?_) (hrest res)) hK
      rw [memberP, ty_head (w := [123]) hv (by decide) (by decide), ty_head (w := newW) hv (by decide) (by decide), ty_head (w := voidS) hv (by decide) (by decide), typ_rt hv _ rfl]
      simp only [Bool.false_eq_true, and_false, if_false, bndP]
      rw [(id_rt hid _).2.2]
      rfl
theorem methods_rt : ∀ (l : List Md) (d : Cd) (r : List Tk) (K : PR Cd), (∀ x ∈ l, I64 x.fl ∧ methodL x = true) → Lim (fun f => memsP f { d with methods := d.methods ++ l } r) K → Lim (fun f => memsP f d ((l.map methodT).flatten ++ r)) K
  | [], d, r, K, _, hK => by simpa using hK
  | x :: l, d, r, K, h, hK => by
    have e1 : ((x :: l).map methodT).flatten ++ r = methodT x ++ ((l.map methodT).flatten ++ r) := by simp
    rw [e1]
    have hx := h x (List.mem_cons_self ..)
    refine method_rt hx.1 hx.2 (methods_rt l _ r K (fun y hy => h y (List.mem_cons_of_mem _ hy)) ?_)
    simpa [Cd.addM] using hK
theorem mems_end {d : Cd} {r : List Tk} : Lim (fun f => memsP f d (sg [125] :: r)) (.ok (d, r)) :=
  lim_succ (h := fun _ => .ok (d, r)) (fun f => by rw [memsP]; rfl) (lim_const _)
/-! Classes. -/
def pubW : List UInt8 := [112, 117, 98, 108, 105, 99]
def finW : List UInt8 := [102, 105, 110, 97, 108]
def absW : List UInt8 := [97, 98, 115, 116, 114, 97, 99, 116]
def ifcW : List UInt8 := [105, 110, 116, 101, 114, 102, 97, 99, 101]
def extW : List UInt8 := [101, 120, 116, 101, 110, 100, 115]
def impW : List UInt8 := [105, 109, 112, 108, 101, 109, 101, 110, 116, 115]
def clW : List UInt8 := [99, 108, 97, 115, 115]
def p1L : List (Int × List UInt8) := [(1, pubW)]
def p2L : List (Int × List UInt8) := [(16, finW), (1024, absW)]
def clsesP : Nat → List (List UInt8) → List Tk → PR (List (List UInt8))
  | 0, _, l => .error l
  | f + 1, acc, l => if isP [44] l = true then bndP (clsP l.tail) fun s r => clsesP f (acc ++ [s]) r else .ok (acc, l)
def ifsP (f : Nat) (w : List UInt8) (l : List Tk) : PR (List (List UInt8)) := if isP w l = true then bndP (clsP l.tail) fun s r => clsesP f [s] r else .ok ([], l)
def headP (f : Nat) (l : List Tk) : PR Cd :=
  if isP ifcW (modsP p1L 0 l).2 = true then bndP (clsP (modsP p1L 0 l).2.tail) fun n r => bndP (ifsP f extW r) fun is r2 => expP [123] r2 fun r3 => .ok (⟨(modsP p1L 0 l).1 + 1536, n, objS, is, [], [], []⟩, r3)
  else expP clW (modsP p2L (modsP p1L 0 l).1 (modsP p1L 0 l).2).2 fun r => bndP (clsP r) fun n r2 => expP extW r2 fun r3 => bndP (clsP r3) fun sp r4 => bndP (ifsP f impW r4) fun is r5 => expP [123] r5 fun r6 =>
    .ok (⟨(modsP p2L (modsP p1L 0 l).1 (modsP p1L 0 l).2).1, n, sp, is, [], [], []⟩, r6)
def clP (f : Nat) (l : List Tk) : PR Cd := bndP (headP f l) fun d r => memsP f d r
def progP : Nat → List Cd → List Tk → PR (List Cd)
  | 0, _, l => .error l
  | f + 1, acc, l => if l = [] then .ok (acc, []) else bndP (clP f l) fun d r => progP f (acc ++ [d]) r
theorem clses_rt : ∀ (l acc : List (List UInt8)) (r : List Tk), (∀ s ∈ l, isCls s = true) → isP [44] r = false → Lim (fun f => clsesP f acc ((l.map fun t => [sg [44], nm1 t]).flatten ++ r)) (.ok (acc ++ l, r))
  | [], acc, r, _, h => lim_succ (h := fun _ => .ok (acc ++ [], r)) (fun f => by rw [clsesP]; simp [h]) (lim_const _)
  | s :: l, acc, r, hs, h => by
    have ih := clses_rt l (acc ++ [s]) r (fun x hx => hs x (List.mem_cons_of_mem _ hx)) h
    have e1 : ((s :: l).map fun t => [sg [44], nm1 t]).flatten ++ r = sg [44] :: nm1 s :: ((l.map fun t => [sg [44], nm1 t]).flatten ++ r) := by simp
    rw [e1]
    refine lim_succ (h := fun f => clsesP f (acc ++ [s]) ((l.map fun t => [sg [44], nm1 t]).flatten ++ r)) (fun f => ?_) (by simpa using ih)
    rw [clsesP]
    show bndP (clsP (nm1 s :: ((l.map fun t => [sg [44], nm1 t]).flatten ++ r))) _ = _
    rw [(cls_rt (hs s (List.mem_cons_self ..)) _).2.2]
    rfl
theorem ifs_rt {w : List UInt8} (l : List (List UInt8)) (r : List Tk) (hs : ∀ s ∈ l, isCls s = true) (h : isP [44] r = false) (hw : isP w r = false) : Lim (fun f => ifsP f w (ifsT w l ++ r)) (.ok (l, r)) := by
  cases l with
  | nil => exact lim_of (h := fun _ => .ok ([], r)) (fun f => by rw [ifsP]; show (if isP w r = true then _ else _) = _; rw [hw]; rfl) (lim_const _)
  | cons s l =>
    have e1 : ifsT w (s :: l) ++ r = kw w :: nm1 s :: ((l.map fun t => [sg [44], nm1 t]).flatten ++ r) := by simp [ifsT]
    rw [e1]
    refine lim_of (h := fun f => clsesP f [s] ((l.map fun t => [sg [44], nm1 t]).flatten ++ r)) (fun f => ?_) (clses_rt l [s] r (fun x hx => hs x (List.mem_cons_of_mem _ hx)) h)
    rw [ifsP, isP_kw]
    simp only [decide_true, if_true, List.tail_cons]
    rw [(cls_rt (hs s (List.mem_cons_self ..)) _).2.2]
    rfl
theorem ifc_fl {fl : Int} (hI : I64 fl) (h1 : onlyL fl 1537 = true) (h2 : hasB fl 512 = true) (h3 : hasB fl 1024 = true) : fl = 1536 ∨ fl = 1537 := by
  have hr := only_range (al := 1537) hI (by decide) h1
  have hall : ∀ n : Fin 1538, hasB (n.val : Int) 512 = true → hasB (n.val : Int) 1024 = true → n.val = 1536 ∨ n.val = 1537 := by decide +kernel
  have e : fl = (fl.toNat : Int) := by omega
  have := hall ⟨fl.toNat, by omega⟩
  simp only at this
  rw [← e] at this
  have := this h2 h3
  omega
theorem cls_fl {fl : Int} (hI : I64 fl) (h1 : onlyL fl 1041 = true) (h2 : (hasB fl 16 && hasB fl 1024) = false) : fl = 0 ∨ fl = 1 ∨ fl = 16 ∨ fl = 17 ∨ fl = 1024 ∨ fl = 1025 := by
  have hr := only_range (al := 1041) hI (by decide) h1
  have hall : ∀ n : Fin 1042, onlyL (n.val : Int) 1041 = true → (hasB (n.val : Int) 16 && hasB (n.val : Int) 1024) = false → n.val = 0 ∨ n.val = 1 ∨ n.val = 16 ∨ n.val = 17 ∨ n.val = 1024 ∨ n.val = 1025 := by decide +kernel
  have e : fl = (fl.toNat : Int) := by omega
  have := hall ⟨fl.toNat, by omega⟩
  simp only at this
  rw [← e] at this
  have := this h1 h2
  omega
theorem cls_mods {fl : Int} (h : fl = 0 ∨ fl = 1 ∨ fl = 16 ∨ fl = 17 ∨ fl = 1024 ∨ fl = 1025) (X : List Tk) : isP ifcW (modsP p1L 0 (modT fl ++ kw clW :: X)).2 = false ∧ modsP p2L (modsP p1L 0 (modT fl ++ kw clW :: X)).1 (modsP p1L 0 (modT fl ++ kw clW :: X)).2 = (fl, kw clW :: X) := by
  have m0 : modT 0 = [] := by kernel_rfl
  have m1 : modT 1 = [kw pubW] := by kernel_rfl
  have m2 : modT 16 = [kw finW] := by kernel_rfl
  have m3 : modT 17 = [kw pubW, kw finW] := by kernel_rfl
  have m4 : modT 1024 = [kw absW] := by kernel_rfl
  have m5 : modT 1025 = [kw pubW, kw absW] := by kernel_rfl
  rcases h with rfl | rfl | rfl | rfl | rfl | rfl
  · rw [m0]; exact ⟨rfl, rfl⟩
  · rw [m1]; exact ⟨rfl, rfl⟩
  · rw [m2]; exact ⟨rfl, rfl⟩
  · rw [m3]; exact ⟨rfl, rfl⟩
  · rw [m4]; exact ⟨rfl, rfl⟩
  · rw [m5]; exact ⟨rfl, rfl⟩
theorem ifc_mods {fl : Int} (h : fl = 1536 ∨ fl = 1537) (X : List Tk) : modsP p1L 0 (modT (bits .andNot .i64 fl 1024) ++ kw ifcW :: X) = (fl - 1536, kw ifcW :: X) := by
  have m0 : modT (bits .andNot .i64 1536 1024) = [] := by kernel_rfl
  have m1 : modT (bits .andNot .i64 1537 1024) = [kw pubW] := by kernel_rfl
  rcases h with rfl | rfl
  · rw [m0]; rfl
  · rw [m1]; rfl
theorem head_rt {d : Cd} (hI : I64 d.fl) (h : classL d = true) (r : List Tk) : Lim (fun f => headP f (headT d ++ (sg [123] :: r))) (.ok (⟨d.fl, d.name, d.super, d.ifs, [], [], []⟩, r)) := by
  simp only [classL, cNames, Bool.and_eq_true, Bool.not_eq_true', List.any_eq_false] at h
  obtain ⟨hh, ⟨⟨⟨⟨⟨⟨hn, hs⟩, _⟩, hif⟩, _⟩, _⟩, _⟩, _⟩ := h
  have hif : ∀ s ∈ d.ifs, isCls s = true := fun s hs => by have := hif s hs; simpa using this
  by_cases hb : hasB d.fl 512 = true
  · simp only [cHead, if_pos hb, ifaceL, Bool.and_eq_true, decide_eq_true_eq] at hh
    obtain ⟨⟨⟨⟨h1, h2⟩, h3⟩, _⟩, _⟩ := hh
    have hfl := ifc_fl hI h1 hb h2
    have e1 : headT d ++ (sg [123] :: r) = modT (bits .andNot .i64 d.fl 1024) ++ kw ifcW :: (nm1 d.name :: (ifsT extW d.ifs ++ (sg [123] :: r))) := by
      rw [headT, if_pos hb]
      show (modT (bits .andNot .i64 d.fl 1024) ++ [kw ifcW] ++ [nm1 d.name] ++ ifsT extW d.ifs) ++ (sg [123] :: r) = _
      simp
    rw [e1, h3]
    refine lim_of (h := fun f => bndP (ifsP f extW (ifsT extW d.ifs ++ (sg [123] :: r))) fun is r2 => expP [123] r2 fun r3 => .ok (⟨d.fl, d.name, objS, is, [], [], []⟩, r3)) (fun f => ?_) (lim_bnd (ifs_rt d.ifs _ hif rfl rfl) (lim_const _))
    rw [headP, ifc_mods hfl]
    show bndP (clsP (nm1 d.name :: (ifsT extW d.ifs ++ (sg [123] :: r)))) _ = _
    rw [(cls_rt hn _).2.2]
    simp only [bndP]
    have : d.fl - 1536 + 1536 = d.fl := by omega
    rw [this]
  · simp only [cHead, if_neg hb, Bool.and_eq_true, Bool.not_eq_true'] at hh
    have hfl := cls_fl hI hh.1 hh.2
    have e1 : headT d ++ (sg [123] :: r) = modT d.fl ++ kw clW :: (nm1 d.name :: kw extW :: nm1 d.super :: (ifsT impW d.ifs ++ (sg [123] :: r))) := by
      rw [headT, if_neg hb]
      show (modT d.fl ++ [kw clW] ++ [nm1 d.name] ++ [kw extW] ++ [nm1 d.super] ++ ifsT impW d.ifs) ++ (sg [123] :: r) = _
      simp
    have hm := cls_mods hfl (nm1 d.name :: kw extW :: nm1 d.super :: (ifsT impW d.ifs ++ (sg [123] :: r)))
    rw [e1]
    refine lim_of (h := fun f => bndP (ifsP f impW (ifsT impW d.ifs ++ (sg [123] :: r))) fun is r2 => expP [123] r2 fun r3 => .ok (⟨d.fl, d.name, d.super, is, [], [], []⟩, r3)) (fun f => ?_) (lim_bnd (ifs_rt d.ifs _ hif rfl rfl) (lim_const _))
    rw [headP, hm.1, hm.2]
    show bndP (clsP (nm1 d.name :: kw extW :: nm1 d.super :: (ifsT impW d.ifs ++ (sg [123] :: r)))) _ = _
    rw [(cls_rt hn _).2.2]
    show bndP (clsP (nm1 d.super :: (ifsT impW d.ifs ++ (sg [123] :: r)))) _ = _
    rw [(cls_rt hs _).2.2]
    rfl
theorem class_rt {d : Cd} (hw : wfC d) (h : classL d = true) (r : List Tk) : Lim (fun f => clP f (clsT d ++ r)) (.ok (d, r)) := by
  have e1 : clsT d ++ r = headT d ++ (sg [123] :: ((d.fields.map fieldT).flatten ++ ((if 0 < d.init.length then [kw [115, 116, 97, 116, 105, 99]] ++ brT (stmtsT d.init) else []) ++ ((d.methods.map methodT).flatten ++ (sg [125] :: r))))) := by
    simp [clsT, classT]
  rw [e1]
  refine lim_bnd (head_rt hw.1.fl h _) ?_
  simp only [classL, Bool.and_eq_true, Bool.not_eq_true', List.any_eq_false] at h
  obtain ⟨_, ⟨⟨_, hf⟩, hm⟩, hi⟩ := h
  refine fields_rt d.fields _ _ _ (fun x hx => ⟨(hw.1.fs x hx).fl, by have := hf x hx; simpa using this⟩) ?_
  refine init_rt hi ?_
  refine methods_rt d.methods _ _ _ (fun x hx => ⟨(hw.2.2 x hx).1.fl, by have := hm x hx; simpa using this⟩) ?_
  simp only [Cd.addI, List.nil_append]
  exact mems_end
theorem class_ne (d : Cd) (r : List Tk) : clsT d ++ r ≠ [] := by
  simp [clsT, classT]
theorem prog_rt : ∀ (l acc : List Cd), (∀ d ∈ l, wfC d) → (∀ d ∈ l, classL d = true) → Lim (fun f => progP f acc (progT l)) (.ok (acc ++ l, []))
  | [], acc, _, _ => lim_succ (h := fun _ => .ok (acc ++ [], [])) (fun f => by rw [progP]; simp [progT]) (lim_const _)
  | d :: l, acc, hw, hv => by
    have ih := prog_rt l (acc ++ [d]) (fun x hx => hw x (List.mem_cons_of_mem _ hx)) (fun x hx => hv x (List.mem_cons_of_mem _ hx))
    have e1 : progT (d :: l) = clsT d ++ progT l := by simp [progT]
    rw [e1]
    refine lim_succ (h := fun f => bndP (clP f (clsT d ++ progT l)) fun d r => progP f (acc ++ [d]) r) (fun f => by rw [progP, if_neg (class_ne d _)]) (lim_bnd (class_rt (hw d (List.mem_cons_self ..)) (hv d (List.mem_cons_self ..)) _) (by simpa using ih))
/-- Equal tokens, equal programs. -/
theorem prog_inj {a b : List Cd} (wa : ∀ d ∈ a, wfC d) (va : ∀ d ∈ a, classL d = true) (wb : ∀ d ∈ b, wfC d) (vb : ∀ d ∈ b, classL d = true) (h : progT a = progT b) : a = b := by
  have h1 := prog_rt a [] wa va
  have h2 := prog_rt b [] wb vb
  rw [h] at h1
  have := lim_eq h1 h2
  simp only [List.nil_append, Except.ok.injEq, Prod.mk.injEq, and_true] at this
  exact this
theorem expr_inj {a b : Ex} (va : validE a = true) (vb : validE b = true) (h : exprT a = exprT b) : a = b := by
  have h1 := expr_z va [] (fol_nil 0)
  have h2 := expr_z vb [] (fol_nil 0)
  rw [h] at h1
  have := lim_eq h1 h2
  simp only [Except.ok.injEq, Prod.mk.injEq, and_true] at this
  exact this
end Go.Proofs.YtalalcpefggniaaGreatDoor.E

namespace Go.Proofs.YtalalcpefggniaaGreatDoor.E
open Go

theorem sameF_all (a b : Md) (ca cb : List Value) (m : Mem) (ha : mdRep m a ca) (hb : mdRep m b cb) : Ans 128 [.v (.agg ⟨ca⟩), .v (.agg ⟨cb⟩)] m (.bool (eqM a b)) := by
  obtain ⟨fl, res, name, params, hb0, body⟩ := a
  obtain ⟨fl', res', name', params', hb0', body'⟩ := b
  obtain ⟨x, ⟨rfl, rfl, rfl, rfl, rfl⟩, ⟨hpl, hpc, hl, hcp⟩, hok, r1, xs, r2, s2⟩ := ha
  obtain ⟨x', ⟨rfl, rfl, rfl, rfl, rfl⟩, ⟨hpl', hpc', hl', hcp'⟩, hok', r1', xs', r2', s2'⟩ := hb
  simp only at hpl hl hpl' hl' r1 r1' s2 s2'
  have bp : x.pl ≤ big := by rw [hpl]; exact hok.pl
  have hB := sameB_all _ body body' x.a x.l x.cp x'.a x'.l x'.cp xs xs' m (Nat.le_refl _) hl hl' (by rw [hl]; exact hok.l) (by rw [hl']; exact hok'.l) r2 r2' s2 s2'
  clear s2 s2'
  have hX : eqM ⟨x.fl, x.res, x.name, params, x.hb, body⟩ ⟨x'.fl, x'.res, x'.name, params', x'.hb, body'⟩ = (decide (x.fl = x'.fl) && Ty.eq x.res x'.res && decide (x.name = x'.name) && (x.hb == x'.hb) && (decide (params.length = params'.length) && allB params.length (atB Pc.eq params params')) && eqSs body body') := by rw [eqM, all2_allB]
  refine enter cfN puN Tryz.func128 rfl rfl (by kernel_rfl) rfl ?_ ?_
  · simp only [go_sem, ↓imp_tf, ↓imp_ft, ↓reduceIte, Mc.cs]
  · simp only [go_sem, ↓imp_tf, ↓imp_ft, ↓reduceIte, Mc.cs, eqOkT]
    refine ⟨by kernel_rfl, fun h => ?_, fun h => ?_⟩
    · clear hB
      rw [hX]
      simp only [Ty.eq]
      rcases h with (((h | h | h | h) | h) | h) | h
      · simp [h]
      · simp [h]
      · simp [h]
      · simp [h]
      · simp [h]
      · simp [h]
      · rw [decide_eq_false (by omega : ¬ params.length = params'.length)]; simp
    · have hll : params.length = params'.length := by clear hB; omega
      have hX2 : eqM ⟨x.fl, x.res, x.name, params, x.hb, body⟩ ⟨x'.fl, x'.res, x'.name, params', x'.hb, body'⟩ = (allB params.length (atB Pc.eq params params') && eqSs body body') := by
        rw [hX]
        simp only [Ty.eq, h, hll, decide_true, Bool.true_and]
      clear hX
      refine WP_loop puN (fun y : Nat => ⟨[⟨2, [], .box 0 0⟩, ⟨3, [], .box 1 0⟩, ⟨5, [], .v (.int .i64 y)⟩], [], [⟨0, 58, x.cs.map .v⟩, ⟨1, 58, x'.cs.map .v⟩], [], 2, m⟩)
        (fun y => y ≤ x.pl ∧ allB y (atB Pc.eq params params') = true) (fun y => x.pl - y) 0 (by kernel_rfl) (fun _ _ => Nat.le_refl _) (fun y hy => .inl rfl) (fun _ => ?_) ?_ ?_ ?_
      · simp only [go_sem, ↓imp_tf, ↓imp_ft, ↓reduceIte, Mc.cs]
      · simp only [go_sem, ↓imp_tf, ↓imp_ft, ↓reduceIte, Mc.cs]
        rfl
      · exact ⟨Nat.zero_le _, rfl⟩
      · rintro k ⟨h2, h3⟩
        have hy : ∀ (hk : k < params.length) (hk' : k < params'.length), (Rd m (ptrAt x.pa (k * 4)) (params[k]).cs ∧ x.pa ≠ none) ∧ (Rd m (ptrAt x'.pa (k * 4)) (params'[k]).cs ∧ x'.pa ≠ none) ∧ atB Pc.eq params params' k = Pc.eq params[k] params'[k] := fun hk hk' => by
          have q1 := Rds_cells r1 (by omega : k < x.pl)
          have q2 := Rds_cells r1' (by omega : k < x'.pl)
          rw [flat_at (f := Pc.cs) (sz := 4) (fun _ => rfl) hk] at q1
          rw [flat_at (f := Pc.cs) (sz := 4) (fun _ => rfl) hk'] at q2
          exact ⟨q1, q2, atB_at hk hk'⟩
        simp only [go_sem, ↓imp_tf, ↓imp_ft, ↓reduceIte, Mc.cs]
        refine ⟨fun hlt => ?_, fun hge => ?_⟩
        · have hk : k < params.length := by clear hB; omega
          have hk' : k < params'.length := by clear hB; omega
          have hy' := hy hk hk'
          clear hy hB
          refine WP_drawQ puN (by kernel_rfl) (by kernel_rfl) (by kernel_rfl) ?_
          simp only [go_sem, ↓imp_tf, ↓imp_ft, ↓reduceIte, Mc.cs]
          refine ⟨⟨by omega, hlt, hy'.1.2⟩, (params[k]).cs, ⟨hy'.1.1, rfl⟩, ⟨by omega, by omega, hy'.2.1.2⟩, (params'[k]).cs, ⟨hy'.2.1.1, rfl⟩, ?_⟩
          have hat := hy'.2.2
          clear hy'
          simp only [go_sem, ↓imp_tf, ↓imp_ft, ↓reduceIte, Mc.cs, Pc.cs, eqOkP]
          refine ⟨fun hne => ?_, fun he => ⟨by unfold I64; simp only [big] at bp; omega, k + 1, by simp, ⟨by omega, ?_⟩, by omega⟩⟩
          · rw [hX2, allB_no hk]
            · rfl
            · rw [hat, Pc.eq]
              rcases hne with h | h | h | h <;> simp [h]
          · rw [allB_succ, h3, hat, Pc.eq]
            simp [he]
        · clear hy
          have hkk : k = params.length := by clear hB; omega
          have hX3 := hX2
          rw [← hkk, h3, Bool.true_and] at hX3
          refine ⟨by kernel_rfl, FnV_of (hB.mono ?_)⟩
          clear hB
          rintro r H' m2 hm2 ⟨l2, rfl, rfl⟩
          simp only [go_sem, ↓imp_tf, ↓imp_ft, ↓reduceIte, Mc.cs]
          exact ⟨l2, hX3.symm⟩
theorem list_eq2 {α : Type} [DecidableEq α] : ∀ (l l2 : List α), decide (l = l2) = all2 (fun a b => decide (a = b)) l l2
  | [], [] => rfl
  | [], _ :: _ => rfl
  | _ :: _, [] => rfl
  | a :: r, b :: t => by
    rw [all2, ← list_eq2 r t]
    by_cases h : a = b
    · subst h
      by_cases h2 : r = t
      · subst h2; simp
      · simp [h2]
    · simp [h]
set_option maxHeartbeats 8000000 in
theorem sameD_all (a b : Cd) (ca cb : List Value) (m : Mem) (ha : cdRep m a ca) (hb : cdRep m b cb) : Ans 60 [.v (.agg ⟨ca⟩), .v (.agg ⟨cb⟩)] m (.bool (eqC a b)) := by
  obtain ⟨fl, name, super, ifs, fields, methods, init⟩ := a
  obtain ⟨fl', name', super', ifs', fields', methods', init'⟩ := b
  obtain ⟨x, ⟨rfl, rfl, rfl, rfl⟩, ⟨hil, hic, hfn, hfc, hml, hmc, hsl, hsc⟩, hok, r1, r2, xs, ys, r3, s3, r4, s4⟩ := ha
  obtain ⟨x', ⟨rfl, rfl, rfl, rfl⟩, ⟨hil', hic', hfn', hfc', hml', hmc', hsl', hsc'⟩, hok', r1', r2', xs', ys', r3', s3', r4', s4'⟩ := hb
  simp only at hil hfn hml hsl r1 r2 s3 s4 hil' hfn' hml' hsl' r1' r2' s3' s4'
  have bi : x.il ≤ big := by rw [hil]; exact hok.il
  have bf : x.fn ≤ big := by rw [hfn]; exact hok.fn
  have bm : x.ml ≤ big := by rw [hml]; exact hok.ml
  have hB := fun m' (hle : leM m m') => sameB_all _ init init' x.sa x.sl x.sc x'.sa x'.sl x'.sc ys ys' m' (Nat.le_refl _) hsl hsl' (by rw [hsl]; exact hok.l) (by rw [hsl']; exact hok'.l) (Rds_upM hle r4) (Rds_upM hle r4') (stsRep_upM hle s4) (stsRep_upM hle s4')
  have hM := fun m' (hle : leM m m') => eq_fact (R := mdRep) (csN := Mc.cs) (e := eqM) (f := 128) (fun _ _ _ _ h => mdRep_up h) (fun _ _ _ => mdRep_mc) (fun i hi => mdRep_up hle (ls_at s3 hi)) (fun i hi => mdRep_up hle (ls_at s3' hi)) (fun a ha b hb ca cb m2 hle2 => sameF_all a b ca cb m2)
  clear s3 s3' s4 s4'
  have hX : eqC ⟨x.fl, x.name, x.super, ifs, fields, methods, init⟩ ⟨x'.fl, x'.name, x'.super, ifs', fields', methods', init'⟩ = (decide (x.fl = x'.fl) && decide (x.name = x'.name) && decide (x.super = x'.super) && (decide (ifs.length = ifs'.length) && allB ifs.length (atB (fun a b => decide (a = b)) ifs ifs')) && (decide (fields.length = fields'.length) && allB fields.length (atB Fc.eq fields fields')) && (decide (methods.length = methods'.length) && allB methods.length (atB eqM methods methods')) && eqSs init init') := by
    simp only [eqC]
    rw [list_eq2 ifs ifs', all2_allB, all2_allB, all2_allB]
  refine enter cfN puN Tryz.func60 rfl rfl (by kernel_rfl) rfl ?_ ?_
  · simp only [go_sem, ↓imp_tf, ↓imp_ft, ↓reduceIte, Cc.cs]
  · simp only [go_sem, ↓imp_tf, ↓imp_ft, ↓reduceIte, Cc.cs]
    refine ⟨fun h => ?_, fun h => ?_⟩
    · clear hB hM
      rw [hX]
      rcases h with ((((h | h) | h) | h) | h) | h
      · simp [h]
      · simp [h]
      · simp [h]
      · rw [decide_eq_false (by omega : ¬ ifs.length = ifs'.length)]; simp
      · rw [decide_eq_false (by omega : ¬ fields.length = fields'.length)]; simp
      · rw [decide_eq_false (by omega : ¬ methods.length = methods'.length)]; simp
    · have e1 : ifs.length = ifs'.length := by clear hB hM; omega
      have e2 : fields.length = fields'.length := by clear hB hM; omega
      have e3 : methods.length = methods'.length := by clear hB hM; omega
      have hX2 : eqC ⟨x.fl, x.name, x.super, ifs, fields, methods, init⟩ ⟨x'.fl, x'.name, x'.super, ifs', fields', methods', init'⟩ = (allB ifs.length (atB (fun a b => decide (a = b)) ifs ifs') && allB fields.length (atB Fc.eq fields fields') && allB methods.length (atB eqM methods methods') && eqSs init init') := by
        rw [hX]
        simp only [h, e1, e2, e3, decide_true, Bool.true_and]
      clear hX
      refine WP_loop puN (fun y : Nat => ⟨[⟨2, [], .box 0 0⟩, ⟨3, [], .box 1 0⟩, ⟨5, [], .v (.int .i64 y)⟩], [], [⟨0, 55, x.cs.map .v⟩, ⟨1, 55, x'.cs.map .v⟩], [], 2, m⟩)
        (fun y => y ≤ x.il ∧ allB y (atB (fun a b => decide (a = b)) ifs ifs') = true) (fun y => x.il - y) 0 (by kernel_rfl) (fun _ _ => Nat.le_refl _) (fun y hy => .inl rfl) (fun _ => ?_) ?_ ?_ ?_
      · simp only [go_sem, ↓imp_tf, ↓imp_ft, ↓reduceIte, Cc.cs]
      · simp only [go_sem, ↓imp_tf, ↓imp_ft, ↓reduceIte, Cc.cs]
        rfl
      · exact ⟨Nat.zero_le _, rfl⟩
      · rintro k ⟨h2, h3⟩
        have hy : ∀ (hk : k < ifs.length) (hk' : k < ifs'.length), (Rd m (ptrAt x.ia k) [.string (bs ifs[k])] ∧ x.ia ≠ none) ∧ (Rd m (ptrAt x'.ia k) [.string (bs ifs'[k])] ∧ x'.ia ≠ none) ∧ atB (fun a b => decide (a = b)) ifs ifs' k = decide (ifs[k] = ifs'[k]) := fun hk hk' => ⟨strs_rd r1 hk, strs_rd r1' hk', atB_at hk hk'⟩
        simp only [go_sem, ↓imp_tf, ↓imp_ft, ↓reduceIte, Cc.cs]
        refine ⟨fun hlt => ?_, fun hge => ?_⟩
        · have hk : k < ifs.length := by clear hB hM; omega
          have hk' : k < ifs'.length := by clear hB hM; omega
          have hy' := hy hk hk'
          clear hy hB hM
          refine WP_drawQ puN (by kernel_rfl) (by kernel_rfl) (by kernel_rfl) ?_
          simp only [go_sem, ↓imp_tf, ↓imp_ft, ↓reduceIte, Cc.cs]
          refine ⟨⟨by omega, hlt, hy'.1.2⟩, .string (bs ifs[k]), hy'.1.1, ⟨by omega, by omega, hy'.2.1.2⟩, .string (bs ifs'[k]), hy'.2.1.1, ?_⟩
          have hat := hy'.2.2
          clear hy'
          simp only [go_sem, ↓imp_tf, ↓imp_ft, ↓reduceIte, Cc.cs]
          refine ⟨fun hne => ?_, fun he => ⟨by unfold I64; simp only [big] at bi; omega, k + 1, by simp, ⟨by omega, ?_⟩, by omega⟩⟩
          · rw [hX2, allB_no hk]
            · rfl
            · rw [hat, decide_eq_false hne]
          · rw [allB_succ, h3, hat, decide_eq_true he]
            rfl
        · clear hy
          have hk1 : k = ifs.length := by clear hB hM; omega
          have hX3 := hX2
          rw [← hk1, h3, Bool.true_and] at hX3
          clear hX2
          refine WP_loop puN (fun y : Nat => ⟨[⟨2, [], .box 0 0⟩, ⟨3, [], .box 1 0⟩, ⟨6, [], .v (.int .i64 y)⟩], [], [⟨0, 55, x.cs.map .v⟩, ⟨1, 55, x'.cs.map .v⟩], [], 2, m⟩)
            (fun y => y ≤ x.fn ∧ allB y (atB Fc.eq fields fields') = true) (fun y => x.fn - y) 0 (by kernel_rfl) (fun _ _ => Nat.le_refl _) (fun y hy => .inl rfl) (fun _ => ?_) ?_ ?_ ?_
          · simp only [go_sem, ↓imp_tf, ↓imp_ft, ↓reduceIte, Cc.cs]
          · simp only [go_sem, ↓imp_tf, ↓imp_ft, ↓reduceIte, Cc.cs]
            rfl
          · exact ⟨Nat.zero_le _, rfl⟩
          · rintro j ⟨q2, q3⟩
            have hy : ∀ (hk : j < fields.length) (hk' : j < fields'.length), (Rd m (ptrAt x.fa (j * 5)) (fields[j]).cs ∧ x.fa ≠ none) ∧ (Rd m (ptrAt x'.fa (j * 5)) (fields'[j]).cs ∧ x'.fa ≠ none) ∧ atB Fc.eq fields fields' j = Fc.eq fields[j] fields'[j] := fun hk hk' => by
              have q1 := Rds_cells r2 (by omega : j < x.fn)
              have q2 := Rds_cells r2' (by omega : j < x'.fn)
              rw [flat_at (f := Fc.cs) (sz := 5) (fun _ => rfl) hk] at q1
              rw [flat_at (f := Fc.cs) (sz := 5) (fun _ => rfl) hk'] at q2
              exact ⟨q1, q2, atB_at hk hk'⟩
            simp only [go_sem, ↓imp_tf, ↓imp_ft, ↓reduceIte, Cc.cs]
            refine ⟨fun hlt => ?_, fun hge2 => ?_⟩
            · have hk : j < fields.length := by clear hB hM; omega
              have hk' : j < fields'.length := by clear hB hM; omega
              have hy' := hy hk hk'
              clear hy hB hM
              refine WP_drawQ puN (by kernel_rfl) (by kernel_rfl) (by kernel_rfl) ?_
              simp only [go_sem, ↓imp_tf, ↓imp_ft, ↓reduceIte, Cc.cs]
              refine ⟨⟨by omega, hlt, hy'.1.2⟩, (fields[j]).cs, ⟨hy'.1.1, rfl⟩, ⟨by omega, by omega, hy'.2.1.2⟩, (fields'[j]).cs, ⟨hy'.2.1.1, rfl⟩, ?_⟩
              have hat := hy'.2.2
              clear hy'
              simp only [go_sem, ↓imp_tf, ↓imp_ft, ↓reduceIte, Cc.cs, Fc.cs, eqOkF]
              refine ⟨fun hne => ?_, fun he => ⟨by unfold I64; simp only [big] at bf; omega, j + 1, by simp, ⟨by omega, ?_⟩, by omega⟩⟩
              · rw [hX3, allB_no hk]
                · rfl
                · rw [hat, Fc.eq]
                  rcases hne with h | h | h | h | h <;> simp [h]
              · rw [allB_succ, q3, hat, Fc.eq]
                simp [he]
            · clear hy
              have hk2 : j = fields.length := by clear hB hM; omega
              have hX4 := hX3
              rw [← hk2, q3, Bool.true_and] at hX4
              clear hX3
              refine WP_loop puN (fun y : Nat × Mem => ⟨[⟨2, [], .box 0 0⟩, ⟨3, [], .box 1 0⟩, ⟨7, [], .v (.int .i64 y.1)⟩], [], [⟨0, 55, x.cs.map .v⟩, ⟨1, 55, x'.cs.map .v⟩], [], 2, y.2⟩)
                (fun y => leM m y.2 ∧ y.1 ≤ x.ml ∧ allB y.1 (atB eqM methods methods') = true) (fun y => x.ml - y.1) (0, m) (by kernel_rfl) (fun _ _ => Nat.le_refl _) (fun y hy => hy.1) (fun _ => ?_) ?_ ?_ ?_
              · simp only [go_sem, ↓imp_tf, ↓imp_ft, ↓reduceIte, Cc.cs]
              · simp only [go_sem, ↓imp_tf, ↓imp_ft, ↓reduceIte, Cc.cs]
                rfl
              · exact ⟨.inl rfl, Nat.zero_le _, rfl⟩
              · rintro ⟨i, mm⟩ ⟨g1, g2, g3⟩
                simp only at g1 g2 g3
                have hy : ∀ (hk : i < methods.length), ∃ X Y : Mc, (Rd mm (ptrAt x.ma (i * 8)) X.cs ∧ x.ma ≠ none) ∧ (Rd mm (ptrAt x'.ma (i * 8)) Y.cs ∧ x'.ma ≠ none) ∧ Ans 128 [.v (.agg ⟨X.cs⟩), .v (.agg ⟨Y.cs⟩)] mm (.bool (atB eqM methods methods' i)) := fun hk => by
                  obtain ⟨X, Y, e1, e2, e3⟩ := hM mm g1 i hk e3
                  have q1 := Rds_cells (Rds_upM g1 r3) (by omega : i < x.ml)
                  have q2 := Rds_cells (Rds_upM g1 r3') (by omega : i < x'.ml)
                  rw [e1] at q1
                  rw [e2] at q2
                  exact ⟨X, Y, q1, q2, e3 mm (.inl rfl)⟩
                clear hM
                have hB' := hB mm g1
                clear hB
                simp only [go_sem, ↓imp_tf, ↓imp_ft, ↓reduceIte, Cc.cs]
                refine ⟨fun hlt => ?_, fun hge3 => ⟨by kernel_rfl, FnV_of (hB'.mono ?_)⟩⟩
                · clear hB'
                  have hk : i < methods.length := by clear hy; omega
                  refine WP_draw (.hoist 0 (.hoist 1 (.hoist 2 (.hoist 3 (.hoist 4 (.hoist 5 (.hoist 6 (.hoist 7 (.hoist 8 (.hoist 9 (.alt 10 [] (.hoist 11 .done) .stop))))))))))) puN (by kernel_rfl) (by kernel_rfl) ?_
                  simp only [go_sem, ↓imp_tf, ↓imp_ft, ↓reduceIte, Cc.cs]
                  refine Exists.elim (hy hk) fun X hy1 => Exists.elim hy1 fun Y hy2 => ⟨⟨by clear hy hy1 hy2; omega, hlt, hy2.1.2⟩, X.cs, ⟨hy2.1.1, rfl⟩, ⟨by clear hy hy1 hy2; omega, by clear hy hy1 hy2; omega, hy2.2.1.2⟩, Y.cs, ⟨hy2.2.1.1, rfl⟩, ?_⟩
                  clear hy hy1
                  have ha := hy2.2.2
                  clear hy2
                  simp only [go_sem, ↓imp_tf, ↓imp_ft, ↓reduceIte, Cc.cs, Mc.cs]
                  refine ⟨by kernel_rfl, FnV_of ((FnH_den ha (fun V => rfl)).mono ?_)⟩
                  clear ha
                  rintro r H' m2 hm2 ⟨hle2, rfl, rfl⟩
                  simp only [go_sem, ↓imp_tf, ↓imp_ft, ↓reduceIte, Cc.cs]
                  refine ⟨fun hb => ⟨leM_tr g1 hle2, ?_⟩, fun hb => ⟨by unfold I64; simp only [big] at bm; omega, (i + 1, m2), ⟨by simp, .inl rfl⟩, ⟨leM_tr g1 hle2, by simp only; omega, ?_⟩, by simp only; omega⟩⟩
                  · rw [hX4, allB_no hk hb]; rfl
                  · simp only
                    rw [allB_succ, g3, hb]
                    rfl
                · clear hy hB'
                  have hk3 : i = methods.length := by omega
                  rw [← hk3, g3, Bool.true_and] at hX4
                  rintro r H' m2 hm2 ⟨l2, rfl, rfl⟩
                  simp only [go_sem, ↓imp_tf, ↓imp_ft, ↓reduceIte, Cc.cs]
                  exact ⟨leM_tr g1 l2, hX4.symm⟩
theorem rEqual_spec (a b : List Cd) (p : Option Addr) (n c : Nat) (p' : Option Addr) (n' c' : Nat) (m : Mem) (ha : prRep m a p n c) (hb : prRep m b p' n' c') : Ans 26 [.v (.slice p n c), .v (.slice p' n' c')] m (.bool (all2 eqC a b)) := by
  obtain ⟨hl, hcp, hn, xs, r1, s1⟩ := ha
  obtain ⟨hl', hcp', hn', xs', r1', s1'⟩ := hb
  have hX : all2 eqC a b = (decide (a.length = b.length) && allB a.length (atB eqC a b)) := all2_allB _ _ _
  have hM := fun m' (hle : leM m m') => eq_fact (R := cdRep) (csN := Cc.cs) (e := eqC) (f := 60) (fun _ _ _ _ h => cdRep_up h) (fun _ _ _ => cdRep_cc) (fun i hi => cdRep_up hle (ls_at s1 hi)) (fun i hi => cdRep_up hle (ls_at s1' hi)) (fun a ha b hb ca cb m2 hle2 => sameD_all a b ca cb m2)
  clear s1 s1'
  refine enter cfN puN Tryz.func26 rfl rfl (by kernel_rfl) rfl ?_ ?_
  · simp only [go_sem, ↓imp_tf, ↓imp_ft, ↓reduceIte]
  · simp only [go_sem, ↓imp_tf, ↓imp_ft, ↓reduceIte]
    refine ⟨fun hne => ?_, fun heq => ?_⟩
    · rw [hX, decide_eq_false (by clear hM; omega : ¬ a.length = b.length)]; rfl
    · have hll : a.length = b.length := by clear hM; omega
      rw [decide_eq_true hll, Bool.true_and] at hX
      refine WP_loop puN (fun y : Nat × Mem => ⟨[⟨0, [], .v (.slice p n c)⟩, ⟨1, [], .v (.slice p' n' c')⟩, ⟨5, [], .v (.int .i64 y.1)⟩], [], [], [], 0, y.2⟩)
        (fun y => leM m y.2 ∧ y.1 ≤ n ∧ allB y.1 (atB eqC a b) = true) (fun y => n - y.1) (0, m) (by kernel_rfl) (fun _ _ => Nat.le_refl _) (fun y hy => hy.1) (fun _ => ?_) ?_ ?_ ?_
      · simp only [go_sem, ↓imp_tf, ↓imp_ft, ↓reduceIte]
      · simp only [go_sem, ↓imp_tf, ↓imp_ft, ↓reduceIte]
        rfl
      · exact ⟨.inl rfl, Nat.zero_le _, rfl⟩
      · rintro ⟨k, mm⟩ ⟨h1, h2, h3⟩
        simp only at h1 h2 h3
        have hy : ∀ (hk : k < a.length), ∃ X Y : Cc, (Rd mm (ptrAt p (k * 7)) X.cs ∧ p ≠ none) ∧ (Rd mm (ptrAt p' (k * 7)) Y.cs ∧ p' ≠ none) ∧ Ans 60 [.v (.agg ⟨X.cs⟩), .v (.agg ⟨Y.cs⟩)] mm (.bool (atB eqC a b k)) := fun hk => by
          obtain ⟨X, Y, e1, e2, e3⟩ := hM mm h1 k hk hll
          have q1 := Rds_cells (Rds_upM h1 r1) (by omega : k < n)
          have q2 := Rds_cells (Rds_upM h1 r1') (by omega : k < n')
          rw [e1] at q1
          rw [e2] at q2
          exact ⟨X, Y, q1, q2, e3 mm (.inl rfl)⟩
        clear hM
        simp only [go_sem, ↓imp_tf, ↓imp_ft, ↓reduceIte]
        refine ⟨fun hlt => ?_, fun hge => ?_⟩
        · have hk : k < a.length := by clear hy; omega
          refine WP_draw (.hoist 0 (.hoist 1 (.hoist 2 (.hoist 3 (.hoist 4 (.hoist 5 (.hoist 6 (.hoist 7 (.alt 8 [] (.hoist 9 .done) .stop))))))))) puN (by kernel_rfl) (by kernel_rfl) ?_
          simp only [go_sem, ↓imp_tf, ↓imp_ft, ↓reduceIte]
          refine Exists.elim (hy hk) fun X hy1 => Exists.elim hy1 fun Y hy2 => ⟨⟨by clear hy hy1 hy2; omega, hlt, hy2.1.2⟩, X.cs, ⟨hy2.1.1, rfl⟩, ⟨by clear hy hy1 hy2; omega, by clear hy hy1 hy2; omega, hy2.2.1.2⟩, Y.cs, ⟨hy2.2.1.1, rfl⟩, ?_⟩
          clear hy hy1
          have ha := hy2.2.2
          clear hy2
          simp only [go_sem, ↓imp_tf, ↓imp_ft, ↓reduceIte, Cc.cs]
          refine ⟨by kernel_rfl, FnV_of ((FnH_den ha (fun V => rfl)).mono ?_)⟩
          clear ha
          rintro r H' m2 hm2 ⟨hle2, rfl, rfl⟩
          simp only [go_sem, ↓imp_tf, ↓imp_ft, ↓reduceIte, Cc.cs]
          refine ⟨fun hb => ⟨leM_tr h1 hle2, ?_⟩, fun hb => ⟨by unfold I64; simp only [big] at hn; omega, (k + 1, m2), ⟨by simp, .inl rfl⟩, ⟨leM_tr h1 hle2, by simp only; omega, ?_⟩, by simp only; omega⟩⟩
          · rw [hX, allB_no hk hb]
          · simp only
            rw [allB_succ, h3, hb]
            rfl
        · have : k = a.length := by clear hy; omega
          refine ⟨h1, ?_⟩
          rw [hX, ← this, h3]
end Go.Proofs.YtalalcpefggniaaGreatDoor.E

namespace Go.Proofs.YtalalcpefggniaaGreatDoor.E
open Go

theorem Ty.eq_self (x : Ty) : Ty.eq x x = true := by simp [Ty.eq]
theorem dec_comm {α : Type} [DecidableEq α] (a b : α) : decide (a = b) = decide (b = a) := by rw [decide_eq_decide]; exact eq_comm
theorem Ty.eq_comm (x y : Ty) : Ty.eq x y = Ty.eq y x := by rw [Ty.eq, Ty.eq, dec_comm x.dim, dec_comm x.base, dec_comm x.name]
mutual
theorem eqE_self : ∀ (e : Ex), eqE e e = true
  | .mk k n s c ty args => by rw [eqE, Ty.eq_self, eqEs_self args]; simp
theorem eqEs_self : ∀ (l : List Ex), eqEs l l = true
  | [] => by simp only [eqEs]
  | e :: r => by rw [eqEs, eqE_self e, eqEs_self r]; rfl
end
mutual
theorem eqE_comm : ∀ (e f : Ex), eqE e f = eqE f e
  | .mk k n s c ty args, .mk k' n' s' c' ty' args' => by rw [eqE, eqE, Ty.eq_comm, eqEs_comm args args', dec_comm k, dec_comm n, dec_comm s, dec_comm c]
theorem eqEs_comm : ∀ (l m : List Ex), eqEs l m = eqEs m l
  | [], [] => rfl
  | [], _ :: _ => by simp only [eqEs]
  | _ :: _, [] => by simp only [eqEs]
  | e :: r, f :: t => by rw [eqEs, eqEs, eqE_comm e f, eqEs_comm r t]
end
mutual
theorem eqS_self : ∀ (e : St), eqS e e = true
  | .mk k nm ty tg ex body alt => by rw [eqS, Ty.eq_self, eqE_self, eqE_self, eqSs_self body, eqSs_self alt]; simp
theorem eqSs_self : ∀ (l : List St), eqSs l l = true
  | [] => by simp only [eqSs]
  | e :: r => by rw [eqSs, eqS_self e, eqSs_self r]; rfl
end
mutual
theorem eqS_comm : ∀ (e f : St), eqS e f = eqS f e
  | .mk k nm ty tg ex body alt, .mk k' nm' ty' tg' ex' body' alt' => by rw [eqS, eqS, Ty.eq_comm, eqE_comm tg, eqE_comm ex, eqSs_comm body body', eqSs_comm alt alt', dec_comm k, dec_comm nm]
theorem eqSs_comm : ∀ (l m : List St), eqSs l m = eqSs m l
  | [], [] => rfl
  | [], _ :: _ => by simp only [eqSs]
  | _ :: _, [] => by simp only [eqSs]
  | e :: r, f :: t => by rw [eqSs, eqSs, eqS_comm e f, eqSs_comm r t]
end
theorem all2_self {α : Type} {e : α → α → Bool} (h : ∀ a, e a a = true) : ∀ (l : List α), all2 e l l = true
  | [] => rfl
  | a :: r => by rw [all2, h, all2_self h r]; rfl
theorem all2_comm {α : Type} {e : α → α → Bool} (h : ∀ a b, e a b = e b a) : ∀ (l m : List α), all2 e l m = all2 e m l
  | [], [] => rfl
  | [], _ :: _ => rfl
  | _ :: _, [] => rfl
  | a :: r, b :: t => by rw [all2, all2, h a b, all2_comm h r t]
theorem Pc.eq_self (p : Pc) : Pc.eq p p = true := by simp [Pc.eq]
theorem Fc.eq_self (p : Fc) : Fc.eq p p = true := by simp [Fc.eq]
theorem Pc.eq_comm (p q : Pc) : Pc.eq p q = Pc.eq q p := by rw [Pc.eq, Pc.eq, dec_comm p.ty.dim, dec_comm p.ty.base, dec_comm p.ty.name, dec_comm p.name]
theorem Fc.eq_comm (p q : Fc) : Fc.eq p q = Fc.eq q p := by rw [Fc.eq, Fc.eq, dec_comm p.fl, dec_comm p.ty.dim, dec_comm p.ty.base, dec_comm p.ty.name, dec_comm p.name]
theorem eqM_self (x : Md) : eqM x x = true := by rw [eqM, Ty.eq_self, all2_self Pc.eq_self, eqSs_self]; simp
theorem eqM_comm (x y : Md) : eqM x y = eqM y x := by
  rw [eqM, eqM, Ty.eq_comm, all2_comm Pc.eq_comm, eqSs_comm x.body, dec_comm x.fl, dec_comm x.name]
  have : (x.hb == y.hb) = (y.hb == x.hb) := by cases x.hb <;> cases y.hb <;> rfl
  rw [this]
theorem eqC_self (x : Cd) : eqC x x = true := by rw [eqC, all2_self Fc.eq_self, all2_self eqM_self, eqSs_self]; simp
theorem eqC_comm (x y : Cd) : eqC x y = eqC y x := by
  rw [eqC, eqC, all2_comm Fc.eq_comm, all2_comm eqM_comm, eqSs_comm x.init, dec_comm x.fl, dec_comm x.name, dec_comm x.super, dec_comm x.ifs]
end Go.Proofs.YtalalcpefggniaaGreatDoor.E

namespace Go.Proofs.YtalalcpefggniaaGreatDoor.E
open Go

def At0 (t : Tk) : Prop := t.at_ = 0
theorem tkP_at : TkP At0 where
  s := ⟨⟨rfl, rfl, rfl, rfl, rfl, rfl, rfl, rfl, rfl, rfl, rfl, rfl, rfl, rfl, rfl, rfl⟩, rfl, rfl, rfl, rfl, rfl, rfl, rfl, rfl, rfl, rfl, rfl, rfl, rfl, rfl, rfl, rfl, rfl, fun _ _ => rfl⟩
  nm := fun _ _ _ => rfl
  int := fun _ _ _ => rfl
  long := fun _ _ _ => rfl
  str := fun _ _ => rfl
  op := fun _ _ => rfl
  neg := rfl
  not := rfl
theorem same2 : ∀ {ts A B : List Tk}, sameL ts A = true → sameL ts B = true → AllT At0 A → AllT At0 B → A = B
  | [], [], [], _, _, _, _ => rfl
  | [], _ :: _, _, h, _, _, _ => by simp [sameL] at h
  | [], _, _ :: _, _, h, _, _ => by simp [sameL] at h
  | _ :: _, [], _, h, _, _, _ => by simp [sameL] at h
  | _ :: _, _, [], _, h, _, _ => by simp [sameL] at h
  | t :: ts, x :: A, y :: B, h1, h2, h3, h4 => by
    simp only [sameL, Bool.and_eq_true, decide_eq_true_eq] at h1 h2
    have hx : x.at_ = 0 := h3 x (List.mem_cons_self ..)
    have hy : y.at_ = 0 := h4 y (List.mem_cons_self ..)
    have := same2 h1.2 h2.2 (fun t ht => h3 t (List.mem_cons_of_mem _ ht)) (fun t ht => h4 t (List.mem_cons_of_mem _ ht))
    obtain ⟨⟨⟨g1, g2⟩, g3⟩, _⟩ := h1
    obtain ⟨⟨⟨k1, k2⟩, k3⟩, _⟩ := h2
    rw [this]
    congr 1
    cases x; cases y
    simp only at *
    rw [Tk.mk.injEq]
    exact ⟨g1.symm.trans k1, g2.symm.trans k2, g3.symm.trans k3, hx.trans hy.symm⟩
theorem joins_eq {A B : List Tk} (iA : ∀ t ∈ A, I64 t.n) (iB : ∀ t ∈ B, I64 t.n) (aA : AllT At0 A) (aB : AllT At0 B) (h1 : (joinL A).2 = 0) (h2 : (joinL B).2 = 0) (h : (joinL A).1 = (joinL B).1) : A = B := by
  obtain ⟨ts, t1, s1⟩ := join_tok iA h1
  obtain ⟨us, t2, s2⟩ := join_tok iB h2
  rw [h, t2] at t1
  have e : us = ts := (Prod.mk.inj t1).1
  subst e
  exact same2 s1 s2 aA aB
theorem Pc.of_eq {x y : Pc} (h : Pc.eq x y = true) : x = y := by
  obtain ⟨⟨d, b, n⟩, s⟩ := x
  obtain ⟨⟨d', b', n'⟩, s'⟩ := y
  simp only [Pc.eq, Bool.and_eq_true, decide_eq_true_eq] at h
  obtain ⟨rfl, rfl, rfl, rfl⟩ := h
  rfl
theorem Fc.of_eq {x y : Fc} (h : Fc.eq x y = true) : x = y := by
  obtain ⟨f, ⟨d, b, n⟩, s⟩ := x
  obtain ⟨f', ⟨d', b', n'⟩, s'⟩ := y
  simp only [Fc.eq, Bool.and_eq_true, decide_eq_true_eq] at h
  obtain ⟨rfl, rfl, rfl, rfl, rfl⟩ := h
  rfl
theorem all2_of {α : Type} {e : α → α → Bool} (he : ∀ a b, e a b = true → a = b) : ∀ {l m : List α}, all2 e l m = true → l = m
  | [], [], _ => rfl
  | [], _ :: _, h => by simp [all2] at h
  | _ :: _, [], h => by simp [all2] at h
  | a :: l, b :: m, h => by
    simp only [all2, Bool.and_eq_true] at h
    rw [he a b h.1, all2_of he h.2]
theorem of_eqM (x y : Md) (h : eqM x y = true) : x = y := by
  obtain ⟨f, t, n, p, b, s⟩ := x
  obtain ⟨f', t', n', p', b', s'⟩ := y
  simp only [eqM, Bool.and_eq_true, decide_eq_true_eq, beq_iff_eq] at h
  obtain ⟨⟨⟨⟨⟨h1, h2⟩, h3⟩, h4⟩, h5⟩, h6⟩ := h
  rw [h1, Ty.of_eq h2, h3, h4, all2_of (fun _ _ => Pc.of_eq) h5, of_eqSs _ _ h6]
theorem of_eqC (x y : Cd) (h : eqC x y = true) : x = y := by
  obtain ⟨f, n, s, i, fs, ms, st⟩ := x
  obtain ⟨f', n', s', i', fs', ms', st'⟩ := y
  simp only [eqC, Bool.and_eq_true, decide_eq_true_eq] at h
  obtain ⟨⟨⟨⟨⟨⟨h1, h2⟩, h3⟩, h4⟩, h5⟩, h6⟩, h7⟩ := h
  rw [h1, h2, h3, h4, all2_of (fun _ _ => Fc.of_eq) h5, all2_of of_eqM h6, of_eqSs _ _ h7]
theorem prog_own {a b : List Cd} (wa : ∀ d ∈ a, wfC d) (za : (a.map sizeC).sum ≤ 1048576) (wb : ∀ d ∈ b, wfC d) (zb : (b.map sizeC).sum ≤ 1048576) (ha : (checkL [] a).2 = 0 ∧ (fmtP a).2 = 0) (hb : (checkL [] b).2 = 0 ∧ (fmtP b).2 = 0) :
    decide ((fmtP a).1 = (fmtP b).1) = all2 eqC a b := by
  have ea : fmtP a = joinL (progT a) := if_pos ha.1
  have eb : fmtP b = joinL (progT b) := if_pos hb.1
  have va := fun d hd => (check_ok ha.1 d hd).1
  have vb := fun d hd => (check_ok hb.1 d hd).1
  rw [Bool.eq_iff_iff, decide_eq_true_eq]
  refine ⟨fun h => ?_, fun h => by rw [all2_of of_eqC h]⟩
  rw [ea] at ha h
  rw [eb] at hb h
  have hT := joins_eq (fun t ht => ((prog_tk wa za (by first | exact ha.1)).2 t ht).2) (fun t ht => ((prog_tk wb zb hb.1).2 t ht).2) (prog_p tkP_at wa va) (prog_p tkP_at wb vb) ha.2 hb.2 h
  rw [prog_inj wa va wb vb hT]
  exact all2_self eqC_self _
theorem fmtP_check {a : List Cd} (h : (fmtP a).2 = 0) : (checkL [] a).2 = 0 := by
  unfold fmtP at h
  split at h
  · rename_i h0; exact h0
  · exact h
theorem fmtE_ok {e : Ex} (h : (fmtE e).2 = 0) : validE e = true ∧ fmtE e = joinL (exprT e) := by
  unfold fmtE at h ⊢
  split at h
  · rename_i hv
    split at h
    · cases h
    · rename_i hd
      exact ⟨hv, by rw [if_pos hv, if_neg hd]⟩
  · cases h
theorem expr_own {a b : Ex} (wa : wfE a) (wb : wfE b) (ha : (fmtE a).2 = 0) (hb : (fmtE b).2 = 0) : decide ((fmtE a).1 = (fmtE b).1) = eqE a b := by
  obtain ⟨va, ea⟩ := fmtE_ok ha
  obtain ⟨vb, eb⟩ := fmtE_ok hb
  rw [Bool.eq_iff_iff, decide_eq_true_eq]
  refine ⟨fun h => ?_, fun h => by rw [of_eqE a b h]⟩
  rw [ea] at ha h
  rw [eb] at hb h
  have hT := joins_eq (fun t ht => (tks_p tkP_ok a wa va t ht).2) (fun t ht => (tks_p tkP_ok b wb vb t ht).2) (tks_p tkP_at a wa va) (tks_p tkP_at b wb vb) ha hb h
  rw [expr_inj va vb hT]
  exact eqE_self b
end Go.Proofs.YtalalcpefggniaaGreatDoor.E

namespace Go.Proofs.YtalalcpefggniaaGreatDoor.E
open Go

theorem own_spec (a b : List Cd) (ex ey : Ex) (p : Option Addr) (n c : Nat) (p' : Option Addr) (n' c' : Nat) (cx cy : List Value) (m : Mem) (hg : Glob m) (ha : prRep m a p n c) (hb : prRep m b p' n' c') (hx : exRep m ex cx) (hy : exRep m ey cy)
    (fa : FewB a) (fb : FewB b) (Ca : ∀ d ∈ a, CdB d) (Cb : ∀ d ∈ b, CdB d) (za : (a.map sizeC).sum ≤ 1048576) (zb : (b.map sizeC).sum ≤ 1048576) (sx : sizeE ex ≤ big) (sy : sizeE ey ≤ big) (dx : depthE ex ≤ big) (dy : depthE ey ≤ big) :
    Ans 7 [.v (.slice p n c), .v (.slice p' n' c'), .v (.agg ⟨cx⟩), .v (.agg ⟨cy⟩)] m (.bool true) := by
  obtain ⟨x, rfl⟩ := exRep_nd hx
  obtain ⟨y, rfl⟩ := exRep_nd hy
  have wa := wfP_rep ha
  have wb := wfP_rep hb
  have wx := wfE_rep ex x.cs hx
  have wy := wfE_rep ey y.cs hy
  have hF1 := few_spec a p n c m ha fa
  have hF2 := fun m' (hle : leM m m') => few_spec b p' n' c' m' (prRep_up hle hb) fb
  have hN1 := fun m' (hle : leM m m') => exprs_all _ ex 300 x.cs m' (Nat.le_refl _) sx (by decide) (by decide) (exRep_upM hle hx)
  have hN2 := fun m' (hle : leM m m') => exprs_all _ ey 300 y.cs m' (Nat.le_refl _) sy (by decide) (by decide) (exRep_upM hle hy)
  have hA := fun m' (hle : leM m m') => awake_spec m' (hg.upM hle)
  have hP1 := fun m' (hle : leM m m') => formatP_spec a p n c m' (hg.upM hle) Ca (fun h0 d hd => wrOk_of (check_ok h0 d hd).1 (wa d hd).1) (fun h0 => prog_tk wa za h0) (prRep_up hle ha)
  have hP2 := fun m' (hle : leM m m') => formatP_spec b p' n' c' m' (hg.upM hle) Cb (fun h0 d hd => wrOk_of (check_ok h0 d hd).1 (wb d hd).1) (fun h0 => prog_tk wb zb h0) (prRep_up hle hb)
  have hE1 := fun m' (hle : leM m m') => fexpr_spec ex x.cs m' (hg.upM hle) (exRep_upM hle hx) sx dx
  have hE2 := fun m' (hle : leM m m') => fexpr_spec ey y.cs m' (hg.upM hle) (exRep_upM hle hy) sy dy
  have hR : ∀ (h1 : (fmtP a).2 = 0) (h2 : (fmtP b).2 = 0) (m' : Mem) (hle : leM m m'), Ans 26 [.v (.slice p n c), .v (.slice p' n' c')] m' (.bool (decide ((fmtP a).1 = (fmtP b).1))) := fun h1 h2 m' hle => by
    rw [prog_own wa za wb zb ⟨fmtP_check h1, h1⟩ ⟨fmtP_check h2, h2⟩]
    exact rEqual_spec a b p n c p' n' c' m' (prRep_up hle ha) (prRep_up hle hb)
  have hS : ∀ (h1 : (fmtE ex).2 = 0) (h2 : (fmtE ey).2 = 0) (m' : Mem) (hle : leM m m'), Ans 30 [.v (.agg ⟨x.cs⟩), .v (.agg ⟨y.cs⟩)] m' (.bool (decide ((fmtE ex).1 = (fmtE ey).1))) := fun h1 h2 m' hle => by
    rw [expr_own wx wy h1 h2]
    exact same_all _ ex ey x.cs y.cs m' (Nat.le_refl _) (exRep_upM hle hx) (exRep_upM hle hy)
  clear hg ha hb hx hy fa fb Ca Cb za zb sx sy dx dy wa wb wx wy
  refine enter cfW puW Tryz.func7 rfl rfl (by kernel_rfl) rfl ?_ ?_
  · simp only [go_sem, ↓imp_tf, ↓imp_ft, ↓reduceIte, Nd.cs]
  · simp only [go_sem, ↓imp_tf, ↓imp_ft, ↓reduceIte, Nd.cs]
    refine ⟨by kernel_rfl, FnV_of (hF1.mono ?_)⟩
    clear hF1
    rintro r H' m1 hm1 ⟨l1, rfl, b1, rfl⟩
    simp only [go_sem, ↓imp_tf, ↓imp_ft, ↓reduceIte, Nd.cs]
    have aw : ∀ m', leM m m' → ∀ {K : SV → Hp → Mem → Prop}, (∀ r H' m2, m'.le m2 → leM m' m2 ∧ H' = ⟨[], []⟩ ∧ r = .v (.bool true) → K r H' m2) → FnV (.mk (k := (Tryz.prog, 10, K)) ([], ⟨[], []⟩, m')) := fun m' hle K h => FnV_of ((hA m' hle).mono h)
    refine ⟨fun c1 => ⟨by kernel_rfl, FnV_of ((hF2 m1 l1).mono ?_)⟩, fun c1 => ⟨by kernel_rfl, aw m1 l1 ?_⟩⟩
    · clear hF2
      rintro r H' m2 hm2 ⟨l2, rfl, b2, rfl⟩
      have k2 := leM_tr l1 l2
      simp only [go_sem, ↓imp_tf, ↓imp_ft, ↓reduceIte, Nd.cs]
      refine ⟨fun c2 => ⟨by kernel_rfl, FnV_of ((FnH_den (hN1 m2 k2) (fun V => rfl)).mono ?_)⟩, fun c2 => ⟨by kernel_rfl, aw m2 k2 ?_⟩⟩
      · clear hN1
        rintro r H' m3 hm3 ⟨l3, rfl, u, rfl, hu1, hu2⟩
        have k3 := leM_tr k2 l3
        simp only [go_sem, ↓imp_tf, ↓imp_ft, ↓reduceIte, Nd.cs]
        refine ⟨fun c3 => ⟨by kernel_rfl, FnV_of ((FnH_den (hN2 m3 k3) (fun V => rfl)).mono ?_)⟩, fun c3 => ⟨by kernel_rfl, aw m3 k3 ?_⟩⟩
        · clear hN2
          rintro r H' m4 hm4 ⟨l4, rfl, v, rfl, hv1, hv2⟩
          have k4 := leM_tr k3 l4
          simp only [go_sem, ↓imp_tf, ↓imp_ft, ↓reduceIte, Nd.cs]
          refine ⟨fun c4 => ⟨by kernel_rfl, aw m4 k4 ?_⟩, fun c4 => ⟨by kernel_rfl, FnV_of ((hP1 m4 k4).mono ?_)⟩⟩
          · clear hA aw hP1 hP2 hE1 hE2 hR hS
            rintro r H' m5 hm5 ⟨l5, rfl, rfl⟩
            simp only [go_sem, ↓imp_tf, ↓imp_ft, ↓reduceIte, Nd.cs]
            exact leM_tr k4 l5
          · clear hP1
            rintro r H' m5 hm5 ⟨l5, rfl, rfl⟩
            have k5 := leM_tr k4 l5
            simp only [go_sem, ↓imp_tf, ↓imp_ft, ↓reduceIte, Nd.cs]
            refine ⟨by kernel_rfl, FnV_of ((hP2 m5 k5).mono ?_)⟩
            clear hP2
            rintro r H' m6 hm6 ⟨l6, rfl, rfl⟩
            have k6 := leM_tr k5 l6
            simp only [go_sem, ↓imp_tf, ↓imp_ft, ↓reduceIte, Nd.cs]
            refine ⟨by kernel_rfl, FnV_of ((FnH_den (hE1 m6 k6) (fun V => rfl)).mono ?_)⟩
            clear hE1
            rintro r H' m7 hm7 ⟨l7, rfl, rfl⟩
            have k7 := leM_tr k6 l7
            simp only [go_sem, ↓imp_tf, ↓imp_ft, ↓reduceIte, Nd.cs]
            refine ⟨by kernel_rfl, FnV_of ((FnH_den (hE2 m7 k7) (fun V => rfl)).mono ?_)⟩
            clear hE2
            rintro r H' m8 hm8 ⟨l8, rfl, rfl⟩
            have k8 := leM_tr k7 l8
            simp only [go_sem, ↓imp_tf, ↓imp_ft, ↓reduceIte, Nd.cs]
            refine ⟨fun hh => ⟨by kernel_rfl, FnV_of ((hR hh.1 hh.2 m8 k8).mono ?_)⟩, fun hh => ⟨by kernel_rfl, aw m8 k8 ?_⟩⟩
            · clear hR
              rintro r H' m9 hm9 ⟨l9, rfl, rfl⟩
              have k9 := leM_tr k8 l9
              simp only [go_sem, ↓imp_tf, ↓imp_ft, ↓reduceIte, Nd.cs]
              refine ⟨by kernel_rfl, by kernel_rfl, aw m9 k9 ?_⟩
              clear hA aw
              rintro r H' ma hma ⟨la, rfl, rfl⟩
              have ka := leM_tr k9 la
              simp only [go_sem, ↓imp_tf, ↓imp_ft, ↓reduceIte, Nd.cs]
              refine ⟨fun he => ⟨by kernel_rfl, FnV_of ((FnH_den (hS he.1 he.2 ma ka) (fun V => rfl)).mono ?_)⟩, fun _ => ka⟩
              clear hS
              rintro r H' mz hmz ⟨lz, rfl, rfl⟩
              have kz := leM_tr ka lz
              simp only [go_sem, ↓imp_tf, ↓imp_ft, ↓reduceIte, Nd.cs]
              exact ⟨by kernel_rfl, kz⟩
            · clear hA aw hR
              rintro r H' m9 hm9 ⟨l9, rfl, rfl⟩
              have k9 := leM_tr k8 l9
              simp only [go_sem, ↓imp_tf, ↓imp_ft, ↓reduceIte, Nd.cs]
              refine ⟨fun he => ⟨by kernel_rfl, FnV_of ((FnH_den (hS he.1 he.2 m9 k9) (fun V => rfl)).mono ?_)⟩, fun _ => k9⟩
              clear hS
              rintro r H' mz hmz ⟨lz, rfl, rfl⟩
              have kz := leM_tr k9 lz
              simp only [go_sem, ↓imp_tf, ↓imp_ft, ↓reduceIte, Nd.cs]
              exact ⟨by kernel_rfl, kz⟩
        · clear hA aw hN2 hP1 hP2 hE1 hE2 hR hS
          rintro r H' m4 hm4 ⟨l4, rfl, rfl⟩
          simp only [go_sem, ↓imp_tf, ↓imp_ft, ↓reduceIte, Nd.cs]
          exact leM_tr k3 l4
      · clear hA aw hN1 hN2 hP1 hP2 hE1 hE2 hR hS
        rintro r H' m3 hm3 ⟨l3, rfl, rfl⟩
        simp only [go_sem, ↓imp_tf, ↓imp_ft, ↓reduceIte, Nd.cs]
        exact leM_tr k2 l3
    · clear hA aw hN1 hN2 hP1 hP2 hE1 hE2 hR hS hF2
      rintro r H' m2 hm2 ⟨l2, rfl, rfl⟩
      simp only [go_sem, ↓imp_tf, ↓imp_ft, ↓reduceIte, Nd.cs]
      exact leM_tr l1 l2
end Go.Proofs.YtalalcpefggniaaGreatDoor.E

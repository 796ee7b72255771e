/- Several texts in one: AstU, AstUa, AstW, AstWa, AstWb, AstWc. -/
import Derived.Test.YtalalcpefggniaaGreatDoorMrgG
/- ast, part U: well-formed fields, methods, classes. -/
set_option linter.unusedSimpArgs false
set_option linter.unusedVariables false
namespace Go.Proofs.YtalalcpefggniaaGreatDoor.E
open Go

def hasB (fl m : Int) : Bool := !decide (bits .and .i64 fl m = 0)
def visL (fl : Int) : Bool := decide (bits .and .i64 fl 7 = 0) || decide (bits .and .i64 fl 7 = 1) || decide (bits .and .i64 fl 7 = 2) || decide (bits .and .i64 fl 7 = 4)
def onlyL (fl al : Int) : Bool := decide (bits .andNot .i64 fl al = 0)
def mflagsL (fl : Int) : Bool := visL fl && onlyL fl 1087 && !(hasB fl 1024 && hasB fl 58) && (!hasB fl 32 || !hasB fl 8)
def fieldL (f : Fc) : Bool := valueTy f.ty.dim f.ty.base f.ty.name && identL f.name && visL f.fl && onlyL f.fl 31
def paramL (p : Pc) : Bool := valueTy p.ty.dim p.ty.base p.ty.name && identL p.name
def voidTy (t : Ty) : Bool := decide (t.dim = 0) && (decide (t.base = 86) && decide (t.name = []))
def mHead (m : Md) : Bool := if m.name = initS then voidTy m.res && m.hb && onlyL m.fl 7 else identL m.name && (voidTy m.res || valueTy m.res.dim m.res.base m.res.name)
def mMid (m : Md) : Bool := mflagsL m.fl && !(m.hb == hasB m.fl 1024) && (m.hb || decide (m.body.length = 0)) && decide (m.params.length ≤ 16)
def methodL (m : Md) : Bool := mHead m && mMid m && !(m.params.any fun p => !paramL p) && blockL (decide (m.name = initS)) m.body
def objS : List UInt8 := [108, 97, 110, 103, 47, 79, 98, 106, 101, 99, 116]
def badM (m : Md) : Bool := !decide (m.fl = 1) && !decide (m.fl = 1025) || decide (m.name = initS)
def ifaceL (d : Cd) : Bool := onlyL d.fl 1537 && hasB d.fl 1024 && decide (d.super = objS) && decide (d.fields.length + d.init.length = 0) && !(d.methods.any badM)
def cHead (d : Cd) : Bool := if hasB d.fl 512 = true then ifaceL d else onlyL d.fl 1041 && !(hasB d.fl 16 && hasB d.fl 1024)
def cNames (d : Cd) : Bool := isCls d.name && isCls d.super && decide (d.ifs.length ≤ 8)
def cLens (d : Cd) : Bool := decide (d.fields.length ≤ 64) && decide (d.methods.length ≤ 64)
def classL (d : Cd) : Bool := cHead d && (cNames d && !(d.ifs.any fun s => !isCls s) && cLens d && !(d.fields.any fun f => !fieldL f) && !(d.methods.any fun f => !methodL f) && blockL false d.init)
def pI1 (F : Int → Bool) : List Value → Option (Prop × Value)
  | [.int .i64 c] => some (True, .bool (F c))
  | _ => none
theorem pureI1 {P : Program} {f : FuncId} {F : Int → Bool} (h : ∀ c m, FnH P f [.v (.int .i64 c)] ⟨[], []⟩ m fun r H' _ => r = .v (.bool (F c)) ∧ H' = ⟨[], []⟩) : Pure0 P f (pI1 F) := fun vals y hy _ m => by
  unfold pI1 at hy
  split at hy
  · cases hy; exact h _ m
  · cases hy
def pI2 (F : Int → Int → Bool) : List Value → Option (Prop × Value)
  | [.int .i64 c, .int .i64 d] => some (True, .bool (F c d))
  | _ => none
theorem pureI2 {P : Program} {f : FuncId} {F : Int → Int → Bool} (h : ∀ c d m, FnH P f [.v (.int .i64 c), .v (.int .i64 d)] ⟨[], []⟩ m fun r H' _ => r = .v (.bool (F c d)) ∧ H' = ⟨[], []⟩) : Pure0 P f (pI2 F) := fun vals y hy _ m => by
  unfold pI2 at hy
  split at hy
  · cases hy; exact h _ _ m
  · cases hy
attribute [go_sem] pI1 pI2
set_option maxHeartbeats 4000000 in
set_option maxRecDepth 20000 in
theorem vis_spec (fl : Int) (m : Mem) : FnH Tryz.prog 144 [.v (.int .i64 fl)] ⟨[], []⟩ m fun r H' _ => r = .v (.bool (visL fl)) ∧ H' = ⟨[], []⟩ := by
  refine enter cfN puN Tryz.func144 rfl rfl (by kernel_rfl) rfl ?_ ?_
  · simp only [go_sem, ↓imp_tf, ↓imp_ft, ↓reduceIte, Nat.reduceBEq, Nat.reduceAdd, Nat.reduceMul, Nat.reduceSub, Nat.reduceEqDiff, Nat.reduceLT, Nat.reduceLeDiff, Option.map, Option.bind, List.map, List.length, reduceCtorEq, Option.toList, Option.getD, List.set, List.drop, List.take, Int.reduceToNat]
  · simp only [go_sem, ↓imp_tf, ↓imp_ft, ↓reduceIte, Nat.reduceBEq, Nat.reduceAdd, Nat.reduceMul, Nat.reduceSub, Nat.reduceEqDiff, Nat.reduceLT, Nat.reduceLeDiff, Option.map, Option.bind, List.map, List.length, reduceCtorEq, Option.toList, Option.getD, List.set, List.drop, List.take, Int.reduceToNat]
    refine ⟨fun a => ⟨fun _ => by simp [visL, a], fun n => absurd a n⟩, fun a => ⟨fun b => ⟨fun _ => by simp [visL, b], fun n => absurd b n⟩, fun b => ⟨fun c => ⟨fun _ => by simp [visL, c], fun n => absurd c n⟩, fun c => ⟨fun d => by simp [visL, d], fun d => by simp [visL, a, b, c, d]⟩⟩⟩⟩
set_option maxHeartbeats 4000000 in
set_option maxRecDepth 20000 in
theorem only_spec (fl al : Int) (m : Mem) : FnH Tryz.prog 65 [.v (.int .i64 fl), .v (.int .i64 al)] ⟨[], []⟩ m fun r H' _ => r = .v (.bool (onlyL fl al)) ∧ H' = ⟨[], []⟩ := by
  refine enter cfN puN Tryz.func65 rfl rfl (by kernel_rfl) rfl ?_ ?_
  · simp only [go_sem, ↓imp_tf, ↓imp_ft, ↓reduceIte, Nat.reduceBEq, Nat.reduceAdd, Nat.reduceMul, Nat.reduceSub, Nat.reduceEqDiff, Nat.reduceLT, Nat.reduceLeDiff, Option.map, Option.bind, List.map, List.length, reduceCtorEq, Option.toList, Option.getD, List.set, List.drop, List.take, Int.reduceToNat]
  · simp only [go_sem, ↓imp_tf, ↓imp_ft, ↓reduceIte, Nat.reduceBEq, Nat.reduceAdd, Nat.reduceMul, Nat.reduceSub, Nat.reduceEqDiff, Nat.reduceLT, Nat.reduceLeDiff, Option.map, Option.bind, List.map, List.length, reduceCtorEq, Option.toList, Option.getD, List.set, List.drop, List.take, Int.reduceToNat]
    rfl
abbrev cfF : Cfg := mkCf (fun _ => false) [(144, pI1 visL), (65, pI2 onlyL), (48, pS1 BL fun s => .bool (identL s)), (49, pTy valueTy), (67, pS1 BL fun s => .bool (isCls s))]
theorem puF : PureOk cfF Tryz.prog := pure_cons (by kernel_rfl) (pureI1 vis_spec) (pure_cons (by kernel_rfl) (pureI2 only_spec) (pure_cons (by kernel_rfl) (pureS ident_spec) (pure_cons (by kernel_rfl) (pureTy value_spec) (pure_cons (by kernel_rfl) (pureS isCls_spec) pure_nil))))
set_option maxHeartbeats 4000000 in
set_option maxRecDepth 20000 in
theorem mflags_spec (fl : Int) (m : Mem) : FnH Tryz.prog 145 [.v (.int .i64 fl)] ⟨[], []⟩ m fun r H' _ => r = .v (.bool (mflagsL fl)) ∧ H' = ⟨[], []⟩ := by
  refine enter cfF puF Tryz.func145 rfl rfl (by kernel_rfl) rfl ?_ ?_
  · simp only [go_sem, ↓imp_tf, ↓imp_ft, ↓reduceIte, Nat.reduceBEq, Nat.reduceAdd, Nat.reduceMul, Nat.reduceSub, Nat.reduceEqDiff, Nat.reduceLT, Nat.reduceLeDiff, Option.map, Option.bind, List.map, List.length, reduceCtorEq, Option.toList, Option.getD, List.set, List.drop, List.take, Int.reduceToNat]
  · simp only [go_sem, ↓imp_tf, ↓imp_ft, ↓reduceIte, Nat.reduceBEq, Nat.reduceAdd, Nat.reduceMul, Nat.reduceSub, Nat.reduceEqDiff, Nat.reduceLT, Nat.reduceLeDiff, Option.map, Option.bind, List.map, List.length, reduceCtorEq, Option.toList, Option.getD, List.set, List.drop, List.take, Int.reduceToNat]
    refine ⟨fun h => ?_, fun h => ⟨fun g => ?_, fun g => ?_⟩⟩
    · rcases h with h | h <;> simp [mflagsL, h]
    · simp [mflagsL, hasB, g.1, g.2]
    · rcases g with g | g <;> simp [mflagsL, hasB, h.1, h.2, g]
set_option maxHeartbeats 4000000 in
set_option maxRecDepth 20000 in
theorem field_spec (f : Fc) (m : Mem) (h : FcOk f) : Ans 69 [.v (.agg ⟨f.cs⟩)] m (.bool (fieldL f)) := by
  have h1 : BL f.name := Nat.le_trans h.name (by decide)
  have h2 : BL f.ty.name := Nat.le_trans h.ty.2.2 (by decide)
  refine enter cfF puF Tryz.func69 rfl rfl (by kernel_rfl) rfl ?_ ?_
  · simp only [go_sem, ↓imp_tf, ↓imp_ft, ↓reduceIte, Nat.reduceBEq, Nat.reduceAdd, Nat.reduceMul, Nat.reduceSub, Nat.reduceEqDiff, Nat.reduceLT, Nat.reduceLeDiff, Option.map, Option.bind, List.map, List.length, reduceCtorEq, Option.toList, Option.getD, List.set, List.drop, List.take, Int.reduceToNat, Fc.cs]
  · simp only [go_sem, ↓imp_tf, ↓imp_ft, ↓reduceIte, Nat.reduceBEq, Nat.reduceAdd, Nat.reduceMul, Nat.reduceSub, Nat.reduceEqDiff, Nat.reduceLT, Nat.reduceLeDiff, Option.map, Option.bind, List.map, List.length, reduceCtorEq, Option.toList, Option.getD, List.set, List.drop, List.take, Int.reduceToNat, Fc.cs]
    exact ⟨h2, fun _ => h1, rfl⟩
set_option maxHeartbeats 4000000 in
set_option maxRecDepth 20000 in
theorem badF_spec (f : Fc) (m : Mem) (h : FcOk f) : Ans 68 [.v (.agg ⟨f.cs⟩)] m (.bool (!fieldL f)) := by
  have hF := field_spec f m h
  refine enter cfF puF Tryz.func68 rfl rfl (by kernel_rfl) rfl ?_ ?_
  · simp only [go_sem, ↓imp_tf, ↓imp_ft, ↓reduceIte, Nat.reduceBEq, Nat.reduceAdd, Nat.reduceMul, Nat.reduceSub, Nat.reduceEqDiff, Nat.reduceLT, Nat.reduceLeDiff, Option.map, Option.bind, List.map, List.length, reduceCtorEq, Option.toList, Option.getD, List.set, List.drop, List.take, Int.reduceToNat, Fc.cs]
  · simp only [go_sem, ↓imp_tf, ↓imp_ft, ↓reduceIte, Nat.reduceBEq, Nat.reduceAdd, Nat.reduceMul, Nat.reduceSub, Nat.reduceEqDiff, Nat.reduceLT, Nat.reduceLeDiff, Option.map, Option.bind, List.map, List.length, reduceCtorEq, Option.toList, Option.getD, List.set, List.drop, List.take, Int.reduceToNat, Fc.cs]
    refine ⟨by kernel_rfl, FnV_of ((FnH_den hF (fun V => rfl)).mono ?_)⟩
    rintro r H' m2 hm2 ⟨hle2, rfl, rfl⟩
    simp only [go_sem, ↓imp_tf, ↓imp_ft, ↓reduceIte, Nat.reduceBEq, Nat.reduceAdd, Nat.reduceMul, Nat.reduceSub, Nat.reduceEqDiff, Nat.reduceLT, Nat.reduceLeDiff, Option.map, Option.bind, List.map, List.length, reduceCtorEq, Option.toList, Option.getD, List.set, List.drop, List.take, Int.reduceToNat]
    exact hle2
set_option maxHeartbeats 4000000 in
set_option maxRecDepth 20000 in
theorem badS_spec (s : List UInt8) (m : Mem) (h : BL s) : Ans 66 [.v (.string (bs s))] m (.bool (!isCls s)) := by
  refine enter cfF puF Tryz.func66 rfl rfl (by kernel_rfl) rfl ?_ ?_
  · simp only [go_sem, ↓imp_tf, ↓imp_ft, ↓reduceIte, Nat.reduceBEq, Nat.reduceAdd, Nat.reduceMul, Nat.reduceSub, Nat.reduceEqDiff, Nat.reduceLT, Nat.reduceLeDiff, Option.map, Option.bind, List.map, List.length, reduceCtorEq, Option.toList, Option.getD, List.set, List.drop, List.take, Int.reduceToNat]
  · simp only [go_sem, ↓imp_tf, ↓imp_ft, ↓reduceIte, Nat.reduceBEq, Nat.reduceAdd, Nat.reduceMul, Nat.reduceSub, Nat.reduceEqDiff, Nat.reduceLT, Nat.reduceLeDiff, Option.map, Option.bind, List.map, List.length, reduceCtorEq, Option.toList, Option.getD, List.set, List.drop, List.take, Int.reduceToNat]
    exact h
set_option maxHeartbeats 4000000 in
set_option maxRecDepth 20000 in
theorem badP_spec (f : Pc) (m : Mem) (h : PcOk f) : Ans 146 [.v (.agg ⟨f.cs⟩)] m (.bool (!paramL f)) := by
  have h1 : BL f.name := Nat.le_trans h.name (by decide)
  have h2 : BL f.ty.name := Nat.le_trans h.ty.2.2 (by decide)
  refine enter cfF puF Tryz.func146 rfl rfl (by kernel_rfl) rfl ?_ ?_
  · simp only [go_sem, ↓imp_tf, ↓imp_ft, ↓reduceIte, Nat.reduceBEq, Nat.reduceAdd, Nat.reduceMul, Nat.reduceSub, Nat.reduceEqDiff, Nat.reduceLT, Nat.reduceLeDiff, Option.map, Option.bind, List.map, List.length, reduceCtorEq, Option.toList, Option.getD, List.set, List.drop, List.take, Int.reduceToNat, Pc.cs]
  · simp only [go_sem, ↓imp_tf, ↓imp_ft, ↓reduceIte, Nat.reduceBEq, Nat.reduceAdd, Nat.reduceMul, Nat.reduceSub, Nat.reduceEqDiff, Nat.reduceLT, Nat.reduceLeDiff, Option.map, Option.bind, List.map, List.length, reduceCtorEq, Option.toList, Option.getD, List.set, List.drop, List.take, Int.reduceToNat, Pc.cs]
    exact ⟨h2, fun _ => h1, by rw [paramL, Bool.not_and]⟩
set_option maxHeartbeats 4000000 in
set_option maxRecDepth 20000 in
theorem badI_spec (x : Mc) (m : Mem) : Ans 141 [.v (.agg ⟨x.cs⟩)] m (.bool (!decide (x.fl = 1) && !decide (x.fl = 1025) || decide (x.name = initS))) := by
  refine enter cfF puF Tryz.func141 rfl rfl (by kernel_rfl) rfl ?_ ?_
  · simp only [go_sem, ↓imp_tf, ↓imp_ft, ↓reduceIte, Nat.reduceBEq, Nat.reduceAdd, Nat.reduceMul, Nat.reduceSub, Nat.reduceEqDiff, Nat.reduceLT, Nat.reduceLeDiff, Option.map, Option.bind, List.map, List.length, reduceCtorEq, Option.toList, Option.getD, List.set, List.drop, List.take, Int.reduceToNat, Mc.cs]
  · simp only [go_sem, ↓imp_tf, ↓imp_ft, ↓reduceIte, Nat.reduceBEq, Nat.reduceAdd, Nat.reduceMul, Nat.reduceSub, Nat.reduceEqDiff, Nat.reduceLT, Nat.reduceLeDiff, Option.map, Option.bind, List.map, List.length, reduceCtorEq, Option.toList, Option.getD, List.set, List.drop, List.take, Int.reduceToNat, Mc.cs]
    rfl
theorem any_of {α : Type} {p : α → Bool} {l : List α} {n : Nat} (hn : n = l.length) {B : Nat → Bool} (h : ∀ i (hi : i < l.length), B i = p l[i]) : anyB n B = l.any p := by
  subst hn; exact anyB_list p l B h
def atP {α : Type} (p : α → Bool) (l : List α) (i : Nat) : Bool := match l[i]? with | some a => p a | none => false
theorem atP_at {α : Type} {p : α → Bool} {l : List α} {i : Nat} (h : i < l.length) : atP p l i = p l[i] := by simp only [atP, List.getElem?_eq_getElem h]
/-- The parts of a method's cells. -/
theorem md_parts {m : Mem} {d : Md} {cs : List Value} (h : mdRep m d cs) : ∃ x : Mc, (cs = x.cs ∧ x.fl = d.fl ∧ x.res = d.res ∧ x.name = d.name ∧ x.hb = d.hb) ∧ (x.pl = d.params.length ∧ x.pl ≤ x.pc ∧ x.l = d.body.length ∧ x.l ≤ x.cp) ∧ MdOk d ∧ Rds m x.pa x.pl 4 (flat Pc.cs d.params) ∧ ∃ xs, Rds m x.a x.l 23 xs ∧ stsRep m d.body xs := h
set_option maxHeartbeats 4000000 in
set_option maxRecDepth 20000 in
theorem method_spec (d : Md) (cs : List Value) (m : Mem) (hg : Glob m) (h : mdRep m d cs) : Ans 71 [.v (.agg ⟨cs⟩)] m (.bool (methodL d)) := by
  obtain ⟨fl, res, name, params, hb, body⟩ := d
  obtain ⟨x, ⟨rfl, rfl, rfl, rfl, rfl⟩, ⟨hpl, hpc, hl, hcp⟩, hok, r1, xs, r2, s2⟩ := h
  simp only at hpl hl r1 s2
  have h1 : BL x.name := Nat.le_trans hok.name (by decide)
  have h2 : BL x.res.name := Nat.le_trans hok.res.2.2 (by decide)
  have hP : ∀ m', leM m m' → Ans 147 [.v (.slice x.pa x.pl x.pc), .v (.func (.func 146) ⟨[]⟩ ⟨[]⟩)] m' (.bool (params.any fun p => !paramL p)) := fun m' hle => by
    have := ctfPc 146 (atP (fun p => !paramL p) params) x.pa x.pl x.pc _ m' (Rds_upM hle r1) (by rw [hpl]; exact hok.pl) (by kernel_rfl) fun i hi => ⟨params[i]'(by omega), flat_at (f := Pc.cs) (sz := 4) (fun _ => rfl) (by omega), fun m2 _ => by
      rw [atP_at (by omega)]; exact badP_spec _ m2 (hok.ps _ (List.getElem_mem _))⟩
    rw [any_of hpl (p := fun p => !paramL p) fun i hi => atP_at hi] at this
    exact this
  have hB := fun m' (hle : leM m m') => block_all (decide (x.name = initS)) body x.a x.l x.cp xs m' (hg.upM hle) hl (Rds_upM hle r2) (stsRep_upM hle s2) (by rw [hl]; exact hok.l)
  clear s2
  refine enter (mkCf (fun _ => false) [(145, pI1 mflagsL), (65, pI2 onlyL), (48, pS1 BL fun s => .bool (identL s)), (49, pTy valueTy)])
    (pure_cons (by kernel_rfl) (pureI1 mflags_spec) (pure_cons (by kernel_rfl) (pureI2 only_spec) (pure_cons (by kernel_rfl) (pureS ident_spec) (pure_cons (by kernel_rfl) (pureTy value_spec) pure_nil)))) Tryz.func71 rfl rfl (by kernel_rfl) rfl ?_ ?_
  · simp only [go_sem, ↓imp_tf, ↓imp_ft, ↓reduceIte, Nat.reduceBEq, Nat.reduceAdd, Nat.reduceMul, Nat.reduceSub, Nat.reduceEqDiff, Nat.reduceLT, Nat.reduceLeDiff, Option.map, Option.bind, List.map, List.length, reduceCtorEq, Option.toList, Option.getD, List.set, List.drop, List.take, Int.reduceToNat, Mc.cs]
  · simp only [go_sem, ↓imp_tf, ↓imp_ft, ↓reduceIte, Nat.reduceBEq, Nat.reduceAdd, Nat.reduceMul, Nat.reduceSub, Nat.reduceEqDiff, Nat.reduceLT, Nat.reduceLeDiff, Option.map, Option.bind, List.map, List.length, reduceCtorEq, Option.toList, Option.getD, List.set, List.drop, List.take, Int.reduceToNat, Mc.cs, eqOkT]
    have e1 : ∀ (d : Md), mHead d = true → mMid d = true → methodL d = (!(d.params.any fun p => !paramL p) && blockL (decide (d.name = initS)) d.body) := fun d a b => by rw [methodL, a, b]; rfl
    have g0 : ∀ (d : Md), ((mflagsL d.fl = false ∨ (d.hb == !decide (bits .and .i64 d.fl 1024 = 0)) = true) ∨ d.hb = false ∧ 0 < d.body.length) ∨ 16 < d.params.length → false = methodL d := fun d g => by
      have : mMid d = false := by
        rcases g with ((g | g) | g) | g
        · simp [mMid, g]
        · simp only [mMid, hasB, g, Bool.not_true, Bool.and_false, Bool.false_and]
        · simp only [mMid, g.1, Bool.false_or, decide_eq_false (by omega : ¬ d.body.length = 0), Bool.and_false, Bool.false_and]
        · simp only [mMid, decide_eq_false (by omega : ¬ d.params.length ≤ 16), Bool.and_false]
      rw [methodL, this, Bool.and_false]; rfl
    have g1 : ∀ (d : Md), ((mflagsL d.fl = true ∧ (d.hb == !decide (bits .and .i64 d.fl 1024 = 0)) = false) ∧ (d.hb = true ∨ ¬ 0 < d.body.length)) ∧ ¬ 16 < d.params.length → mMid d = true := fun d g => by
      simp only [mMid, hasB, g.1.1.1, g.1.1.2, decide_eq_true (by omega : d.params.length ≤ 16), Bool.not_false, Bool.and_true, Bool.true_and]
      rcases g.1.2 with h | h
      · rw [h]; rfl
      · rw [decide_eq_true (by omega : d.body.length = 0), Bool.or_true]
    have g0' := g0 ⟨x.fl, x.res, x.name, params, x.hb, body⟩
    have g1' := g1 ⟨x.fl, x.res, x.name, params, x.hb, body⟩
    have e1' := e1 ⟨x.fl, x.res, x.name, params, x.hb, body⟩
    clear g0 g1 e1
    simp only at g0' g1' e1'
    have gx : ∀ {A B : Prop}, (A ∨ B ∧ 0 < (x.l : Int)) ∨ 16 < (x.pl : Int) → (A ∨ B ∧ 0 < body.length) ∨ 16 < params.length := fun g => by
      clear hP hB
      rcases g with (g | g) | g
      · exact .inl (.inl g)
      · exact .inl (.inr ⟨g.1, by omega⟩)
      · exact .inr (by omega)
    have gy : ∀ {A B : Prop}, (A ∧ (B ∨ ¬ 0 < (x.l : Int))) ∧ ¬ 16 < (x.pl : Int) → (A ∧ (B ∨ ¬ 0 < body.length)) ∧ ¬ 16 < params.length := fun g => by
      clear hP hB
      refine ⟨⟨g.1.1, ?_⟩, by omega⟩
      rcases g.1.2 with h | h
      · exact .inl h
      · exact .inr (by omega)
    refine ⟨fun hn => ⟨fun c => ?_, fun c => ⟨by kernel_rfl, fun g => g0' (gx g), fun g => ⟨by kernel_rfl, FnV_of ((hP m (.inl rfl)).mono ?_)⟩⟩⟩,
      fun hn => ⟨h1, fun _ => h2, fun c => ?_, fun c => ⟨by kernel_rfl, fun g => g0' (gx g), fun g => ⟨by kernel_rfl, FnV_of ((hP m (.inl rfl)).mono ?_)⟩⟩⟩⟩
    · clear hP hB
      have : mHead ⟨x.fl, x.res, x.name, params, x.hb, body⟩ = false := by
        simp only [mHead, voidTy]
        rw [if_pos (show x.name = initS from hn)]
        rcases c with ((c | c | c) | c) | c <;> simp [c]
      rw [methodL, this]; rfl
    · have g2 := g1' (gy g)
      have hh : mHead ⟨x.fl, x.res, x.name, params, x.hb, body⟩ = true := by
        clear hP hB
        simp only [mHead, voidTy]
        rw [if_pos (show x.name = initS from hn)]
        simp [c.1.1.1, c.1.1.2.1, c.1.1.2.2, c.1.2, c.2]
      have e2 := e1' hh g2
      clear hP
      rintro r H' m2 hm2 ⟨hle2, rfl, rfl⟩
      simp only [go_sem, ↓imp_tf, ↓imp_ft, ↓reduceIte, Nat.reduceBEq, Nat.reduceAdd, Nat.reduceMul, Nat.reduceSub, Nat.reduceEqDiff, Nat.reduceLT, Nat.reduceLeDiff, Option.map, Option.bind, List.map, List.length, reduceCtorEq, Option.toList, Option.getD, List.set, List.drop, List.take, Int.reduceToNat, Mc.cs]
      refine ⟨fun b1 => ⟨by kernel_rfl, FnV_of ((hB m2 hle2).mono ?_)⟩, fun b1 => ?_⟩
      · clear hB
        rintro r H' m3 hm3 ⟨hle3, rfl, rfl⟩
        simp only [go_sem, ↓imp_tf, ↓imp_ft, ↓reduceIte, Nat.reduceBEq, Nat.reduceAdd, Nat.reduceMul, Nat.reduceSub, Nat.reduceEqDiff, Nat.reduceLT, Nat.reduceLeDiff, Option.map, Option.bind, List.map, List.length, reduceCtorEq, Option.toList, Option.getD, List.set, List.drop, List.take, Int.reduceToNat, Mc.cs]
        refine ⟨leM_tr hle2 hle3, ?_⟩
        rw [e2, b1]; rfl
      · refine ⟨hle2, ?_⟩
        rw [e2, b1]; rfl
    · clear hP hB
      have : mHead ⟨x.fl, x.res, x.name, params, x.hb, body⟩ = false := by
        simp only [mHead, voidTy]
        rw [if_neg (show ¬ x.name = initS from hn)]
        rcases c with c | c
        · simp [c]
        · rw [c.2]
          rcases c.1 with c | c | c <;> simp [c]
      rw [methodL, this]; rfl
    · have g2 := g1' (gy g)
      have hh : mHead ⟨x.fl, x.res, x.name, params, x.hb, body⟩ = true := by
        clear hP hB
        simp only [mHead, voidTy]
        rw [if_neg (show ¬ x.name = initS from hn), c.1]
        rcases c.2 with c | c <;> simp [c]
      have e2 := e1' hh g2
      clear hP
      rintro r H' m2 hm2 ⟨hle2, rfl, rfl⟩
      simp only [go_sem, ↓imp_tf, ↓imp_ft, ↓reduceIte, Nat.reduceBEq, Nat.reduceAdd, Nat.reduceMul, Nat.reduceSub, Nat.reduceEqDiff, Nat.reduceLT, Nat.reduceLeDiff, Option.map, Option.bind, List.map, List.length, reduceCtorEq, Option.toList, Option.getD, List.set, List.drop, List.take, Int.reduceToNat, Mc.cs]
      refine ⟨fun b1 => ⟨by kernel_rfl, FnV_of ((hB m2 hle2).mono ?_)⟩, fun b1 => ?_⟩
      · clear hB
        rintro r H' m3 hm3 ⟨hle3, rfl, rfl⟩
        simp only [go_sem, ↓imp_tf, ↓imp_ft, ↓reduceIte, Nat.reduceBEq, Nat.reduceAdd, Nat.reduceMul, Nat.reduceSub, Nat.reduceEqDiff, Nat.reduceLT, Nat.reduceLeDiff, Option.map, Option.bind, List.map, List.length, reduceCtorEq, Option.toList, Option.getD, List.set, List.drop, List.take, Int.reduceToNat, Mc.cs]
        refine ⟨leM_tr hle2 hle3, ?_⟩
        rw [e2, b1]; rfl
      · refine ⟨hle2, ?_⟩
        rw [e2, b1]; rfl
end Go.Proofs.YtalalcpefggniaaGreatDoor.E

/- ast, part Ua: well-formed interfaces and classes. -/
set_option linter.unusedSimpArgs false
set_option linter.unusedVariables false
namespace Go.Proofs.YtalalcpefggniaaGreatDoor.E
open Go

set_option maxHeartbeats 4000000 in
set_option maxRecDepth 20000 in
theorem badN_spec (d : Md) (cs : List Value) (m : Mem) (hg : Glob m) (h : mdRep m d cs) : Ans 70 [.v (.agg ⟨cs⟩)] m (.bool (!methodL d)) := by
  have hM := method_spec d cs m hg h
  obtain ⟨x, rfl⟩ := mdRep_mc h
  refine enter cfN puN Tryz.func70 rfl rfl (by kernel_rfl) rfl ?_ ?_
  · simp only [go_sem, ↓imp_tf, ↓imp_ft, ↓reduceIte, Nat.reduceBEq, Nat.reduceAdd, Nat.reduceMul, Nat.reduceSub, Nat.reduceEqDiff, Nat.reduceLT, Nat.reduceLeDiff, Option.map, Option.bind, List.map, List.length, reduceCtorEq, Option.toList, Option.getD, List.set, List.drop, List.take, Int.reduceToNat, Mc.cs]
  · simp only [go_sem, ↓imp_tf, ↓imp_ft, ↓reduceIte, Nat.reduceBEq, Nat.reduceAdd, Nat.reduceMul, Nat.reduceSub, Nat.reduceEqDiff, Nat.reduceLT, Nat.reduceLeDiff, Option.map, Option.bind, List.map, List.length, reduceCtorEq, Option.toList, Option.getD, List.set, List.drop, List.take, Int.reduceToNat, Mc.cs]
    refine ⟨by kernel_rfl, FnV_of ((FnH_den hM (fun V => rfl)).mono ?_)⟩
    rintro r H' m2 hm2 ⟨hle2, rfl, rfl⟩
    simp only [go_sem, ↓imp_tf, ↓imp_ft, ↓reduceIte, Nat.reduceBEq, Nat.reduceAdd, Nat.reduceMul, Nat.reduceSub, Nat.reduceEqDiff, Nat.reduceLT, Nat.reduceLeDiff, Option.map, Option.bind, List.map, List.length, reduceCtorEq, Option.toList, Option.getD, List.set, List.drop, List.take, Int.reduceToNat]
    exact hle2
theorem badI_of (d : Md) (cs : List Value) (m m' : Mem) (h : mdRep m d cs) : Ans 141 [.v (.agg ⟨cs⟩)] m' (.bool (badM d)) := by
  obtain ⟨x, ⟨rfl, h1, h2, h3, h4⟩, _⟩ := h
  have := badI_spec x m'
  rw [h1, h3] at this
  exact this
/-- ContainsFunc over methods. -/
theorem ctM (f : FuncId) (p : Md → Bool) (l : List Md) (a : Option Addr) (n c : Nat) (xs : List Value) (m : Mem) (hl : n = l.length) (hr : Rds m a n 8 xs) (hs : lsRep (mdRep m) 8 l xs) (hn : n ≤ big) (hok : fnOk Tryz.prog f = true)
    (hf : ∀ d ∈ l, ∀ cs m', leM m m' → mdRep m' d cs → Ans f [.v (.agg ⟨cs⟩)] m' (.bool (p d))) :
    Ans 74 [.v (.slice a n c), .v (.func (.func f) ⟨[]⟩ ⟨[]⟩)] m (.bool (l.any p)) := by
  have := ctfMc f (atP p l) a n c xs m hr hn hok fun i hi => by
    have hil : i < l.length := by omega
    have hrep := ls_at hs hil
    obtain ⟨X, hX⟩ := mdRep_mc hrep
    rw [hX] at hrep
    refine ⟨X, hX, fun m' hle => ?_⟩
    rw [atP_at hil]
    exact hf _ (List.getElem_mem hil) _ m' hle (mdRep_up hle hrep)
  rw [any_of hl (p := p) fun i hi => atP_at hi] at this
  exact this
theorem ctF (f : FuncId) (p : Fc → Bool) (l : List Fc) (a : Option Addr) (n c : Nat) (m : Mem) (hl : n = l.length) (hr : Rds m a n 5 (flat Fc.cs l)) (hn : n ≤ big) (hok : fnOk Tryz.prog f = true)
    (hf : ∀ d ∈ l, ∀ m', leM m m' → Ans f [.v (.agg ⟨d.cs⟩)] m' (.bool (p d))) :
    Ans 73 [.v (.slice a n c), .v (.func (.func f) ⟨[]⟩ ⟨[]⟩)] m (.bool (l.any p)) := by
  have := ctfFc f (atP p l) a n c _ m hr hn hok fun i hi => by
    have hil : i < l.length := by omega
    refine ⟨l[i], flat_at (f := Fc.cs) (sz := 5) (fun _ => rfl) hil, fun m' hle => ?_⟩
    rw [atP_at hil]
    exact hf _ (List.getElem_mem hil) m' hle
  rw [any_of hl (p := p) fun i hi => atP_at hi] at this
  exact this
theorem ctS (f : FuncId) (p : List UInt8 → Bool) (l : List (List UInt8)) (a : Option Addr) (n c : Nat) (m : Mem) (hl : n = l.length) (hr : Rds m a n 1 (strs l)) (hn : n ≤ big) (hok : fnOk Tryz.prog f = true)
    (hf : ∀ d ∈ l, ∀ m', leM m m' → Ans f [.v (.string (bs d))] m' (.bool (p d))) :
    Ans 72 [.v (.slice a n c), .v (.func (.func f) ⟨[]⟩ ⟨[]⟩)] m (.bool (l.any p)) := by
  have := ctfS f (atP p l) a n c _ m hr hn hok fun i hi => by
    have hil : i < l.length := by omega
    refine ⟨l[i], ?_, fun m' hle => ?_⟩
    · rw [strs, List.getElem?_map, List.getElem?_eq_getElem hil]; rfl
    · rw [atP_at hil]
      exact hf _ (List.getElem_mem hil) m' hle
  rw [any_of hl (p := p) fun i hi => atP_at hi] at this
  exact this
set_option maxHeartbeats 4000000 in
set_option maxRecDepth 20000 in
theorem iface_spec (d : Cd) (cs : List Value) (m : Mem) (h : cdRep m d cs) : Ans 64 [.v (.agg ⟨cs⟩)] m (.bool (ifaceL d)) := by
  obtain ⟨fl, name, super, ifs, fields, methods, init⟩ := d
  obtain ⟨x, ⟨rfl, rfl, rfl, rfl⟩, ⟨hil, hic, hfn, hfc, hml, hmc, hsl, hsc⟩, hok, r1, r2, xs, ys, r3, s3, r4, s4⟩ := h
  simp only at hil hfn hml hsl r1 r2 s3 s4
  have hM := ctM 141 badM methods x.ma x.ml x.mc xs m hml r3 s3 (by rw [hml]; exact hok.ml) (by kernel_rfl) fun d _ cs m' hle hrep => badI_of d cs m' m' hrep
  have b1 := hok.fn
  have b2 := hok.l
  clear s3 s4
  refine enter cfF puF Tryz.func64 rfl rfl (by kernel_rfl) rfl ?_ ?_
  · simp only [go_sem, ↓imp_tf, ↓imp_ft, ↓reduceIte, Nat.reduceBEq, Nat.reduceAdd, Nat.reduceMul, Nat.reduceSub, Nat.reduceEqDiff, Nat.reduceLT, Nat.reduceLeDiff, Option.map, Option.bind, List.map, List.length, reduceCtorEq, Option.toList, Option.getD, List.set, List.drop, List.take, Int.reduceToNat, Cc.cs]
  · simp only [go_sem, ↓imp_tf, ↓imp_ft, ↓reduceIte, Nat.reduceBEq, Nat.reduceAdd, Nat.reduceMul, Nat.reduceSub, Nat.reduceEqDiff, Nat.reduceLT, Nat.reduceLeDiff, Option.map, Option.bind, List.map, List.length, reduceCtorEq, Option.toList, Option.getD, List.set, List.drop, List.take, Int.reduceToNat, Cc.cs]
    have e0 : ifaceL ⟨x.fl, x.name, x.super, ifs, fields, methods, init⟩ = (onlyL x.fl 1537 && hasB x.fl 1024 && decide (x.super = objS) && decide (fields.length + init.length = 0) && !(methods.any badM)) := rfl
    simp only at b1 b2
    refine ⟨fun _ => by clear hM; unfold I64; simp only [big] at b1 b2; omega, fun c => ⟨by kernel_rfl, FnV_of (hM.mono ?_)⟩, fun c => ?_⟩
    · have g : fields.length + init.length = 0 := by clear hM; omega
      clear hM
      rintro r H' m2 hm2 ⟨hle2, rfl, rfl⟩
      simp only [go_sem, ↓imp_tf, ↓imp_ft, ↓reduceIte, Nat.reduceBEq, Nat.reduceAdd, Nat.reduceMul, Nat.reduceSub, Nat.reduceEqDiff, Nat.reduceLT, Nat.reduceLeDiff, Option.map, Option.bind, List.map, List.length, reduceCtorEq, Option.toList, Option.getD, List.set, List.drop, List.take, Int.reduceToNat, Cc.cs]
      refine ⟨hle2, ?_⟩
      rw [e0, c.1.1.1, hasB, decide_eq_false c.1.1.2, decide_eq_true (show x.super = objS from c.1.2), decide_eq_true g]
      rfl
    · clear hM
      rw [e0]
      rcases c with ((c | c) | c) | c
      · simp [c]
      · simp [hasB, c]
      · rw [decide_eq_false (show ¬ x.super = objS from c)]; simp
      · rw [decide_eq_false (by omega : ¬ fields.length + init.length = 0)]; simp
set_option maxHeartbeats 4000000 in
set_option maxRecDepth 20000 in
theorem class_spec2 (d : Cd) (cs : List Value) (m : Mem) (hg : Glob m) (h : cdRep m d cs) : Ans 32 [.v (.agg ⟨cs⟩)] m (.bool (classL d)) := by
  have hI := iface_spec d cs m h
  obtain ⟨fl, name, super, ifs, fields, methods, init⟩ := d
  obtain ⟨x, ⟨rfl, rfl, rfl, rfl⟩, ⟨hil, hic, hfn, hfc, hml, hmc, hsl, hsc⟩, hok, r1, r2, xs, ys, r3, s3, r4, s4⟩ := h
  simp only at hil hfn hml hsl r1 r2 s3 s4
  have hM := fun m' (hle : leM m m') => ctM 70 (fun d => !methodL d) methods x.ma x.ml x.mc xs m' hml (Rds_upM hle r3) (ls_up (fun _ _ => mdRep_up hle) s3) (by rw [hml]; exact hok.ml) (by kernel_rfl) fun d _ cs m2 hle2 hrep => badN_spec d cs m2 (hg.upM (leM_tr hle hle2)) hrep
  have hF := fun m' (hle : leM m m') => ctF 68 (fun d => !fieldL d) fields x.fa x.fn x.fc m' hfn (Rds_upM hle r2) (by rw [hfn]; exact hok.fn) (by kernel_rfl) fun d hd m2 hle2 => badF_spec d m2 (hok.fs d hd)
  have hS := fun m' (hle : leM m m') => ctS 66 (fun d => !isCls d) ifs x.ia x.il x.ic m' hil (Rds_upM hle r1) (by rw [hil]; exact hok.il) (by kernel_rfl) fun d hd m2 hle2 => badS_spec d m2 (Nat.le_trans (hok.ifs d hd) (by decide))
  have hB := fun m' (hle : leM m m') => block_all false init x.sa x.sl x.sc ys m' (hg.upM hle) hsl (Rds_upM hle r4) (stsRep_upM hle s4) (by rw [hsl]; exact hok.l)
  have h1 : BL x.name := Nat.le_trans hok.name (by decide)
  have h2 : BL x.super := Nat.le_trans hok.super (by decide)
  clear s3 s4
  refine enter cfF puF Tryz.func32 rfl rfl (by kernel_rfl) rfl ?_ ?_
  · simp only [go_sem, ↓imp_tf, ↓imp_ft, ↓reduceIte, Nat.reduceBEq, Nat.reduceAdd, Nat.reduceMul, Nat.reduceSub, Nat.reduceEqDiff, Nat.reduceLT, Nat.reduceLeDiff, Option.map, Option.bind, List.map, List.length, reduceCtorEq, Option.toList, Option.getD, List.set, List.drop, List.take, Int.reduceToNat, Cc.cs]
  · simp only [go_sem, ↓imp_tf, ↓imp_ft, ↓reduceIte, Nat.reduceBEq, Nat.reduceAdd, Nat.reduceMul, Nat.reduceSub, Nat.reduceEqDiff, Nat.reduceLT, Nat.reduceLeDiff, Option.map, Option.bind, List.map, List.length, reduceCtorEq, Option.toList, Option.getD, List.set, List.drop, List.take, Int.reduceToNat, Cc.cs]
    have e0 : cHead ⟨x.fl, x.name, x.super, ifs, fields, methods, init⟩ = true → classL ⟨x.fl, x.name, x.super, ifs, fields, methods, init⟩ = (cNames ⟨x.fl, x.name, x.super, ifs, fields, methods, init⟩ && !(ifs.any fun s => !isCls s) && cLens ⟨x.fl, x.name, x.super, ifs, fields, methods, init⟩ && !(fields.any fun f => !fieldL f) && !(methods.any fun f => !methodL f) && blockL false init) := fun h => by rw [classL, h]; rfl
    refine ⟨fun b => ⟨by kernel_rfl, FnV_of ((FnH_den hI (fun V => rfl)).mono ?_)⟩, fun b => ⟨fun c => ?_, fun c => ?_⟩⟩
    · clear hI
      rintro r H' m1 hm1 ⟨l1, rfl, rfl⟩
      simp only [go_sem, ↓imp_tf, ↓imp_ft, ↓reduceIte, Nat.reduceBEq, Nat.reduceAdd, Nat.reduceMul, Nat.reduceSub, Nat.reduceEqDiff, Nat.reduceLT, Nat.reduceLeDiff, Option.map, Option.bind, List.map, List.length, reduceCtorEq, Option.toList, Option.getD, List.set, List.drop, List.take, Int.reduceToNat, Cc.cs]
      have g : hasB x.fl 512 = true := by rw [hasB, decide_eq_false b]; rfl
      refine ⟨fun c => ?_, fun c => ?_⟩
      · refine ⟨l1, ?_⟩
        rw [classL, cHead, if_pos g, c]; rfl
      · have hH : cHead ⟨x.fl, x.name, x.super, ifs, fields, methods, init⟩ = true := by rw [cHead, if_pos g, c]
        refine ⟨h1, fun _ => h2, fun c => ⟨by kernel_rfl, FnV_of ((hS m1 l1).mono ?_)⟩, fun c => ?_⟩
        · clear hS
          rintro r H' n1 hn1 ⟨k1, rfl, rfl⟩
          simp only [go_sem, ↓imp_tf, ↓imp_ft, ↓reduceIte, Nat.reduceBEq, Nat.reduceAdd, Nat.reduceMul, Nat.reduceSub, Nat.reduceEqDiff, Nat.reduceLT, Nat.reduceLeDiff, Option.map, Option.bind, List.map, List.length, reduceCtorEq, Option.toList, Option.getD, List.set, List.drop, List.take, Int.reduceToNat, Cc.cs]
          have hN : cNames ⟨x.fl, x.name, x.super, ifs, fields, methods, init⟩ = true := by clear hF hM hB; simp only [cNames, c.1.1, c.1.2, decide_eq_true (by omega : ifs.length ≤ 8)]; rfl
          refine ⟨fun d => ⟨by kernel_rfl, FnV_of ((hF n1 (leM_tr l1 k1)).mono ?_)⟩, fun d => ?_⟩
          · clear hF
            rintro r H' n2 hn2 ⟨k2, rfl, rfl⟩
            simp only [go_sem, ↓imp_tf, ↓imp_ft, ↓reduceIte, Nat.reduceBEq, Nat.reduceAdd, Nat.reduceMul, Nat.reduceSub, Nat.reduceEqDiff, Nat.reduceLT, Nat.reduceLeDiff, Option.map, Option.bind, List.map, List.length, reduceCtorEq, Option.toList, Option.getD, List.set, List.drop, List.take, Int.reduceToNat, Cc.cs]
            have hL : cLens ⟨x.fl, x.name, x.super, ifs, fields, methods, init⟩ = true := by clear hM hB; simp only [cLens, decide_eq_true (by omega : fields.length ≤ 64), decide_eq_true (by omega : methods.length ≤ 64)]; rfl
            refine ⟨fun e => ⟨by kernel_rfl, FnV_of ((hM n2 (leM_tr (leM_tr l1 k1) k2)).mono ?_)⟩, fun e => ?_⟩
            · clear hM
              rintro r H' n3 hn3 ⟨k3, rfl, rfl⟩
              simp only [go_sem, ↓imp_tf, ↓imp_ft, ↓reduceIte, Nat.reduceBEq, Nat.reduceAdd, Nat.reduceMul, Nat.reduceSub, Nat.reduceEqDiff, Nat.reduceLT, Nat.reduceLeDiff, Option.map, Option.bind, List.map, List.length, reduceCtorEq, Option.toList, Option.getD, List.set, List.drop, List.take, Int.reduceToNat, Cc.cs]
              refine ⟨fun f => ⟨by kernel_rfl, FnV_of ((hB n3 (leM_tr (leM_tr (leM_tr l1 k1) k2) k3)).mono ?_)⟩, fun f => ?_⟩
              · clear hB
                rintro r H' n4 hn4 ⟨k4, rfl, rfl⟩
                simp only [go_sem, ↓imp_tf, ↓imp_ft, ↓reduceIte, Nat.reduceBEq, Nat.reduceAdd, Nat.reduceMul, Nat.reduceSub, Nat.reduceEqDiff, Nat.reduceLT, Nat.reduceLeDiff, Option.map, Option.bind, List.map, List.length, reduceCtorEq, Option.toList, Option.getD, List.set, List.drop, List.take, Int.reduceToNat, Cc.cs]
                refine ⟨leM_tr (leM_tr (leM_tr (leM_tr l1 k1) k2) k3) k4, ?_⟩
                rw [e0 hH, hN, d.1.1, hL, e, f]
                rfl
              · refine ⟨leM_tr (leM_tr (leM_tr l1 k1) k2) k3, ?_⟩
                rw [e0 hH, f]; simp
            · refine ⟨leM_tr (leM_tr l1 k1) k2, ?_⟩
              rw [e0 hH, e]; simp
          · refine ⟨leM_tr l1 k1, ?_⟩
            clear hF hM hB
            rw [e0 hH]
            rcases d with (d | d) | d
            · rw [d]; simp
            · simp only [cLens, decide_eq_false (by omega : ¬ fields.length ≤ 64), Bool.false_and, Bool.and_false]
            · simp only [cLens, decide_eq_false (by omega : ¬ methods.length ≤ 64), Bool.false_and, Bool.and_false]
        · clear hS hF hM hB
          refine ⟨l1, ?_⟩
          rw [e0 hH]
          rcases c with (c | c) | c
          · simp only [cNames, c, Bool.false_and]
          · simp only [cNames, c, Bool.false_and, Bool.and_false]
          · simp only [cNames, decide_eq_false (by omega : ¬ ifs.length ≤ 8), Bool.false_and, Bool.and_false]
    · clear hI hM hF hS hB
      have g : ¬ hasB x.fl 512 = true := by rw [hasB, decide_eq_true b]; decide
      have : cHead ⟨x.fl, x.name, x.super, ifs, fields, methods, init⟩ = false := by
        rw [cHead, if_neg g]
        rcases c with c | c
        · simp [c]
        · simp [hasB, c]
      rw [classL, this]; rfl
    · clear hI
      have g : ¬ hasB x.fl 512 = true := by rw [hasB, decide_eq_true b]; decide
      have hH : cHead ⟨x.fl, x.name, x.super, ifs, fields, methods, init⟩ = true := by
        clear hM hF hS hB
        rw [cHead, if_neg g]
        rcases c with ⟨c1, c | c⟩ <;> simp [hasB, c1, c]
      clear c
      refine ⟨h1, fun _ => h2, fun c => ⟨by kernel_rfl, FnV_of ((hS m (.inl rfl : leM m m)).mono ?_)⟩, fun c => ?_⟩
      · clear hS
        rintro r H' n1 hn1 ⟨k1, rfl, rfl⟩
        simp only [go_sem, ↓imp_tf, ↓imp_ft, ↓reduceIte, Nat.reduceBEq, Nat.reduceAdd, Nat.reduceMul, Nat.reduceSub, Nat.reduceEqDiff, Nat.reduceLT, Nat.reduceLeDiff, Option.map, Option.bind, List.map, List.length, reduceCtorEq, Option.toList, Option.getD, List.set, List.drop, List.take, Int.reduceToNat, Cc.cs]
        have hN : cNames ⟨x.fl, x.name, x.super, ifs, fields, methods, init⟩ = true := by clear hF hM hB; simp only [cNames, c.1.1, c.1.2, decide_eq_true (by omega : ifs.length ≤ 8)]; rfl
        refine ⟨fun d => ⟨by kernel_rfl, FnV_of ((hF n1 (leM_tr (.inl rfl : leM m m) k1)).mono ?_)⟩, fun d => ?_⟩
        · clear hF
          rintro r H' n2 hn2 ⟨k2, rfl, rfl⟩
          simp only [go_sem, ↓imp_tf, ↓imp_ft, ↓reduceIte, Nat.reduceBEq, Nat.reduceAdd, Nat.reduceMul, Nat.reduceSub, Nat.reduceEqDiff, Nat.reduceLT, Nat.reduceLeDiff, Option.map, Option.bind, List.map, List.length, reduceCtorEq, Option.toList, Option.getD, List.set, List.drop, List.take, Int.reduceToNat, Cc.cs]
          have hL : cLens ⟨x.fl, x.name, x.super, ifs, fields, methods, init⟩ = true := by clear hM hB; simp only [cLens, decide_eq_true (by omega : fields.length ≤ 64), decide_eq_true (by omega : methods.length ≤ 64)]; rfl
          refine ⟨fun e => ⟨by kernel_rfl, FnV_of ((hM n2 (leM_tr (leM_tr (.inl rfl : leM m m) k1) k2)).mono ?_)⟩, fun e => ?_⟩
          · clear hM
            rintro r H' n3 hn3 ⟨k3, rfl, rfl⟩
            simp only [go_sem, ↓imp_tf, ↓imp_ft, ↓reduceIte, Nat.reduceBEq, Nat.reduceAdd, Nat.reduceMul, Nat.reduceSub, Nat.reduceEqDiff, Nat.reduceLT, Nat.reduceLeDiff, Option.map, Option.bind, List.map, List.length, reduceCtorEq, Option.toList, Option.getD, List.set, List.drop, List.take, Int.reduceToNat, Cc.cs]
            refine ⟨fun f => ⟨by kernel_rfl, FnV_of ((hB n3 (leM_tr (leM_tr (leM_tr (.inl rfl : leM m m) k1) k2) k3)).mono ?_)⟩, fun f => ?_⟩
            · clear hB
              rintro r H' n4 hn4 ⟨k4, rfl, rfl⟩
              simp only [go_sem, ↓imp_tf, ↓imp_ft, ↓reduceIte, Nat.reduceBEq, Nat.reduceAdd, Nat.reduceMul, Nat.reduceSub, Nat.reduceEqDiff, Nat.reduceLT, Nat.reduceLeDiff, Option.map, Option.bind, List.map, List.length, reduceCtorEq, Option.toList, Option.getD, List.set, List.drop, List.take, Int.reduceToNat, Cc.cs]
              refine ⟨leM_tr (leM_tr (leM_tr (leM_tr (.inl rfl : leM m m) k1) k2) k3) k4, ?_⟩
              rw [e0 hH, hN, d.1.1, hL, e, f]
              rfl
            · refine ⟨leM_tr (leM_tr (leM_tr (.inl rfl : leM m m) k1) k2) k3, ?_⟩
              rw [e0 hH, f]; simp
          · refine ⟨leM_tr (leM_tr (.inl rfl : leM m m) k1) k2, ?_⟩
            rw [e0 hH, e]; simp
        · refine ⟨leM_tr (.inl rfl : leM m m) k1, ?_⟩
          clear hF hM hB
          rw [e0 hH]
          rcases d with (d | d) | d
          · rw [d]; simp
          · simp only [cLens, decide_eq_false (by omega : ¬ fields.length ≤ 64), Bool.false_and, Bool.and_false]
          · simp only [cLens, decide_eq_false (by omega : ¬ methods.length ≤ 64), Bool.false_and, Bool.and_false]
      · clear hS hF hM hB
        rw [e0 hH]
        rcases c with (c | c) | c
        · simp only [cNames, c, Bool.false_and]
        · simp only [cNames, c, Bool.false_and, Bool.and_false]
        · simp only [cNames, decide_eq_false (by omega : ¬ ifs.length ≤ 8), Bool.false_and, Bool.and_false]
end Go.Proofs.YtalalcpefggniaaGreatDoor.E

/- ast, part W: depths of statements; classes that are too deep. -/
set_option linter.unusedSimpArgs false
set_option linter.unusedVariables false
namespace Go.Proofs.YtalalcpefggniaaGreatDoor.E
open Go

def argsD : Ex → Nat | .mk _ _ _ _ _ args => depthL args
mutual
/-- The largest depth of the expressions. -/
def exprD : St → Nat
  | .mk k _ _ tg ex body alt => max (max (exprDs body) (exprDs alt)) (max (depthE tg) (if k = 11 then argsD ex else depthE ex))
def exprDs : List St → Nat
  | [] => 0
  | e :: r => max (exprD e) (exprDs r)
end
theorem depthSs_take : ∀ {l : List St} {k : Nat} (hk : k < l.length), depthSs (l.take (k + 1)) = max (depthSs (l.take k)) (depthS l[k])
  | [], _, hk => absurd hk (Nat.not_lt_zero _)
  | e :: r, 0, _ => by simp [depthSs]
  | e :: r, k + 1, hk => by
    have := depthSs_take (l := r) (k := k) (by simpa using hk)
    simp only [List.take_succ_cons, depthSs, this, List.getElem_cons_succ, Nat.max_assoc]
theorem exprDs_take : ∀ {l : List St} {k : Nat} (hk : k < l.length), exprDs (l.take (k + 1)) = max (exprDs (l.take k)) (exprD l[k])
  | [], _, hk => absurd hk (Nat.not_lt_zero _)
  | e :: r, 0, _ => by simp [exprDs]
  | e :: r, k + 1, hk => by
    have := exprDs_take (l := r) (k := k) (by simpa using hk)
    simp only [List.take_succ_cons, exprDs, this, List.getElem_cons_succ, Nat.max_assoc]
theorem depthSs_le : ∀ (l : List St) (k : Nat), depthSs (l.take k) ≤ depthSs l
  | [], k => by simp
  | e :: r, 0 => by simp [depthSs]
  | e :: r, k + 1 => by
    have := depthSs_le r k
    simp only [List.take_succ_cons, depthSs]
    omega
theorem exprDs_le : ∀ (l : List St) (k : Nat), exprDs (l.take k) ≤ exprDs l
  | [], k => by simp
  | e :: r, 0 => by simp [exprDs]
  | e :: r, k + 1 => by
    have := exprDs_le r k
    simp only [List.take_succ_cons, exprDs]
    omega
theorem exprDs_mem : ∀ {l : List St} {e : St}, e ∈ l → exprD e ≤ exprDs l
  | [], e, he => by cases he
  | x :: r, e, he => by
    simp only [exprDs]
    rcases List.mem_cons.1 he with rfl | he
    · omega
    · have := exprDs_mem he; omega
theorem depthL_le : ∀ (l : List Ex) (k : Nat), depthL (l.take k) ≤ depthL l
  | [], k => by simp
  | e :: r, 0 => by simp [depthL]
  | e :: r, k + 1 => by
    have := depthL_le r k
    simp only [List.take_succ_cons, depthL]
    omega
/-- The answer of depths. -/
def DepR (args : List SV) (m : Mem) (v1 v2 : Nat) : Prop := FnH Tryz.prog 75 args ⟨[], []⟩ m fun r H' m' => leM m m' ∧ H' = ⟨[], []⟩ ∧ r = .tup [.v (.int .i64 v1), .v (.int .i64 v2)]
/-- The numbers of one statement. -/
structure DepN where
  b1 : Nat
  b2 : Nat
  a1 : Nat
  a2 : Nat
  t : Nat
  x : Nat
  dl : Nat → Nat
structure DepIt (X : Sd) (N : DepN) (mm : Mem) : Prop where
  body : ∀ m', leM mm m' → DepR [.v (.slice X.a X.l X.cp)] m' N.b1 N.b2
  alt : ∀ m', leM mm m' → DepR [.v (.slice X.b X.l2 X.cp2)] m' N.a1 N.a2
  tg : ∀ m', leM mm m' → Ans 23 [.v (.agg ⟨X.tg.cs⟩)] m' (.int .i64 N.t)
  ex : ¬ X.k = 11 → ∀ m', leM mm m' → Ans 23 [.v (.agg ⟨X.ex.cs⟩)] m' (.int .i64 N.x)
  arg : X.k = 11 → ∀ m', leM mm m' → ∀ j, j < X.ex.l → ∃ (Y : Nd) (d : Nat), (Rd m' (ptrAt X.ex.a (j * 8)) Y.cs ∧ X.ex.a ≠ none) ∧ Ans 23 [.v (.agg ⟨Y.cs⟩)] m' (.int .i64 d) ∧ N.dl (j + 1) = max (N.dl j) d
  dl0 : N.dl 0 = 0
  ln : X.ex.l ≤ big
theorem dep_it {h : Nat} (ih : ∀ h', h' < h → ∀ (l : List St) (a : Option Addr) (n c : Nat) (xs : List Value) (m : Mem), depthSs l ≤ h' → h' ≤ big → exprDs l ≤ big → n = l.length → n ≤ big → Rds m a n 23 xs → stsRep m l xs → DepR [.v (.slice a n c)] m (depthSs l) (exprDs l))
    {e : St} {cs : List Value} {mm : Mem} (hd : depthS e ≤ h) (hb : h ≤ big) (hx : exprD e ≤ big) (hrep : stRep mm e cs) :
    ∃ (X : Sd) (N : DepN), cs = X.cs ∧ DepIt X N mm ∧ depthS e = max N.b1 N.a1 + 1 ∧ exprD e = max (max N.b2 N.a2) (max N.t (if X.k = 11 then N.dl X.ex.l else N.x)) := by
  cases e with
  | mk k nm ty tg ex body alt =>
    obtain ⟨X, rfl, rfl, rfl, rfl, htg, hex, hl, hcp, hl2, hcp2, hok, xs, ys, r1, r2, s1, s2⟩ := st_parts hrep
    simp only [depthS] at hd
    simp only [exprD] at hx
    cases ex with
    | mk xk xn xss xc xty args =>
      obtain ⟨y, hy, h1, h2, h3, h4, h5, h6, h7, h8, zs, r3, s3⟩ := ex_parts hex
      have hy := nd_inj hy
      subst hy
      refine ⟨X, ⟨depthSs body, exprDs body, depthSs alt, exprDs alt, depthE tg, depthE (.mk xk xn xss xc xty args), fun j => depthL (args.take j)⟩, rfl, ⟨fun m' hle => ?_, fun m' hle => ?_, fun m' hle => ?_, fun hk m' hle => ?_, fun hk m' hle j hj => ?_, by simp [depthL], h8⟩, by simp only [depthS], ?_⟩
      · exact ih (depthSs body) (by omega) body X.a X.l X.cp xs m' (Nat.le_refl _) (by omega) (by omega) hl (by rw [hl]; exact hok.l) (Rds_upM hle r1) (stsRep_upM hle s1)
      · exact ih (depthSs alt) (by omega) alt X.b X.l2 X.cp2 ys m' (Nat.le_refl _) (by omega) (by omega) hl2 (by rw [hl2]; exact hok.l2) (Rds_upM hle r2) (stsRep_upM hle s2)
      · exact depth_all _ tg _ m' (Nat.le_refl _) (by omega) (exRep_upM hle htg)
      · rw [if_neg hk] at hx
        exact depth_all _ _ _ m' (Nat.le_refl _) (by omega) (exRep_upM hle hex)
      · rw [if_pos hk] at hx
        simp only [argsD] at hx
        have hja : j < args.length := by omega
        have hrepj := exRep_upM hle (exs_at s3 hja)
        obtain ⟨Y, hY⟩ := exRep_nd hrepj
        have hrd := Rds_cells (Rds_upM hle r3) hj
        rw [hY] at hrd hrepj
        exact ⟨Y, depthE args[j], hrd, depth_all _ _ _ m' (Nat.le_refl _) (by have := depth_mem hja; omega) hrepj, depth_take hja⟩
      · simp only [exprD, argsD]
        rw [List.take_of_length_le (by omega : args.length ≤ X.ex.l)]
set_option maxHeartbeats 4000000 in
set_option maxRecDepth 20000 in
theorem depths_all : ∀ (h : Nat) (l : List St) (a : Option Addr) (n c : Nat) (xs : List Value) (m : Mem), depthSs l ≤ h → h ≤ big → exprDs l ≤ big → n = l.length → n ≤ big → Rds m a n 23 xs → stsRep m l xs → DepR [.v (.slice a n c)] m (depthSs l) (exprDs l) := by
  intro h
  induction h using Nat.strongRecOn with
  | ind h ih =>
    intro l a n c xs m hd hb hx hl hn hr hs
    refine enter cfN puN Tryz.func75 rfl rfl (by kernel_rfl) rfl ?_ ?_
    · simp only [go_sem, ↓imp_tf, ↓imp_ft, ↓reduceIte, Nat.reduceBEq, Nat.reduceAdd, Nat.reduceMul, Nat.reduceSub, Nat.reduceEqDiff, Nat.reduceLT, Nat.reduceLeDiff, Option.map, Option.bind, List.map, List.length, reduceCtorEq, Option.toList, Option.getD, List.set, List.drop, List.take, Int.reduceToNat]
    · simp only [go_sem, ↓imp_tf, ↓imp_ft, ↓reduceIte, Nat.reduceBEq, Nat.reduceAdd, Nat.reduceMul, Nat.reduceSub, Nat.reduceEqDiff, Nat.reduceLT, Nat.reduceLeDiff, Option.map, Option.bind, List.map, List.length, reduceCtorEq, Option.toList, Option.getD, List.set, List.drop, List.take, Int.reduceToNat]
      refine WP_loop puN (fun x : Nat × Int × Int × Mem => ⟨[⟨4, [], .v (.int .i64 x.2.1)⟩, ⟨5, [], .v (.int .i64 x.2.2.1)⟩, ⟨14, [], .v (.slice a n c)⟩, ⟨15, [], .v (.int .i64 n)⟩, ⟨16, [], .v (.int .i64 x.1)⟩], [], [], [], 0, x.2.2.2⟩)
        (fun x => leM m x.2.2.2 ∧ x.1 ≤ n ∧ x.2.1 = depthSs (l.take x.1) ∧ x.2.2.1 = exprDs (l.take x.1)) (fun x => n - x.1) (0, 0, 0, m) (by kernel_rfl) (fun _ _ => Nat.le_refl _) (fun x hx => hx.1) (fun _ => ?_) ?_ ?_ ?_
      · simp only [go_sem, ↓imp_tf, ↓imp_ft, ↓reduceIte, Nat.reduceBEq, Nat.reduceAdd, Nat.reduceMul, Nat.reduceSub, Nat.reduceEqDiff, Nat.reduceLT, Nat.reduceLeDiff, Option.map, Option.bind, List.map, List.length, reduceCtorEq, Option.toList, Option.getD, List.set, List.drop, List.take, Int.reduceToNat]
      · simp only [go_sem, ↓imp_tf, ↓imp_ft, ↓reduceIte, Nat.reduceBEq, Nat.reduceAdd, Nat.reduceMul, Nat.reduceSub, Nat.reduceEqDiff, Nat.reduceLT, Nat.reduceLeDiff, Option.map, Option.bind, List.map, List.length, reduceCtorEq, Option.toList, Option.getD, List.set, List.drop, List.take, Int.reduceToNat]
        rfl
      · exact ⟨.inl rfl, Nat.zero_le _, by simp [depthSs], by simp [exprDs]⟩
      · rintro ⟨k, s, e, mm⟩ ⟨h1, h2, h3, h4⟩
        simp only at h1 h2 h3 h4
        have hy : ∀ (hk : k < l.length), ∃ (X : Sd) (N : DepN), (Rd mm (ptrAt a (k * 23)) X.cs ∧ a ≠ none) ∧ DepIt X N mm ∧ depthS l[k] = max N.b1 N.a1 + 1 ∧ exprD l[k] = max (max N.b2 N.a2) (max N.t (if X.k = 11 then N.dl X.ex.l else N.x)) := fun hk => by
          have hrep := stRep_upM h1 (sts_at hs hk)
          have q1 := depthSs_mem (List.getElem_mem hk)
          have q2 := exprDs_mem (List.getElem_mem hk)
          obtain ⟨X, N, hX, hD, e1, e2⟩ := dep_it ih (by omega) hb (by omega) hrep
          have hrd := Rds_cells (Rds_upM h1 hr) (by omega : k < n)
          rw [hX] at hrd
          exact ⟨X, N, hrd, hD, e1, e2⟩
        have hq1 := depthSs_le l k
        have hq2 := exprDs_le l k
        have hq3 : ∀ (hk : k < l.length), depthSs (l.take (k + 1)) = max (depthSs (l.take k)) (depthS l[k]) ∧ depthSs (l.take (k + 1)) ≤ depthSs l := fun hk => ⟨depthSs_take hk, depthSs_le l _⟩
        have hq4 : ∀ (hk : k < l.length), exprDs (l.take (k + 1)) = max (exprDs (l.take k)) (exprD l[k]) ∧ exprDs (l.take (k + 1)) ≤ exprDs l := fun hk => ⟨exprDs_take hk, exprDs_le l _⟩
        clear ih
        simp only [go_sem, ↓imp_tf, ↓imp_ft, ↓reduceIte, Nat.reduceBEq, Nat.reduceAdd, Nat.reduceMul, Nat.reduceSub, Nat.reduceEqDiff, Nat.reduceLT, Nat.reduceLeDiff, Option.map, Option.bind, List.map, List.length, reduceCtorEq, Option.toList, Option.getD, List.set, List.drop, List.take, Int.reduceToNat]
        refine ⟨fun hlt => ?_, fun hge => ?_⟩
        · have hk : k < l.length := by clear hy; omega
          have g3 := hq3 hk
          have g4 := hq4 hk
          refine Exists.elim (hy hk) fun X hy' => Exists.elim hy' fun N hy'' => ⟨⟨by clear hy hy' hy''; omega, hlt, hy''.1.2⟩, X.cs, ⟨hy''.1.1, rfl⟩, ?_⟩
          clear hy hy'
          have hD := hy''.2.1
          have e1 := hy''.2.2.1
          have e2 := hy''.2.2.2
          rw [e1] at g3
          rw [e2] at g4
          clear hy'' e1 e2
          simp only [go_sem, ↓imp_tf, ↓imp_ft, ↓reduceIte, Nat.reduceBEq, Nat.reduceAdd, Nat.reduceMul, Nat.reduceSub, Nat.reduceEqDiff, Nat.reduceLT, Nat.reduceLeDiff, Option.map, Option.bind, List.map, List.length, reduceCtorEq, Option.toList, Option.getD, List.set, List.drop, List.take, Int.reduceToNat, Sd.cs, Nd.cs]
          refine ⟨by kernel_rfl, FnV_of ((hD.body mm (.inl rfl)).mono ?_)⟩
          rintro r H' n1 hn1 ⟨k1, rfl, rfl⟩
          simp only [go_sem, ↓imp_tf, ↓imp_ft, ↓reduceIte, Nat.reduceBEq, Nat.reduceAdd, Nat.reduceMul, Nat.reduceSub, Nat.reduceEqDiff, Nat.reduceLT, Nat.reduceLeDiff, Option.map, Option.bind, List.map, List.length, reduceCtorEq, Option.toList, Option.getD, List.set, List.drop, List.take, Int.reduceToNat, Sd.cs, Nd.cs]
          refine ⟨by kernel_rfl, FnV_of ((hD.alt n1 k1).mono ?_)⟩
          rintro r H' n2 hn2 ⟨k2, rfl, rfl⟩
          have kk2 := leM_tr k1 k2
          simp only [go_sem, ↓imp_tf, ↓imp_ft, ↓reduceIte, Nat.reduceBEq, Nat.reduceAdd, Nat.reduceMul, Nat.reduceSub, Nat.reduceEqDiff, Nat.reduceLT, Nat.reduceLeDiff, Option.map, Option.bind, List.map, List.length, reduceCtorEq, Option.toList, Option.getD, List.set, List.drop, List.take, Int.reduceToNat, Sd.cs, Nd.cs]
          refine ⟨by clear hD; unfold I64; simp only [big] at hb; split <;> omega, by kernel_rfl, FnV_of ((FnH_den (hD.tg n2 kk2) (fun V => rfl)).mono ?_)⟩
          rintro r H' n3 hn3 ⟨k3, rfl, rfl⟩
          have kk3 := leM_tr kk2 k3
          simp only [go_sem, ↓imp_tf, ↓imp_ft, ↓reduceIte, Nat.reduceBEq, Nat.reduceAdd, Nat.reduceMul, Nat.reduceSub, Nat.reduceEqDiff, Nat.reduceLT, Nat.reduceLeDiff, Option.map, Option.bind, List.map, List.length, reduceCtorEq, Option.toList, Option.getD, List.set, List.drop, List.take, Int.reduceToNat, Sd.cs, Nd.cs]
          have hS : (if s < 1 + (if (N.b1 : Int) < N.a1 then (N.a1 : Int) else N.b1) then 1 + (if (N.b1 : Int) < N.a1 then (N.a1 : Int) else N.b1) else s) = ((depthSs (l.take (k + 1)) : Nat) : Int) := by
            clear hD hq3 hq4
            rw [g3.1, h3]
            split <;> split <;> omega
          have hB0 : mx (mx (mx e N.b2) N.a2) N.t = ((max (max (max (exprDs (l.take k)) N.b2) N.a2) N.t : Nat) : Int) := by
            clear hD hq3 hq4 hS
            simp only [mx, h4]
            (repeat' split) <;> omega
          refine Exists.elim (Exists.intro (max (max (max (exprDs (l.take k)) N.b2) N.a2) N.t) rfl : ∃ B0 : Nat, max (max (max (exprDs (l.take k)) N.b2) N.a2) N.t = B0) fun B0 hB => ?_
          rw [hB] at hB0
          refine ⟨fun hk11 => ?_, fun hk11 => ?_⟩
          · refine ⟨by kernel_rfl, FnV_of ((FnH_den (hD.ex hk11 n3 kk3) (fun V => rfl)).mono ?_)⟩
            clear hD
            rintro r H' n4 hn4 ⟨k4, rfl, rfl⟩
            simp only [go_sem, ↓imp_tf, ↓imp_ft, ↓reduceIte, Nat.reduceBEq, Nat.reduceAdd, Nat.reduceMul, Nat.reduceSub, Nat.reduceEqDiff, Nat.reduceLT, Nat.reduceLeDiff, Option.map, Option.bind, List.map, List.length, reduceCtorEq, Option.toList, Option.getD, List.set, List.drop, List.take, Int.reduceToNat, Sd.cs, Nd.cs]
            rw [if_neg hk11] at g4
            refine ⟨by unfold I64; simp only [big] at hn; omega, (k + 1, ((depthSs (l.take (k + 1)) : Nat) : Int), ((exprDs (l.take (k + 1)) : Nat) : Int), n4), ⟨⟨hS, ?_, by simp⟩, .inl rfl⟩, ⟨leM_tr h1 (leM_tr kk3 k4), by simp only; omega, rfl, rfl⟩, by simp only; omega⟩
            simp only
            rw [hB0, g4.1]
            clear hS hB0 hq3 hq4 g3 h3 h4
            split <;> omega
          · rw [if_pos hk11] at g4
            refine WP_loop puN (fun x' : Nat × Int × Mem => ⟨[⟨4, [], .v (.int .i64 (depthSs (l.take (k + 1)) : Nat))⟩, ⟨5, [], .v (.int .i64 x'.2.1)⟩, ⟨14, [], .v (.slice a n c)⟩, ⟨15, [], .v (.int .i64 n)⟩, ⟨16, [], .v (.int .i64 k)⟩, ⟨55, [], .v (.slice X.ex.a X.ex.l X.ex.cp)⟩, ⟨56, [], .v (.int .i64 X.ex.l)⟩, ⟨57, [], .v (.int .i64 x'.1)⟩], [], [], [], 1, x'.2.2⟩)
              (fun x' => leM n3 x'.2.2 ∧ x'.1 ≤ X.ex.l ∧ x'.2.1 = ((max B0 (N.dl x'.1) : Nat) : Int)) (fun x' => X.ex.l - x'.1) (0, (B0 : Int), n3) (by kernel_rfl) (fun _ _ => Nat.le_refl _) (fun x hx => hx.1) (fun _ => ?_) ?_ ?_ ?_
            · simp only [go_sem, ↓imp_tf, ↓imp_ft, ↓reduceIte, Nat.reduceBEq, Nat.reduceAdd, Nat.reduceMul, Nat.reduceSub, Nat.reduceEqDiff, Nat.reduceLT, Nat.reduceLeDiff, Option.map, Option.bind, List.map, List.length, reduceCtorEq, Option.toList, Option.getD, List.set, List.drop, List.take, Int.reduceToNat]
            · simp only [go_sem, ↓imp_tf, ↓imp_ft, ↓reduceIte, Nat.reduceBEq, Nat.reduceAdd, Nat.reduceMul, Nat.reduceSub, Nat.reduceEqDiff, Nat.reduceLT, Nat.reduceLeDiff, Option.map, Option.bind, List.map, List.length, reduceCtorEq, Option.toList, Option.getD, List.set, List.drop, List.take, Int.reduceToNat]
              exact ⟨hS, hB0, rfl⟩
            · exact ⟨.inl rfl, Nat.zero_le _, by rw [hD.dl0, Nat.max_zero]⟩
            · rintro ⟨j, e', mj⟩ ⟨q1, q2, q3⟩
              simp only at q1 q2 q3
              have hz := hD.arg hk11 mj (leM_tr kk3 q1) j
              have hln := hD.ln
              clear hD
              simp only [go_sem, ↓imp_tf, ↓imp_ft, ↓reduceIte, Nat.reduceBEq, Nat.reduceAdd, Nat.reduceMul, Nat.reduceSub, Nat.reduceEqDiff, Nat.reduceLT, Nat.reduceLeDiff, Option.map, Option.bind, List.map, List.length, reduceCtorEq, Option.toList, Option.getD, List.set, List.drop, List.take, Int.reduceToNat]
              refine ⟨fun hlt' => ?_, fun hge' => ?_⟩
              · refine Exists.elim (hz (by clear hz; omega)) fun Y hz1 => Exists.elim hz1 fun dj hz2 => ⟨⟨by clear hz hz1 hz2; omega, hlt', hz2.1.2⟩, Y.cs, ⟨hz2.1.1, rfl⟩, ?_⟩
                clear hz hz1
                have hDj := hz2.2.1
                have hdj := hz2.2.2
                clear hz2
                simp only [go_sem, ↓imp_tf, ↓imp_ft, ↓reduceIte, Nat.reduceBEq, Nat.reduceAdd, Nat.reduceMul, Nat.reduceSub, Nat.reduceEqDiff, Nat.reduceLT, Nat.reduceLeDiff, Option.map, Option.bind, List.map, List.length, reduceCtorEq, Option.toList, Option.getD, List.set, List.drop, List.take, Int.reduceToNat, Nd.cs]
                refine ⟨by kernel_rfl, FnV_of ((FnH_den hDj (fun V => rfl)).mono ?_)⟩
                clear hDj
                rintro r H' n5 hn5 ⟨k5, rfl, rfl⟩
                simp only [go_sem, ↓imp_tf, ↓imp_ft, ↓reduceIte, Nat.reduceBEq, Nat.reduceAdd, Nat.reduceMul, Nat.reduceSub, Nat.reduceEqDiff, Nat.reduceLT, Nat.reduceLeDiff, Option.map, Option.bind, List.map, List.length, reduceCtorEq, Option.toList, Option.getD, List.set, List.drop, List.take, Int.reduceToNat]
                refine ⟨by unfold I64; simp only [big] at hln; omega, (j + 1, ((max B0 (N.dl (j + 1)) : Nat) : Int), n5), ⟨⟨?_, by simp⟩, .inl rfl⟩, ⟨leM_tr q1 k5, by simp only; omega, by simp only [Nat.max_def]⟩, by simp only; omega⟩
                simp only
                rw [hdj, q3]
                clear hS hB0 hq3 hq4 g3 g4 h3 h4 hB
                (repeat' split) <;> omega
              · clear hz
                have hj : j = X.ex.l := by omega
                refine ⟨by unfold I64; simp only [big] at hn; omega, (k + 1, ((depthSs (l.take (k + 1)) : Nat) : Int), ((exprDs (l.take (k + 1)) : Nat) : Int), mj), ⟨⟨rfl, ?_, by simp⟩, .inl rfl⟩, ⟨leM_tr h1 (leM_tr kk3 q1), by simp only; omega, rfl, rfl⟩, by simp only; omega⟩
                simp only
                rw [q3, g4.1, hj]
                clear hS hB0 hq3 hq4 g3 h3 h4
                (repeat' split) <;> omega
        · clear hy hq3 hq4
          have : l.take k = l := List.take_of_length_le (by omega)
          rw [this] at h3 h4
          rw [h3, h4]
          exact ⟨h1, rfl⟩
end Go.Proofs.YtalalcpefggniaaGreatDoor.E

/- ast, part Wa: classes that are too deep. -/
set_option linter.unusedSimpArgs false
set_option linter.unusedVariables false
namespace Go.Proofs.YtalalcpefggniaaGreatDoor.E
open Go

def mdsS : List Md → Nat
  | [] => 0
  | e :: r => max (depthSs e.body) (mdsS r)
def mdsE : List Md → Nat
  | [] => 0
  | e :: r => max (exprDs e.body) (mdsE r)
def deepL (d : Cd) : Bool := decide (24 < max (depthSs d.init) (mdsS d.methods)) || decide (24 < max (exprDs d.init) (mdsE d.methods))
structure CdB (d : Cd) : Prop where
  s : depthSs d.init ≤ big
  e : exprDs d.init ≤ big
  ms : mdsS d.methods ≤ big
  me : mdsE d.methods ≤ big
theorem mdsS_take : ∀ {l : List Md} {k : Nat} (hk : k < l.length), mdsS (l.take (k + 1)) = max (mdsS (l.take k)) (depthSs l[k].body)
  | [], _, hk => absurd hk (Nat.not_lt_zero _)
  | e :: r, 0, _ => by simp [mdsS]
  | e :: r, k + 1, hk => by
    have := mdsS_take (l := r) (k := k) (by simpa using hk)
    simp only [List.take_succ_cons, mdsS, this, List.getElem_cons_succ, Nat.max_assoc]
theorem mdsE_take : ∀ {l : List Md} {k : Nat} (hk : k < l.length), mdsE (l.take (k + 1)) = max (mdsE (l.take k)) (exprDs l[k].body)
  | [], _, hk => absurd hk (Nat.not_lt_zero _)
  | e :: r, 0, _ => by simp [mdsE]
  | e :: r, k + 1, hk => by
    have := mdsE_take (l := r) (k := k) (by simpa using hk)
    simp only [List.take_succ_cons, mdsE, this, List.getElem_cons_succ, Nat.max_assoc]
theorem mdsS_mem : ∀ {l : List Md} {e : Md}, e ∈ l → depthSs e.body ≤ mdsS l
  | [], e, he => by cases he
  | x :: r, e, he => by
    simp only [mdsS]
    rcases List.mem_cons.1 he with rfl | he
    · omega
    · have := mdsS_mem he; omega
theorem mdsE_mem : ∀ {l : List Md} {e : Md}, e ∈ l → exprDs e.body ≤ mdsE l
  | [], e, he => by cases he
  | x :: r, e, he => by
    simp only [mdsE]
    rcases List.mem_cons.1 he with rfl | he
    · omega
    · have := mdsE_mem he; omega
set_option maxHeartbeats 4000000 in
set_option maxRecDepth 20000 in
theorem deep_spec (d : Cd) (cs : List Value) (m : Mem) (hB : CdB d) (h : cdRep m d cs) : Ans 33 [.v (.agg ⟨cs⟩)] m (.bool (deepL d)) := by
  obtain ⟨fl, name, super, ifs, fields, methods, init⟩ := d
  obtain ⟨x, ⟨rfl, rfl, rfl, rfl⟩, ⟨hil, hic, hfn, hfc, hml, hmc, hsl, hsc⟩, hok, r1, r2, xs, ys, r3, s3, r4, s4⟩ := h
  simp only at hil hfn hml hsl r1 r2 s3 s4
  obtain ⟨b1, b2, b3, b4⟩ := hB
  simp only at b1 b2 b3 b4
  have hI := depths_all (depthSs init) init x.sa x.sl x.sc ys m (Nat.le_refl _) b1 b2 hsl (by rw [hsl]; exact hok.l) r4 s4
  have hmb : x.ml ≤ big := by rw [hml]; exact hok.ml
  refine enter cfN puN Tryz.func33 rfl rfl (by kernel_rfl) rfl ?_ ?_
  · simp only [go_sem, ↓imp_tf, ↓imp_ft, ↓reduceIte, Nat.reduceBEq, Nat.reduceAdd, Nat.reduceMul, Nat.reduceSub, Nat.reduceEqDiff, Nat.reduceLT, Nat.reduceLeDiff, Option.map, Option.bind, List.map, List.length, reduceCtorEq, Option.toList, Option.getD, List.set, List.drop, List.take, Int.reduceToNat, Cc.cs]
  · simp only [go_sem, ↓imp_tf, ↓imp_ft, ↓reduceIte, Nat.reduceBEq, Nat.reduceAdd, Nat.reduceMul, Nat.reduceSub, Nat.reduceEqDiff, Nat.reduceLT, Nat.reduceLeDiff, Option.map, Option.bind, List.map, List.length, reduceCtorEq, Option.toList, Option.getD, List.set, List.drop, List.take, Int.reduceToNat, Cc.cs]
    refine ⟨by kernel_rfl, FnV_of (hI.mono ?_)⟩
    clear hI
    rintro r H' m1 hm1 ⟨l1, rfl, rfl⟩
    simp only [go_sem, ↓imp_tf, ↓imp_ft, ↓reduceIte, Nat.reduceBEq, Nat.reduceAdd, Nat.reduceMul, Nat.reduceSub, Nat.reduceEqDiff, Nat.reduceLT, Nat.reduceLeDiff, Option.map, Option.bind, List.map, List.length, reduceCtorEq, Option.toList, Option.getD, List.set, List.drop, List.take, Int.reduceToNat, Cc.cs]
    refine WP_loop puN (fun x' : Nat × Int × Int × Mem => ⟨[⟨3, [], .v (.int .i64 x'.2.1)⟩, ⟨4, [], .v (.int .i64 x'.2.2.1)⟩, ⟨16, [], .v (.slice x.ma x.ml x.mc)⟩, ⟨17, [], .v (.int .i64 x.ml)⟩, ⟨18, [], .v (.int .i64 x'.1)⟩], [], [], [], 1, x'.2.2.2⟩)
      (fun x' => leM m1 x'.2.2.2 ∧ x'.1 ≤ x.ml ∧ x'.2.1 = max (depthSs init) (mdsS (methods.take x'.1)) ∧ x'.2.2.1 = max (exprDs init) (mdsE (methods.take x'.1))) (fun x' => x.ml - x'.1) (0, depthSs init, exprDs init, m1) (by kernel_rfl) (fun _ _ => Nat.le_refl _) (fun x hx => hx.1) (fun _ => ?_) ?_ ?_ ?_
    · simp only [go_sem, ↓imp_tf, ↓imp_ft, ↓reduceIte, Nat.reduceBEq, Nat.reduceAdd, Nat.reduceMul, Nat.reduceSub, Nat.reduceEqDiff, Nat.reduceLT, Nat.reduceLeDiff, Option.map, Option.bind, List.map, List.length, reduceCtorEq, Option.toList, Option.getD, List.set, List.drop, List.take, Int.reduceToNat]
    · simp only [go_sem, ↓imp_tf, ↓imp_ft, ↓reduceIte, Nat.reduceBEq, Nat.reduceAdd, Nat.reduceMul, Nat.reduceSub, Nat.reduceEqDiff, Nat.reduceLT, Nat.reduceLeDiff, Option.map, Option.bind, List.map, List.length, reduceCtorEq, Option.toList, Option.getD, List.set, List.drop, List.take, Int.reduceToNat]
      rfl
    · exact ⟨.inl rfl, Nat.zero_le _, by simp [mdsS], by simp [mdsE]⟩
    · rintro ⟨k, s, e, mm⟩ ⟨h1, h2, h3, h4⟩
      simp only at h1 h2 h3 h4
      have hy : ∀ (hk : k < methods.length), ∃ (X : Mc) (v1 v2 : Nat), (Rd mm (ptrAt x.ma (k * 8)) X.cs ∧ x.ma ≠ none) ∧ DepR [.v (.slice X.a X.l X.cp)] mm v1 v2 ∧ (mdsS (methods.take (k + 1)) = max (mdsS (methods.take k)) v1 ∧ mdsE (methods.take (k + 1)) = max (mdsE (methods.take k)) v2) ∧ v1 ≤ big ∧ v2 ≤ big := fun hk => by
        have hrep := mdRep_up (leM_tr l1 h1) (ls_at s3 hk)
        have q1 := mdsS_mem (List.getElem_mem hk)
        have q2 := mdsE_mem (List.getElem_mem hk)
        have hrd := Rds_cells (Rds_upM (leM_tr l1 h1) r3) (by omega : k < x.ml)
        have t1 := mdsS_take hk
        have t2 := mdsE_take hk
        obtain ⟨X, ⟨e1, _⟩, ⟨e2, e3, e4, e5⟩, hk2, _, zs, r5, s5⟩ := md_parts hrep
        rw [e1] at hrd
        exact ⟨X, _, _, hrd, depths_all _ _ X.a X.l X.cp zs mm (Nat.le_refl _) (by omega) (by omega) e4 (by rw [e4]; exact hk2.l) r5 s5, ⟨t1, t2⟩, by omega, by omega⟩
      simp only [go_sem, ↓imp_tf, ↓imp_ft, ↓reduceIte, Nat.reduceBEq, Nat.reduceAdd, Nat.reduceMul, Nat.reduceSub, Nat.reduceEqDiff, Nat.reduceLT, Nat.reduceLeDiff, Option.map, Option.bind, List.map, List.length, reduceCtorEq, Option.toList, Option.getD, List.set, List.drop, List.take, Int.reduceToNat]
      refine ⟨fun hlt => ?_, fun hge => ?_⟩
      · have hk : k < methods.length := by clear hy; omega
        refine Exists.elim (hy hk) fun X hy1 => Exists.elim hy1 fun v1 hy2 => Exists.elim hy2 fun v2 hy3 => ⟨⟨by clear hy hy1 hy2 hy3; omega, hlt, hy3.1.2⟩, X.cs, ⟨hy3.1.1, rfl⟩, ?_⟩
        clear hy hy1 hy2
        have hD := hy3.2.1
        have e1 := hy3.2.2.1.1
        have e2 := hy3.2.2.1.2
        clear hy3
        simp only [go_sem, ↓imp_tf, ↓imp_ft, ↓reduceIte, Nat.reduceBEq, Nat.reduceAdd, Nat.reduceMul, Nat.reduceSub, Nat.reduceEqDiff, Nat.reduceLT, Nat.reduceLeDiff, Option.map, Option.bind, List.map, List.length, reduceCtorEq, Option.toList, Option.getD, List.set, List.drop, List.take, Int.reduceToNat, Mc.cs]
        refine ⟨by kernel_rfl, FnV_of (hD.mono ?_)⟩
        clear hD
        rintro r H' m2 hm2 ⟨l2, rfl, rfl⟩
        simp only [go_sem, ↓imp_tf, ↓imp_ft, ↓reduceIte, Nat.reduceBEq, Nat.reduceAdd, Nat.reduceMul, Nat.reduceSub, Nat.reduceEqDiff, Nat.reduceLT, Nat.reduceLeDiff, Option.map, Option.bind, List.map, List.length, reduceCtorEq, Option.toList, Option.getD, List.set, List.drop, List.take, Int.reduceToNat]
        refine ⟨by unfold I64; simp only [big] at hmb; omega, (k + 1, ((max (depthSs init) (mdsS (methods.take (k + 1))) : Nat) : Int), ((max (exprDs init) (mdsE (methods.take (k + 1))) : Nat) : Int), m2), ⟨⟨?_, ?_, by simp⟩, .inl rfl⟩, ⟨leM_tr h1 l2, by simp only; omega, by simp only [Nat.max_def], by simp only [Nat.max_def]⟩, by simp only; omega⟩
        · simp only
          rw [e1, h3]
          clear h3 h4 e1 e2
          (repeat' split) <;> omega
        · simp only
          rw [e2, h4]
          clear h3 h4 e1 e2
          (repeat' split) <;> omega
      · clear hy
        have : methods.take k = methods := List.take_of_length_le (by omega)
        rw [this] at h3 h4
        have e0 : deepL ⟨x.fl, x.name, x.super, ifs, fields, methods, init⟩ = (decide (24 < max (depthSs init) (mdsS methods)) || decide (24 < max (exprDs init) (mdsE methods))) := rfl
        refine ⟨leM_tr l1 h1, ?_⟩
        rw [e0]
        congr 1
        · rw [decide_eq_decide]; omega
        · rw [decide_eq_decide]; omega
end Go.Proofs.YtalalcpefggniaaGreatDoor.E

/- ast, part Wb: duplicates. -/
set_option linter.unusedSimpArgs false
set_option linter.unusedVariables false
namespace Go.Proofs.YtalalcpefggniaaGreatDoor.E
open Go

/-- Does an element occur twice? -/
def dupB {α : Type} [BEq α] : List α → List α → Bool
  | _, [] => false
  | seen, a :: r => seen.contains a || dupB (seen ++ [a]) r
def dupL (d : Cd) : Bool := dupB [] d.ifs || dupB [] (d.fields.map (·.name)) || dupB [] (d.methods.map fun m => (m.name, m.params.length))
/-- The entries of a map from texts, all true. -/
def entS (l : List (List UInt8)) : List Value := (l.map fun s => [.string (bs s), .bool true]).flatten
theorem plains_map : ∀ (l : List Value), plains (l.map .v) = some l
  | [] => rfl
  | x :: r => by simp [plains, plain, plains_map r]
theorem okL_map {n : Nat} {vc : List Vc} : ∀ (l : List Value), okL n vc (l.map .v) = True
  | [] => rfl
  | x :: r => by simp [okL, okA, okL_map r]
theorem findV_seen (s : List UInt8) : ∀ (l : List (List UInt8)), findV (entS l) s = l.contains s
  | [] => rfl
  | a :: r => by
    have e : entS (a :: r) = .string (bs a) :: .bool true :: entS r := rfl
    rw [e, findV, tl_bs, findV_seen s r, List.contains_cons]
    by_cases h : s = a
    · subst h; simp
    · have : (s == a) = false := by simpa using h
      rw [if_neg h, this, Bool.false_or]
theorem putV_new (s : List UInt8) : ∀ (l : List (List UInt8)), l.contains s = false → putV (entS l) s true = entS (l ++ [s])
  | [], _ => rfl
  | a :: r, h => by
    have e : entS (a :: r) = .string (bs a) :: .bool true :: entS r := rfl
    rw [List.contains_cons, Bool.or_eq_false_iff] at h
    have hn : ¬ s = a := by simpa using h.1
    rw [e, putV, tl_bs, if_neg hn, putV_new s r h.2]
    rfl
theorem Rds_take {m : Mem} {a : Option Addr} {n k c : Nat} {l : List (List UInt8)} (h : Rds m a n 1 (strs l)) (hk : k ≤ n) : Rds m (if c = 0 then a else a.map (·.add (0 * 1))) (k - 0) 1 (strs (l.take k)) := by
  have hl := h.1
  simp only [strs, List.length_map, Nat.mul_one] at hl
  refine ⟨by simp [strs]; omega, fun h0 => ?_⟩
  obtain ⟨ad, rfl, hs, hcell⟩ := h.2 (by omega)
  have e : (if c = 0 then some ad else (some ad).map (·.add (0 * 1))) = some ad := by
    by_cases hc : c = 0
    · rw [if_pos hc]
    · rw [if_neg hc]; rfl
  refine ⟨ad, e, hs, fun j hj => ?_⟩
  obtain ⟨h1, h2⟩ := hcell j (by omega)
  refine ⟨?_, h2⟩
  rw [h1]
  simp only [strs, List.getElem?_map, List.getElem?_take]
  rw [if_pos (by omega)]
theorem dup_step {α : Type} [BEq α] {l : List α} {k : Nat} (hk : k < l.length) : dupB (l.take k) (l.drop k) = ((l.take k).contains l[k] || dupB (l.take (k + 1)) (l.drop (k + 1))) := by
  rw [List.drop_eq_getElem_cons hk, dupB, List.take_succ_eq_append_getElem hk]
theorem strMap60 : strMap Tryz.prog 60 = true := by kernel_rfl
set_option maxHeartbeats 4000000 in
set_option maxRecDepth 20000 in
/-- (for classes without methods) -/
theorem dup_spec0 (d : Cd) (cs : List Value) (m : Mem) (h : cdRep m d cs) (h0 : d.methods = []) : Ans 34 [.v (.agg ⟨cs⟩)] m (.bool (dupL d)) := by
  obtain ⟨fl, name, super, ifs, fields, methods, init⟩ := d
  simp only at h0
  subst h0
  obtain ⟨x, ⟨rfl, rfl, rfl, rfl⟩, ⟨hil, hic, hfn, hfc, hml, hmc, hsl, hsc⟩, hok, r1, r2, xs, ys, r3, s3, r4, s4⟩ := h
  simp only [List.length_nil] at hil hfn hml hsl r1 r2 s3 s4
  have hib : x.il ≤ big := by rw [hil]; exact hok.il
  have hfb : x.fn ≤ big := by rw [hfn]; exact hok.fn
  clear s3 s4
  refine enter cfN puN Tryz.func34 rfl rfl (by kernel_rfl) rfl ?_ ?_
  · simp only [go_sem, ↓imp_tf, ↓imp_ft, ↓reduceIte, Nat.reduceBEq, Nat.reduceAdd, Nat.reduceMul, Nat.reduceSub, Nat.reduceEqDiff, Nat.reduceLT, Nat.reduceLeDiff, Option.map, Option.bind, List.map, List.length, reduceCtorEq, Option.toList, Option.getD, List.set, List.drop, List.take, Int.reduceToNat, Cc.cs]
  · simp only [go_sem, ↓imp_tf, ↓imp_ft, ↓reduceIte, Nat.reduceBEq, Nat.reduceAdd, Nat.reduceMul, Nat.reduceSub, Nat.reduceEqDiff, Nat.reduceLT, Nat.reduceLeDiff, Option.map, Option.bind, List.map, List.length, reduceCtorEq, Option.toList, Option.getD, List.set, List.drop, List.take, Int.reduceToNat, Cc.cs]
    refine WP_loop puN (fun x' : Nat × Mem => ⟨[⟨1, [], .box 0 0⟩, ⟨13, [], .v (.slice x.ia x.il x.ic)⟩, ⟨14, [], .v (.int .i64 x.il)⟩, ⟨15, [], .v (.int .i64 x'.1)⟩], [], [⟨0, 55, x.cs.map .v⟩], [], 1, x'.2⟩)
      (fun x' => leM m x'.2 ∧ x'.1 ≤ x.il ∧ dupB [] ifs = dupB (ifs.take x'.1) (ifs.drop x'.1)) (fun x' => x.il - x'.1) (0, m) (by kernel_rfl) (fun _ _ => Nat.le_refl _) (fun x hx => hx.1) (fun _ => ?_) ?_ ?_ ?_
    · simp only [go_sem, ↓imp_tf, ↓imp_ft, ↓reduceIte, Nat.reduceBEq, Nat.reduceAdd, Nat.reduceMul, Nat.reduceSub, Nat.reduceEqDiff, Nat.reduceLT, Nat.reduceLeDiff, Option.map, Option.bind, List.map, List.length, reduceCtorEq, Option.toList, Option.getD, List.set, List.drop, List.take, Int.reduceToNat, Cc.cs]
    · simp only [go_sem, ↓imp_tf, ↓imp_ft, ↓reduceIte, Nat.reduceBEq, Nat.reduceAdd, Nat.reduceMul, Nat.reduceSub, Nat.reduceEqDiff, Nat.reduceLT, Nat.reduceLeDiff, Option.map, Option.bind, List.map, List.length, reduceCtorEq, Option.toList, Option.getD, List.set, List.drop, List.take, Int.reduceToNat, Cc.cs]
      rfl
    · exact ⟨.inl rfl, Nat.zero_le _, rfl⟩
    · rintro ⟨k, mm⟩ ⟨h1, h2, h3⟩
      simp only at h1 h2 h3
      have hy : ∀ (hk : k < ifs.length), (Rd mm (ptrAt x.ia k) [.string (bs ifs[k])] ∧ x.ia ≠ none) ∧ FnH Tryz.prog 76 [.v (slv x.ia x.ic 0 k 1), .v (.string (bs ifs[k]))] ⟨[], []⟩ mm fun r H' _ => r = .v (.bool ((ifs.take k).contains ifs[k])) ∧ H' = ⟨[], []⟩ := fun hk =>
        ⟨strs_rd (Rds_upM h1 r1) hk, contains_spec (ifs.take k) ifs[k] _ (k - 0) (x.ic - 0) mm (Rds_take (Rds_upM h1 r1) (by omega)) (by simp only [big] at hib; omega)⟩
      simp only [go_sem, ↓imp_tf, ↓imp_ft, ↓reduceIte, Nat.reduceBEq, Nat.reduceAdd, Nat.reduceMul, Nat.reduceSub, Nat.reduceEqDiff, Nat.reduceLT, Nat.reduceLeDiff, Option.map, Option.bind, List.map, List.length, reduceCtorEq, Option.toList, Option.getD, List.set, List.drop, List.take, Int.reduceToNat, Cc.cs]
      refine ⟨fun hlt => ?_, fun hge => ?_⟩
      · have hk : k < ifs.length := by clear hy; omega
        have hy' := hy hk
        clear hy
        refine ⟨⟨by clear hy'; omega, hlt, hy'.1.2⟩, _, hy'.1.1, ?_⟩
        simp only [go_sem, ↓imp_tf, ↓imp_ft, ↓reduceIte, Nat.reduceBEq, Nat.reduceAdd, Nat.reduceMul, Nat.reduceSub, Nat.reduceEqDiff, Nat.reduceLT, Nat.reduceLeDiff, Option.map, Option.bind, List.map, List.length, reduceCtorEq, Option.toList, Option.getD, List.set, List.drop, List.take, Int.reduceToNat, Cc.cs]
        have hds := dup_step hk
        refine ⟨⟨Int.le_refl _, by clear hy'; omega, by clear hy'; omega⟩, by kernel_rfl, FnV_of (hy'.2.mono ?_)⟩
        clear hy'
        rintro r H' m2 hm2 ⟨rfl, rfl⟩
        simp only [go_sem, ↓imp_tf, ↓imp_ft, ↓reduceIte, Nat.reduceBEq, Nat.reduceAdd, Nat.reduceMul, Nat.reduceSub, Nat.reduceEqDiff, Nat.reduceLT, Nat.reduceLeDiff, Option.map, Option.bind, List.map, List.length, reduceCtorEq, Option.toList, Option.getD, List.set, List.drop, List.take, Int.reduceToNat, Cc.cs]
        refine ⟨fun hc => ⟨leM_tr h1 (.inr hm2), ?_⟩, fun hc => ⟨by unfold I64; simp only [big] at hib; omega, (k + 1, m2), ⟨by simp, .inl rfl⟩, ⟨leM_tr h1 (.inr hm2), by simp only; omega, ?_⟩, by simp only; omega⟩⟩
        · simp only [dupL, h3, hds, hc, Bool.true_or]
        · simp only
          rw [h3, hds, hc, Bool.false_or]
      · clear hy
        have hI : dupB [] ifs = false := by
          rw [h3, List.drop_of_length_le (by omega)]
          rfl
        refine WP_loop puN (fun x' : Nat × Mem => ⟨[⟨1, [], .box 0 0⟩, ⟨5, [], .mp 1⟩, ⟨29, [], .v (.slice x.fa x.fn x.fc)⟩, ⟨30, [], .v (.int .i64 x.fn)⟩, ⟨31, [], .v (.int .i64 x'.1)⟩], [], [⟨1, mapTy, (entS ((fields.map (·.name)).take x'.1)).map .v⟩, ⟨0, 55, x.cs.map .v⟩], [], 2, x'.2⟩)
          (fun x' => leM mm x'.2 ∧ x'.1 ≤ x.fn ∧ dupB [] (fields.map (·.name)) = dupB ((fields.map (·.name)).take x'.1) ((fields.map (·.name)).drop x'.1)) (fun x' => x.fn - x'.1) (0, mm) (by kernel_rfl) (fun _ _ => Nat.le_refl _) (fun x hx => ?_) (fun _ => ?_) ?_ ?_ ?_
        · exact hx.1
        · simp only [go_sem, ↓imp_tf, ↓imp_ft, ↓reduceIte, Nat.reduceBEq, Nat.reduceAdd, Nat.reduceMul, Nat.reduceSub, Nat.reduceEqDiff, Nat.reduceLT, Nat.reduceLeDiff, Option.map, Option.bind, List.map, List.length, reduceCtorEq, Option.toList, Option.getD, List.set, List.drop, List.take, Int.reduceToNat, Cc.cs, okL_map]
        · simp only [go_sem, ↓imp_tf, ↓imp_ft, ↓reduceIte, Nat.reduceBEq, Nat.reduceAdd, Nat.reduceMul, Nat.reduceSub, Nat.reduceEqDiff, Nat.reduceLT, Nat.reduceLeDiff, Option.map, Option.bind, List.map, List.length, reduceCtorEq, Option.toList, Option.getD, List.set, List.drop, List.take, Int.reduceToNat, Cc.cs]
          exact ⟨rfl, rfl⟩
        · exact ⟨.inl rfl, Nat.zero_le _, rfl⟩
        · rintro ⟨j, mj⟩ ⟨q1, q2, q3⟩
          simp only at q1 q2 q3
          have hy : ∀ (hj : j < fields.length), Rd mj (ptrAt x.fa (j * 5)) (fields[j]).cs ∧ x.fa ≠ none := fun hj => by
            have := Rds_cells (Rds_upM (leM_tr h1 q1) r2) (by omega : j < x.fn)
            rw [flat_at (f := Fc.cs) (sz := 5) (fun _ => rfl) hj] at this
            exact this
          simp only [go_sem, ↓imp_tf, ↓imp_ft, ↓reduceIte, Nat.reduceBEq, Nat.reduceAdd, Nat.reduceMul, Nat.reduceSub, Nat.reduceEqDiff, Nat.reduceLT, Nat.reduceLeDiff, Option.map, Option.bind, List.map, List.length, reduceCtorEq, Option.toList, Option.getD, List.set, List.drop, List.take, Int.reduceToNat, Cc.cs]
          refine ⟨fun hlt => ?_, fun hge => ?_⟩
          · have hj : j < fields.length := by omega
            refine ⟨⟨by omega, hlt, (hy hj).2⟩, (fields[j]).cs, ⟨(hy hj).1, rfl⟩, ?_⟩
            simp only [go_sem, ↓imp_tf, ↓imp_ft, ↓reduceIte, Nat.reduceBEq, Nat.reduceAdd, Nat.reduceMul, Nat.reduceSub, Nat.reduceEqDiff, Nat.reduceLT, Nat.reduceLeDiff, Option.map, Option.bind, List.map, List.length, reduceCtorEq, Option.toList, Option.getD, List.set, List.drop, List.take, Int.reduceToNat, Cc.cs, Fc.cs, plains_map, findV_seen, strMap60]
            have hjl : j < (fields.map (·.name)).length := by simpa using hj
            have hds := dup_step hjl
            have hget : (fields.map (·.name))[j] = fields[j].name := by simp
            rw [hget] at hds
            refine ⟨fun hc => ⟨leM_tr h1 q1, ?_⟩, fun hc => ⟨by unfold I64; simp only [big] at hfb; omega, (j + 1, mj), ⟨by simp, ?_, .inl rfl⟩, ⟨q1, by simp only; omega, ?_⟩, by simp only; omega⟩⟩
            · simp only [dupL, q3, hds, hc, Bool.true_or, Bool.or_true]
            · simp only
              rw [putV_new _ _ hc, List.take_succ_eq_append_getElem hjl, hget]
            · simp only
              rw [q3, hds, hc, Bool.false_or]
          · have hF : dupB [] (fields.map (·.name)) = false := by
              rw [q3, List.drop_of_length_le (by simp; omega)]
              rfl
            have h0 : ((0 : Int) < (x.ml : Int)) = False := eq_false (by omega)
            refine WP_loop puN (fun x' : Nat => ⟨[⟨45, [], .v (.slice x.ma x.ml x.mc)⟩, ⟨46, [], .v (.int .i64 x.ml)⟩, ⟨47, [], .v (.int .i64 0)⟩], [], [], [], 3, mj⟩)
              (fun x' => True) (fun x' => x') 0 (by kernel_rfl) (fun _ _ => Nat.le_refl _) (fun x hx => .inl rfl) (fun _ => ?_) ?_ ?_ ?_
            · simp only [go_sem, ↓imp_tf, ↓imp_ft, ↓reduceIte, Nat.reduceBEq, Nat.reduceAdd, Nat.reduceMul, Nat.reduceSub, Nat.reduceEqDiff, Nat.reduceLT, Nat.reduceLeDiff, Option.map, Option.bind, List.map, List.length, reduceCtorEq, Option.toList, Option.getD, List.set, List.drop, List.take, Int.reduceToNat, Cc.cs]
            · simp only [go_sem, ↓imp_tf, ↓imp_ft, ↓reduceIte, Nat.reduceBEq, Nat.reduceAdd, Nat.reduceMul, Nat.reduceSub, Nat.reduceEqDiff, Nat.reduceLT, Nat.reduceLeDiff, Option.map, Option.bind, List.map, List.length, reduceCtorEq, Option.toList, Option.getD, List.set, List.drop, List.take, Int.reduceToNat, Cc.cs]
            · trivial
            · intro x' _
              simp only [go_sem, ↓imp_tf, ↓imp_ft, ↓reduceIte, Nat.reduceBEq, Nat.reduceAdd, Nat.reduceMul, Nat.reduceSub, Nat.reduceEqDiff, Nat.reduceLT, Nat.reduceLeDiff, Option.map, Option.bind, List.map, List.length, reduceCtorEq, Option.toList, Option.getD, List.set, List.drop, List.take, Int.reduceToNat, Cc.cs, h0, decide_false]
              exact ⟨leM_tr h1 q1, by simp [dupL, hI, hF, dupB]⟩
end Go.Proofs.YtalalcpefggniaaGreatDoor.E

/- ast, part Wc: Check. -/
set_option linter.unusedSimpArgs false
set_option linter.unusedVariables false
namespace Go.Proofs.YtalalcpefggniaaGreatDoor.E
open Go

/-- What Check returns. -/
def checkL : List (List UInt8) → List Cd → List UInt8 × Int
  | _, [] => ([], 0)
  | seen, d :: r => if classL d = true then (if deepL d = true then (d.name, 9) else if (seen.contains d.name || dupL d) = true then (d.name, 6) else checkL (seen ++ [d.name]) r) else (d.name, 4)
/-- What is asked of each class. -/
structure ChkOk (d : Cd) (m : Mem) : Prop where
  b : CdB d
  dup : ∀ cs m', leM m m' → cdRep m' d cs → Ans 34 [.v (.agg ⟨cs⟩)] m' (.bool (dupL d))
set_option maxHeartbeats 4000000 in
set_option maxRecDepth 20000 in
theorem check_spec (l : List Cd) (p : Option Addr) (n c : Nat) (m : Mem) (hg : Glob m) (hC : ∀ d ∈ l, ChkOk d m) (h : prRep m l p n c) :
    FnH Tryz.prog 11 [.v (.slice p n c)] ⟨[], []⟩ m fun r H' m' => leM m m' ∧ H' = ⟨[], []⟩ ∧ r = .tup [.v (.string (bs (checkL [] l).1)), .v (.int .i64 (checkL [] l).2)] := by
  obtain ⟨hl, hcp, hn, xs, r1, s1⟩ := h
  refine enter cfN puN Tryz.func11 rfl rfl (by kernel_rfl) rfl ?_ ?_
  · simp only [go_sem, ↓imp_tf, ↓imp_ft, ↓reduceIte, Nat.reduceBEq, Nat.reduceAdd, Nat.reduceMul, Nat.reduceSub, Nat.reduceEqDiff, Nat.reduceLT, Nat.reduceLeDiff, Option.map, Option.bind, List.map, List.length, reduceCtorEq, Option.toList, Option.getD, List.set, List.drop, List.take, Int.reduceToNat]
  · simp only [go_sem, ↓imp_tf, ↓imp_ft, ↓reduceIte, Nat.reduceBEq, Nat.reduceAdd, Nat.reduceMul, Nat.reduceSub, Nat.reduceEqDiff, Nat.reduceLT, Nat.reduceLeDiff, Option.map, Option.bind, List.map, List.length, reduceCtorEq, Option.toList, Option.getD, List.set, List.drop, List.take, Int.reduceToNat]
    refine WP_loop puN (fun x : Nat × Mem => ⟨[⟨4, [], .mp 0⟩, ⟨8, [], .v (.slice p n c)⟩, ⟨9, [], .v (.int .i64 n)⟩, ⟨10, [], .v (.int .i64 x.1)⟩], [], [⟨0, mapTy, (entS ((l.map (·.name)).take x.1)).map .v⟩], [], 1, x.2⟩)
      (fun x => leM m x.2 ∧ x.1 ≤ n ∧ checkL [] l = checkL ((l.map (·.name)).take x.1) (l.drop x.1)) (fun x => n - x.1) (0, m) (by kernel_rfl) (fun _ _ => Nat.le_refl _) (fun x hx => hx.1) (fun _ => ?_) ?_ ?_ ?_
    · simp only [go_sem, ↓imp_tf, ↓imp_ft, ↓reduceIte, Nat.reduceBEq, Nat.reduceAdd, Nat.reduceMul, Nat.reduceSub, Nat.reduceEqDiff, Nat.reduceLT, Nat.reduceLeDiff, Option.map, Option.bind, List.map, List.length, reduceCtorEq, Option.toList, Option.getD, List.set, List.drop, List.take, Int.reduceToNat, okL_map]
    · simp only [go_sem, ↓imp_tf, ↓imp_ft, ↓reduceIte, Nat.reduceBEq, Nat.reduceAdd, Nat.reduceMul, Nat.reduceSub, Nat.reduceEqDiff, Nat.reduceLT, Nat.reduceLeDiff, Option.map, Option.bind, List.map, List.length, reduceCtorEq, Option.toList, Option.getD, List.set, List.drop, List.take, Int.reduceToNat]
      exact ⟨rfl, rfl⟩
    · exact ⟨.inl rfl, Nat.zero_le _, rfl⟩
    · rintro ⟨k, mm⟩ ⟨h1, h2, h3⟩
      simp only at h1 h2 h3
      have hy : ∀ (hk : k < l.length), ∃ X : Cc, (Rd mm (ptrAt p (k * 7)) X.cs ∧ p ≠ none) ∧ X.name = l[k].name ∧
          (Ans 32 [.v (.agg ⟨X.cs⟩)] mm (.bool (classL l[k]))) ∧ (∀ m', leM mm m' → Ans 33 [.v (.agg ⟨X.cs⟩)] m' (.bool (deepL l[k]))) ∧ (∀ m', leM mm m' → Ans 34 [.v (.agg ⟨X.cs⟩)] m' (.bool (dupL l[k]))) := fun hk => by
        have hrep := cdRep_up h1 (ls_at s1 hk)
        have hrd := Rds_cells (Rds_upM h1 r1) (by omega : k < n)
        have hX : ∃ X : Cc, (xs.drop (k * 7)).take 7 = X.cs ∧ X.name = l[k].name := by
          obtain ⟨X, e1, _⟩ := hrep
          exact ⟨X, e1.1, e1.2.2.1⟩
        obtain ⟨X, e1, e2⟩ := hX
        rw [e1] at hrd hrep
        have hok := hC _ (List.getElem_mem hk)
        exact ⟨X, hrd, e2, class_spec2 _ _ mm (hg.upM h1) hrep, fun m' hle => deep_spec _ _ m' hok.b (cdRep_up hle hrep), fun m' hle => hok.dup _ m' (leM_tr h1 hle) (cdRep_up hle hrep)⟩
      have hst : ∀ (hk : k < l.length), checkL [] l = (if classL l[k] = true then (if deepL l[k] = true then (l[k].name, 9) else if (((l.map (·.name)).take k).contains l[k].name || dupL l[k]) = true then (l[k].name, 6) else checkL ((l.map (·.name)).take (k + 1)) (l.drop (k + 1))) else (l[k].name, 4)) := fun hk => by
        rw [h3, List.drop_eq_getElem_cons hk, checkL]
        have : (l.map (·.name)).take (k + 1) = (l.map (·.name)).take k ++ [l[k].name] := by
          rw [List.take_succ_eq_append_getElem (by simpa using hk)]
          simp
        rw [this]
      clear hC
      simp only [go_sem, ↓imp_tf, ↓imp_ft, ↓reduceIte, Nat.reduceBEq, Nat.reduceAdd, Nat.reduceMul, Nat.reduceSub, Nat.reduceEqDiff, Nat.reduceLT, Nat.reduceLeDiff, Option.map, Option.bind, List.map, List.length, reduceCtorEq, Option.toList, Option.getD, List.set, List.drop, List.take, Int.reduceToNat]
      refine ⟨fun hlt => ?_, fun hge => ?_⟩
      · have hk : k < l.length := by clear hy; omega
        have hst' := hst hk
        clear hst
        refine Exists.elim (hy hk) fun X hy' => ⟨⟨by clear hy hy'; omega, hlt, hy'.1.2⟩, X.cs, ⟨hy'.1.1, rfl⟩, ?_⟩
        clear hy
        have hnm := hy'.2.1
        have hV := hy'.2.2.1
        have hDp := hy'.2.2.2.1
        have hDu := hy'.2.2.2.2
        clear hy'
        simp only [go_sem, ↓imp_tf, ↓imp_ft, ↓reduceIte, Nat.reduceBEq, Nat.reduceAdd, Nat.reduceMul, Nat.reduceSub, Nat.reduceEqDiff, Nat.reduceLT, Nat.reduceLeDiff, Option.map, Option.bind, List.map, List.length, reduceCtorEq, Option.toList, Option.getD, List.set, List.drop, List.take, Int.reduceToNat, Cc.cs]
        refine ⟨by kernel_rfl, FnV_of ((FnH_den hV (fun V => rfl)).mono ?_)⟩
        clear hV
        rintro r H' m2 hm2 ⟨l2, rfl, rfl⟩
        simp only [go_sem, ↓imp_tf, ↓imp_ft, ↓reduceIte, Nat.reduceBEq, Nat.reduceAdd, Nat.reduceMul, Nat.reduceSub, Nat.reduceEqDiff, Nat.reduceLT, Nat.reduceLeDiff, Option.map, Option.bind, List.map, List.length, reduceCtorEq, Option.toList, Option.getD, List.set, List.drop, List.take, Int.reduceToNat, Cc.cs]
        refine ⟨fun b1 => ⟨leM_tr h1 l2, ?_⟩, fun b1 => ⟨by kernel_rfl, FnV_of ((FnH_den (hDp m2 l2) (fun V => rfl)).mono ?_)⟩⟩
        · clear hDp hDu
          rw [hst', if_neg (by rw [b1]; decide), hnm]
        · clear hDp
          rw [if_pos b1] at hst'
          rintro r H' m3 hm3 ⟨l3, rfl, rfl⟩
          have l23 := leM_tr l2 l3
          simp only [go_sem, ↓imp_tf, ↓imp_ft, ↓reduceIte, Nat.reduceBEq, Nat.reduceAdd, Nat.reduceMul, Nat.reduceSub, Nat.reduceEqDiff, Nat.reduceLT, Nat.reduceLeDiff, Option.map, Option.bind, List.map, List.length, reduceCtorEq, Option.toList, Option.getD, List.set, List.drop, List.take, Int.reduceToNat, Cc.cs, plains_map, findV_seen, strMap60]
          refine ⟨fun b2 => ⟨leM_tr h1 l23, ?_⟩, fun b2 => ?_⟩
          · clear hDu
            rw [hst', if_pos b2, hnm]
          · rw [if_neg (by rw [b2]; decide)] at hst'
            refine ⟨fun b3 => ⟨by kernel_rfl, FnV_of ((FnH_den (hDu m3 l23) (fun V => rfl)).mono ?_)⟩, fun b3 => ⟨leM_tr h1 l23, ?_⟩⟩
            · clear hDu
              rw [← hnm, b3, Bool.false_or] at hst'
              rintro r H' m4 hm4 ⟨l4, rfl, rfl⟩
              have l24 := leM_tr l23 l4
              simp only [go_sem, ↓imp_tf, ↓imp_ft, ↓reduceIte, Nat.reduceBEq, Nat.reduceAdd, Nat.reduceMul, Nat.reduceSub, Nat.reduceEqDiff, Nat.reduceLT, Nat.reduceLeDiff, Option.map, Option.bind, List.map, List.length, reduceCtorEq, Option.toList, Option.getD, List.set, List.drop, List.take, Int.reduceToNat, Cc.cs, plains_map, findV_seen, strMap60]
              refine ⟨fun b4 => ⟨leM_tr h1 l24, ?_⟩, fun b4 => ⟨by unfold I64; simp only [big] at hn; omega, (k + 1, m4), ⟨by simp, ?_, .inl rfl⟩, ⟨leM_tr h1 l24, by simp only; omega, ?_⟩, by simp only; omega⟩⟩
              · rw [hst', if_pos b4]
              · have hkl : k < (l.map (·.name)).length := by simpa using hk
                simp only
                rw [putV_new _ _ b3, List.take_succ_eq_append_getElem hkl, hnm]
                simp
              · simp only
                rw [hst', if_neg (by rw [b4]; decide)]
            · clear hDu
              rw [hst', ← hnm, b3, if_pos (by simp)]
      · clear hy
        rw [h3, List.drop_of_length_le (by omega), checkL]
        exact ⟨h1, rfl⟩
end Go.Proofs.YtalalcpefggniaaGreatDoor.E

/- Several texts in one: AstX, AstXa, AstXb, AstY, AstZ, AstCard, AstCardE, AstSa, AstSc, AstCardQ, AstSd, AstCardP, AstXc, AstXd. -/
import Derived.Test.YtalalcpefggniaaGreatDoorRows
import Derived.Test.YtalalcpefggniaaGreatDoorCards
import Derived.Test.YtalalcpefggniaaGreatDoorTie
import Derived.ProofKit
import Derived.OpenShut
import Derived.LaidMore
import Derived.Lay
import Derived.SevenTiedAt
import Derived.Stop.Joined
import Derived.Stop.LaidErr
import Derived.Lib.LaidTab
import Derived.Shelf.Vars
import Derived.Deep.Slices
import Derived.Deep.DeepHandedRow
import Derived.Carry
import Derived.Test.YtalalcpefggniaaGreatDoorMrg4
set_option linter.unusedSimpArgs false
set_option linter.unusedVariables false
set_option maxHeartbeats 4000000
set_option maxRecDepth 20000
namespace Go.Proofs.YtalalcpefggniaaGreatDoor.E
open Go

def modsL : List (Int × List UInt8) := [(1, [112, 117, 98, 108, 105, 99]), (2, [112, 114, 105, 118, 97, 116, 101]), (4, [112, 114, 111, 116, 101, 99, 116, 101, 100]), (8, [115, 116, 97, 116, 105, 99]), (16, [102, 105, 110, 97, 108]), (32, [115, 121, 110, 99]), (1024, [97, 98, 115, 116, 114, 97, 99, 116])]
def modT (fl : Int) : List Tk := (modsL.filter fun p => hasB fl p.1).map fun p => kw p.2
def ifsT (w : List UInt8) : List (List UInt8) → List Tk
  | [] => []
  | s :: r => kw w :: nm1 s :: (r.map fun t => [sg [44], nm1 t]).flatten
theorem aggMo : aggN Tryz.prog 148 = some (some 2) := by kernel_rfl
theorem szMo : szT Tryz.prog 148 = 2 := by kernel_rfl
theorem zeroMo : zeroO Tryz.prog 148 = some [.v (.int .i64 0), .v (.string (bs []))] := by kernel_rfl
theorem bldMo : bldOk Tryz.prog 148 = true := by kernel_rfl
theorem fldMo_0 : fldO Tryz.prog 148 0 = some (0, none, 1) := by kernel_rfl
theorem fldMo_1 : fldO Tryz.prog 148 1 = some (1, none, 1) := by kernel_rfl
theorem elMo : elT Tryz.prog 149 = some 148 := by kernel_rfl
attribute [go_sem] aggMo szMo zeroMo bldMo fldMo_0 fldMo_1 elMo
def modC : List Value := (modsL.map fun p => [.int .i64 p.1, .string (bs p.2)]).flatten
theorem mod_at {k : Nat} (hk : k < 7) : (modC.drop (k * 2)).take 2 = [.int .i64 (modsL[k]'hk).1, .string (bs (modsL[k]'hk).2)] := by
  rcases (by omega : k = 0 ∨ k = 1 ∨ k = 2 ∨ k = 3 ∨ k = 4 ∨ k = 5 ∨ k = 6) with rfl | rfl | rfl | rfl | rfl | rfl | rfl <;> rfl
theorem mod_take (fl : Int) {k : Nat} (hk : k < 7) : ((modsL.take (k + 1)).filter fun p => hasB fl p.1).map (fun p => kw p.2) = ((modsL.take k).filter fun p => hasB fl p.1).map (fun p => kw p.2) ++ (if hasB fl (modsL[k]'hk).1 = true then [kw (modsL[k]'hk).2] else []) := by
  rw [List.take_succ_eq_append_getElem hk, List.filter_append, List.map_append]
  congr 1
  cases h : hasB fl (modsL[k]'hk).1 <;> simp [h]
theorem mod_len (fl : Int) (k : Nat) : (((modsL.take k).filter fun p => hasB fl p.1).map (fun p => kw p.2)).length ≤ 7 := by
  rw [List.length_map]
  refine Nat.le_trans (List.length_filter_le _ _) ?_
  rw [List.length_take]
  exact Nat.min_le_right _ _
theorem mods_spec (fl : Int) (m : Mem) (u : Nat) (acc : List Tk) (hb : acc.length ≤ cap) : WrT 83 [.v (.int .i64 fl)] m u acc (modT fl) := by
  refine enter cfW puW Tryz.func83 rfl rfl (by kernel_rfl) rfl ?_ ?_
  · simp only [go_sem, ↓imp_tf, ↓imp_ft, ↓reduceIte]
  · simp only [go_sem, ↓imp_tf, ↓imp_ft, ↓reduceIte]
    refine WP_loop puW (fun x : Nat × Nat × List Tk × Mem => ⟨[⟨0, [], .box 0 0⟩, ⟨1, [], .v (.int .i64 fl)⟩, ⟨13, [], .vec 2 0⟩, ⟨14, [], .v (.int .i64 7)⟩, ⟨15, [], .v (.int .i64 x.1)⟩], [], [⟨0, 64, [.vec 1 (u + x.2.1)]⟩], [⟨1, u + x.2.1, 79, 4, x.2.2.1.length, tkCells x.2.2.1⟩, ⟨2, 0, 148, 2, 7, modC⟩], 3, x.2.2.2⟩)
      (fun x => leM m x.2.2.2 ∧ x.1 ≤ 7 ∧ x.2.2.1 = acc ++ ((modsL.take x.1).filter fun p => hasB fl p.1).map (fun p => kw p.2)) (fun x => 7 - x.1) (0, 0, acc, m) (by kernel_rfl) (fun _ _ => Nat.le_refl _) (fun x hx => hx.1) (fun _ => ?_) ?_ ?_ ?_
    · simp only [go_sem, ↓imp_tf, ↓imp_ft, ↓reduceIte]
    · simp only [go_sem, ↓imp_tf, ↓imp_ft, ↓reduceIte]
      exact ⟨⟨rfl, rfl⟩, rfl, rfl, rfl⟩
    · exact ⟨.inl rfl, Nat.zero_le _, by simp⟩
    · rintro ⟨k, v, acc', mm⟩ ⟨h1, h2, h3⟩
      simp only at h1 h2 h3
      have hlen := mod_len fl k
      have hal : acc'.length = acc.length + (((modsL.take k).filter fun p => hasB fl p.1).map (fun p => kw p.2)).length := by rw [h3, List.length_append]
      have hw := fun (s : List UInt8) (a : Option Addr) (c : Nat) (m' : Mem) (hr : Rds m' a 1 1 (strs [s])) => word1 s a c m' (u + v) acc' hr (by simp only [cap] at hb; omega)
      simp only [go_sem, ↓imp_tf, ↓imp_ft, ↓reduceIte]
      refine ⟨fun hlt => ?_, fun hge => ⟨h1, u + v, by clear hw; omega, ?_⟩⟩
      · have hk : k < 7 := by clear hw; omega
        have e := mod_at hk
        have ht := mod_take fl hk
        simp only [go_sem, ↓imp_tf, ↓imp_ft, ↓reduceIte, e]
        refine ⟨⟨by clear hw; omega, by clear hw; omega⟩, by clear hw; show k * 2 + 2 ≤ 14; omega, fun hb => ⟨by kernel_rfl, fun a c m1 hm1 hc hr => FnV_of ((hw _ a c m1 hr).mono ?_)⟩, fun hb => ?_⟩
        · clear hw
          have hbb : hasB fl (modsL[k]'hk).1 = true := by rw [hasB, decide_eq_false hb]; rfl
          rw [if_pos hbb] at ht
          rintro r H' m2 hm2 ⟨l2, rfl, w, hw, rfl⟩
          simp only [go_sem, ↓imp_tf, ↓imp_ft, ↓reduceIte]
          refine ⟨hw, by unfold I64; omega, (k + 1, w - u, acc' ++ [kw (modsL[k]'hk).2], m2), ⟨by simp, by rw [show u + (w - u) = w by omega], ⟨by simp only; omega, rfl, rfl⟩, .inl rfl⟩, ⟨leM_tr h1 (leM_tr (.inr hm1) l2), by simp only; omega, ?_⟩, by simp only; omega⟩
          simp only
          rw [ht, h3, List.append_assoc]
        · clear hw
          have hbb : ¬ hasB fl (modsL[k]'hk).1 = true := by rw [hasB, decide_eq_true hb]; decide
          rw [if_neg hbb, List.append_nil] at ht
          refine ⟨by unfold I64; omega, (k + 1, v, acc', mm), ⟨by simp, rfl, ⟨rfl, rfl, rfl⟩, .inl rfl⟩, ⟨h1, by simp only; omega, ?_⟩, by simp only; omega⟩
          simp only
          rw [ht, h3]
      · clear hw
        have hk : k = 7 := by omega
        subst hk
        have : acc' = acc ++ modT fl := by rw [h3]; rfl
        rw [this]
theorem modT_len (fl : Int) : (modT fl).length ≤ 7 := mod_len fl 7
theorem ifs_take (w : List UInt8) : ∀ {l : List (List UInt8)} {k : Nat} (hk : k < l.length), ifsT w (l.take (k + 1)) = ifsT w (l.take k) ++ (if k = 0 then [kw w] else [sg [44]]) ++ [nm1 l[k]]
  | [], _, hk => absurd hk (Nat.not_lt_zero _)
  | s :: r, 0, _ => by simp [ifsT]
  | s :: r, k + 1, hk => by
    have hk' : k < r.length := by simpa using hk
    simp only [List.take_succ_cons, ifsT, List.getElem_cons_succ, Nat.add_one_ne_zero, if_false]
    rw [List.take_succ_eq_append_getElem hk', List.map_append, List.flatten_append]
    simp only [List.map_cons, List.map_nil, List.flatten_cons, List.flatten_nil, List.append_nil, List.cons_append, List.nil_append, List.append_assoc]
theorem ifs_len (w : List UInt8) : ∀ (l : List (List UInt8)), (ifsT w l).length = l.length * 2
  | [] => rfl
  | s :: r => by
    simp only [ifsT, List.length_cons]
    rw [show ((r.map fun t => [sg [44], nm1 t]).flatten).length = r.length * 2 by
      induction r with
      | nil => rfl
      | cons a r ih => simp only [List.map_cons, List.flatten_cons, List.length_append, List.length_cons, List.length_nil, ih]; omega]
    omega
theorem ifs_spec (w : List UInt8) (l : List (List UInt8)) (a : Option Addr) (n c : Nat) (m : Mem) (u : Nat) (acc : List Tk) (hl : n = l.length) (hr : Rds m a n 1 (strs l)) (hn : n ≤ big) (hb : acc.length + (ifsT w l).length ≤ cap) :
    WrT 86 [.v (.string (bs w)), .v (.slice a n c)] m u acc (ifsT w l) := by
  rw [ifs_len] at hb
  refine enter cfW puW Tryz.func86 rfl rfl (by kernel_rfl) rfl ?_ ?_
  · simp only [go_sem, ↓imp_tf, ↓imp_ft, ↓reduceIte]
  · simp only [go_sem, ↓imp_tf, ↓imp_ft, ↓reduceIte]
    refine WP_loop puW (fun x : Nat × Nat × List Tk × Mem => ⟨[⟨0, [], .box 0 0⟩, ⟨1, [], .v (.string (bs w))⟩, ⟨8, [], .v (.slice a n c)⟩, ⟨9, [], .v (.int .i64 n)⟩, ⟨10, [], .v (.int .i64 x.1)⟩], [], [⟨0, 64, [.vec 1 (u + x.2.1)]⟩], [⟨1, u + x.2.1, 79, 4, x.2.2.1.length, tkCells x.2.2.1⟩], 2, x.2.2.2⟩)
      (fun x => leM m x.2.2.2 ∧ x.1 ≤ n ∧ x.2.2.1 = acc ++ ifsT w (l.take x.1)) (fun x => n - x.1) (0, 0, acc, m) (by kernel_rfl) (fun _ _ => Nat.le_refl _) (fun x hx => hx.1) (fun _ => ?_) ?_ ?_ ?_
    · simp only [go_sem, ↓imp_tf, ↓imp_ft, ↓reduceIte]
    · simp only [go_sem, ↓imp_tf, ↓imp_ft, ↓reduceIte]
      exact ⟨rfl, rfl, rfl⟩
    · exact ⟨.inl rfl, Nat.zero_le _, by simp [ifsT]⟩
    · rintro ⟨k, v, acc', mm⟩ ⟨h1, h2, h3⟩
      simp only at h1 h2 h3
      have hal : acc'.length = acc.length + k * 2 := by rw [h3, List.length_append, ifs_len, List.length_take]; omega
      have hw := fun (s : List UInt8) (a : Option Addr) (c : Nat) (m' : Mem) (hr : Rds m' a 1 1 (strs [s])) => word1 s a c m' (u + v) acc' hr (by simp only [cap] at hb; omega)
      have hs := fun (s : List UInt8) (a : Option Addr) (c : Nat) (m' : Mem) (hr : Rds m' a 1 1 (strs [s])) => sign1 s a c m' (u + v) acc' hr (by simp only [cap] at hb; omega)
      have hnm := fun (s : List UInt8) (t : Tk) (m' : Mem) (u' : Nat) => name_spec s m' u' (acc' ++ [t]) (by simp only [room1, List.length_append, List.length_singleton]; simp only [cap] at hb; omega)
      have hrd := fun (hk : k < l.length) => strs_rd (Rds_upM h1 hr) hk
      have hct := fun (hk : k < l.length) => ifs_take w hk
      simp only [go_sem, ↓imp_tf, ↓imp_ft, ↓reduceIte]
      refine ⟨fun hlt => ?_, fun hge => ⟨h1, u + v, by clear hw hs hnm; omega, ?_⟩⟩
      · have hk : k < l.length := by clear hw hs hnm; omega
        refine ⟨⟨by clear hw hs hnm; omega, hlt, (hrd hk).2⟩, .string (bs l[k]), (hrd hk).1, ?_⟩
        have hct' := hct hk
        clear hct
        refine ⟨fun h0 => ⟨by kernel_rfl, fun a1 c1 m1 hm1 hc1 hr1 => FnV_of ((hw w a1 c1 m1 hr1).mono ?_)⟩, fun h0 => ⟨by kernel_rfl, fun a1 c1 m1 hm1 hc1 hr1 => FnV_of ((hs [44] a1 c1 m1 hr1).mono ?_)⟩⟩
        · clear hw hs
          rw [if_pos (by clear hnm; omega)] at hct'
          rintro r H' m2 hm2 ⟨l2, rfl, y, hy, rfl⟩
          simp only [go_sem, ↓imp_tf, ↓imp_ft, ↓reduceIte]
          refine ⟨hy, by kernel_rfl, FnV_of ((hnm l[k] (kw w) m2 y).mono ?_)⟩
          clear hnm
          rintro r H' m3 hm3 ⟨l3, rfl, z, hz, rfl⟩
          simp only [go_sem, ↓imp_tf, ↓imp_ft, ↓reduceIte]
          refine ⟨hz, by unfold I64; simp only [big] at hn; omega, (k + 1, z - u, acc' ++ [kw w] ++ [nm1 l[k]], m3), ⟨by simp, by rw [show u + (z - u) = z by omega], ⟨by simp only; omega, rfl, rfl⟩, .inl rfl⟩, ⟨leM_tr h1 (leM_tr (.inr hm1) (leM_tr l2 l3)), by simp only; omega, ?_⟩, by simp only; omega⟩
          simp only
          rw [hct', h3]
          simp only [List.append_assoc]
        · clear hw hs
          rw [if_neg (by clear hnm; omega)] at hct'
          rintro r H' m2 hm2 ⟨l2, rfl, y, hy, rfl⟩
          simp only [go_sem, ↓imp_tf, ↓imp_ft, ↓reduceIte]
          refine ⟨hy, by kernel_rfl, FnV_of ((hnm l[k] (sg [44]) m2 y).mono ?_)⟩
          clear hnm
          rintro r H' m3 hm3 ⟨l3, rfl, z, hz, rfl⟩
          simp only [go_sem, ↓imp_tf, ↓imp_ft, ↓reduceIte]
          refine ⟨hz, by unfold I64; simp only [big] at hn; omega, (k + 1, z - u, acc' ++ [sg [44]] ++ [nm1 l[k]], m3), ⟨by simp, by rw [show u + (z - u) = z by omega], ⟨by simp only; omega, rfl, rfl⟩, .inl rfl⟩, ⟨leM_tr h1 (leM_tr (.inr hm1) (leM_tr l2 l3)), by simp only; omega, ?_⟩, by simp only; omega⟩
          simp only
          rw [hct', h3]
          simp only [List.append_assoc]
      · clear hw hs hnm
        have : acc' = acc ++ ifsT w l := by rw [h3, List.take_of_length_le (by omega)]
        rw [this]
end Go.Proofs.YtalalcpefggniaaGreatDoor.E

namespace Go.Proofs.YtalalcpefggniaaGreatDoor.E
open Go

def fieldT (f : Fc) : List Tk := modT f.fl ++ typT f.ty.dim f.ty.base f.ty.name ++ [nm1 f.name] ++ [sg [59]]
def headT (d : Cd) : List Tk :=
  if hasB d.fl 512 = true then modT (bits .andNot .i64 d.fl 1024) ++ [kw [105, 110, 116, 101, 114, 102, 97, 99, 101]] ++ [nm1 d.name] ++ ifsT [101, 120, 116, 101, 110, 100, 115] d.ifs
  else modT d.fl ++ [kw [99, 108, 97, 115, 115]] ++ [nm1 d.name] ++ [kw [101, 120, 116, 101, 110, 100, 115]] ++ [nm1 d.super] ++ ifsT [105, 109, 112, 108, 101, 109, 101, 110, 116, 115] d.ifs
def classT (IT : List Tk) (MT : Md → List Tk) (d : Cd) : List Tk :=
  headT d ++ [sg [123]] ++ (d.fields.map fieldT).flatten ++ (if 0 < d.init.length then [kw [115, 116, 97, 116, 105, 99]] ++ IT else []) ++ (d.methods.map MT).flatten ++ [sg [125]]
theorem flat_takeT {α : Type} {f : α → List Tk} : ∀ {l : List α} {k : Nat} (hk : k < l.length), ((l.take (k + 1)).map f).flatten = ((l.take k).map f).flatten ++ f l[k] := fun {l k} hk => by
  rw [List.take_succ_eq_append_getElem hk, List.map_append, List.flatten_append]
  simp
theorem flat_le {α : Type} {f : α → List Tk} : ∀ (l : List α) (k : Nat), ((l.take k).map f).flatten.length ≤ ((l.map f).flatten).length
  | [], k => by simp
  | x :: r, 0 => by simp
  | x :: r, k + 1 => by
    have := flat_le (f := f) r k
    simp only [List.take_succ_cons, List.map_cons, List.flatten_cons, List.length_append]
    omega
set_option maxHeartbeats 8000000 in
theorem classW_spec (IT : List Tk) (MT : Md → List Tk) (d : Cd) (cs : List Value) (m : Mem) (u : Nat) (acc : List Tk) (h : cdRep m d cs) (hdim : ∀ f ∈ d.fields, f.ty.dim ≤ 1000) (hb : acc.length + (classT IT MT d).length ≤ cap)
    (hI : 0 < d.init.length → ∀ a n c xs m' u acc, leM m m' → n = d.init.length → Rds m' a n 23 xs → stsRep m' d.init xs → acc.length + IT.length ≤ cap → WrT 89 [.v (.slice a n c)] m' u acc IT)
    (hM : ∀ e ∈ d.methods, ∀ cs m' u acc, leM m m' → mdRep m' e cs → acc.length + (MT e).length ≤ cap → WrT 90 [.v (.agg ⟨cs⟩)] m' u acc (MT e)) :
    WrT 38 [.v (.agg ⟨cs⟩)] m u acc (classT IT MT d) := by
  obtain ⟨fl, name, super, ifs, fields, methods, init⟩ := d
  obtain ⟨x, ⟨rfl, rfl, rfl, rfl⟩, ⟨hil, hic, hfn, hfc, hml, hmc, hsl, hsc⟩, hok, r1, r2, xs, ys, r3, s3, r4, s4⟩ := h
  simp only at hil hfn hml hsl r1 r2 s3 s4 hdim hI hM
  have hib : x.il ≤ big := by rw [hil]; exact hok.il
  have hfb : x.fn ≤ big := by rw [hfn]; exact hok.fn
  have hmb : x.ml ≤ big := by rw [hml]; exact hok.ml
  have hMd := fun (fl : Int) (m' : Mem) (u' : Nat) (acc' : List Tk) (hc : acc'.length ≤ cap) => mods_spec fl m' u' acc' hc
  have hW := fun (s : List UInt8) (u' : Nat) (acc' : List Tk) (hc : acc'.length ≤ cap) (a : Option Addr) (c : Nat) (m' : Mem) (hr : Rds m' a 1 1 (strs [s])) => word1 s a c m' u' acc' hr (by simp only [cap] at hc; omega)
  have hS := fun (s : List UInt8) (u' : Nat) (acc' : List Tk) (hc : acc'.length ≤ cap) (a : Option Addr) (c : Nat) (m' : Mem) (hr : Rds m' a 1 1 (strs [s])) => sign1 s a c m' u' acc' hr (by simp only [cap] at hc; omega)
  have hN := fun (s : List UInt8) (m' : Mem) (u' : Nat) (acc' : List Tk) (hc : acc'.length ≤ cap) => name_spec s m' u' acc' (by simp only [cap, room1, List.length_singleton] at hc ⊢; omega)
  have hT := fun (t : Ty) (hd : t.dim ≤ 1000) (m' : Mem) (u' : Nat) (acc' : List Tk) (hc : acc'.length ≤ cap) => typ_spec t.dim t.base t.name m' u' acc' hd (by simp only [cap] at hc; omega)
  have hIf := fun (w : List UInt8) (m' : Mem) (hle : leM m m') (u' : Nat) (acc' : List Tk) (hc : acc'.length + (ifsT w ifs).length ≤ cap) => ifs_spec w ifs x.ia x.il x.ic m' u' acc' hil (Rds_upM hle r1) hib hc
  have hlen : (classT IT MT ⟨x.fl, x.name, x.super, ifs, fields, methods, init⟩).length = (headT ⟨x.fl, x.name, x.super, ifs, fields, methods, init⟩).length + 1 + ((fields.map fieldT).flatten).length + (if 0 < init.length then [kw [115, 116, 97, 116, 105, 99]] ++ IT else []).length + ((methods.map MT).flatten).length + 1 := by
    simp only [classT, List.length_append, List.length_singleton]
  rw [hlen] at hb
  refine enter cfW puW Tryz.func38 rfl rfl (by kernel_rfl) rfl ?_ ?_
  · simp only [go_sem, ↓imp_tf, ↓imp_ft, ↓reduceIte, Cc.cs]
  · simp only [go_sem, ↓imp_tf, ↓imp_ft, ↓reduceIte, Cc.cs]
    -- the walk
    refine ⟨fun hbit => ?_, fun hbit => ?_⟩
    · have hB : hasB x.fl 512 = true := by rw [hasB, decide_eq_false hbit]; rfl
      have hH : headT ⟨x.fl, x.name, x.super, ifs, fields, methods, init⟩ = modT (bits .andNot .i64 x.fl 1024) ++ [kw [105, 110, 116, 101, 114, 102, 97, 99, 101]] ++ [nm1 x.name] ++ ifsT [101, 120, 116, 101, 110, 100, 115] ifs := by rw [headT, if_pos hB]
      have hHl := congrArg List.length hH
      simp only [List.length_append, List.length_cons, List.length_nil] at hHl
      refine ⟨by kernel_rfl, FnV_of ((hMd (bits .andNot .i64 x.fl 1024) m u (acc) (by clear hMd hW hS hN hT hIf hI hM; first | omega | (simp only [List.length_append, List.length_cons, List.length_nil]; omega))).mono ?_)⟩
      rintro r H' m1 hm1 ⟨l1, rfl, u1, hu1, rfl⟩
      simp only [go_sem, ↓imp_tf, ↓imp_ft, ↓reduceIte, Cc.cs]
      refine ⟨hu1, by kernel_rfl, fun a2 c2 w2 hw2 hc2 rr2 => FnV_of ((hW [105, 110, 116, 101, 114, 102, 97, 99, 101] u1 (acc ++ modT (bits .andNot .i64 x.fl 1024)) (by clear hMd hW hS hN hT hIf hI hM; first | omega | (simp only [List.length_append, List.length_cons, List.length_nil]; omega)) a2 c2 w2 rr2).mono ?_)⟩
      rintro r H' m2 hm2 ⟨l2, rfl, u2, hu2, rfl⟩
      simp only [go_sem, ↓imp_tf, ↓imp_ft, ↓reduceIte, Cc.cs]
      refine ⟨hu2, by kernel_rfl, FnV_of ((hN x.name m2 u2 (acc ++ modT (bits .andNot .i64 x.fl 1024) ++ [kw [105, 110, 116, 101, 114, 102, 97, 99, 101]]) (by clear hMd hW hS hN hT hIf hI hM; first | omega | (simp only [List.length_append, List.length_cons, List.length_nil]; omega))).mono ?_)⟩
      rintro r H' m3 hm3 ⟨l3, rfl, u3, hu3, rfl⟩
      simp only [go_sem, ↓imp_tf, ↓imp_ft, ↓reduceIte, Cc.cs]
      refine ⟨hu3, by kernel_rfl, FnV_of ((hIf [101, 120, 116, 101, 110, 100, 115] m3 (leM_tr (leM_tr (leM_tr (leM_tr (.inl rfl : leM m m) l1) (.inr hw2)) l2) l3) u3 (acc ++ modT (bits .andNot .i64 x.fl 1024) ++ [kw [105, 110, 116, 101, 114, 102, 97, 99, 101]] ++ [nm1 x.name]) (by clear hMd hW hS hN hT hIf hI hM; first | omega | (simp only [List.length_append, List.length_cons, List.length_nil]; omega))).mono ?_)⟩
      rintro r H' m4 hm4 ⟨l4, rfl, u4, hu4, rfl⟩
      simp only [go_sem, ↓imp_tf, ↓imp_ft, ↓reduceIte, Cc.cs]
      refine ⟨hu4, by kernel_rfl, fun a5 c5 w5 hw5 hc5 rr5 => FnV_of ((hS [123] u4 (acc ++ modT (bits .andNot .i64 x.fl 1024) ++ [kw [105, 110, 116, 101, 114, 102, 97, 99, 101]] ++ [nm1 x.name] ++ ifsT [101, 120, 116, 101, 110, 100, 115] ifs) (by clear hMd hW hS hN hT hIf hI hM; first | omega | (simp only [List.length_append, List.length_cons, List.length_nil]; omega)) a5 c5 w5 rr5).mono ?_)⟩
      rintro r H' m5 hm5 ⟨l5, rfl, u5, hu5, rfl⟩
      simp only [go_sem, ↓imp_tf, ↓imp_ft, ↓reduceIte, Cc.cs]
      refine ⟨hu5, ?_⟩
      have hlf := (leM_tr (leM_tr (leM_tr (leM_tr (leM_tr (leM_tr (leM_tr (.inl rfl : leM m m) l1) (.inr hw2)) l2) l3) l4) (.inr hw5)) l5)
      refine WP_loop puW (fun y : Nat × Nat × List Tk × Mem => ⟨[⟨0, [], .box 0 0⟩, ⟨3, [], .box 2 0⟩, ⟨54, [], .v (.slice x.fa x.fn x.fc)⟩, ⟨55, [], .v (.int .i64 x.fn)⟩, ⟨56, [], .v (.int .i64 y.1)⟩], [], [⟨0, 64, [.vec 1 (u5 + y.2.1)]⟩, ⟨2, 55, x.cs.map .v⟩], [⟨1, u5 + y.2.1, 79, 4, y.2.2.1.length, tkCells y.2.2.1⟩], 100, y.2.2.2⟩)
        (fun y => leM m5 y.2.2.2 ∧ y.1 ≤ x.fn ∧ y.2.2.1 = acc ++ modT (bits .andNot .i64 x.fl 1024) ++ [kw [105, 110, 116, 101, 114, 102, 97, 99, 101]] ++ [nm1 x.name] ++ ifsT [101, 120, 116, 101, 110, 100, 115] ifs ++ [sg [123]] ++ ((fields.take y.1).map fieldT).flatten) (fun y => x.fn - y.1) (0, 0, acc ++ modT (bits .andNot .i64 x.fl 1024) ++ [kw [105, 110, 116, 101, 114, 102, 97, 99, 101]] ++ [nm1 x.name] ++ ifsT [101, 120, 116, 101, 110, 100, 115] ifs ++ [sg [123]], m5) (by kernel_rfl) (fun _ _ => Nat.le_of_ble_eq_true rfl) (fun y hy => hy.1) (fun _ => ?_) ?_ ?_ ?_
      · simp only [go_sem, ↓imp_tf, ↓imp_ft, ↓reduceIte, Cc.cs]
      · simp only [go_sem, ↓imp_tf, ↓imp_ft, ↓reduceIte, Cc.cs]
        exact ⟨rfl, rfl, rfl⟩
      · exact ⟨.inl rfl, Nat.zero_le _, by simp⟩
      · rintro ⟨k, v, accf, mf⟩ ⟨f1, f2, f3⟩
        simp only at f1 f2 f3
        have hal := congrArg List.length f3
        simp only [List.length_append, List.length_cons, List.length_nil] at hal
        have hle := flat_le (f := fieldT) fields k
        have hft := fun (hk : k < fields.length) => And.intro (flat_takeT (f := fieldT) hk) (flat_le (f := fieldT) fields (k + 1))
        have hy : ∀ (hk : k < fields.length), Rd mf (ptrAt x.fa (k * 5)) (fields[k]).cs ∧ x.fa ≠ none := fun hk => by
          have := Rds_cells (Rds_upM (leM_tr hlf f1) r2) (by omega : k < x.fn)
          rw [flat_at (f := Fc.cs) (sz := 5) (fun _ => rfl) hk] at this
          exact this
        simp only [go_sem, ↓imp_tf, ↓imp_ft, ↓reduceIte, Cc.cs]
        refine ⟨fun hlt => ?_, fun hge => ?_⟩
        · have hk : k < fields.length := by clear hMd hW hS hN hT hIf hI hM; omega
          have hft' := hft hk
          clear hft
          have hsz := congrArg List.length hft'.1
          rw [List.length_append] at hsz
          have hsz2 : (fieldT fields[k]).length = (modT fields[k].fl).length + (typT fields[k].ty.dim fields[k].ty.base fields[k].ty.name).length + 1 + 1 := by simp only [fieldT, List.length_append, List.length_cons, List.length_nil]
          have hfm : fields[k] ∈ fields := List.getElem_mem hk
          refine ⟨⟨by clear hMd hW hS hN hT hIf hI hM; omega, hlt, (hy hk).2⟩, (fields[k]).cs, ⟨(hy hk).1, rfl⟩, ?_⟩
          simp only [go_sem, ↓imp_tf, ↓imp_ft, ↓reduceIte, Cc.cs, Fc.cs]
          refine ⟨by kernel_rfl, FnV_of ((hMd fields[k].fl mf (u5 + v) (accf) (by clear hMd hW hS hN hT hIf hI hM; first | omega | (simp only [List.length_append, List.length_cons, List.length_nil]; omega))).mono ?_)⟩
          rintro r H' m7 hm7 ⟨l7, rfl, u7, hu7, rfl⟩
          simp only [go_sem, ↓imp_tf, ↓imp_ft, ↓reduceIte, Cc.cs, Fc.cs]
          refine ⟨hu7, by kernel_rfl, FnV_of ((FnH_den (hT fields[k].ty (hdim _ hfm) m7 u7 (accf ++ modT fields[k].fl) (by clear hMd hW hS hN hT hIf hI hM; first | omega | (simp only [List.length_append, List.length_cons, List.length_nil]; omega))) (fun V => rfl)).mono ?_)⟩
          rintro r H' m8 hm8 ⟨l8, rfl, u8, hu8, rfl⟩
          simp only [go_sem, ↓imp_tf, ↓imp_ft, ↓reduceIte, Cc.cs, Fc.cs]
          refine ⟨hu8, by kernel_rfl, FnV_of ((hN fields[k].name m8 u8 (accf ++ modT fields[k].fl ++ typT fields[k].ty.dim fields[k].ty.base fields[k].ty.name) (by clear hMd hW hS hN hT hIf hI hM; first | omega | (simp only [List.length_append, List.length_cons, List.length_nil]; omega))).mono ?_)⟩
          rintro r H' m9 hm9 ⟨l9, rfl, u9, hu9, rfl⟩
          simp only [go_sem, ↓imp_tf, ↓imp_ft, ↓reduceIte, Cc.cs, Fc.cs]
          refine ⟨hu9, by kernel_rfl, fun a10 c10 w10 hw10 hc10 rr10 => FnV_of ((hS [59] u9 (accf ++ modT fields[k].fl ++ typT fields[k].ty.dim fields[k].ty.base fields[k].ty.name ++ [nm1 fields[k].name]) (by clear hMd hW hS hN hT hIf hI hM; first | omega | (simp only [List.length_append, List.length_cons, List.length_nil]; omega)) a10 c10 w10 rr10).mono ?_)⟩
          rintro r H' m10 hm10 ⟨l10, rfl, u10, hu10, rfl⟩
          simp only [go_sem, ↓imp_tf, ↓imp_ft, ↓reduceIte, Cc.cs, Fc.cs]
          refine ⟨hu10, by clear hMd hW hS hN hT hIf hI hM; unfold I64; simp only [big] at hfb; omega, (k + 1, u10 - u5, accf ++ modT fields[k].fl ++ typT fields[k].ty.dim fields[k].ty.base fields[k].ty.name ++ [nm1 fields[k].name] ++ [sg [59]], m10), ⟨by simp, by rw [show u5 + (u10 - u5) = u10 by clear hMd hW hS hN hT hIf hI hM; omega], ⟨by clear hMd hW hS hN hT hIf hI hM; simp only; omega, rfl, rfl⟩, .inl rfl⟩, ⟨leM_tr f1 (leM_tr (leM_tr (leM_tr (leM_tr (leM_tr (.inl rfl : leM mf mf) l7) l8) l9) (.inr hw10)) l10), by clear hMd hW hS hN hT hIf hI hM; simp only; omega, ?_⟩, by clear hMd hW hS hN hT hIf hI hM; simp only; omega⟩
          simp only
          rw [hft'.1, f3]
          simp only [fieldT, List.append_assoc]
        · clear hy hft
          have hkk : fields.take k = fields := List.take_of_length_le (by clear hMd hW hS hN hT hIf hI hM; omega)
          rw [hkk] at f3 hal
          refine ⟨fun hi => ?_, fun hi => ?_⟩
          · have hi0 : 0 < init.length := by clear hMd hW hS hN hT hIf hI hM; omega
            rw [if_pos hi0] at hb
            simp only [List.length_append, List.length_cons, List.length_nil] at hb
            have hini : (if 0 < init.length then [kw [115, 116, 97, 116, 105, 99]] ++ IT else []) = [kw [115, 116, 97, 116, 105, 99]] ++ IT := if_pos hi0
            refine ⟨by kernel_rfl, fun a11 c11 w11 hw11 hc11 rr11 => FnV_of ((hW [115, 116, 97, 116, 105, 99] (u5 + v) (accf) (by clear hMd hW hS hN hT hIf hI hM; first | omega | (simp only [List.length_append, List.length_cons, List.length_nil]; omega)) a11 c11 w11 rr11).mono ?_)⟩
            rintro r H' m11 hm11 ⟨l11, rfl, u11, hu11, rfl⟩
            simp only [go_sem, ↓imp_tf, ↓imp_ft, ↓reduceIte, Cc.cs]
            refine ⟨hu11, by kernel_rfl, FnV_of ((hI hi0 x.sa x.sl x.sc ys m11 u11 (accf ++ [kw [115, 116, 97, 116, 105, 99]]) (leM_tr (leM_tr (leM_tr hlf f1) (.inr hw11)) l11) hsl (Rds_upM (leM_tr (leM_tr (leM_tr hlf f1) (.inr hw11)) l11) r4) (stsRep_upM (leM_tr (leM_tr (leM_tr hlf f1) (.inr hw11)) l11) s4) (by clear hMd hW hS hN hT hIf hI hM; first | omega | (simp only [List.length_append, List.length_cons, List.length_nil]; omega))).mono ?_)⟩
            rintro r H' m12 hm12 ⟨l12, rfl, u12, hu12, rfl⟩
            simp only [go_sem, ↓imp_tf, ↓imp_ft, ↓reduceIte, Cc.cs]
            refine ⟨hu12, ?_⟩
            have hlm := (leM_tr (leM_tr (leM_tr (leM_tr hlf f1) (.inr hw11)) l11) l12)
            refine WP_loop puW (fun y : Nat × Nat × List Tk × Mem => ⟨[⟨0, [], .box 0 0⟩, ⟨88, [], .v (.slice x.ma x.ml x.mc)⟩, ⟨89, [], .v (.int .i64 x.ml)⟩, ⟨90, [], .v (.int .i64 y.1)⟩], [], [⟨0, 64, [.vec 1 (u12 + y.2.1)]⟩], [⟨1, u12 + y.2.1, 79, 4, y.2.2.1.length, tkCells y.2.2.1⟩], 200, y.2.2.2⟩)
              (fun y => leM m12 y.2.2.2 ∧ y.1 ≤ x.ml ∧ y.2.2.1 = accf ++ [kw [115, 116, 97, 116, 105, 99]] ++ IT ++ ((methods.take y.1).map MT).flatten) (fun y => x.ml - y.1) (0, 0, accf ++ [kw [115, 116, 97, 116, 105, 99]] ++ IT, m12) (by kernel_rfl) (fun _ _ => Nat.le_of_ble_eq_true rfl) (fun y hy => hy.1) (fun _ => ?_) ?_ ?_ ?_
            · simp only [go_sem, ↓imp_tf, ↓imp_ft, ↓reduceIte]
            · simp only [go_sem, ↓imp_tf, ↓imp_ft, ↓reduceIte]
              exact ⟨rfl, rfl, rfl⟩
            · exact ⟨.inl rfl, Nat.zero_le _, by simp⟩
            · rintro ⟨k, vm, acc', mm⟩ ⟨h1, h2, h3⟩
              simp only at h1 h2 h3
              have hal := congrArg List.length h3
              simp only [List.length_append, List.length_cons, List.length_nil] at hal
              have hle := flat_le (f := MT) methods k
              have hy : ∀ (hk : k < methods.length), ∃ X : Mc, (Rd mm (ptrAt x.ma (k * 8)) X.cs ∧ x.ma ≠ none) ∧ WrT 90 [.v (.agg ⟨X.cs⟩)] mm (u12 + vm) acc' (MT methods[k]) := fun hk => by
                have hrep := mdRep_up (leM_tr hlm h1) (ls_at s3 hk)
                have hrd := Rds_cells (Rds_upM (leM_tr hlm h1) r3) (by omega : k < x.ml)
                obtain ⟨X, hX⟩ := mdRep_mc hrep
                rw [hX] at hrep hrd
                have hsz := flat_le (f := MT) methods (k + 1)
                have hst := congrArg List.length (flat_takeT (f := MT) hk)
                rw [List.length_append] at hst
                exact ⟨X, hrd, hM _ (List.getElem_mem hk) X.cs mm _ acc' (leM_tr hlm h1) hrep (by clear hMd hW hS hN hT hIf hI hM; omega)⟩
              have hft := fun (hk : k < methods.length) => flat_takeT (f := MT) hk
              clear hM
              simp only [go_sem, ↓imp_tf, ↓imp_ft, ↓reduceIte]
              refine ⟨fun hlt => ?_, fun hge => ?_⟩
              · have hk : k < methods.length := by clear hMd hW hS hN hT hIf hI hy; omega
                have hft' := hft hk
                clear hft
                refine Exists.elim (hy hk) fun X hy' => ⟨⟨by clear hMd hW hS hN hT hIf hI hy hy'; omega, hlt, hy'.1.2⟩, X.cs, ⟨hy'.1.1, rfl⟩, ?_⟩
                clear hy
                have hD := hy'.2
                clear hy'
                simp only [go_sem, ↓imp_tf, ↓imp_ft, ↓reduceIte, Mc.cs]
                refine ⟨by kernel_rfl, FnV_of ((FnH_den hD (fun V => rfl)).mono ?_)⟩
                clear hD
                rintro r H' mz hmz ⟨lz, rfl, uz, huz, rfl⟩
                simp only [go_sem, ↓imp_tf, ↓imp_ft, ↓reduceIte, Mc.cs]
                refine ⟨huz, by clear hMd hW hS hN hT hIf hI; unfold I64; simp only [big] at hmb; omega, (k + 1, uz - u12, acc' ++ MT methods[k], mz), ⟨by simp, by rw [show u12 + (uz - u12) = uz by omega], ⟨by simp only; omega, rfl, rfl⟩, .inl rfl⟩, ⟨leM_tr h1 lz, by simp only; omega, ?_⟩, by simp only; omega⟩
                simp only
                rw [hft', h3, List.append_assoc]
              · clear hy hft
                have hkk : methods.take k = methods := List.take_of_length_le (by clear hMd hW hS hN hT hIf hI; omega)
                rw [hkk] at h3 hal
                refine ⟨by kernel_rfl, fun az cz wz hwz hcz rz => FnV_of ((hS [125] (u12 + vm) acc' (by clear hMd hW hS hN hT hIf hI; omega) az cz wz rz).mono ?_)⟩
                clear hMd hW hS hN hT hIf hI
                rintro r H' mz hmz ⟨lz, rfl, uz, huz, rfl⟩
                simp only [go_sem, ↓imp_tf, ↓imp_ft, ↓reduceIte]
                refine ⟨huz, leM_tr hlm (leM_tr h1 (leM_tr (.inr hwz) lz)), uz, by omega, ?_⟩
                have hfin : acc' ++ [sg [125]] = acc ++ classT IT MT ⟨x.fl, x.name, x.super, ifs, fields, methods, init⟩ := by
                  rw [h3, f3, classT]
                  dsimp only
                  rw [hH, hini]
                  simp only [List.append_assoc, List.cons_append, List.nil_append, List.append_nil]
                rw [hfin]
          · have hi0 : ¬ 0 < init.length := by clear hMd hW hS hN hT hIf hI hM; omega
            rw [if_neg hi0] at hb
            simp only [List.length_nil] at hb
            have hini : (if 0 < init.length then [kw [115, 116, 97, 116, 105, 99]] ++ IT else []) = [] := if_neg hi0
            have hlm := (leM_tr hlf f1)
            refine WP_loop puW (fun y : Nat × Nat × List Tk × Mem => ⟨[⟨0, [], .box 0 0⟩, ⟨88, [], .v (.slice x.ma x.ml x.mc)⟩, ⟨89, [], .v (.int .i64 x.ml)⟩, ⟨90, [], .v (.int .i64 y.1)⟩], [], [⟨0, 64, [.vec 1 ((u5 + v) + y.2.1)]⟩], [⟨1, (u5 + v) + y.2.1, 79, 4, y.2.2.1.length, tkCells y.2.2.1⟩], 200, y.2.2.2⟩)
              (fun y => leM mf y.2.2.2 ∧ y.1 ≤ x.ml ∧ y.2.2.1 = accf ++ ((methods.take y.1).map MT).flatten) (fun y => x.ml - y.1) (0, 0, accf, mf) (by kernel_rfl) (fun _ _ => Nat.le_of_ble_eq_true rfl) (fun y hy => hy.1) (fun _ => ?_) ?_ ?_ ?_
            · simp only [go_sem, ↓imp_tf, ↓imp_ft, ↓reduceIte]
            · simp only [go_sem, ↓imp_tf, ↓imp_ft, ↓reduceIte]
              exact ⟨rfl, rfl, rfl⟩
            · exact ⟨.inl rfl, Nat.zero_le _, by simp⟩
            · rintro ⟨k, vm, acc', mm⟩ ⟨h1, h2, h3⟩
              simp only at h1 h2 h3
              have hal := congrArg List.length h3
              simp only [List.length_append, List.length_cons, List.length_nil] at hal
              have hle := flat_le (f := MT) methods k
              have hy : ∀ (hk : k < methods.length), ∃ X : Mc, (Rd mm (ptrAt x.ma (k * 8)) X.cs ∧ x.ma ≠ none) ∧ WrT 90 [.v (.agg ⟨X.cs⟩)] mm ((u5 + v) + vm) acc' (MT methods[k]) := fun hk => by
                have hrep := mdRep_up (leM_tr hlm h1) (ls_at s3 hk)
                have hrd := Rds_cells (Rds_upM (leM_tr hlm h1) r3) (by omega : k < x.ml)
                obtain ⟨X, hX⟩ := mdRep_mc hrep
                rw [hX] at hrep hrd
                have hsz := flat_le (f := MT) methods (k + 1)
                have hst := congrArg List.length (flat_takeT (f := MT) hk)
                rw [List.length_append] at hst
                exact ⟨X, hrd, hM _ (List.getElem_mem hk) X.cs mm _ acc' (leM_tr hlm h1) hrep (by clear hMd hW hS hN hT hIf hI hM; omega)⟩
              have hft := fun (hk : k < methods.length) => flat_takeT (f := MT) hk
              clear hM
              simp only [go_sem, ↓imp_tf, ↓imp_ft, ↓reduceIte]
              refine ⟨fun hlt => ?_, fun hge => ?_⟩
              · have hk : k < methods.length := by clear hMd hW hS hN hT hIf hI hy; omega
                have hft' := hft hk
                clear hft
                refine Exists.elim (hy hk) fun X hy' => ⟨⟨by clear hMd hW hS hN hT hIf hI hy hy'; omega, hlt, hy'.1.2⟩, X.cs, ⟨hy'.1.1, rfl⟩, ?_⟩
                clear hy
                have hD := hy'.2
                clear hy'
                simp only [go_sem, ↓imp_tf, ↓imp_ft, ↓reduceIte, Mc.cs]
                refine ⟨by kernel_rfl, FnV_of ((FnH_den hD (fun V => rfl)).mono ?_)⟩
                clear hD
                rintro r H' mz hmz ⟨lz, rfl, uz, huz, rfl⟩
                simp only [go_sem, ↓imp_tf, ↓imp_ft, ↓reduceIte, Mc.cs]
                refine ⟨huz, by clear hMd hW hS hN hT hIf hI; unfold I64; simp only [big] at hmb; omega, (k + 1, uz - (u5 + v), acc' ++ MT methods[k], mz), ⟨by simp, by rw [show (u5 + v) + (uz - (u5 + v)) = uz by omega], ⟨by simp only; omega, rfl, rfl⟩, .inl rfl⟩, ⟨leM_tr h1 lz, by simp only; omega, ?_⟩, by simp only; omega⟩
                simp only
                rw [hft', h3, List.append_assoc]
              · clear hy hft
                have hkk : methods.take k = methods := List.take_of_length_le (by clear hMd hW hS hN hT hIf hI; omega)
                rw [hkk] at h3 hal
                refine ⟨by kernel_rfl, fun az cz wz hwz hcz rz => FnV_of ((hS [125] ((u5 + v) + vm) acc' (by clear hMd hW hS hN hT hIf hI; omega) az cz wz rz).mono ?_)⟩
                clear hMd hW hS hN hT hIf hI
                rintro r H' mz hmz ⟨lz, rfl, uz, huz, rfl⟩
                simp only [go_sem, ↓imp_tf, ↓imp_ft, ↓reduceIte]
                refine ⟨huz, leM_tr hlm (leM_tr h1 (leM_tr (.inr hwz) lz)), uz, by omega, ?_⟩
                have hfin : acc' ++ [sg [125]] = acc ++ classT IT MT ⟨x.fl, x.name, x.super, ifs, fields, methods, init⟩ := by
                  rw [h3, f3, classT]
                  dsimp only
                  rw [hH, hini]
                  simp only [List.append_assoc, List.cons_append, List.nil_append, List.append_nil]
                rw [hfin]
    · have hB : ¬ hasB x.fl 512 = true := by rw [hasB, decide_eq_true hbit]; decide
      have hH : headT ⟨x.fl, x.name, x.super, ifs, fields, methods, init⟩ = modT x.fl ++ [kw [99, 108, 97, 115, 115]] ++ [nm1 x.name] ++ [kw [101, 120, 116, 101, 110, 100, 115]] ++ [nm1 x.super] ++ ifsT [105, 109, 112, 108, 101, 109, 101, 110, 116, 115] ifs := by rw [headT, if_neg hB]
      have hHl := congrArg List.length hH
      simp only [List.length_append, List.length_cons, List.length_nil] at hHl
      refine ⟨by kernel_rfl, FnV_of ((hMd x.fl m u (acc) (by clear hMd hW hS hN hT hIf hI hM; first | omega | (simp only [List.length_append, List.length_cons, List.length_nil]; omega))).mono ?_)⟩
      rintro r H' m15 hm15 ⟨l15, rfl, u15, hu15, rfl⟩
      simp only [go_sem, ↓imp_tf, ↓imp_ft, ↓reduceIte, Cc.cs]
      refine ⟨hu15, by kernel_rfl, fun a16 c16 w16 hw16 hc16 rr16 => FnV_of ((hW [99, 108, 97, 115, 115] u15 (acc ++ modT x.fl) (by clear hMd hW hS hN hT hIf hI hM; first | omega | (simp only [List.length_append, List.length_cons, List.length_nil]; omega)) a16 c16 w16 rr16).mono ?_)⟩
      rintro r H' m16 hm16 ⟨l16, rfl, u16, hu16, rfl⟩
      simp only [go_sem, ↓imp_tf, ↓imp_ft, ↓reduceIte, Cc.cs]
      refine ⟨hu16, by kernel_rfl, FnV_of ((hN x.name m16 u16 (acc ++ modT x.fl ++ [kw [99, 108, 97, 115, 115]]) (by clear hMd hW hS hN hT hIf hI hM; first | omega | (simp only [List.length_append, List.length_cons, List.length_nil]; omega))).mono ?_)⟩
      rintro r H' m17 hm17 ⟨l17, rfl, u17, hu17, rfl⟩
      simp only [go_sem, ↓imp_tf, ↓imp_ft, ↓reduceIte, Cc.cs]
      refine ⟨hu17, by kernel_rfl, fun a18 c18 w18 hw18 hc18 rr18 => FnV_of ((hW [101, 120, 116, 101, 110, 100, 115] u17 (acc ++ modT x.fl ++ [kw [99, 108, 97, 115, 115]] ++ [nm1 x.name]) (by clear hMd hW hS hN hT hIf hI hM; first | omega | (simp only [List.length_append, List.length_cons, List.length_nil]; omega)) a18 c18 w18 rr18).mono ?_)⟩
      rintro r H' m18 hm18 ⟨l18, rfl, u18, hu18, rfl⟩
      simp only [go_sem, ↓imp_tf, ↓imp_ft, ↓reduceIte, Cc.cs]
      refine ⟨hu18, by kernel_rfl, FnV_of ((hN x.super m18 u18 (acc ++ modT x.fl ++ [kw [99, 108, 97, 115, 115]] ++ [nm1 x.name] ++ [kw [101, 120, 116, 101, 110, 100, 115]]) (by clear hMd hW hS hN hT hIf hI hM; first | omega | (simp only [List.length_append, List.length_cons, List.length_nil]; omega))).mono ?_)⟩
      rintro r H' m19 hm19 ⟨l19, rfl, u19, hu19, rfl⟩
      simp only [go_sem, ↓imp_tf, ↓imp_ft, ↓reduceIte, Cc.cs]
      refine ⟨hu19, by kernel_rfl, FnV_of ((hIf [105, 109, 112, 108, 101, 109, 101, 110, 116, 115] m19 (leM_tr (leM_tr (leM_tr (leM_tr (leM_tr (leM_tr (leM_tr (.inl rfl : leM m m) l15) (.inr hw16)) l16) l17) (.inr hw18)) l18) l19) u19 (acc ++ modT x.fl ++ [kw [99, 108, 97, 115, 115]] ++ [nm1 x.name] ++ [kw [101, 120, 116, 101, 110, 100, 115]] ++ [nm1 x.super]) (by clear hMd hW hS hN hT hIf hI hM; first | omega | (simp only [List.length_append, List.length_cons, List.length_nil]; omega))).mono ?_)⟩
      rintro r H' m20 hm20 ⟨l20, rfl, u20, hu20, rfl⟩
      simp only [go_sem, ↓imp_tf, ↓imp_ft, ↓reduceIte, Cc.cs]
      refine ⟨hu20, by kernel_rfl, fun a21 c21 w21 hw21 hc21 rr21 => FnV_of ((hS [123] u20 (acc ++ modT x.fl ++ [kw [99, 108, 97, 115, 115]] ++ [nm1 x.name] ++ [kw [101, 120, 116, 101, 110, 100, 115]] ++ [nm1 x.super] ++ ifsT [105, 109, 112, 108, 101, 109, 101, 110, 116, 115] ifs) (by clear hMd hW hS hN hT hIf hI hM; first | omega | (simp only [List.length_append, List.length_cons, List.length_nil]; omega)) a21 c21 w21 rr21).mono ?_)⟩
      rintro r H' m21 hm21 ⟨l21, rfl, u21, hu21, rfl⟩
      simp only [go_sem, ↓imp_tf, ↓imp_ft, ↓reduceIte, Cc.cs]
      refine ⟨hu21, ?_⟩
      have hlf := (leM_tr (leM_tr (leM_tr (leM_tr (leM_tr (leM_tr (leM_tr (leM_tr (leM_tr (leM_tr (.inl rfl : leM m m) l15) (.inr hw16)) l16) l17) (.inr hw18)) l18) l19) l20) (.inr hw21)) l21)
      refine WP_loop puW (fun y : Nat × Nat × List Tk × Mem => ⟨[⟨0, [], .box 0 0⟩, ⟨3, [], .box 2 0⟩, ⟨54, [], .v (.slice x.fa x.fn x.fc)⟩, ⟨55, [], .v (.int .i64 x.fn)⟩, ⟨56, [], .v (.int .i64 y.1)⟩], [], [⟨0, 64, [.vec 1 (u21 + y.2.1)]⟩, ⟨2, 55, x.cs.map .v⟩], [⟨1, u21 + y.2.1, 79, 4, y.2.2.1.length, tkCells y.2.2.1⟩], 100, y.2.2.2⟩)
        (fun y => leM m21 y.2.2.2 ∧ y.1 ≤ x.fn ∧ y.2.2.1 = acc ++ modT x.fl ++ [kw [99, 108, 97, 115, 115]] ++ [nm1 x.name] ++ [kw [101, 120, 116, 101, 110, 100, 115]] ++ [nm1 x.super] ++ ifsT [105, 109, 112, 108, 101, 109, 101, 110, 116, 115] ifs ++ [sg [123]] ++ ((fields.take y.1).map fieldT).flatten) (fun y => x.fn - y.1) (0, 0, acc ++ modT x.fl ++ [kw [99, 108, 97, 115, 115]] ++ [nm1 x.name] ++ [kw [101, 120, 116, 101, 110, 100, 115]] ++ [nm1 x.super] ++ ifsT [105, 109, 112, 108, 101, 109, 101, 110, 116, 115] ifs ++ [sg [123]], m21) (by kernel_rfl) (fun _ _ => Nat.le_of_ble_eq_true rfl) (fun y hy => hy.1) (fun _ => ?_) ?_ ?_ ?_
      · simp only [go_sem, ↓imp_tf, ↓imp_ft, ↓reduceIte, Cc.cs]
      · simp only [go_sem, ↓imp_tf, ↓imp_ft, ↓reduceIte, Cc.cs]
        exact ⟨rfl, rfl, rfl⟩
      · exact ⟨.inl rfl, Nat.zero_le _, by simp⟩
      · rintro ⟨k, v, accf, mf⟩ ⟨f1, f2, f3⟩
        simp only at f1 f2 f3
        have hal := congrArg List.length f3
        simp only [List.length_append, List.length_cons, List.length_nil] at hal
        have hle := flat_le (f := fieldT) fields k
        have hft := fun (hk : k < fields.length) => And.intro (flat_takeT (f := fieldT) hk) (flat_le (f := fieldT) fields (k + 1))
        have hy : ∀ (hk : k < fields.length), Rd mf (ptrAt x.fa (k * 5)) (fields[k]).cs ∧ x.fa ≠ none := fun hk => by
          have := Rds_cells (Rds_upM (leM_tr hlf f1) r2) (by omega : k < x.fn)
          rw [flat_at (f := Fc.cs) (sz := 5) (fun _ => rfl) hk] at this
          exact this
        simp only [go_sem, ↓imp_tf, ↓imp_ft, ↓reduceIte, Cc.cs]
        refine ⟨fun hlt => ?_, fun hge => ?_⟩
        · have hk : k < fields.length := by clear hMd hW hS hN hT hIf hI hM; omega
          have hft' := hft hk
          clear hft
          have hsz := congrArg List.length hft'.1
          rw [List.length_append] at hsz
          have hsz2 : (fieldT fields[k]).length = (modT fields[k].fl).length + (typT fields[k].ty.dim fields[k].ty.base fields[k].ty.name).length + 1 + 1 := by simp only [fieldT, List.length_append, List.length_cons, List.length_nil]
          have hfm : fields[k] ∈ fields := List.getElem_mem hk
          refine ⟨⟨by clear hMd hW hS hN hT hIf hI hM; omega, hlt, (hy hk).2⟩, (fields[k]).cs, ⟨(hy hk).1, rfl⟩, ?_⟩
          simp only [go_sem, ↓imp_tf, ↓imp_ft, ↓reduceIte, Cc.cs, Fc.cs]
          refine ⟨by kernel_rfl, FnV_of ((hMd fields[k].fl mf (u21 + v) (accf) (by clear hMd hW hS hN hT hIf hI hM; first | omega | (simp only [List.length_append, List.length_cons, List.length_nil]; omega))).mono ?_)⟩
          rintro r H' m23 hm23 ⟨l23, rfl, u23, hu23, rfl⟩
          simp only [go_sem, ↓imp_tf, ↓imp_ft, ↓reduceIte, Cc.cs, Fc.cs]
          refine ⟨hu23, by kernel_rfl, FnV_of ((FnH_den (hT fields[k].ty (hdim _ hfm) m23 u23 (accf ++ modT fields[k].fl) (by clear hMd hW hS hN hT hIf hI hM; first | omega | (simp only [List.length_append, List.length_cons, List.length_nil]; omega))) (fun V => rfl)).mono ?_)⟩
          rintro r H' m24 hm24 ⟨l24, rfl, u24, hu24, rfl⟩
          simp only [go_sem, ↓imp_tf, ↓imp_ft, ↓reduceIte, Cc.cs, Fc.cs]
          refine ⟨hu24, by kernel_rfl, FnV_of ((hN fields[k].name m24 u24 (accf ++ modT fields[k].fl ++ typT fields[k].ty.dim fields[k].ty.base fields[k].ty.name) (by clear hMd hW hS hN hT hIf hI hM; first | omega | (simp only [List.length_append, List.length_cons, List.length_nil]; omega))).mono ?_)⟩
          rintro r H' m25 hm25 ⟨l25, rfl, u25, hu25, rfl⟩
          simp only [go_sem, ↓imp_tf, ↓imp_ft, ↓reduceIte, Cc.cs, Fc.cs]
          refine ⟨hu25, by kernel_rfl, fun a26 c26 w26 hw26 hc26 rr26 => FnV_of ((hS [59] u25 (accf ++ modT fields[k].fl ++ typT fields[k].ty.dim fields[k].ty.base fields[k].ty.name ++ [nm1 fields[k].name]) (by clear hMd hW hS hN hT hIf hI hM; first | omega | (simp only [List.length_append, List.length_cons, List.length_nil]; omega)) a26 c26 w26 rr26).mono ?_)⟩
          rintro r H' m26 hm26 ⟨l26, rfl, u26, hu26, rfl⟩
          simp only [go_sem, ↓imp_tf, ↓imp_ft, ↓reduceIte, Cc.cs, Fc.cs]
          refine ⟨hu26, by clear hMd hW hS hN hT hIf hI hM; unfold I64; simp only [big] at hfb; omega, (k + 1, u26 - u21, accf ++ modT fields[k].fl ++ typT fields[k].ty.dim fields[k].ty.base fields[k].ty.name ++ [nm1 fields[k].name] ++ [sg [59]], m26), ⟨by simp, by rw [show u21 + (u26 - u21) = u26 by clear hMd hW hS hN hT hIf hI hM; omega], ⟨by clear hMd hW hS hN hT hIf hI hM; simp only; omega, rfl, rfl⟩, .inl rfl⟩, ⟨leM_tr f1 (leM_tr (leM_tr (leM_tr (leM_tr (leM_tr (.inl rfl : leM mf mf) l23) l24) l25) (.inr hw26)) l26), by clear hMd hW hS hN hT hIf hI hM; simp only; omega, ?_⟩, by clear hMd hW hS hN hT hIf hI hM; simp only; omega⟩
          simp only
          rw [hft'.1, f3]
          simp only [fieldT, List.append_assoc]
        · clear hy hft
          have hkk : fields.take k = fields := List.take_of_length_le (by clear hMd hW hS hN hT hIf hI hM; omega)
          rw [hkk] at f3 hal
          refine ⟨fun hi => ?_, fun hi => ?_⟩
          · have hi0 : 0 < init.length := by clear hMd hW hS hN hT hIf hI hM; omega
            rw [if_pos hi0] at hb
            simp only [List.length_append, List.length_cons, List.length_nil] at hb
            have hini : (if 0 < init.length then [kw [115, 116, 97, 116, 105, 99]] ++ IT else []) = [kw [115, 116, 97, 116, 105, 99]] ++ IT := if_pos hi0
            refine ⟨by kernel_rfl, fun a27 c27 w27 hw27 hc27 rr27 => FnV_of ((hW [115, 116, 97, 116, 105, 99] (u21 + v) (accf) (by clear hMd hW hS hN hT hIf hI hM; first | omega | (simp only [List.length_append, List.length_cons, List.length_nil]; omega)) a27 c27 w27 rr27).mono ?_)⟩
            rintro r H' m27 hm27 ⟨l27, rfl, u27, hu27, rfl⟩
            simp only [go_sem, ↓imp_tf, ↓imp_ft, ↓reduceIte, Cc.cs]
            refine ⟨hu27, by kernel_rfl, FnV_of ((hI hi0 x.sa x.sl x.sc ys m27 u27 (accf ++ [kw [115, 116, 97, 116, 105, 99]]) (leM_tr (leM_tr (leM_tr hlf f1) (.inr hw27)) l27) hsl (Rds_upM (leM_tr (leM_tr (leM_tr hlf f1) (.inr hw27)) l27) r4) (stsRep_upM (leM_tr (leM_tr (leM_tr hlf f1) (.inr hw27)) l27) s4) (by clear hMd hW hS hN hT hIf hI hM; first | omega | (simp only [List.length_append, List.length_cons, List.length_nil]; omega))).mono ?_)⟩
            rintro r H' m28 hm28 ⟨l28, rfl, u28, hu28, rfl⟩
            simp only [go_sem, ↓imp_tf, ↓imp_ft, ↓reduceIte, Cc.cs]
            refine ⟨hu28, ?_⟩
            have hlm := (leM_tr (leM_tr (leM_tr (leM_tr hlf f1) (.inr hw27)) l27) l28)
            refine WP_loop puW (fun y : Nat × Nat × List Tk × Mem => ⟨[⟨0, [], .box 0 0⟩, ⟨88, [], .v (.slice x.ma x.ml x.mc)⟩, ⟨89, [], .v (.int .i64 x.ml)⟩, ⟨90, [], .v (.int .i64 y.1)⟩], [], [⟨0, 64, [.vec 1 (u28 + y.2.1)]⟩], [⟨1, u28 + y.2.1, 79, 4, y.2.2.1.length, tkCells y.2.2.1⟩], 200, y.2.2.2⟩)
              (fun y => leM m28 y.2.2.2 ∧ y.1 ≤ x.ml ∧ y.2.2.1 = accf ++ [kw [115, 116, 97, 116, 105, 99]] ++ IT ++ ((methods.take y.1).map MT).flatten) (fun y => x.ml - y.1) (0, 0, accf ++ [kw [115, 116, 97, 116, 105, 99]] ++ IT, m28) (by kernel_rfl) (fun _ _ => Nat.le_of_ble_eq_true rfl) (fun y hy => hy.1) (fun _ => ?_) ?_ ?_ ?_
            · simp only [go_sem, ↓imp_tf, ↓imp_ft, ↓reduceIte]
            · simp only [go_sem, ↓imp_tf, ↓imp_ft, ↓reduceIte]
              exact ⟨rfl, rfl, rfl⟩
            · exact ⟨.inl rfl, Nat.zero_le _, by simp⟩
            · rintro ⟨k, vm, acc', mm⟩ ⟨h1, h2, h3⟩
              simp only at h1 h2 h3
              have hal := congrArg List.length h3
              simp only [List.length_append, List.length_cons, List.length_nil] at hal
              have hle := flat_le (f := MT) methods k
              have hy : ∀ (hk : k < methods.length), ∃ X : Mc, (Rd mm (ptrAt x.ma (k * 8)) X.cs ∧ x.ma ≠ none) ∧ WrT 90 [.v (.agg ⟨X.cs⟩)] mm (u28 + vm) acc' (MT methods[k]) := fun hk => by
                have hrep := mdRep_up (leM_tr hlm h1) (ls_at s3 hk)
                have hrd := Rds_cells (Rds_upM (leM_tr hlm h1) r3) (by omega : k < x.ml)
                obtain ⟨X, hX⟩ := mdRep_mc hrep
                rw [hX] at hrep hrd
                have hsz := flat_le (f := MT) methods (k + 1)
                have hst := congrArg List.length (flat_takeT (f := MT) hk)
                rw [List.length_append] at hst
                exact ⟨X, hrd, hM _ (List.getElem_mem hk) X.cs mm _ acc' (leM_tr hlm h1) hrep (by clear hMd hW hS hN hT hIf hI hM; omega)⟩
              have hft := fun (hk : k < methods.length) => flat_takeT (f := MT) hk
              clear hM
              simp only [go_sem, ↓imp_tf, ↓imp_ft, ↓reduceIte]
              refine ⟨fun hlt => ?_, fun hge => ?_⟩
              · have hk : k < methods.length := by clear hMd hW hS hN hT hIf hI hy; omega
                have hft' := hft hk
                clear hft
                refine Exists.elim (hy hk) fun X hy' => ⟨⟨by clear hMd hW hS hN hT hIf hI hy hy'; omega, hlt, hy'.1.2⟩, X.cs, ⟨hy'.1.1, rfl⟩, ?_⟩
                clear hy
                have hD := hy'.2
                clear hy'
                simp only [go_sem, ↓imp_tf, ↓imp_ft, ↓reduceIte, Mc.cs]
                refine ⟨by kernel_rfl, FnV_of ((FnH_den hD (fun V => rfl)).mono ?_)⟩
                clear hD
                rintro r H' mz hmz ⟨lz, rfl, uz, huz, rfl⟩
                simp only [go_sem, ↓imp_tf, ↓imp_ft, ↓reduceIte, Mc.cs]
                refine ⟨huz, by clear hMd hW hS hN hT hIf hI; unfold I64; simp only [big] at hmb; omega, (k + 1, uz - u28, acc' ++ MT methods[k], mz), ⟨by simp, by rw [show u28 + (uz - u28) = uz by omega], ⟨by simp only; omega, rfl, rfl⟩, .inl rfl⟩, ⟨leM_tr h1 lz, by simp only; omega, ?_⟩, by simp only; omega⟩
                simp only
                rw [hft', h3, List.append_assoc]
              · clear hy hft
                have hkk : methods.take k = methods := List.take_of_length_le (by clear hMd hW hS hN hT hIf hI; omega)
                rw [hkk] at h3 hal
                refine ⟨by kernel_rfl, fun az cz wz hwz hcz rz => FnV_of ((hS [125] (u28 + vm) acc' (by clear hMd hW hS hN hT hIf hI; omega) az cz wz rz).mono ?_)⟩
                clear hMd hW hS hN hT hIf hI
                rintro r H' mz hmz ⟨lz, rfl, uz, huz, rfl⟩
                simp only [go_sem, ↓imp_tf, ↓imp_ft, ↓reduceIte]
                refine ⟨huz, leM_tr hlm (leM_tr h1 (leM_tr (.inr hwz) lz)), uz, by omega, ?_⟩
                have hfin : acc' ++ [sg [125]] = acc ++ classT IT MT ⟨x.fl, x.name, x.super, ifs, fields, methods, init⟩ := by
                  rw [h3, f3, classT]
                  dsimp only
                  rw [hH, hini]
                  simp only [List.append_assoc, List.cons_append, List.nil_append, List.append_nil]
                rw [hfin]
          · have hi0 : ¬ 0 < init.length := by clear hMd hW hS hN hT hIf hI hM; omega
            rw [if_neg hi0] at hb
            simp only [List.length_nil] at hb
            have hini : (if 0 < init.length then [kw [115, 116, 97, 116, 105, 99]] ++ IT else []) = [] := if_neg hi0
            have hlm := (leM_tr hlf f1)
            refine WP_loop puW (fun y : Nat × Nat × List Tk × Mem => ⟨[⟨0, [], .box 0 0⟩, ⟨88, [], .v (.slice x.ma x.ml x.mc)⟩, ⟨89, [], .v (.int .i64 x.ml)⟩, ⟨90, [], .v (.int .i64 y.1)⟩], [], [⟨0, 64, [.vec 1 ((u21 + v) + y.2.1)]⟩], [⟨1, (u21 + v) + y.2.1, 79, 4, y.2.2.1.length, tkCells y.2.2.1⟩], 200, y.2.2.2⟩)
              (fun y => leM mf y.2.2.2 ∧ y.1 ≤ x.ml ∧ y.2.2.1 = accf ++ ((methods.take y.1).map MT).flatten) (fun y => x.ml - y.1) (0, 0, accf, mf) (by kernel_rfl) (fun _ _ => Nat.le_of_ble_eq_true rfl) (fun y hy => hy.1) (fun _ => ?_) ?_ ?_ ?_
            · simp only [go_sem, ↓imp_tf, ↓imp_ft, ↓reduceIte]
            · simp only [go_sem, ↓imp_tf, ↓imp_ft, ↓reduceIte]
              exact ⟨rfl, rfl, rfl⟩
            · exact ⟨.inl rfl, Nat.zero_le _, by simp⟩
            · rintro ⟨k, vm, acc', mm⟩ ⟨h1, h2, h3⟩
              simp only at h1 h2 h3
              have hal := congrArg List.length h3
              simp only [List.length_append, List.length_cons, List.length_nil] at hal
              have hle := flat_le (f := MT) methods k
              have hy : ∀ (hk : k < methods.length), ∃ X : Mc, (Rd mm (ptrAt x.ma (k * 8)) X.cs ∧ x.ma ≠ none) ∧ WrT 90 [.v (.agg ⟨X.cs⟩)] mm ((u21 + v) + vm) acc' (MT methods[k]) := fun hk => by
                have hrep := mdRep_up (leM_tr hlm h1) (ls_at s3 hk)
                have hrd := Rds_cells (Rds_upM (leM_tr hlm h1) r3) (by omega : k < x.ml)
                obtain ⟨X, hX⟩ := mdRep_mc hrep
                rw [hX] at hrep hrd
                have hsz := flat_le (f := MT) methods (k + 1)
                have hst := congrArg List.length (flat_takeT (f := MT) hk)
                rw [List.length_append] at hst
                exact ⟨X, hrd, hM _ (List.getElem_mem hk) X.cs mm _ acc' (leM_tr hlm h1) hrep (by clear hMd hW hS hN hT hIf hI hM; omega)⟩
              have hft := fun (hk : k < methods.length) => flat_takeT (f := MT) hk
              clear hM
              simp only [go_sem, ↓imp_tf, ↓imp_ft, ↓reduceIte]
              refine ⟨fun hlt => ?_, fun hge => ?_⟩
              · have hk : k < methods.length := by clear hMd hW hS hN hT hIf hI hy; omega
                have hft' := hft hk
                clear hft
                refine Exists.elim (hy hk) fun X hy' => ⟨⟨by clear hMd hW hS hN hT hIf hI hy hy'; omega, hlt, hy'.1.2⟩, X.cs, ⟨hy'.1.1, rfl⟩, ?_⟩
                clear hy
                have hD := hy'.2
                clear hy'
                simp only [go_sem, ↓imp_tf, ↓imp_ft, ↓reduceIte, Mc.cs]
                refine ⟨by kernel_rfl, FnV_of ((FnH_den hD (fun V => rfl)).mono ?_)⟩
                clear hD
                rintro r H' mz hmz ⟨lz, rfl, uz, huz, rfl⟩
                simp only [go_sem, ↓imp_tf, ↓imp_ft, ↓reduceIte, Mc.cs]
                refine ⟨huz, by clear hMd hW hS hN hT hIf hI; unfold I64; simp only [big] at hmb; omega, (k + 1, uz - (u21 + v), acc' ++ MT methods[k], mz), ⟨by simp, by rw [show (u21 + v) + (uz - (u21 + v)) = uz by omega], ⟨by simp only; omega, rfl, rfl⟩, .inl rfl⟩, ⟨leM_tr h1 lz, by simp only; omega, ?_⟩, by simp only; omega⟩
                simp only
                rw [hft', h3, List.append_assoc]
              · clear hy hft
                have hkk : methods.take k = methods := List.take_of_length_le (by clear hMd hW hS hN hT hIf hI; omega)
                rw [hkk] at h3 hal
                refine ⟨by kernel_rfl, fun az cz wz hwz hcz rz => FnV_of ((hS [125] ((u21 + v) + vm) acc' (by clear hMd hW hS hN hT hIf hI; omega) az cz wz rz).mono ?_)⟩
                clear hMd hW hS hN hT hIf hI
                rintro r H' mz hmz ⟨lz, rfl, uz, huz, rfl⟩
                simp only [go_sem, ↓imp_tf, ↓imp_ft, ↓reduceIte]
                refine ⟨huz, leM_tr hlm (leM_tr h1 (leM_tr (.inr hwz) lz)), uz, by omega, ?_⟩
                have hfin : acc' ++ [sg [125]] = acc ++ classT IT MT ⟨x.fl, x.name, x.super, ifs, fields, methods, init⟩ := by
                  rw [h3, f3, classT]
                  dsimp only
                  rw [hH, hini]
                  simp only [List.append_assoc, List.cons_append, List.nil_append, List.append_nil]
                rw [hfin]
end Go.Proofs.YtalalcpefggniaaGreatDoor.E

namespace Go.Proofs.YtalalcpefggniaaGreatDoor.E
open Go

def brT (l : List Tk) : List Tk := sg [123] :: (l ++ [sg [125]])
def Ex.args : Ex → List Ex | .mk _ _ _ _ _ args => args
/-- The tokens of a statement, of those of its blocks. -/
def stT (k : Int) (nm : List UInt8) (ty : Ty) (tg ex : Ex) (B A : List Tk) (al : Nat) : List Tk :=
  if k = 4 then [kw [105, 102]] ++ listT [exprT ex] ++ brT B ++ (if 0 < al then [kw [101, 108, 115, 101]] ++ brT A else [])
  else if k = 5 then [kw [119, 104, 105, 108, 101]] ++ listT [exprT ex] ++ brT B
  else if k = 8 then [kw [116, 114, 121]] ++ brT B ++ [kw [99, 97, 116, 99, 104]] ++ [sg [40]] ++ typT ty.dim ty.base ty.name ++ [nm1 nm] ++ [sg [41]] ++ brT A
  else if k = 9 then [kw [115, 121, 110, 99]] ++ listT [exprT ex] ++ brT B
  else if k = 10 then brT B
  else (if k = 1 then typT ty.dim ty.base ty.name ++ [nm1 nm] ++ [sg [61]] ++ exprT ex
    else if k = 2 then exprT tg ++ [sg [61]] ++ exprT ex
    else if k = 3 then exprT ex
    else if k = 6 then [kw [114, 101, 116, 117, 114, 110]] ++ (if ex.k ≠ 0 then exprT ex else [])
    else if k = 7 then [kw [116, 104, 114, 111, 119]] ++ exprT ex
    else if k = 11 then [kw [115, 117, 112, 101, 114]] ++ listT (ex.args.map exprT)
    else []) ++ [sg [59]]
mutual
def stmtT : St → List Tk
  | .mk k nm ty tg ex body alt => stT k nm ty tg ex (stmtsT body) (stmtsT alt) alt.length
def stmtsT : List St → List Tk
  | [] => []
  | e :: r => stmtT e ++ stmtsT r
end
def paramT (p : Pc) : List Tk := typT p.ty.dim p.ty.base p.ty.name ++ [nm1 p.name]
def methodT (d : Md) : List Tk :=
  modT d.fl ++ (if d.name = initS then [kw [110, 101, 119]] else typT d.res.dim d.res.base d.res.name ++ [nm1 d.name]) ++ listT (d.params.map paramT) ++ (if d.hb = true then brT (stmtsT d.body) else [sg [59]])
def clsT (d : Cd) : List Tk := classT (brT (stmtsT d.init)) methodT d
def progT (l : List Cd) : List Tk := (l.map clsT).flatten
/-- What Format returns. -/
def fmtP (l : List Cd) : List UInt8 × Int := if (checkL [] l).2 = 0 then joinL (progT l) else ([], (checkL [] l).2)
/-- What is asked of a class that is written. -/
structure WrOk (d : Cd) (m : Mem) : Prop where
  dim : ∀ f ∈ d.fields, f.ty.dim ≤ 1000
  blk : 0 < d.init.length → ∀ a n c xs m' u acc, leM m m' → n = d.init.length → Rds m' a n 23 xs → stsRep m' d.init xs → acc.length + (brT (stmtsT d.init)).length ≤ cap → WrT 89 [.v (.slice a n c)] m' u acc (brT (stmtsT d.init))
  mth : ∀ e ∈ d.methods, ∀ cs m' u acc, leM m m' → mdRep m' e cs → acc.length + (methodT e).length ≤ cap → WrT 90 [.v (.agg ⟨cs⟩)] m' u acc (methodT e)
theorem formatP_spec (l : List Cd) (p : Option Addr) (n c : Nat) (m : Mem) (hg : Glob m) (hC : ∀ d ∈ l, CdB d) (hW : (checkL [] l).2 = 0 → ∀ d ∈ l, WrOk d m) (hT : (checkL [] l).2 = 0 → (progT l).length ≤ cap ∧ AllT TkOk (progT l)) (h : prRep m l p n c) :
    FnH Tryz.prog 13 [.v (.slice p n c)] ⟨[], []⟩ m fun r H' m' => leM m m' ∧ H' = ⟨[], []⟩ ∧ r = .tup [.v (.string (bs (fmtP l).1)), .v (.int .i64 (fmtP l).2)] := by
  have hCk := check_spec l p n c m hg hC h
  obtain ⟨hl, hcp, hn, xs, r1, s1⟩ := h
  have hJ := fun (h0 : (checkL [] l).2 = 0) (m' : Mem) (hle : leM m m') (a : Option Addr) (c : Nat) (hr : Rds m' a (progT l).length 4 (tkCells (progT l))) => joinT_spec (progT l) a _ c m' (hg.upM hle) hr (hT h0).2 (by have := (hT h0).1; simp only [cap] at this; omega)
  have hJ0 := fun (m' : Mem) (hle : leM m m') => joinT_spec [] none 0 0 m' (hg.upM hle) Rds_nil (fun t ht => by cases ht) (by omega)
  have hX : ∀ (h0 : (checkL [] l).2 = 0) (mm : Mem) (hle : leM m mm) (k : Nat) (hk : k < l.length), ∃ X : Cc, (Rd mm (ptrAt p (k * 7)) X.cs ∧ p ≠ none) ∧ ∀ u acc, acc.length + (clsT l[k]).length ≤ cap → WrT 38 [.v (.agg ⟨X.cs⟩)] mm u acc (clsT l[k]) := fun h0 mm hle k hk => by
    have hrep := cdRep_up hle (ls_at s1 hk)
    have hrd := Rds_cells (Rds_upM hle r1) (by omega : k < n)
    obtain ⟨X, hX⟩ := cdRep_cc hrep
    rw [hX] at hrep hrd
    have w := hW h0 _ (List.getElem_mem hk)
    exact ⟨X, hrd, fun u acc hb => classW_spec (brT (stmtsT l[k].init)) methodT l[k] X.cs mm u acc hrep w.dim hb (fun h1 a n c xs m' u acc hle2 => w.blk h1 a n c xs m' u acc (leM_tr hle hle2)) (fun e he cs m' u acc hle2 => w.mth e he cs m' u acc (leM_tr hle hle2))⟩
  clear hC hW
  refine enter cfW puW Tryz.func13 rfl rfl (by kernel_rfl) rfl ?_ ?_
  · simp only [go_sem, ↓imp_tf, ↓imp_ft, ↓reduceIte]
  · simp only [go_sem, ↓imp_tf, ↓imp_ft, ↓reduceIte]
    refine ⟨by kernel_rfl, FnV_of (hCk.mono ?_)⟩
    clear hCk
    rintro r H' m1 hm1 ⟨l1, rfl, rfl⟩
    simp only [go_sem, ↓imp_tf, ↓imp_ft, ↓reduceIte]
    refine ⟨fun hne => ⟨l1, ?_⟩, fun h0 => ?_⟩
    · clear hJ hJ0 hX
      rw [fmtP, if_neg hne]
    · have hf : fmtP l = joinL (progT l) := by rw [fmtP, if_pos h0]
      have hTl := (hT h0).1
      have hJ1 := hJ h0
      have hX1 := hX h0
      clear hJ hX hT
      refine WP_loop puW (fun x : Mem ⊕ (Nat × Nat × List Tk × Mem) => match x with
          | .inl mm => ⟨[⟨6, [], .box 0 0⟩, ⟨19, [], .v (.slice p n c)⟩, ⟨20, [], .v (.int .i64 n)⟩, ⟨21, [], .v (.int .i64 0)⟩], [], [⟨0, 64, [.v (.slice none 0 0)]⟩], [], 50, mm⟩
          | .inr y => ⟨[⟨6, [], .box 0 0⟩, ⟨19, [], .v (.slice p n c)⟩, ⟨20, [], .v (.int .i64 n)⟩, ⟨21, [], .v (.int .i64 y.1)⟩], [], [⟨0, 64, [.vec 52 y.2.1]⟩], [⟨52, y.2.1, 79, 4, y.2.2.1.length, tkCells y.2.2.1⟩], 100, y.2.2.2⟩)
        (fun x => match x with
          | .inl mm => leM m1 mm
          | .inr y => leM m1 y.2.2.2 ∧ 1 ≤ y.1 ∧ y.1 ≤ n ∧ y.2.2.1 = progT (l.take y.1)) (fun x => match x with | .inl _ => n + 1 | .inr y => n - y.1) (.inl m1) (by kernel_rfl) ?_ ?_ (fun x => ?_) ?_ ?_ ?_
      · rintro (mm | y) _ <;> exact Nat.le_of_ble_eq_true rfl
      · rintro (mm | y) h
        · exact h
        · exact h.1
      · cases x
        · simp only [go_sem, ↓imp_tf, ↓imp_ft, ↓reduceIte]
        · simp only [go_sem, ↓imp_tf, ↓imp_ft, ↓reduceIte]
      · simp only [go_sem, ↓imp_tf, ↓imp_ft, ↓reduceIte]
      · exact .inl rfl
      · rintro (mm | ⟨k, v, acc', mm⟩) hI
        · have hI : leM m1 mm := hI
          have hX2 := hX1 mm (leM_tr l1 hI) 0
          rw [Nat.zero_mul] at hX2
          have hJ2 := hJ0 mm (leM_tr l1 hI)
          clear hJ1 hX1 hJ0
          simp only [go_sem, ↓imp_tf, ↓imp_ft, ↓reduceIte]
          refine ⟨fun hlt => ?_, fun hge => ⟨by kernel_rfl, FnV_of (hJ2.mono ?_)⟩⟩
          · clear hJ2
            have hk : 0 < l.length := by clear hX2; omega
            refine Exists.elim (hX2 hk) fun X hX3 => ⟨⟨by clear hX2 hX3; omega, hlt, hX3.1.2⟩, X.cs, ⟨hX3.1.1, rfl⟩, ?_⟩
            clear hX2
            have hD := FnH_adopt (tW := 64) (el := 79) (sz := 4) (by decide) (by decide) (fun V V' h => by simp [den, denB, denA, h]) (hX3.2 0 [] (by
              clear hX3
              have := flat_le (f := clsT) l 1
              rw [flat_takeT hk] at this
              simp only [progT] at hTl
              simp only [List.take_zero, List.map_nil, List.flatten_nil, List.nil_append, List.length_nil] at this ⊢
              omega))
            clear hX3
            simp only [go_sem, ↓imp_tf, ↓imp_ft, ↓reduceIte, Cc.cs]
            refine ⟨by kernel_rfl, FnV_of ((FnH_den hD (fun V => rfl)).mono ?_)⟩
            clear hD
            rintro r H' m2 hm2 ⟨l2, rfl, w, hw, rfl⟩
            simp only [go_sem, ↓imp_tf, ↓imp_ft, ↓reduceIte, Cc.cs]
            refine ⟨by unfold I64; omega, .inr (1, w, clsT l[0], m2), ?_⟩
            simp only [go_sem, ↓imp_tf, ↓imp_ft, ↓reduceIte]
            refine ⟨by simp, ⟨leM_tr hI l2, by omega, ?_⟩, by omega⟩
            have := flat_takeT (f := clsT) hk
            rw [progT, this]
            simp
          · clear hX2
            rintro r H' m2 hm2 ⟨l2, rfl, rfl⟩
            simp only [go_sem, ↓imp_tf, ↓imp_ft, ↓reduceIte]
            have : l = [] := List.length_eq_zero_iff.1 (by omega)
            rw [hf, this]
            exact ⟨leM_tr (leM_tr l1 hI) l2, rfl⟩
        · have hI : leM m1 mm ∧ 1 ≤ k ∧ k ≤ n ∧ acc' = progT (l.take k) := hI
          have q1 := hI.1
          have q2 := hI.2.1
          have q3 := hI.2.2.1
          have q4 := hI.2.2.2
          have hX2 := hX1 mm (leM_tr l1 q1) k
          have hle := fun (hk : k < l.length) => And.intro (flat_le (f := clsT) l (k + 1)) (flat_takeT (f := clsT) hk)
          clear hX1 hJ0
          simp only [go_sem, ↓imp_tf, ↓imp_ft, ↓reduceIte]
          refine ⟨fun hlt => ?_, fun hge => ⟨by kernel_rfl, fun a1 c1 w1 hw1 hc1 rr1 => ?_⟩⟩
          · clear hJ1
            have hk : k < l.length := by clear hX2; omega
            have hle' := hle hk
            clear hle
            refine Exists.elim (hX2 hk) fun X hX3 => ⟨⟨by clear hX2 hX3; omega, hlt, hX3.1.2⟩, X.cs, ⟨hX3.1.1, rfl⟩, ?_⟩
            clear hX2
            have hD := hX3.2 v acc' (by
              clear hX3
              have h1 := hle'.1
              rw [hle'.2] at h1
              simp only [progT] at hTl q4
              rw [q4]
              simp only [List.length_append] at h1
              omega)
            clear hX3
            simp only [go_sem, ↓imp_tf, ↓imp_ft, ↓reduceIte, Cc.cs]
            refine ⟨by kernel_rfl, FnV_of ((FnH_den hD (fun V => rfl)).mono ?_)⟩
            clear hD
            rintro r H' m2 hm2 ⟨l2, rfl, w, hw, rfl⟩
            simp only [go_sem, ↓imp_tf, ↓imp_ft, ↓reduceIte, Cc.cs]
            refine ⟨hw, by unfold I64; simp only [big] at hn; omega, .inr (k + 1, w, acc' ++ clsT l[k], m2), ?_⟩
            simp only [go_sem, ↓imp_tf, ↓imp_ft, ↓reduceIte]
            refine ⟨by simp, ⟨leM_tr q1 l2, by omega, ?_⟩, by omega⟩
            rw [q4, progT, progT, hle'.2]
          · clear hX2
            have hkk : acc' = progT l := by rw [q4, List.take_of_length_le (by clear hJ1; omega)]
            subst hkk
            refine FnV_of ((hJ1 w1 (leM_tr (leM_tr l1 q1) (.inr hw1)) a1 c1 rr1).mono ?_)
            clear hJ1
            rintro r H' m2 hm2 ⟨l2, rfl, rfl⟩
            rw [← hf]
            simp only [go_sem, ↓imp_tf, ↓imp_ft, ↓reduceIte]
            exact leM_tr (leM_tr (leM_tr l1 q1) (.inr hw1)) l2
end Go.Proofs.YtalalcpefggniaaGreatDoor.E

namespace Go.Proofs.YtalalcpefggniaaGreatDoor.E
open Go

def smpL : List Cd := [⟨0, [112, 47, 65], objS, [], [⟨0, ⟨0, 74, []⟩, [120]⟩], [], []⟩]
def badL : List Cd := [⟨0, [112, 47, 97], objS, [], [], [], []⟩]
theorem sample_spec (m : Mem) : FnH Tryz.prog 31 [] ⟨[], []⟩ m fun r H' m' => ∃ (a : Option Addr) (c : Nat), leM m m' ∧ Rds m' a 1 5 [.int .i64 0, .int .i64 0, .int .u8 74, .string (bs []), .string (bs [120])] ∧ 1 ≤ c ∧ r = .vec 1 0 ∧
    H' = ⟨[], [⟨1, 0, 55, 7, 1, [.int .i64 0, .string (bs [112, 47, 65]), .string (bs objS), .slice none 0 0, .slice a 1 c, .slice none 0 0, .slice none 0 0]⟩]⟩ := by
  refine enter cfW puW Tryz.func31 rfl rfl (by kernel_rfl) rfl ?_ ?_
  · simp only [go_sem, ↓imp_tf, ↓imp_ft, ↓reduceIte]
  · simp only [go_sem, ↓imp_tf, ↓imp_ft, ↓reduceIte]
    intro a c m1 hm1 hc hr
    exact ⟨a, c, .inr hm1, hr, hc, rfl⟩
def oneE : Ex := .mk 1 1 [] [] zTy []
def zeroE : Ex := .mk 1 0 [] [] zTy []
def twoE : Ex := .mk 1 2 [] [] zTy []
def aE : Ex := .mk 6 0 [97] [] zTy []
def sumE : Ex := .mk 16 0 [43] [] zTy [oneE, negE aE]
def arrE : Ex := .mk 14 0 [] [] ⟨1, 73, []⟩ [twoE]
def idxE : Ex := .mk 9 0 [] [] zTy [arrE, zeroE]
def blkS : St := .mk 10 [] zTy zE zE [] []
set_option maxRecDepth 100000 in
theorem ex1 : fmtE sumE = ([49, 32, 43, 32, 40, 32, 45, 32, 97, 32, 41], 0) := by decide +kernel
set_option maxRecDepth 100000 in
theorem ex2 : fmtE idxE = ([110, 101, 119, 32, 105, 110, 116, 32, 91, 32, 93, 32, 91, 32, 50, 32, 93, 32, 91, 32, 48, 32, 93], 0) := by decide +kernel
set_option maxRecDepth 100000 in
theorem ex3 : fmtP smpL = ([99, 108, 97, 115, 115, 32, 112, 58, 58, 65, 32, 101, 120, 116, 101, 110, 100, 115, 32, 108, 97, 110, 103, 58, 58, 79, 98, 106, 101, 99, 116, 32, 123, 32, 108, 111, 110, 103, 32, 120, 32, 59, 32, 125], 0) := by decide +kernel
theorem ex4 : (checkL [] badL).2 = 4 := by decide +kernel
theorem ex5 : depthE sumE = 3 := by decide +kernel
theorem ex6 : validE sumE = true := by decide +kernel
theorem ex7 : validS blkS = true := by decide +kernel
theorem ex8 : validE zE = false := by decide +kernel
theorem ex9 : all2 eqC smpL smpL = true := by decide +kernel
theorem ex10 : all2 eqC smpL [] = false := by decide +kernel
theorem ex_mk {m : Mem} {k n : Int} {s c : List UInt8} {ty : Ty} {args : List Ex} {a : Option Addr} {cp : Nat} {xs : List Value} (hcp : args.length ≤ cp) (hr : Rds m a args.length 8 xs) (hok : ExOk k n s c ty args.length) (hes : exsRep m args xs) :
    exRep m (.mk k n s c ty args) (exC k n s c ty (.slice a args.length cp)) := by
  simp only [exRep]
  exact ⟨a, cp, xs, rfl, hcp, hr, hok, hes⟩
theorem exs_nil {m : Mem} {xs : List Value} : exsRep m [] xs := by simp only [exsRep]
theorem exs_cons {m : Mem} {e : Ex} {r : List Ex} {cs xs : List Value} (h : exRep m e cs) (hc : cs.length = 8) (hr : exsRep m r xs) : exsRep m (e :: r) (cs ++ xs) := by
  simp only [exsRep]
  rw [← hc, List.take_left, List.drop_left]
  exact ⟨h, hr⟩
theorem leaf_rep {m : Mem} {k n : Int} {s : List UInt8} (hk : I64 k) (hn : I64 n) (hs : s.length ≤ big) : exRep m (.mk k n s [] zTy []) (exC k n s [] zTy (.slice none 0 0)) :=
  ex_mk (Nat.le_refl _) Rds_nil ⟨hk, hn, hs, Nat.zero_le _, z_ok, Nat.zero_le _⟩ exs_nil
theorem neg_rep {m : Mem} {e : Ex} {cs : List Value} {a : Option Addr} {c : Nat} (hc : 1 ≤ c) (he : exRep m e cs) (hr : Rds m a 1 8 cs) : exRep m (negE e) (exC 15 0 [45] [] zTy (.slice a 1 c)) := by
  have hl : cs.length = 8 := ex_len he
  exact ex_mk (args := [e]) hc hr ⟨by unfold I64; decide, by unfold I64; decide, by decide, by decide, z_ok, Nat.le_of_ble_eq_true rfl⟩ (exs_one he hl)
theorem aE_rep {m : Mem} : exRep m aE (exC 6 0 [97] [] zTy (.slice none 0 0)) := leaf_rep (by unfold I64; decide) (by unfold I64; decide) (by decide)
theorem oneE_rep {m : Mem} : exRep m oneE (exC 1 1 [] [] zTy (.slice none 0 0)) := leaf_rep (by unfold I64; decide) (by unfold I64; decide) (by decide)
theorem zeroE_rep {m : Mem} : exRep m zeroE (exC 1 0 [] [] zTy (.slice none 0 0)) := leaf_rep (by unfold I64; decide) (by unfold I64; decide) (by decide)
theorem twoE_rep {m : Mem} : exRep m twoE (exC 1 2 [] [] zTy (.slice none 0 0)) := leaf_rep (by unfold I64; decide) (by unfold I64; decide) (by decide)
theorem sum_rep {m : Mem} {a a2 : Option Addr} {c c2 : Nat} (hc : 1 ≤ c) (hr : Rds m a 1 8 (exC 6 0 [97] [] zTy (.slice none 0 0))) (hc2 : 2 ≤ c2) (hr2 : Rds m a2 2 8 (exC 1 1 [] [] zTy (.slice none 0 0) ++ exC 15 0 [45] [] zTy (.slice a 1 c))) :
    exRep m sumE (exC 16 0 [43] [] zTy (.slice a2 2 c2)) :=
  ex_mk (args := [oneE, negE aE]) hc2 hr2 ⟨by unfold I64; decide, by unfold I64; decide, by decide, by decide, z_ok, by decide⟩ (exs_cons oneE_rep rfl (exs_one (neg_rep hc aE_rep hr) rfl))
theorem idx_rep {m : Mem} {a a2 : Option Addr} {c c2 : Nat} (hc : 1 ≤ c) (hr : Rds m a 1 8 (exC 1 2 [] [] zTy (.slice none 0 0))) (hc2 : 2 ≤ c2) (hr2 : Rds m a2 2 8 (exC 14 0 [] [] ⟨1, 73, []⟩ (.slice a 1 c) ++ exC 1 0 [] [] zTy (.slice none 0 0))) :
    exRep m idxE (exC 9 0 [] [] zTy (.slice a2 2 c2)) :=
  ex_mk (args := [arrE, zeroE]) hc2 hr2 ⟨by unfold I64; decide, by unfold I64; decide, by decide, by decide, z_ok, by decide⟩
    (exs_cons (ex_mk (args := [twoE]) hc hr ⟨by unfold I64; decide, by unfold I64; decide, by decide, by decide, ⟨by unfold I64; decide, by decide, by decide⟩, by decide⟩ (exs_one twoE_rep rfl)) rfl (exs_one zeroE_rep rfl))
theorem smp_rep {m : Mem} {a a2 : Option Addr} {c c2 : Nat} (hc : 1 ≤ c) (hr : Rds m a 1 5 [.int .i64 0, .int .i64 0, .int .u8 74, .string (bs []), .string (bs [120])]) (hc2 : 1 ≤ c2)
    (hr2 : Rds m a2 1 7 [.int .i64 0, .string (bs [112, 47, 65]), .string (bs objS), .slice none 0 0, .slice a 1 c, .slice none 0 0, .slice none 0 0]) : prRep m smpL a2 1 c2 := by
  refine ⟨rfl, hc2, by decide, _, hr2, ?_, trivial⟩
  refine ⟨⟨0, [112, 47, 65], objS, none, 0, 0, a, 1, c, none, 0, 0, none, 0, 0⟩, ⟨rfl, rfl, rfl, rfl⟩, ⟨rfl, Nat.le_refl _, rfl, hc, rfl, Nat.le_refl _, rfl, Nat.le_refl _⟩, ?_, Rds_nil, hr, [], [], Rds_nil, trivial, Rds_nil, sts_nil⟩
  exact ⟨by unfold I64; decide, by decide, by decide, by decide, (fun s h => by cases h), by decide, (fun s h => by rw [List.mem_singleton.1 h]; exact ⟨by unfold I64; decide, ⟨by unfold I64; decide, by decide, by decide⟩, by decide⟩), by decide, by decide⟩
theorem bad_rep {m : Mem} {a2 : Option Addr} {c2 : Nat} (hc2 : 1 ≤ c2) (hr2 : Rds m a2 1 7 [.int .i64 0, .string (bs [112, 47, 97]), .string (bs objS), .slice none 0 0, .slice none 0 0, .slice none 0 0, .slice none 0 0]) : prRep m badL a2 1 c2 := by
  refine ⟨rfl, hc2, by decide, _, hr2, ?_, trivial⟩
  refine ⟨⟨0, [112, 47, 97], objS, none, 0, 0, none, 0, 0, none, 0, 0, none, 0, 0⟩, ⟨rfl, rfl, rfl, rfl⟩, ⟨rfl, Nat.le_refl _, rfl, Nat.le_refl _, rfl, Nat.le_refl _, rfl, Nat.le_refl _⟩, ?_, Rds_nil, Rds_nil, [], [], Rds_nil, trivial, Rds_nil, sts_nil⟩
  exact ⟨by unfold I64; decide, by decide, by decide, by decide, (fun s h => by cases h), by decide, (fun s h => by cases h), by decide, by decide⟩
theorem nil_rep {m : Mem} : prRep m [] none 0 0 := ⟨rfl, Nat.le_refl _, Nat.zero_le _, [], Rds_nil, trivial⟩
theorem chk0 {d : Cd} (hm : d.methods = []) (hi : d.init = []) : CdB d := by
  refine ⟨?_, ?_, ?_, ?_⟩ <;> simp [hi, hm, depthSs, exprDs, mdsS, mdsE]
theorem smp_ok : ∀ d ∈ smpL, CdB d := fun d h => by rw [List.mem_singleton.1 h]; exact chk0 rfl rfl
theorem bad_ok : ∀ d ∈ badL, CdB d := fun d h => by rw [List.mem_singleton.1 h]; exact chk0 rfl rfl
theorem smp_wr {m : Mem} : ∀ d ∈ smpL, WrOk d m := fun d h => by
  rw [List.mem_singleton.1 h]
  exact ⟨fun f hf => by rw [List.mem_singleton.1 hf]; decide, fun h => absurd h (by decide), fun e he => by cases he⟩
theorem smp_tk : (progT smpL).length ≤ cap ∧ AllT TkOk (progT smpL) := by
  refine ⟨by decide +kernel, ?_⟩
  have : (progT smpL).all fun t => decide (t.s.length ≤ 2000000) && (decide (-9223372036854775808 ≤ t.n) && decide (t.n ≤ 9223372036854775807)) := by decide +kernel
  intro t ht
  have := List.all_eq_true.1 this t ht
  simp only [Bool.and_eq_true, decide_eq_true_eq] at this
  exact ⟨this.1, this.2⟩
theorem blk_rep {m : Mem} : stRep m blkS (Sd.cs ⟨10, [], zTy, zNd, zNd, none, 0, 0, none, 0, 0⟩) :=
  st_mk (⟨10, [], zTy, zNd, zNd, none, 0, 0, none, 0, 0⟩ : Sd) z_rep z_rep rfl (Nat.le_refl _) rfl (Nat.le_refl _) ⟨by unfold I64; decide, by decide, z_ok, by decide, by decide⟩ Rds_nil Rds_nil sts_nil sts_nil
theorem awake_spec (m : Mem) (hg : Glob m) : Ans 10 [] m (.bool true) := by
  refine enter cfW puW Tryz.func10 rfl rfl (by kernel_rfl) rfl ?_ ?_
  · simp only [go_sem, ↓imp_tf, ↓imp_ft, ↓reduceIte]
  · simp only [go_sem, ↓imp_tf, ↓imp_ft, ↓reduceIte]
    intro a c m1 hm1 hc r1
    have k1 : leM m m1 := .inr hm1
    have hF := fun a2 c2 m2 (hm2 : leM m1 m2) (hc2 : 2 ≤ c2) r2 => fexpr_spec sumE _ m2 (hg.upM (leM_tr k1 hm2)) (sum_rep hc (Rds_upM hm2 r1) (a2 := a2) hc2 r2) (by decide +kernel) (by decide +kernel)
    rw [ex1] at hF
    refine ⟨by kernel_rfl, fun a2 c2 m2 hm2 hc2 r2 => FnV_of ((FnH_den (hF a2 c2 m2 (.inr hm2) hc2 r2) (fun V => rfl)).mono ?_)⟩
    clear hF
    rintro r H' m3 hm3 ⟨l3, rfl, rfl⟩
    have k3 := leM_tr k1 (leM_tr (.inr hm2) l3)
    simp only [go_sem, ↓imp_tf, ↓imp_ft, ↓reduceIte]
    intro a4 c4 m4 hm4 hc4 r4
    have k4 : leM m m4 := leM_tr k3 (.inr hm4)
    have hF := fun a5 c5 m5 (hm5 : leM m4 m5) (hc5 : 2 ≤ c5) r5 => fexpr_spec idxE _ m5 (hg.upM (leM_tr k4 hm5)) (idx_rep hc4 (Rds_upM hm5 r4) (a2 := a5) hc5 r5) (by decide +kernel) (by decide +kernel)
    rw [ex2] at hF
    refine ⟨by kernel_rfl, fun a5 c5 m5 hm5 hc5 r5 => FnV_of ((FnH_den (hF a5 c5 m5 (.inr hm5) hc5 r5) (fun V => rfl)).mono ?_)⟩
    clear hF
    rintro r H' m6 hm6 ⟨l6, rfl, rfl⟩
    have k6 := leM_tr k4 (leM_tr (.inr hm5) l6)
    simp only [go_sem, ↓imp_tf, ↓imp_ft, ↓reduceIte]
    refine ⟨by kernel_rfl, FnV_of ((sample_spec m6).mono ?_)⟩
    rintro r H' m7 hm7 ⟨a7, c7, l7, r7, hc7, rfl, rfl⟩
    have k7 := leM_tr k6 l7
    simp only [go_sem, ↓imp_tf, ↓imp_ft, ↓reduceIte]
    have hF := fun a8 c8 m8 (hm8 : leM m7 m8) (hc8 : 1 ≤ c8) r8 => formatP_spec smpL a8 1 c8 m8 (hg.upM (leM_tr k7 hm8)) smp_ok (fun _ => smp_wr) (fun _ => smp_tk) (smp_rep hc7 (Rds_upM hm8 r7) hc8 r8)
    rw [ex3] at hF
    refine ⟨by kernel_rfl, fun a8 c8 m8 hm8 hc8 r8 => FnV_of ((hF a8 c8 m8 (.inr hm8) hc8 r8).mono ?_)⟩
    clear hF
    rintro r H' m9 hm9 ⟨l9, rfl, rfl⟩
    have k9 := leM_tr k7 (leM_tr (.inr hm8) l9)
    simp only [go_sem, ↓imp_tf, ↓imp_ft, ↓reduceIte]
    have hF := fun aa ca ma (hma : leM m9 ma) (hca : 1 ≤ ca) ra => check_spec badL aa 1 ca ma (hg.upM (leM_tr k9 hma)) bad_ok (bad_rep hca ra)
    rw [ex4] at hF
    refine ⟨by kernel_rfl, fun aa ca ma hma hca ra => FnV_of ((hF aa ca ma (.inr hma) hca ra).mono ?_)⟩
    clear hF
    rintro r H' mb hmb ⟨lb, rfl, rfl⟩
    have kb := leM_tr k9 (leM_tr (.inr hma) lb)
    have r1b : ∀ {mx : Mem}, leM mb mx → Rds mx a 1 8 (exC 6 0 [97] [] zTy (.slice none 0 0)) := fun h => Rds_upM (leM_tr (leM_tr (.inr hm2) (leM_tr l3 (leM_tr (.inr hm4) (leM_tr (.inr hm5) (leM_tr l6 (leM_tr l7 (leM_tr (.inr hm8) (leM_tr l9 (leM_tr (.inr hma) lb))))))))) h) r1
    simp only [go_sem, ↓imp_tf, ↓imp_ft, ↓reduceIte]
    refine ⟨⟨by kernel_rfl, fun ac cc mc hmc hcc rc => ?_⟩, fun h => by simp at h⟩
    have hF := depth_all _ sumE _ mc (Nat.le_refl _) (by decide +kernel) (sum_rep hc (r1b (.inr hmc)) hcc rc)
    rw [ex5] at hF
    refine FnV_of ((FnH_den hF (fun V => rfl)).mono ?_)
    clear hF
    rintro r H' md hmd ⟨ld, rfl, rfl⟩
    have kd := leM_tr (leM_tr kb (.inr hmc)) ld
    have r1d : ∀ {mx : Mem}, leM md mx → Rds mx a 1 8 (exC 6 0 [97] [] zTy (.slice none 0 0)) := fun h => r1b (leM_tr (leM_tr (.inr hmc) ld) h)
    simp only [go_sem, ↓imp_tf, ↓imp_ft, ↓reduceIte]
    refine ⟨fun _ => ⟨by kernel_rfl, fun ae ce me hme hce re => ?_⟩, fun h => absurd rfl h⟩
    have hF := valid_all _ sumE _ me (Nat.le_refl _) (hg.upM (leM_tr kd (.inr hme))) (sum_rep hc (r1d (.inr hme)) hce re)
    rw [ex6] at hF
    refine FnV_of ((FnH_den hF (fun V => rfl)).mono ?_)
    clear hF
    rintro r H' mf hmf ⟨lf, rfl, rfl⟩
    have kf := leM_tr (leM_tr kd (.inr hme)) lf
    clear r1b r1d
    simp only [go_sem, ↓imp_tf, ↓imp_ft, ↓reduceIte]
    have hF := validS_all _ blkS _ mf (Nat.le_refl _) (hg.upM kf) blk_rep
    rw [ex7] at hF
    refine ⟨by kernel_rfl, FnV_of ((FnH_den hF (fun V => rfl)).mono ?_)⟩
    clear hF
    rintro r H' mg hmg ⟨lg, rfl, rfl⟩
    have kg := leM_tr kf lg
    simp only [go_sem, ↓imp_tf, ↓imp_ft, ↓reduceIte]
    have hF := valid_all _ zE _ mg (Nat.le_refl _) (hg.upM kg) z_rep
    rw [ex8] at hF
    refine ⟨by kernel_rfl, FnV_of ((FnH_den hF (fun V => rfl)).mono ?_)⟩
    clear hF
    rintro r H' mh hmh ⟨lh, rfl, rfl⟩
    have kh := leM_tr kg lh
    clear r1 r2 r4 r5 r7
    simp only [go_sem, ↓imp_tf, ↓imp_ft, ↓reduceIte]
    refine ⟨by kernel_rfl, FnV_of ((sample_spec mh).mono ?_)⟩
    rintro r H' mi hmi ⟨ai, ci, li, ri, hci, rfl, rfl⟩
    simp only [go_sem, ↓imp_tf, ↓imp_ft, ↓reduceIte]
    refine ⟨by kernel_rfl, FnV_of ((sample_spec mi).mono ?_)⟩
    rintro r H' mj hmj ⟨aj, cj, lj, rj, hcj, rfl, rfl⟩
    have kj := leM_tr (leM_tr kh li) lj
    simp only [go_sem, ↓imp_tf, ↓imp_ft, ↓reduceIte]
    refine ⟨by kernel_rfl, fun p1 q1 n1 hn1 hq1 s1 p2 q2 n2 hn2 hq2 s2 => ?_⟩
    have hF := equal_spec smpL smpL p1 1 q1 p2 1 q2 n2 (smp_rep hci (Rds_upM (leM_tr lj (leM_tr (.inr hn1) (.inr hn2))) ri) hq1 (Rds_upM (.inr hn2) s1)) (smp_rep hcj (Rds_upM (leM_tr (.inr hn1) (.inr hn2)) rj) hq2 s2)
    rw [ex9] at hF
    refine FnV_of (hF.mono ?_)
    clear hF
    rintro r H' mk hmk ⟨lk, rfl, rfl⟩
    have kk := leM_tr kj (leM_tr (.inr hn1) (leM_tr (.inr hn2) lk))
    clear ri rj s1 s2
    simp only [go_sem, ↓imp_tf, ↓imp_ft, ↓reduceIte]
    refine ⟨by kernel_rfl, FnV_of ((sample_spec mk).mono ?_)⟩
    rintro r H' ml hml ⟨al, cl, ll, rl, hcl, rfl, rfl⟩
    have kl := leM_tr kk ll
    simp only [go_sem, ↓imp_tf, ↓imp_ft, ↓reduceIte]
    refine ⟨by kernel_rfl, fun p3 q3 n3 hn3 hq3 s3 => ?_⟩
    have hF := equal_spec smpL [] p3 1 q3 none 0 0 n3 (smp_rep hcl (Rds_upM (.inr hn3) rl) hq3 s3) nil_rep
    rw [ex10] at hF
    refine FnV_of (hF.mono ?_)
    clear hF
    rintro r H' mo hmo ⟨lo, rfl, rfl⟩
    simp only [go_sem, ↓imp_tf, ↓imp_ft, ↓reduceIte]
    exact leM_tr kl (leM_tr (.inr hn3) lo)
end Go.Proofs.YtalalcpefggniaaGreatDoor.E

namespace Go.Proofs.YtalalcpefggniaaGreatDoor.E
open Go

theorem joinL_len (ts : List Tk) : (joinL ts).1.length ≤ 20000 := by
  unfold joinL
  split
  · simp
  · split
    · simp
    · split
      · simp
      · simp only; omega
theorem fmt_len (e : Ex) : (fmtE e).1.length ≤ 20000 := by
  unfold fmtE
  split
  · split
    · simp
    · exact joinL_len _
  · simp
end Go.Proofs.YtalalcpefggniaaGreatDoor.E

namespace Go.Proofs.YtalalcpefggniaaGreatDoor.E
open Go Go.ChangeShapes Go.WideShapes Go.ChangeAt Go.RowKit

/-- The cells that are known when a call begins: all of them. -/
def DoW (W : World) (b : Nat) : Nat := match W.heap[b]? with | some (.cells c _ _) => c.size + 1 | _ => 0
theorem DoW_wf (W : World) : Wf W (DoW W) := fun b hb => by
  have : W.heap[b]? = none := Array.getElem?_eq_none hb
  simp [DoW, this]
theorem DoW_at {W : World} {b : Nat} {c : Array Value} {t : TypeId} {f : Nat × Nat} (h : W.heap[b]? = some (.cells c t f)) : DoW W b = c.size + 1 := by
  simp [DoW, h]
theorem DoW_same {W w : World} {D : Nat → Nat} {b : Nat} {c : Array Value} {t : TypeId} {f : Nat × Nat} (hle : Mem.le ⟨W, DoW W⟩ ⟨w, D⟩) (h : W.heap[b]? = some (.cells c t f)) : ∃ t' f', w.heap[b]? = some (.cells c t' f') := by
  obtain ⟨_, hk⟩ := hle b
  have hd : DoW W b = c.size + 1 := DoW_at h
  obtain ⟨_, hk⟩ := hk (by show 0 < DoW W b; omega)
  obtain ⟨c', t', f', ho, hj⟩ := keep_cell hk h
  simp only [hd] at ho hj
  have e : c' = c := by
    apply Array.ext_getElem?
    intro i
    rcases Nat.lt_or_ge i (c.size + 1) with hi | hi
    · exact hj i hi
    · have h1 := hj c.size (by omega)
      rw [Array.getElem?_eq_none (Nat.le_refl c.size)] at h1
      have h2 : c'.size ≤ c.size := by
        rcases Nat.lt_or_ge c.size c'.size with h | h
        · rw [Array.getElem?_eq_getElem h] at h1; cases h1
        · exact h
      rw [Array.getElem?_eq_none (by omega), Array.getElem?_eq_none (by omega)]
  subst e
  exact ⟨t', f', ho⟩
theorem DoW_cell {W w : World} {D : Nat → Nat} {g i : Nat} {v : Value} (hle : Mem.le ⟨W, DoW W⟩ ⟨w, D⟩) (h : W.cell? ⟨g, i, none⟩ = some v) : w.cell? ⟨g, i, none⟩ = some v := by
  unfold World.cell? at h ⊢
  split at h
  · rename_i c t f hc
    obtain ⟨t', f', ho⟩ := DoW_same hle hc
    dsimp only at ho
    rw [ho]
    simpa using h
  · cases h
theorem DoW_var {W w : World} {D : Nat → Nat} {P : Program} {n : String} {c : Array Value} (hle : Mem.le ⟨W, DoW W⟩ ⟨w, D⟩) (h : W.var? P n = some c) : w.var? P n = some c := by
  unfold World.var? at h ⊢
  obtain ⟨g, hg, h⟩ := Option.bind_eq_some_iff.1 h
  rw [hg]
  split at h
  · rename_i c' t f hc
    obtain ⟨t', f', ho⟩ := DoW_same hle hc
    cases h
    simp [ho]
  · cases h

theorem witness_row {H : Type} {enc : TypeId × Value → H} {C : Checked} {os : Os} {f : FuncId} {fn : Func} {s : OpenSpec} {conds : List PathCond} {apart : Bool} {laid : List (String × DataW Unit)} (modest : Bool) (w0 : World) (args : Array Value) (hos : w0.os = os)
    (hsh : (w0.forCall (fun _ _ => 0) ⟨#[], args, []⟩).Shaped C.prog)
    (hok : Input.okWideB C.prog (w0.forCall (fun _ _ => 0) ⟨#[], args, []⟩) f ⟨#[], args, []⟩ = true)
    (hrow : s.preRow enc C.prog fn conds apart laid (w0.forCall (fun _ _ => 0) ⟨#[], args, []⟩).memory args) :
    ∃ (w : World) (tape : Tape) (i : Input), w.os = os ∧ (w.forCall tape i).Shaped C.prog ∧ i.vars = [] ∧ Input.okWide C.prog (w.forCall tape i) .any w.heap.size f i ∧
      s.preRow enc C.prog fn conds apart laid (w.forCall tape i).memory i.args ∧ ({ modest := modest } : Assume).holds C.prog (lone (Frame.enter C.prog f i.args .normal) [] (w.forCall tape i)) :=
  ⟨w0, fun _ _ => 0, ⟨#[], args, []⟩, hos, hsh, (Input.okWide_of_okWideB (base := 0) hok).1, (Input.okWide_of_okWideB hok).2, hrow, by
    simp only [Assume.holds]
    exact ⟨by simp, by simp, fun _ => Modest.zero, by simp, by simp⟩⟩

theorem cell_spot {W : World} {a : Addr} {v : Value} (h : W.cell? a = some v) : a.spot = none ∧ a.off < DoW W a.block := by
  unfold World.cell? at h
  split at h
  · rename_i c t f hc
    cases hs : a.spot with
    | some x => rw [hs] at h; simp at h
    | none =>
      rw [hs] at h
      simp only [Option.isSome_none, Bool.false_eq_true, if_false] at h
      refine ⟨rfl, ?_⟩
      rw [DoW_at hc]
      have := (Array.getElem?_eq_some_iff.1 h).1
      omega
  · cases h
theorem bulk_mem {H : Type} {d : DataW H} : ∀ {l : List (DataW H)}, d ∈ l → Rows.uptoBulk d ≤ Rows.uptoBulkAll l
  | [], h => by cases h
  | x :: l, h => by
    simp only [Rows.uptoBulkAll]
    rcases List.mem_cons.1 h with rfl | h
    · omega
    · have := bulk_mem h; omega
theorem bulk_one {H : Type} (d : DataW H) : 1 ≤ Rows.uptoBulk d := by
  cases d with
  | lit l => cases l <;> simp [Rows.uptoBulk]
  | _ => simp [Rows.uptoBulk]
theorem bulk_len {H : Type} : ∀ (l : List (DataW H)), l.length ≤ Rows.uptoBulkAll l
  | [] => Nat.zero_le _
  | d :: l => by
    have h1 := bulk_one d
    have h2 := bulk_len l
    simp only [Rows.uptoBulkAll, List.length_cons]
    omega
/-- A contract, called from outside, with a struct handed in. -/
theorem calls_sv {P : Program} {f : FuncId} {args : List SV} {vals : List Value} {W : World} {x : Value} (hden : ∀ V, args.map (den V) = vals) (h : FnH P f args ⟨[], []⟩ ⟨W, DoW W⟩ fun r H' m' => leM ⟨W, DoW W⟩ m' ∧ H' = ⟨[], []⟩ ∧ r = .v x) :
    Calls P f ⟨vals⟩ W fun e W' => e = .returned x ∧ Below W.heap.size W W' := by
  have := h ⟨fun _ => 0, fun _ _ => ⟨none, 0, 0⟩⟩ W (DoW W) (DoW_wf W) (Mem.le_refl ⟨W, DoW W⟩ (DoW_wf W)) ⟨fun b hb => (by cases hb), fun b hb => (by cases hb), by simp [blks], by simp⟩
  rw [hden] at this
  refine this.mono ?_
  rintro e w' ⟨r, V', D', H', m', rfl, _, _, _, _, hf, _, _, _, _, _, rfl, rfl⟩
  exact ⟨rfl, hf.os, hf.tape, hf.output, hf.size, fun b hb => (hf.same b hb (by simp [blks])).1⟩
theorem own : ownKnob Tryz.prog.godebug = none := by kernel_rfl
/-- What every row of this seat lists. -/
def laidZ : List (String × DataW Unit) := Rows.astDeeperRow.laid
theorem g1 (W : World) (h : W.ShapedOpen Tryz.prog) : ∃ k, W.cell? ⟨1, 0, none⟩ = some (.int .i64 k) :=
  cell_of_shapedOpen_int (P := Tryz.prog) (g := 1) (t := 3) (zero := #[.int .i64 0]) h (of_decide_eq_true (by kernel_rfl)) (by kernel_rfl) rfl (by kernel_rfl) (by kernel_rfl) (by kernel_rfl)
theorem ops_of {W : World} {rest : List (String × DataW Unit)} (h : laidMet Tryz.prog (("armature/ast.operators", Rows.laid_armature_ast_operators) :: rest) W) :
    ∃ ad c, Rd ⟨W, DoW W⟩ (.pointer (some ⟨0, 0, none⟩)) [.slice (some ad) 19 c] ∧ 19 ≤ c ∧ Rds ⟨W, DoW W⟩ (some ad) 19 1 (strs opsL) := by
  obtain ⟨ps, ⟨g', t', cs, fuel, p, q, hg', ht', hvar, hd, _, _⟩, _⟩ := h
  obtain rfl := Option.some.inj ((show Tryz.prog.globalNamed "armature/ast.operators" = some 0 by kernel_rfl).symm.trans hg')
  obtain rfl := Option.some.inj ((show (Tryz.prog.globals[0]?).map (·.type) = some 51 by kernel_rfl).symm.trans ht')
  have hl : (Rows.laid_armature_ast_operators : DataW Unit) = .slice (opsL.map fun l => .lit (.string l)) [] := rfl
  rw [hl] at hd
  obtain ⟨a, cap, hcs, hcap, hel⟩ := open_row (P := Tryz.prog) (e := 9) (by kernel_rfl) (by kernel_rfl) hd
  have hlen : (opsL.map fun l => (DataW.lit (.string l) : DataW Unit)).length = 19 := rfl
  rw [hlen] at hcs hcap
  have hcell : W.cell? ⟨0, 0, none⟩ = some (.slice (some a) 19 cap) := by
    have := World.var?_cell hg' hvar 0
    rw [Array.eq_one_of_toList hcs] at this
    simpa using this
  have hat : ∀ i (hi : i < 19), W.cell? (a.add i) = some (.string (bs (opsL[i]'hi))) := fun i hi => by
    obtain ⟨v, n, q', hc, hr⟩ := hel i (.lit (.string (opsL[i]'hi))) (by rw [List.getElem?_map, List.getElem?_eq_getElem (by exact hi)]; rfl)
    obtain ⟨s, e1, e2, _⟩ := DataW.trod_string (show Tryz.prog.underlying 9 = some .string by kernel_rfl) hr
    have e3 : v = .string s := by simpa using e1
    have e4 : s.data.toList = opsL[i]'hi := by simpa using (congrArg Prod.fst e2).symm
    rw [hc, e3, ← e4]
    rfl
  have hspot : a.spot = none := by
    have := (cell_spot (hat 0 (by decide))).1
    simpa [Addr.add] using this
  refine ⟨a, cap, ⟨⟨0, 0, none⟩, rfl, rfl, fun j hj => ?_⟩, hcap, rfl, fun _ => ⟨a, rfl, hspot, fun j hj => ?_⟩⟩
  · have : j = 0 := by simpa using hj
    subst this
    exact ⟨hcell, (cell_spot hcell).2⟩
  · have hj : j < 19 := by omega
    have h1 := hat j hj
    obtain ⟨p1, p2, _⟩ := add_parts a j hspot
    have h2 := (cell_spot h1).2
    rw [p1, p2] at h2
    refine ⟨?_, h2⟩
    rw [strs, List.getElem?_map, List.getElem?_eq_getElem (by exact hj)]
    exact h1
theorem glob_of {W : World} (hL : laidMetH Tryz.prog laidZ W) (hs : W.ShapedOpen Tryz.prog) : Glob ⟨W, DoW W⟩ := by
  rw [MakeChecks.laidMetH_plain _ _ _ (by kernel_rfl)] at hL
  have h3 := hL.tail.tail
  have ht := Lib.tabIs_of_head (P := Tryz.prog) (zs := Lib.pow10Tab) (g := 4) (t := 193) (e := 182) (n := 20) (by kernel_rfl) (by kernel_rfl) (by kernel_rfl) (by kernel_rfl) (by kernel_rfl) (by kernel_rfl) h3
  obtain ⟨k, hk⟩ := g1 W hs
  exact ⟨fun w D hle => ⟨⟨k, DoW_cell hle hk⟩, DoW_var hle ht⟩, ops_of h3.tail.tail⟩
end Go.Proofs.YtalalcpefggniaaGreatDoor.E

namespace Go.Proofs.YtalalcpefggniaaGreatDoor.E
open Go Go.ChangeShapes Go.WideShapes Go.ChangeAt Go.RowKit

theorem list_ofA {α : Type} {p : Nat → α → Prop} : ∀ (n : Nat), (∀ i, i < n → ∃ t, p i t) → ∃ ts : List α, ts.length = n ∧ ∀ i (hi : i < ts.length), p i ts[i]
  | 0, _ => ⟨[], rfl, fun i hi => absurd hi (Nat.not_lt_zero _)⟩
  | n + 1, h => by
    obtain ⟨ts, h1, h2⟩ := list_ofA n fun i hi => h i (by omega)
    obtain ⟨t, ht⟩ := h n (Nat.lt_succ_self _)
    refine ⟨ts ++ [t], by simp [h1], fun i hi => ?_⟩
    rcases Nat.lt_or_ge i ts.length with h3 | h3
    · rw [List.getElem_append_left h3]; exact h2 i h3
    · have : i = n := by rw [List.length_append, List.length_singleton] at hi; omega
      subst this
      rw [List.getElem_append_right h3]
      simpa using ht
/-- Rows of cells, read one by one. -/
theorem rows_of {α : Type} {W : World} {a : Addr} {len sz : Nat} (hsz : 0 < sz) {p : Nat → α → List Value → Prop} (h : ∀ i, i < len → ∃ (x : α) (cs : List Value), cs.length = sz ∧ (∀ j, j < sz → W.cell? (a.add (i * sz + j)) = cs[j]?) ∧ p i x cs) :
    ∃ (l : List α) (xs : List Value), l.length = len ∧ Rds ⟨W, DoW W⟩ (some a) len sz xs ∧ ∀ i (hi : i < l.length), p i l[i] ((xs.drop (i * sz)).take sz) := by
  obtain ⟨ts, hl, hp⟩ := list_ofA (α := α × { cs : List Value // cs.length = sz }) (p := fun i x => (∀ j, j < sz → W.cell? (a.add (i * sz + j)) = x.2.1[j]?) ∧ p i x.1 x.2.1) len fun i hi => by
    obtain ⟨x, cs, h1, h2, h3⟩ := h i hi
    exact ⟨⟨x, cs, h1⟩, h2, h3⟩
  have hfa : ∀ {i : Nat} (hi : i < ts.length), ((flat (fun x => x.2.1) ts).drop (i * sz)).take sz = ts[i].2.1 := fun hi => flat_at (fun x => x.2.2) hi
  have hfl : ∀ (l : List (α × { cs : List Value // cs.length = sz })), (flat (fun x => x.2.1) l).length = l.length * sz := fun l => by
    induction l with
    | nil => simp [flat]
    | cons x r ih =>
      simp only [flat, List.map_cons, List.flatten_cons, List.length_append, List.length_cons, Nat.succ_mul] at ih ⊢
      rw [ih, x.2.2]; omega
  refine ⟨ts.map (·.1), flat (fun x => x.2.1) ts, by simp [hl], ⟨by rw [hfl, hl], fun h0 => ⟨a, rfl, ?_, fun j hj => ?_⟩⟩, fun i hi => ?_⟩
  · have h1 := (hp 0 (by omega)).1 0 hsz
    have h2 : (ts[0]'(by omega)).2.1[0]? = some ((ts[0]'(by omega)).2.1[0]'(by rw [(ts[0]'(by omega)).2.2]; exact hsz)) := List.getElem?_eq_getElem _
    rw [h2] at h1
    have := (cell_spot h1).1
    simpa [Addr.add] using this
  · have hq : j / sz < ts.length := by rw [hl]; exact Nat.div_lt_of_lt_mul (by rw [Nat.mul_comm]; exact hj)
    have hr : j % sz < sz := Nat.mod_lt _ hsz
    have hj' : j / sz * sz + j % sz = j := Nat.div_add_mod' j sz
    have h1 := (hp (j / sz) hq).1 (j % sz) hr
    rw [hj'] at h1
    have h2 : (flat (fun x => x.2.1) ts)[j]? = (ts[j / sz]'hq).2.1[j % sz]? := by
      rw [← hfa hq, List.getElem?_take, if_pos hr, List.getElem?_drop, hj']
    have h3 : (ts[j / sz]'hq).2.1[j % sz]? = some ((ts[j / sz]'hq).2.1[j % sz]'(by rw [(ts[j / sz]'hq).2.2]; exact hr)) := List.getElem?_eq_getElem _
    refine ⟨by rw [h2]; exact h1, ?_⟩
    rw [h3] at h1
    have h4 := cell_spot h1
    have h0' := (hp 0 (by omega)).1 0 hsz
    have h5 : (ts[0]'(by omega)).2.1[0]? = some ((ts[0]'(by omega)).2.1[0]'(by rw [(ts[0]'(by omega)).2.2]; exact hsz)) := List.getElem?_eq_getElem _
    rw [h5] at h0'
    have hs : a.spot = none := by
      have := (cell_spot h0').1
      simpa [Addr.add] using this
    obtain ⟨p1, p2, _⟩ := add_parts a j hs
    rw [p1, p2] at h4
    exact h4.2
  · have hi' : i < ts.length := by simpa using hi
    rw [hfa hi']
    simpa using (hp i hi').2
theorem exs_of_at {m : Mem} : ∀ (l : List Ex) (xs : List Value), (∀ i (hi : i < l.length), exRep m l[i] ((xs.drop (i * 8)).take 8)) → exsRep m l xs
  | [], _, _ => by simp only [exsRep]
  | e :: r, xs, h => by
    simp only [exsRep]
    have h0 := h 0 (by simp)
    rw [Nat.zero_mul, List.drop_zero, List.getElem_cons_zero] at h0
    refine ⟨h0, exs_of_at r (xs.drop 8) fun i hi => ?_⟩
    have := h (i + 1) (by simpa using hi)
    rw [List.getElem_cons_succ] at this
    rw [List.drop_drop, show 8 + i * 8 = (i + 1) * 8 by omega]
    exact this
theorem size_bulk {H : Type} : ∀ (l : List Ex) (ds : List (DataW H)), l.length = ds.length → (∀ i (h : i < l.length) (h' : i < ds.length), sizeE l[i] ≤ Rows.uptoBulk ds[i]) → sizeL l ≤ Rows.uptoBulkAll ds
  | [], _, _, _ => by simp [sizeL]
  | e :: r, [], h, _ => by simp at h
  | e :: r, d :: ds, h, hp => by
    have h1 := hp 0 (by simp) (by simp)
    have h2 := size_bulk r ds (by simpa using h) fun i h3 h4 => by
      have := hp (i + 1) (by simpa using h3) (by simpa using h4)
      simp only [List.getElem_cons_succ] at this
      exact this
    simp only [sizeL, Rows.uptoBulkAll]
    simp only [List.getElem_cons_zero] at h1
    omega
mutual
theorem depth_size : ∀ (e : Ex), depthE e ≤ sizeE e
  | .mk _ _ _ _ _ args => by
    have := depthL_size args
    simp only [depthE, sizeE]; omega
theorem depthL_size : ∀ (l : List Ex), depthL l ≤ sizeL l
  | [] => by simp [depthL]
  | e :: r => by
    have h1 := depth_size e
    have h2 := depthL_size r
    simp only [depthL, sizeL]; omega
end
theorem len_sizeL : ∀ (l : List Ex), l.length ≤ sizeL l
  | [] => Nat.zero_le _
  | .mk _ _ _ _ _ args :: r => by
    have := len_sizeL r
    simp only [List.length_cons, sizeL, sizeE]; omega
section
variable {H : Type} {enc : TypeId × Value → H} {W : World}
theorem i64_of {z : Int} (w : (Lit.int .i64 z).wf = true) : I64 z := by
  have h : decide (IntKind.min .i64 ≤ z) = true ∧ decide (z ≤ IntKind.max .i64) = true := Bool.and_eq_true_iff.1 w
  exact ⟨of_decide_eq_true h.1, of_decide_eq_true h.2⟩
set_option maxRecDepth 100000 in
theorem open_ty {fuel : Nat} {cs : List Value} {d : DataW H} {p : List MemPlace} (h : DataW.trod enc Tryz.prog W 0 (fun _ => true) true fuel 29 cs = some (d, p)) : ∃ t : Ty, cs = tyC t ∧ I64 t.dim ∧ (0 ≤ t.base ∧ t.base < 256) ∧ t.name.length ≤ Rows.uptoBulk d := by
  obtain ⟨ys, n', _, hy, hlen, hyl, hf⟩ := DataW.trod_struct Tryz.underlying29 h
  have hC : Tryz.prog.cellsOf 29 = 3 := by kernel_rfl
  have k3 : Tryz.prog.cellsOf 3 = 1 := by kernel_rfl
  have k5 : Tryz.prog.cellsOf 5 = 1 := by kernel_rfl
  have k9 : Tryz.prog.cellsOf 9 = 1 := by kernel_rfl
  rw [hC] at hlen
  match cs, hlen with
  | [c0, c1, c2], _ =>
    match ys, hyl with
    | [y0, y1, y2], _ =>
      have f0 : DataW.trod enc Tryz.prog W 0 (fun _ => true) true n' 3 [c0] = some y0 := by have this : DataW.trod enc Tryz.prog W 0 (fun _ => true) true n' 3 (([c0, c1, c2].drop 0).take (Tryz.prog.cellsOf 3)) = some y0 := hf 0 _ rfl; rw [k3] at this; exact this
      have f1 : DataW.trod enc Tryz.prog W 0 (fun _ => true) true n' 5 [c1] = some y1 := by have this : DataW.trod enc Tryz.prog W 0 (fun _ => true) true n' 5 (([c0, c1, c2].drop 1).take (Tryz.prog.cellsOf 5)) = some y1 := hf 1 _ rfl; rw [k5] at this; exact this
      have f2 : DataW.trod enc Tryz.prog W 0 (fun _ => true) true n' 9 [c2] = some y2 := by have this : DataW.trod enc Tryz.prog W 0 (fun _ => true) true n' 9 (([c0, c1, c2].drop 2).take (Tryz.prog.cellsOf 9)) = some y2 := hf 2 _ rfl; rw [k9] at this; exact this
      obtain ⟨z0, e0, _, w0⟩ := DataW.trod_int Tryz.underlying3 f0
      obtain ⟨z1, e1, _, w1⟩ := DataW.trod_int Tryz.underlying5 f1
      obtain ⟨s, e2, x2, _⟩ := DataW.trod_string Tryz.underlying9 f2
      cases e0; cases e1; cases e2
      refine ⟨⟨z0, z1, tl s⟩, by simp only [tyC, bs_tl], i64_of w0, ?_, ?_⟩
      · have h : decide (IntKind.min .u8 ≤ z1) = true ∧ decide (z1 ≤ IntKind.max .u8) = true := Bool.and_eq_true_iff.1 w1
        have h1 : IntKind.min .u8 ≤ z1 := of_decide_eq_true h.1
        have h2 : z1 ≤ IntKind.max .u8 := of_decide_eq_true h.2
        have h3 : IntKind.min .u8 = 0 := by decide
        have h4 : IntKind.max .u8 = 255 := by decide
        simp only
        omega
      · have hD : d = .agg [y0.1, y1.1, y2.1] := (Prod.mk.inj hy).1
        have h2 : Rows.uptoBulk d = Rows.uptoBulk y0.1 + (Rows.uptoBulk y1.1 + (Rows.uptoBulk y2.1 + 0)) + 1 := by rw [hD]; rfl
        have h3 : Rows.uptoBulk y2.1 = s.data.toList.length + 1 := by rw [x2]; rfl
        show (tl s).length ≤ _
        have e : (tl s).length = s.data.toList.length := rfl
        omega
set_option maxHeartbeats 1000000 in
set_option maxRecDepth 100000 in
/-- An expression's cells that came in. -/
theorem open_ex : ∀ (B : Nat) (fuel : Nat) (cs : List Value) (d : DataW H) (p : List MemPlace), DataW.trod enc Tryz.prog W 0 (fun _ => true) true fuel 32 cs = some (d, p) → Rows.uptoBulk d ≤ B → B ≤ 1048576 → ∃ e : Ex, exRep ⟨W, DoW W⟩ e cs ∧ sizeE e ≤ Rows.uptoBulk d := by
  intro B
  induction B with
  | zero => intro fuel cs d p _ hB _; have := bulk_one d; omega
  | succ B ih =>
    intro fuel cs d p h hB hb
    obtain ⟨ys, n', _, hy, hlen, hyl, hf⟩ := DataW.trod_struct Tryz.underlying32 h
    have hC : Tryz.prog.cellsOf 32 = 8 := by kernel_rfl
    have kT : Tryz.prog.cellsOf 29 = 3 := by kernel_rfl
    have kL : Tryz.prog.cellsOf 30 = 1 := by kernel_rfl
    have k3 : Tryz.prog.cellsOf 3 = 1 := by kernel_rfl
    have k9 : Tryz.prog.cellsOf 9 = 1 := by kernel_rfl
    rw [hC] at hlen
    match cs, hlen with
    | [c0, c1, c2, c3, c4, c5, c6, c7], _ =>
      match ys, hyl with
      | [y0, y1, y2, y3, y4, y5], _ =>
        have f0 : DataW.trod enc Tryz.prog W 0 (fun _ => true) true n' 3 [c0] = some y0 := by have this : DataW.trod enc Tryz.prog W 0 (fun _ => true) true n' 3 (([c0, c1, c2, c3, c4, c5, c6, c7].drop 0).take (Tryz.prog.cellsOf 3)) = some y0 := hf 0 _ rfl; rw [k3] at this; exact this
        have f1 : DataW.trod enc Tryz.prog W 0 (fun _ => true) true n' 3 [c1] = some y1 := by have this : DataW.trod enc Tryz.prog W 0 (fun _ => true) true n' 3 (([c0, c1, c2, c3, c4, c5, c6, c7].drop 1).take (Tryz.prog.cellsOf 3)) = some y1 := hf 1 _ rfl; rw [k3] at this; exact this
        have f2 : DataW.trod enc Tryz.prog W 0 (fun _ => true) true n' 9 [c2] = some y2 := by have this : DataW.trod enc Tryz.prog W 0 (fun _ => true) true n' 9 (([c0, c1, c2, c3, c4, c5, c6, c7].drop 2).take (Tryz.prog.cellsOf 9)) = some y2 := hf 2 _ rfl; rw [k9] at this; exact this
        have f3 : DataW.trod enc Tryz.prog W 0 (fun _ => true) true n' 9 [c3] = some y3 := by have this : DataW.trod enc Tryz.prog W 0 (fun _ => true) true n' 9 (([c0, c1, c2, c3, c4, c5, c6, c7].drop 3).take (Tryz.prog.cellsOf 9)) = some y3 := hf 3 _ rfl; rw [k9] at this; exact this
        have f4 : DataW.trod enc Tryz.prog W 0 (fun _ => true) true n' 29 [c4, c5, c6] = some y4 := by have this : DataW.trod enc Tryz.prog W 0 (fun _ => true) true n' 29 (([c0, c1, c2, c3, c4, c5, c6, c7].drop 4).take (Tryz.prog.cellsOf 29)) = some y4 := hf 4 _ rfl; rw [kT] at this; exact this
        have f5 : DataW.trod enc Tryz.prog W 0 (fun _ => true) true n' 30 [c7] = some y5 := by have this : DataW.trod enc Tryz.prog W 0 (fun _ => true) true n' 30 (([c0, c1, c2, c3, c4, c5, c6, c7].drop 7).take (Tryz.prog.cellsOf 30)) = some y5 := hf 5 _ rfl; rw [kL] at this; exact this
        obtain ⟨z0, e0, _, w0⟩ := DataW.trod_int Tryz.underlying3 f0
        obtain ⟨z1, e1, _, w1⟩ := DataW.trod_int Tryz.underlying3 f1
        obtain ⟨s2, e2, x2, _⟩ := DataW.trod_string Tryz.underlying9 f2
        obtain ⟨s3, e3, x3, _⟩ := DataW.trod_string Tryz.underlying9 f3
        obtain ⟨ty, e4, t1, t2, t3⟩ := open_ty (d := y4.1) (p := y4.2) f4
        have hD : d = .agg [y0.1, y1.1, y2.1, y3.1, y4.1, y5.1] := (Prod.mk.inj hy).1
        have hbd : Rows.uptoBulk d = Rows.uptoBulk y0.1 + (Rows.uptoBulk y1.1 + (Rows.uptoBulk y2.1 + (Rows.uptoBulk y3.1 + (Rows.uptoBulk y4.1 + (Rows.uptoBulk y5.1 + 0))))) + 1 := by rw [hD]; rfl
        have b2 : Rows.uptoBulk y2.1 = s2.data.toList.length + 1 := by rw [x2]; rfl
        have b3 : Rows.uptoBulk y3.1 = s3.data.toList.length + 1 := by rw [x3]; rfl
        have l2 : (tl s2).length = s2.data.toList.length := rfl
        have l3 : (tl s3).length = s3.data.toList.length := rfl
        simp only [tyC, List.cons.injEq, and_true] at e4
        obtain ⟨rfl, rfl, rfl⟩ := e4
        cases e0; cases e1; cases e2; cases e3
        have hok : ∀ l : Nat, l ≤ big → ExOk z0 z1 (tl s2) (tl s3) ty l := fun l hl => ⟨i64_of w0, i64_of w1, by simp only [big]; omega, by simp only [big]; omega, ⟨t1, t2, by simp only [big]; omega⟩, hl⟩
        have hcs : ∀ c7, [Value.int .i64 z0, .int .i64 z1, .string s2, .string s3, .int .i64 ty.dim, .int .u8 ty.base, .string (bs ty.name), c7] = exC z0 z1 (tl s2) (tl s3) ty c7 := fun c7 => by simp only [exC, bs_tl]
        rcases Deep.open_slice Tryz.underlying30 f5 with ⟨hc, hx⟩ | ⟨a, len, cap, m, n, D, Pl, hcs7, _, hl, hm, hmm, hx, hi⟩
        · have hc7 : c7 = .slice none 0 0 := by simpa using hc
          subst hc7
          refine ⟨.mk z0 z1 (tl s2) (tl s3) ty [], ?_, by simp only [sizeE, sizeL]; omega⟩
          rw [hcs]
          exact ex_mk (args := []) (Nat.le_refl _) Rds_nil (hok _ (Nat.zero_le _)) exs_nil
        · have hc7 : c7 = .slice (some a) len cap := by simpa using hcs7
          have hm2 : m = cap := by simpa using hmm
          subst hc7
          have hd5 : y5.1 = .slice (List.map D (List.range len)) (List.map (fun j => D (len + j)) (List.range (m - len))) := (Prod.mk.inj hx).1
          have hb5 : Rows.uptoBulk y5.1 = Rows.uptoBulkAll (List.map D (List.range len)) + Rows.uptoBulkAll (List.map (fun j => D (len + j)) (List.range (m - len))) + 1 := by rw [hd5]; rfl
          obtain ⟨l, xs, hll, hr, hp⟩ := rows_of (W := W) (a := a) (len := len) (sz := 8) (by decide) (p := fun i (x : Ex) cs => exRep ⟨W, DoW W⟩ x cs ∧ sizeE x ≤ Rows.uptoBulk (D i)) fun i hil => by
            obtain ⟨cs', hc, ht'⟩ := hi i (by omega)
            rw [hC] at hc
            obtain ⟨_, hcl, hat⟩ := World.cells?_some hc
            have hmem : D i ∈ List.map D (List.range len) := List.mem_map.2 ⟨i, List.mem_range.2 hil, rfl⟩
            have hbi := bulk_mem hmem
            obtain ⟨e, he, hs⟩ := ih n cs' (D i) (Pl i) ht' (by omega) (by omega)
            exact ⟨e, cs', hcl, fun j hj => by rw [← Deep.add_add]; exact hat j hj, he, hs⟩
          have hsz := size_bulk l (List.map D (List.range len)) (by simp [hll]) fun i h1 h2 => by simpa using (hp i h1).2
          have hln := len_sizeL l
          subst hll
          refine ⟨.mk z0 z1 (tl s2) (tl s3) ty l, ?_, by simp only [sizeE]; omega⟩
          rw [hcs]
          exact ex_mk hl hr (hok _ (by simp only [big]; omega)) (exs_of_at l xs fun i hi => (hp i hi).1)
set_option maxRecDepth 100000 in
/-- An expression that came in. -/
theorem open_expr {v : Value} {d : DataW H} {p : List MemPlace} {r : Reach} {b0 : Nat} (hval : Value.okWide Tryz.prog W r b0 32 v) (h : DataW.Trod enc Tryz.prog W 0 (fun _ => true) true 32 v d p) (hb : Rows.uptoBulk d ≤ 1048576) :
    ∃ (e : Ex) (cs : List Value), v = .agg ⟨cs⟩ ∧ exRep ⟨W, DoW W⟩ e cs ∧ sizeE e ≤ 1048576 := by
  obtain ⟨⟨cs'⟩, rfl, hsz⟩ := okWide_struct Tryz.underlying32 hval
  obtain ⟨fuel, h⟩ := h
  obtain ⟨e, h1, h2⟩ := open_ex (Rows.uptoBulk d) fuel cs' d p h (Nat.le_refl _) hb
  exact ⟨e, cs', rfl, h1, Nat.le_trans h2 hb⟩
end
end Go.Proofs.YtalalcpefggniaaGreatDoor.E

namespace Go.Proofs.YtalalcpefggniaaGreatDoor.E
open Go

theorem add_addA (ad : Addr) (i j : Nat) (h : ad.spot = none) : (ad.add i).add j = ad.add (i + j) := by
  obtain ⟨e1, e2, e3⟩ := add_parts ad i h
  obtain ⟨f1, f2, f3⟩ := add_parts (ad.add i) j e3
  obtain ⟨g1, g2, g3⟩ := add_parts ad (i + j) h
  rcases hx : (ad.add i).add j with ⟨b, o, s⟩
  rcases hy : ad.add (i + j) with ⟨b', o', s'⟩
  rw [hx] at f1 f2 f3
  rw [hy] at g1 g2 g3
  simp only at f1 f2 f3 g1 g2 g3
  subst f3 g3
  have h1 : b = b' := by omega
  have h2 : o = o' := by omega
  rw [h1, h2]
theorem Rd_ptr {m : Mem} {x : Value} {cs : List Value} (h : Rd m x cs) : isPtr x := by
  obtain ⟨ad, e, _⟩ := h
  exact ⟨ad, e⟩
/-- A part of cells that are read. -/
theorem Rd_sub {m : Mem} {x : Value} {cs : List Value} (h : Rd m x cs) (o n : Nat) (hn : o + n ≤ cs.length) : Rd m (ptrAdd x o) ((cs.drop o).take n) := by
  obtain ⟨ad, rfl, hs, hc⟩ := h
  obtain ⟨e1, e2, e3⟩ := add_parts ad o hs
  refine ⟨ad.add o, rfl, e3, fun j hj => ?_⟩
  have hl : ((cs.drop o).take n).length = n := by rw [List.length_take, List.length_drop]; omega
  rw [hl] at hj
  obtain ⟨h1, h2⟩ := hc (o + j) (by omega)
  refine ⟨by rw [add_addA ad o j hs, h1, List.getElem?_take, if_pos hj, List.getElem?_drop], by rw [e1, e2]; omega⟩
theorem same_all : ∀ (h : Nat) (a b : Ex) (ca cb : List Value) (m : Mem), depthE a ≤ h → exRep m a ca → exRep m b cb → Ans 30 [.v (.agg ⟨ca⟩), .v (.agg ⟨cb⟩)] m (.bool (eqE a b))
  | 0, .mk k n s c ty args, b, ca, cb, m, hd, _, _ => by simp [depthE] at hd
  | h + 1, .mk k n s c ty args, .mk k' n' s' c' ty' args', ca, cb, m, hd, ha, hb => by
    obtain ⟨x, rfl, rfl, rfl, rfl, rfl, rfl, hl, hcp, hn, xs, hr, hes⟩ := ex_parts ha
    obtain ⟨x', rfl, rfl, rfl, rfl, rfl, rfl, hl', hcp', hn', xs', hr', hes'⟩ := ex_parts hb
    simp only [depthE] at hd
    have hE := fun m' (hle : leM m m') => eqX_fact (exsRep_upM hle hes) (exsRep_upM hle hes') (f := 30) fun y hy z hz cy cz m'' hle2 r1 r2 => same_all h y z cy cz m'' (by have := depthL_mem hy; omega) r1 r2
    refine enter cfN puN Tryz.func30 rfl rfl (by kernel_rfl) rfl ?_ ?_
    · simp only [go_sem, ↓imp_tf, ↓imp_ft, ↓reduceIte, Nd.cs]
    · simp only [go_sem, ↓imp_tf, ↓imp_ft, ↓reduceIte, Nd.cs, eqOkT]
      have hX : eqE (Ex.mk x.k x.n x.s x.c x.ty args) (Ex.mk x'.k x'.n x'.s x'.c x'.ty args') = (decide (x.k = x'.k) && decide (x.n = x'.n) && decide (x.s = x'.s) && decide (x.c = x'.c) && Ty.eq x.ty x'.ty && (decide (args.length = args'.length) && allB args.length (atB eqE args args'))) := by rw [eqE, eqEs_all2, all2_allB]
      refine ⟨fun h => ?_, fun h => ?_⟩
      · clear hE
        rw [hX]
        simp only [Ty.eq]
        rcases h with ((((h | h) | h) | h) | h | h | h) | h
        · simp [h]
        · simp [h]
        · simp [h]
        · simp [h]
        · simp [h]
        · simp [h]
        · simp [h]
        · rw [decide_eq_false (by omega : ¬ args.length = args'.length)]; simp
      · have hll : args.length = args'.length := by clear hE; omega
        have hX2 : eqE (Ex.mk x.k x.n x.s x.c x.ty args) (Ex.mk x'.k x'.n x'.s x'.c x'.ty args') = allB args.length (atB eqE args args') := by rw [hX]; simp only [Ty.eq, h, hll, decide_true, Bool.true_and]
        clear hX
        refine WP_loop puN (fun y : Nat × Mem => ⟨[⟨2, [], .box 0 0⟩, ⟨3, [], .box 1 0⟩, ⟨5, [], .v (.int .i64 y.1)⟩], [], [⟨0, 32, x.cs.map .v⟩, ⟨1, 32, x'.cs.map .v⟩], [], 2, y.2⟩)
          (fun y => leM m y.2 ∧ y.1 ≤ x.l ∧ allB y.1 (atB eqE args args') = true) (fun y => x.l - y.1) (0, m) (by kernel_rfl) (fun _ _ => Nat.le_refl _) (fun y hy => hy.1) (fun _ => ?_) ?_ ?_ ?_
        · simp only [go_sem, ↓imp_tf, ↓imp_ft, ↓reduceIte, Nd.cs]
        · simp only [go_sem, ↓imp_tf, ↓imp_ft, ↓reduceIte, Nd.cs]
          rfl
        · exact ⟨.inl rfl, Nat.zero_le _, rfl⟩
        · rintro ⟨k, mm⟩ ⟨h1, h2, h3⟩
          simp only at h1 h2 h3
          have hy : ∀ (hk : k < args.length), ∃ X Y : Nd, (Rd mm (ptrAt x.a (k * 8)) X.cs ∧ x.a ≠ none) ∧ (Rd mm (ptrAt x'.a (k * 8)) Y.cs ∧ x'.a ≠ none) ∧ Ans 30 [.v (.agg ⟨X.cs⟩), .v (.agg ⟨Y.cs⟩)] mm (.bool (atB eqE args args' k)) := fun hk => by
            obtain ⟨X, Y, e1, e2, e3⟩ := hE mm h1 k hk hll
            have r1 := Rds_cells (Rds_upM h1 hr) (by omega : k < x.l)
            have r2 := Rds_cells (Rds_upM h1 hr') (by omega : k < x'.l)
            rw [e1] at r1
            rw [e2] at r2
            exact ⟨X, Y, r1, r2, e3 mm (.inl rfl)⟩
          clear hE
          simp only [go_sem, ↓imp_tf, ↓imp_ft, ↓reduceIte, Nd.cs]
          refine ⟨fun hlt => ?_, fun hge => ?_⟩
          · have hk : k < args.length := by clear hy; omega
            refine WP_draw (.hoist 0 (.hoist 1 (.hoist 2 (.hoist 3 (.hoist 4 (.hoist 5 (.hoist 6 (.hoist 7 (.hoist 8 (.hoist 9 (.alt 10 [] (.hoist 11 .done) .stop))))))))))) puN (by kernel_rfl) (by kernel_rfl) ?_
            simp only [go_sem, ↓imp_tf, ↓imp_ft, ↓reduceIte, Nd.cs]
            refine Exists.elim (hy hk) fun X hy1 => Exists.elim hy1 fun Y hy2 => ⟨⟨by clear hy hy1 hy2; omega, hlt, hy2.1.2⟩, X.cs, ⟨hy2.1.1, rfl⟩, ?_⟩
            clear hy hy1
            have ha := hy2.2.2
            simp only [go_sem, ↓imp_tf, ↓imp_ft, ↓reduceIte, Nd.cs]
            refine ⟨⟨by clear hy2 ha; omega, by clear hy2 ha; omega, hy2.2.1.2⟩, Y.cs, ⟨hy2.2.1.1, rfl⟩, ?_⟩
            clear hy2
            simp only [go_sem, ↓imp_tf, ↓imp_ft, ↓reduceIte, Nd.cs]
            refine ⟨by kernel_rfl, FnV_of ((FnH_den ha (fun V => rfl)).mono ?_)⟩
            clear ha
            rintro r H' m2 hm2 ⟨hle2, rfl, rfl⟩
            simp only [go_sem, ↓imp_tf, ↓imp_ft, ↓reduceIte, Nd.cs]
            refine ⟨fun hb => ⟨leM_tr h1 hle2, ?_⟩, fun hb => ⟨by unfold I64; simp only [big] at hn; omega, (k + 1, m2), ⟨by simp, .inl rfl⟩, ⟨leM_tr h1 hle2, by simp only; omega, ?_⟩, by simp only; omega⟩⟩
            · rw [hX2, allB_no hk hb]
            · simp only
              rw [allB_succ, h3, hb]
              rfl
          · have : k = args.length := by clear hy; omega
            refine ⟨h1, ?_⟩
            rw [hX2, ← this, h3]
/-- The parts of two statements. -/
structure SbIt (X Y : Sd) (e e2 : St) (mm : Mem) (bT bE bB bA : Bool) : Prop where
  tg : ∀ m', leM mm m' → Ans 30 [.v (.agg ⟨X.tg.cs⟩), .v (.agg ⟨Y.tg.cs⟩)] m' (.bool bT)
  ex : ∀ m', leM mm m' → Ans 30 [.v (.agg ⟨X.ex.cs⟩), .v (.agg ⟨Y.ex.cs⟩)] m' (.bool bE)
  body : ∀ m', leM mm m' → Ans 129 [.v (.slice X.a X.l X.cp), .v (.slice Y.a Y.l Y.cp)] m' (.bool bB)
  alt : ∀ m', leM mm m' → Ans 129 [.v (.slice X.b X.l2 X.cp2), .v (.slice Y.b Y.l2 Y.cp2)] m' (.bool bA)
  eq : eqS e e2 = (decide (X.k = Y.k) && decide (X.name = Y.name) && Ty.eq X.ty Y.ty && bT && bE && bB && bA)
set_option maxHeartbeats 8000000 in
theorem sameB_all : ∀ (h : Nat) (l l2 : List St) (a : Option Addr) (n c : Nat) (a2 : Option Addr) (n2 c2 : Nat) (xs ys : List Value) (m : Mem), depthSs l ≤ h → n = l.length → n2 = l2.length → n ≤ big → n2 ≤ big → Rds m a n 23 xs → Rds m a2 n2 23 ys → stsRep m l xs → stsRep m l2 ys →
    Ans 129 [.v (.slice a n c), .v (.slice a2 n2 c2)] m (.bool (eqSs l l2)) := by
  intro h
  induction h using Nat.strongRecOn with
  | ind h ih =>
    intro l l2 a n c a2 n2 c2 xs ys m hd hl hl2 hn hn2 hr hr2 hs hs2
    have hX : eqSs l l2 = (decide (l.length = l2.length) && allB l.length (atB eqS l l2)) := by rw [eqSs_all2, all2_allB]
    refine enter cfN puN Tryz.func129 rfl rfl (by kernel_rfl) rfl ?_ ?_
    · simp only [go_sem, ↓imp_tf, ↓imp_ft, ↓reduceIte]
    · simp only [go_sem, ↓imp_tf, ↓imp_ft, ↓reduceIte]
      refine ⟨fun hne => ?_, fun heq => ?_⟩
      · rw [hX, decide_eq_false (by clear ih; omega : ¬ l.length = l2.length)]; rfl
      · have hll : l.length = l2.length := by clear ih; omega
        rw [decide_eq_true hll, Bool.true_and] at hX
        refine WP_loop puN (fun y : Nat × Mem => ⟨[⟨0, [], .v (.slice a n c)⟩, ⟨1, [], .v (.slice a2 n2 c2)⟩, ⟨5, [], .v (.int .i64 y.1)⟩], [], [], [], 0, y.2⟩)
          (fun y => leM m y.2 ∧ y.1 ≤ n ∧ allB y.1 (atB eqS l l2) = true) (fun y => n - y.1) (0, m) (by kernel_rfl) (fun _ _ => Nat.le_refl _) (fun y hy => hy.1) (fun _ => ?_) ?_ ?_ ?_
        · simp only [go_sem, ↓imp_tf, ↓imp_ft, ↓reduceIte]
        · simp only [go_sem, ↓imp_tf, ↓imp_ft, ↓reduceIte]
          rfl
        · exact ⟨.inl rfl, Nat.zero_le _, rfl⟩
        · rintro ⟨k, mm⟩ ⟨h1, h2, h3⟩
          simp only at h1 h2 h3
          have hy : ∀ (hk : k < l.length), ∃ (X Y : Sd) (bT bE bB bA : Bool) (e e2 : St), (Rd mm (ptrAt a (k * 23)) X.cs ∧ a ≠ none) ∧ (Rd mm (ptrAt a2 (k * 23)) Y.cs ∧ a2 ≠ none) ∧ SbIt X Y e e2 mm bT bE bB bA ∧ atB eqS l l2 k = eqS e e2 := fun hk => by
            have hk2 : k < l2.length := by omega
            have hrep := stRep_upM h1 (sts_at hs hk)
            have hrep2 := stRep_upM h1 (sts_at hs2 hk2)
            have hrd := Rds_cells (Rds_upM h1 hr) (by omega : k < n)
            have hrd2 := Rds_cells (Rds_upM h1 hr2) (by omega : k < n2)
            have q1 := depthSs_mem (List.getElem_mem hk)
            have hat : atB eqS l l2 k = eqS l[k] l2[k] := atB_at hk hk2
            cases he : l[k] with
            | mk k1 nm1 ty1 tg1 ex1 body1 alt1 =>
              cases he2 : l2[k] with
              | mk k2 nm2 ty2 tg2 ex2 body2 alt2 =>
                rw [he] at hrep q1 hat
                rw [he2] at hrep2 hat
                simp only [depthS] at q1
                obtain ⟨X, hX, rfl, rfl, rfl, htg, hex, hl1, hcp, hl2', hcp2, hok, zs, ws, r1, r2, s1, s2⟩ := st_parts hrep
                obtain ⟨Y, hY, rfl, rfl, rfl, htg', hex', hl1', hcp', hl2'', hcp2', hok', zs', ws', r1', r2', s1', s2'⟩ := st_parts hrep2
                rw [hX] at hrd
                rw [hY] at hrd2
                refine ⟨X, Y, _, _, _, _, _, _, hrd, hrd2, ⟨fun m' hle => same_all _ tg1 tg2 _ _ m' (Nat.le_refl _) (exRep_upM hle htg) (exRep_upM hle htg'), fun m' hle => same_all _ ex1 ex2 _ _ m' (Nat.le_refl _) (exRep_upM hle hex) (exRep_upM hle hex'), fun m' hle => ?_, fun m' hle => ?_, rfl⟩, hat⟩
                · exact ih (depthSs body1) (by omega) body1 body2 X.a X.l X.cp Y.a Y.l Y.cp zs zs' m' (Nat.le_refl _) hl1 hl1' (by rw [hl1]; exact hok.l) (by rw [hl1']; exact hok'.l) (Rds_upM hle r1) (Rds_upM hle r1') (stsRep_upM hle s1) (stsRep_upM hle s1')
                · exact ih (depthSs alt1) (by omega) alt1 alt2 X.b X.l2 X.cp2 Y.b Y.l2 Y.cp2 ws ws' m' (Nat.le_refl _) hl2' hl2'' (by rw [hl2']; exact hok.l2) (by rw [hl2'']; exact hok'.l2) (Rds_upM hle r2) (Rds_upM hle r2') (stsRep_upM hle s2) (stsRep_upM hle s2')
          clear ih
          simp only [go_sem, ↓imp_tf, ↓imp_ft, ↓reduceIte]
          refine ⟨fun hlt => ?_, fun hge => ?_⟩
          · have hk : k < l.length := by clear hy; omega
            refine WP_draw (.hoist 0 (.hoist 1 (.hoist 2 (.hoist 3 (.hoist 4 (.hoist 5 (.hoist 6 (.hoist 7 (.alt 8 [7, 6, 5, 4, 3, 2, 1, 0] (.alt 9 [7, 6, 5, 4, 3, 2, 1, 0] (.alt 10 [7, 6, 5, 4] (.alt 11 [] .done .stop) .stop) .stop) (.alt 9 [7, 6, 5, 4, 3, 2, 1, 0] (.alt 8 [7, 6, 5, 4, 3, 2, 1, 0] (.alt 10 [7, 6, 5, 4] (.alt 11 [] .done .stop) .stop) .stop) .stop)))))))))) puN (by kernel_rfl) (by kernel_rfl) ?_
            simp only [go_sem, ↓imp_tf, ↓imp_ft, ↓reduceIte]
            refine Exists.elim (hy hk) fun X y1 => Exists.elim y1 fun Y y2 => Exists.elim y2 fun bT y3 => Exists.elim y3 fun bE y4 => Exists.elim y4 fun bB y5 => Exists.elim y5 fun bA y6 => Exists.elim y6 fun e y7 => Exists.elim y7 fun e2 y8 => ⟨⟨by clear hy y1 y2 y3 y4 y5 y6 y7 y8; omega, hlt, y8.1.2⟩, X.cs, ⟨y8.1.1, rfl⟩, ⟨by clear hy y1 y2 y3 y4 y5 y6 y7 y8; omega, by clear hy y1 y2 y3 y4 y5 y6 y7 y8; omega, y8.2.1.2⟩, Y.cs, ⟨y8.2.1.1, rfl⟩, ?_⟩
            clear hy y1 y2 y3 y4 y5 y6 y7
            have hS := y8.2.2.1
            have hat := y8.2.2.2
            clear y8
            simp only [go_sem, ↓imp_tf, ↓imp_ft, ↓reduceIte, Sd.cs, Nd.cs, eqOkT]
            refine ⟨?_, ?_⟩
            · refine ⟨fun he => ⟨by kernel_rfl, FnV_of ((FnH_den (hS.tg mm (.inl rfl)) (fun V => rfl)).mono ?_)⟩, fun hne => ⟨h1, ?_⟩⟩
              · have e0 : eqS e e2 = (bT && bE && bB && bA) := by rw [hS.eq]; simp only [Ty.eq, he, decide_true, Bool.true_and]
                rintro r H' m2 hm2 ⟨l2', rfl, rfl⟩
                simp only [go_sem, ↓imp_tf, ↓imp_ft, ↓reduceIte, Sd.cs, Nd.cs]
                refine ⟨fun b1 => ⟨by kernel_rfl, FnV_of ((FnH_den (hS.ex m2 l2') (fun V => rfl)).mono ?_)⟩, fun b1 => ⟨leM_tr h1 l2', ?_⟩⟩
                · rintro r H' m3 hm3 ⟨l3, rfl, rfl⟩
                  have k3 := leM_tr l2' l3
                  simp only [go_sem, ↓imp_tf, ↓imp_ft, ↓reduceIte, Sd.cs, Nd.cs]
                  refine ⟨fun b2 => ⟨by kernel_rfl, FnV_of ((hS.body m3 k3).mono ?_)⟩, fun b2 => ⟨leM_tr h1 k3, ?_⟩⟩
                  · rintro r H' m4 hm4 ⟨l4, rfl, rfl⟩
                    have k4 := leM_tr k3 l4
                    simp only [go_sem, ↓imp_tf, ↓imp_ft, ↓reduceIte, Sd.cs, Nd.cs]
                    refine ⟨fun b3 => ⟨by kernel_rfl, FnV_of ((hS.alt m4 k4).mono ?_)⟩, fun b3 => ⟨leM_tr h1 k4, ?_⟩⟩
                    · rintro r H' m5 hm5 ⟨l5, rfl, rfl⟩
                      have k5 := leM_tr k4 l5
                      simp only [go_sem, ↓imp_tf, ↓imp_ft, ↓reduceIte, Sd.cs, Nd.cs]
                      refine ⟨fun b4 => ⟨leM_tr h1 k5, ?_⟩, fun b4 => ⟨by unfold I64; simp only [big] at hn; omega, (k + 1, m5), ⟨by simp, .inl rfl⟩, ⟨leM_tr h1 k5, by simp only; omega, ?_⟩, by simp only; omega⟩⟩
                      · rw [hX, allB_no hk (by rw [hat, e0, b4, Bool.and_false])]
                      · simp only
                        rw [allB_succ, h3, hat, e0, b1, b2, b3, b4]
                        rfl
                    · rw [hX, allB_no hk (by rw [hat, e0, b3, Bool.and_false]; rfl)]
                  · rw [hX, allB_no hk (by rw [hat, e0, b2, Bool.and_false]; rfl)]
                · rw [hX, allB_no hk (by rw [hat, e0, b1]; rfl)]
              · rw [hX, allB_no hk]
                rw [hat, hS.eq]
                simp only [Ty.eq]
                clear hS
                rcases hne with (h | h) | h | h | h <;> simp [h]
            · refine ⟨fun he => ⟨by kernel_rfl, FnV_of ((FnH_den (hS.tg mm (.inl rfl)) (fun V => rfl)).mono ?_)⟩, fun hne => ⟨h1, ?_⟩⟩
              · have e0 : eqS e e2 = (bT && bE && bB && bA) := by rw [hS.eq]; simp only [Ty.eq, he, decide_true, Bool.true_and]
                rintro r H' m2 hm2 ⟨l2', rfl, rfl⟩
                simp only [go_sem, ↓imp_tf, ↓imp_ft, ↓reduceIte, Sd.cs, Nd.cs]
                refine ⟨fun b1 => ⟨by kernel_rfl, FnV_of ((FnH_den (hS.ex m2 l2') (fun V => rfl)).mono ?_)⟩, fun b1 => ⟨leM_tr h1 l2', ?_⟩⟩
                · rintro r H' m3 hm3 ⟨l3, rfl, rfl⟩
                  have k3 := leM_tr l2' l3
                  simp only [go_sem, ↓imp_tf, ↓imp_ft, ↓reduceIte, Sd.cs, Nd.cs]
                  refine ⟨fun b2 => ⟨by kernel_rfl, FnV_of ((hS.body m3 k3).mono ?_)⟩, fun b2 => ⟨leM_tr h1 k3, ?_⟩⟩
                  · rintro r H' m4 hm4 ⟨l4, rfl, rfl⟩
                    have k4 := leM_tr k3 l4
                    simp only [go_sem, ↓imp_tf, ↓imp_ft, ↓reduceIte, Sd.cs, Nd.cs]
                    refine ⟨fun b3 => ⟨by kernel_rfl, FnV_of ((hS.alt m4 k4).mono ?_)⟩, fun b3 => ⟨leM_tr h1 k4, ?_⟩⟩
                    · rintro r H' m5 hm5 ⟨l5, rfl, rfl⟩
                      have k5 := leM_tr k4 l5
                      simp only [go_sem, ↓imp_tf, ↓imp_ft, ↓reduceIte, Sd.cs, Nd.cs]
                      refine ⟨fun b4 => ⟨leM_tr h1 k5, ?_⟩, fun b4 => ⟨by unfold I64; simp only [big] at hn; omega, (k + 1, m5), ⟨by simp, .inl rfl⟩, ⟨leM_tr h1 k5, by simp only; omega, ?_⟩, by simp only; omega⟩⟩
                      · rw [hX, allB_no hk (by rw [hat, e0, b4, Bool.and_false])]
                      · simp only
                        rw [allB_succ, h3, hat, e0, b1, b2, b3, b4]
                        rfl
                    · rw [hX, allB_no hk (by rw [hat, e0, b3, Bool.and_false]; rfl)]
                  · rw [hX, allB_no hk (by rw [hat, e0, b2, Bool.and_false]; rfl)]
                · rw [hX, allB_no hk (by rw [hat, e0, b1]; rfl)]
              · rw [hX, allB_no hk]
                rw [hat, hS.eq]
                simp only [Ty.eq]
                clear hS
                rcases hne with (h | h) | h | h | h <;> simp [h]
          · have : k = l.length := by clear hy; omega
            refine ⟨h1, ?_⟩
            rw [hX, ← this, h3]
end Go.Proofs.YtalalcpefggniaaGreatDoor.E

namespace Go.Proofs.YtalalcpefggniaaGreatDoor.E
open Go

mutual
def sizeS : St → Nat
  | .mk _ _ _ tg ex body alt => 1 + sizeE ex + sizeE tg + sizeSs body + sizeSs alt
def sizeSs : List St → Nat
  | [] => 0
  | e :: r => sizeS e + sizeSs r
end
theorem sizeSs_take : ∀ {l : List St} {k : Nat} (hk : k < l.length), sizeSs (l.take (k + 1)) = sizeSs (l.take k) + sizeS l[k]
  | [], _, hk => absurd hk (Nat.not_lt_zero _)
  | e :: r, 0, _ => by simp [sizeSs]
  | e :: r, k + 1, hk => by
    have := sizeSs_take (l := r) (k := k) (by simpa using hk)
    simp only [List.take_succ_cons, sizeSs, this, List.getElem_cons_succ, Nat.add_assoc]
theorem sizeSs_le : ∀ (l : List St) (k : Nat), sizeSs (l.take k) ≤ sizeSs l
  | [], k => by simp
  | e :: r, 0 => by simp [sizeSs]
  | e :: r, k + 1 => by
    have := sizeSs_le r k
    simp only [List.take_succ_cons, sizeSs]
    omega
theorem sizeSs_mem : ∀ {l : List St} {e : St}, e ∈ l → sizeS e ≤ sizeSs l
  | [], e, he => by cases he
  | x :: r, e, he => by
    simp only [sizeSs]
    rcases List.mem_cons.1 he with rfl | he
    · omega
    · have := sizeSs_mem he; omega
mutual
theorem depthS_size : ∀ (e : St), depthS e ≤ sizeS e
  | .mk _ _ _ tg ex body alt => by
    have h1 := depthSs_size body
    have h2 := depthSs_size alt
    simp only [depthS, sizeS]; omega
theorem depthSs_size : ∀ (l : List St), depthSs l ≤ sizeSs l
  | [] => by simp [depthSs]
  | e :: r => by
    have h1 := depthS_size e
    have h2 := depthSs_size r
    simp only [depthSs, sizeSs]; omega
end
def St.exOf : St → Ex | .mk _ _ _ _ ex _ _ => ex
def St.tgOf : St → Ex | .mk _ _ _ tg _ _ _ => tg
def St.bodyOf : St → List St | .mk _ _ _ _ _ body _ => body
def St.altOf : St → List St | .mk _ _ _ _ _ _ alt => alt
theorem sizeS_eq (e : St) : sizeS e = 1 + sizeE e.exOf + sizeE e.tgOf + sizeSs e.bodyOf + sizeSs e.altOf := by cases e; rfl
/-- A call that answers a number between bounds. -/
def AnsN (f : FuncId) (args : List SV) (m : Mem) (lo hi : Int) : Prop := FnH Tryz.prog f args ⟨[], []⟩ m fun r H' m' => leM m m' ∧ H' = ⟨[], []⟩ ∧ ∃ x : Int, r = .v (.int .i64 x) ∧ lo ≤ x ∧ x ≤ hi
theorem Rd_upM {m m' : Mem} {x : Value} {cs : List Value} (hle : leM m m') (h : Rd m x cs) : Rd m' x cs := by
  rcases hle with rfl | hle
  · exact h
  · exact Rd_up hle h
/-- The parts of one statement, as 'stmts' reads them. -/
structure StmIt (X : Sd) (e : St) (mm : Mem) (most : Int) : Prop where
  ex : ∀ m', leM mm m' → ∀ k : Int, 0 ≤ k → k ≤ 1000000 → AnsN 15 [.v (.agg ⟨X.ex.cs⟩), .v (.int .i64 k)] m' 1 (sizeE e.exOf)
  tg : ∀ m', leM mm m' → ∀ k : Int, 0 ≤ k → k ≤ 1000000 → AnsN 15 [.v (.agg ⟨X.tg.cs⟩), .v (.int .i64 k)] m' 1 (sizeE e.tgOf)
  body : ∀ m', leM mm m' → ∀ k : Int, -3000000 ≤ k → k ≤ 1000000 → AnsN 16 [.v (.slice X.a X.l X.cp), .v (.int .i64 k)] m' 0 (sizeSs e.bodyOf)
  alt : ∀ m', leM mm m' → ∀ k : Int, -3000000 ≤ k → k ≤ 1000000 → AnsN 16 [.v (.slice X.b X.l2 X.cp2), .v (.int .i64 k)] m' 0 (sizeSs e.altOf)
theorem stmts_all : ∀ (h : Nat) (l : List St) (a : Option Addr) (n c : Nat) (xs : List Value) (most : Int) (m : Mem), depthSs l ≤ h → sizeSs l ≤ big → -3000000 ≤ most → most ≤ 1000000 → n = l.length → n ≤ big → Rds m a n 23 xs → stsRep m l xs →
    AnsN 16 [.v (.slice a n c), .v (.int .i64 most)] m 0 (sizeSs l) := by
  intro h
  induction h using Nat.strongRecOn with
  | ind h ih =>
    intro l a n c xs most m hd hb hm0 hm1 hl hn hr hs
    refine enter cfN puN Tryz.func16 rfl rfl (by kernel_rfl) rfl ?_ ?_
    · simp only [go_sem, ↓imp_tf, ↓imp_ft, ↓reduceIte]
    · simp only [go_sem, ↓imp_tf, ↓imp_ft, ↓reduceIte]
      refine WP_loop puN (fun x : Nat × Int × Mem => ⟨[⟨0, [], .v (.slice a n c)⟩, ⟨1, [], .v (.int .i64 most)⟩, ⟨5, [], .v (.int .i64 x.2.1)⟩, ⟨6, [], .v (.int .i64 x.1)⟩], [], [], [], 0, x.2.2⟩)
        (fun x => leM m x.2.2 ∧ x.1 ≤ n ∧ 0 ≤ x.2.1 ∧ x.2.1 ≤ sizeSs (l.take x.1)) (fun x => n - x.1) (0, 0, m) (by kernel_rfl) (fun _ _ => Nat.le_refl _) (fun x hx => hx.1) (fun _ => ?_) ?_ ?_ ?_
      · simp only [go_sem, ↓imp_tf, ↓imp_ft, ↓reduceIte]
      · simp only [go_sem, ↓imp_tf, ↓imp_ft, ↓reduceIte]
        rfl
      · exact ⟨.inl rfl, Nat.zero_le _, Int.le_refl _, by simp [sizeSs]⟩
      · rintro ⟨k, x, mm⟩ ⟨h1, h2, h3, h4⟩
        simp only at h1 h2 h3 h4
        have hy : ∀ (hk : k < l.length), ∃ X : Sd, (Rd mm (ptrAt a (k * 23)) X.cs ∧ a ≠ none) ∧ StmIt X l[k] mm most := fun hk => by
          have hrep := stRep_upM h1 (sts_at hs hk)
          have hrd := Rds_cells (Rds_upM h1 hr) (by omega : k < n)
          have q1 := depthSs_mem (List.getElem_mem hk)
          have q2 := sizeSs_mem (List.getElem_mem hk)
          rw [sizeS_eq] at q2
          cases he : l[k] with
          | mk k' nm ty tg ex body alt =>
            rw [he] at hrep q1 q2
            simp only [St.exOf, St.tgOf, St.bodyOf, St.altOf] at q2
            simp only [depthS] at q1
            obtain ⟨X, hX, _, _, _, htg, hex, hl1, hcp, hl2, hcp2, hok, ys, zs, r1, r2, s1, s2⟩ := st_parts hrep
            rw [hX] at hrd
            refine ⟨X, hrd, ⟨fun m' hle k h0 h1 => exprs_all _ ex k _ m' (Nat.le_refl _) (by omega) h0 h1 (exRep_upM hle hex), fun m' hle k h0 h1 => exprs_all _ tg k _ m' (Nat.le_refl _) (by omega) h0 h1 (exRep_upM hle htg), fun m' hle k h0 h1 => ?_, fun m' hle k h0 h1 => ?_⟩⟩
            · exact ih (depthSs body) (by omega) body X.a X.l X.cp ys k m' (Nat.le_refl _) (by omega) h0 h1 hl1 (by rw [hl1]; exact hok.l) (Rds_upM hle r1) (stsRep_upM hle s1)
            · exact ih (depthSs alt) (by omega) alt X.b X.l2 X.cp2 zs k m' (Nat.le_refl _) (by omega) h0 h1 hl2 (by rw [hl2]; exact hok.l2) (Rds_upM hle r2) (stsRep_upM hle s2)
        have hst := fun (hk : k < l.length) => And.intro (sizeSs_take hk) (sizeSs_le l (k + 1))
        have hsl := sizeSs_le l k
        clear ih
        simp only [go_sem, ↓imp_tf, ↓imp_ft, ↓reduceIte]
        refine ⟨fun hlt => ?_, fun hge => ⟨h1, h3, by clear hy hst; omega⟩⟩
        have hk : k < l.length := by clear hy hst; omega
        have hs1 := hst hk
        have hq := sizeS_eq l[k]
        clear hst
        refine Exists.elim (hy hk) fun X hy1 => ?_
        clear hy
        have hp := hy1.1.2
        have hR := fun m' (hle : leM mm m') => Rd_upM hle hy1.1.1
        have hI := hy1.2
        clear hy1
        refine ⟨⟨by clear hR hI; omega, hlt.1, hp⟩, Rd_ptr (hR mm (.inl rfl)), X.ex.cs, ⟨Rd_sub (hR mm (.inl rfl)) 13 8 (Nat.le_of_ble_eq_true rfl), rfl⟩, by clear hR hI; unfold I64; simp only [big] at hb; omega, by kernel_rfl, FnV_of ((hI.ex mm (.inl rfl) (most - x) (by clear hR hI; omega) (by clear hR hI; omega)).mono ?_)⟩
        rintro r H' m1 hm1' ⟨l1, rfl, y1, rfl, hy1, hy1'⟩
        simp only [go_sem, ↓imp_tf, ↓imp_ft, ↓reduceIte]
        refine ⟨by clear hR hI; unfold I64; simp only [big] at hb; omega, by clear hR hI; unfold I64; simp only [big] at hb; omega, ?_⟩
        refine ⟨⟨by clear hR hI; omega, hlt.1, hp⟩, Rd_ptr (hR mm (.inl rfl)), X.tg.cs, ⟨Rd_sub (hR m1 l1) 5 8 (Nat.le_of_ble_eq_true rfl), rfl⟩, by kernel_rfl, FnV_of ((hI.tg m1 l1 most (by clear hR hI; omega) hm1).mono ?_)⟩
        rintro r H' m2 hm2' ⟨l2, rfl, y2, rfl, hy2, hy2'⟩
        have k2 := leM_tr l1 l2
        simp only [go_sem, ↓imp_tf, ↓imp_ft, ↓reduceIte]
        refine ⟨by clear hR hI; unfold I64; simp only [big] at hb; omega, ?_⟩
        refine ⟨⟨by clear hR hI; omega, hlt.1, hp⟩, Rd_ptr (hR mm (.inl rfl)), .slice X.a X.l X.cp, Rd_sub (hR m2 k2) 21 1 (Nat.le_of_ble_eq_true rfl), by clear hR hI; unfold I64; simp only [big] at hb; omega, by kernel_rfl, FnV_of ((hI.body m2 k2 _ (by clear hR hI; simp only [big] at hb; omega) (by clear hR hI; omega)).mono ?_)⟩
        rintro r H' m3 hm3' ⟨l3, rfl, y3, rfl, hy3, hy3'⟩
        have k3 := leM_tr k2 l3
        simp only [go_sem, ↓imp_tf, ↓imp_ft, ↓reduceIte]
        refine ⟨by clear hR hI; unfold I64; simp only [big] at hb; omega, ?_⟩
        refine ⟨⟨by clear hR hI; omega, hlt.1, hp⟩, Rd_ptr (hR mm (.inl rfl)), .slice X.b X.l2 X.cp2, Rd_sub (hR m3 k3) 22 1 (Nat.le_of_ble_eq_true rfl), by clear hR hI; unfold I64; simp only [big] at hb; omega, by kernel_rfl, FnV_of ((hI.alt m3 k3 _ (by clear hR hI; simp only [big] at hb; omega) (by clear hR hI; omega)).mono ?_)⟩
        clear hR hI
        rintro r H' m4 hm4' ⟨l4, rfl, y4, rfl, hy4, hy4'⟩
        have k4 := leM_tr k3 l4
        simp only [go_sem, ↓imp_tf, ↓imp_ft, ↓reduceIte]
        exact ⟨by unfold I64; simp only [big] at hb; omega, by unfold I64; simp only [big] at hn; omega, (k + 1, x + (1 + y1) + y2 + y3 + y4, m4), ⟨⟨rfl, by simp⟩, .inl rfl⟩, ⟨leM_tr h1 k4, by simp only; omega, by simp only; omega, by simp only; omega⟩, by simp only; omega⟩
end Go.Proofs.YtalalcpefggniaaGreatDoor.E

namespace Go.Proofs.YtalalcpefggniaaGreatDoor.E
open Go Go.ChangeShapes Go.WideShapes Go.ChangeAt Go.RowKit


theorem flat_of {α : Type} {f : α → List Value} {sz : Nat} (hf : ∀ x, (f x).length = sz) : ∀ (l : List α) (xs : List Value), xs.length = l.length * sz → (∀ i (hi : i < l.length), (xs.drop (i * sz)).take sz = f l[i]) → xs = flat f l
  | [], xs, h, _ => by
    have : xs = [] := List.length_eq_zero_iff.1 (by simpa using h)
    subst this; rfl
  | x :: r, xs, h, hp => by
    have h0 := hp 0 (by simp)
    rw [Nat.zero_mul, List.drop_zero, List.getElem_cons_zero] at h0
    have hl : (xs.drop sz).length = r.length * sz := by
      rw [List.length_drop, h, List.length_cons, Nat.succ_mul]; omega
    have hr := flat_of hf r (xs.drop sz) hl fun i hi => by
      have := hp (i + 1) (by simpa using hi)
      rw [List.getElem_cons_succ] at this
      rw [List.drop_drop, ← this, Nat.succ_mul, Nat.add_comm]
    have e : flat f (x :: r) = f x ++ flat f r := rfl
    rw [e, ← h0, ← hr, List.take_append_drop]
theorem flat_strs : ∀ l : List (List UInt8), flat (fun s => [.string (bs s)]) l = strs l
  | [] => rfl
  | a :: r => by
    have h := flat_strs r
    simp only [flat, strs, List.map_cons, List.flatten_cons, List.cons_append, List.nil_append] at h ⊢
    rw [h]
theorem ls_of_at {α : Type} {R : α → List Value → Prop} {sz : Nat} : ∀ (l : List α) (xs : List Value), (∀ i (hi : i < l.length), R l[i] ((xs.drop (i * sz)).take sz)) → lsRep R sz l xs
  | [], _, _ => trivial
  | x :: r, xs, h => by
    have h0 := h 0 (by simp)
    rw [Nat.zero_mul, List.drop_zero, List.getElem_cons_zero] at h0
    refine ⟨h0, ls_of_at r (xs.drop sz) fun i hi => ?_⟩
    have := h (i + 1) (by simpa using hi)
    rw [List.getElem_cons_succ] at this
    rw [List.drop_drop, show sz + i * sz = (i + 1) * sz by rw [Nat.succ_mul, Nat.add_comm]]
    exact this
theorem sts_of_at {m : Mem} : ∀ (l : List St) (xs : List Value), (∀ i (hi : i < l.length), stRep m l[i] ((xs.drop (i * 23)).take 23)) → stsRep m l xs
  | [], _, _ => by simp only [stsRep]
  | x :: r, xs, h => by
    simp only [stsRep]
    have h0 := h 0 (by simp)
    rw [Nat.zero_mul, List.drop_zero, List.getElem_cons_zero] at h0
    refine ⟨h0, sts_of_at r (xs.drop 23) fun i hi => ?_⟩
    have := h (i + 1) (by simpa using hi)
    rw [List.getElem_cons_succ] at this
    rw [List.drop_drop, show 23 + i * 23 = (i + 1) * 23 by omega]
    exact this
theorem sum_bulk {H : Type} {α : Type} {size : α → Nat} : ∀ (l : List α) (ds : List (DataW H)), l.length = ds.length → (∀ i (h : i < l.length) (h' : i < ds.length), size l[i] ≤ Rows.uptoBulk ds[i]) → (l.map size).sum ≤ Rows.uptoBulkAll ds
  | [], _, _, _ => by simp
  | e :: r, [], h, _ => by simp at h
  | e :: r, d :: ds, h, hp => by
    have h1 := hp 0 (by simp) (by simp)
    have h2 := sum_bulk (size := size) r ds (by simpa using h) fun i h3 h4 => by
      have := hp (i + 1) (by simpa using h3) (by simpa using h4)
      simp only [List.getElem_cons_succ] at this
      exact this
    simp only [List.map_cons, List.sum_cons, Rows.uptoBulkAll]
    simp only [List.getElem_cons_zero] at h1
    omega
theorem sum_sizeSs : ∀ (l : List St), (l.map sizeS).sum = sizeSs l
  | [] => rfl
  | e :: r => by simp only [List.map_cons, List.sum_cons, sizeSs, sum_sizeSs r]
section
variable {H : Type} {enc : TypeId × Value → H} {W : World}
/-- A slice that came in, element by element. -/
theorem open_rows {α : Type} {t e : TypeId} {sz : Nat} (ht : Tryz.prog.underlying t = some (.slice e)) (hC : Tryz.prog.cellsOf e = sz) (hsz : 0 < sz) (R : α → List Value → Prop) (size : α → Nat) {fuel : Nat} {c : Value} {d : DataW H} {p : List MemPlace}
    (h : DataW.trod enc Tryz.prog W 0 (fun _ => true) true fuel t [c] = some (d, p)) (ih : ∀ n cs' D Pl, DataW.trod enc Tryz.prog W 0 (fun _ => true) true n e cs' = some (D, Pl) → Rows.uptoBulk D < Rows.uptoBulk d → ∃ x, R x cs' ∧ size x ≤ Rows.uptoBulk D) :
    ∃ (l : List α) (a : Option Addr) (n cp : Nat) (xs : List Value), c = .slice a n cp ∧ n = l.length ∧ n ≤ cp ∧ Rds ⟨W, DoW W⟩ a n sz xs ∧ (∀ i (hi : i < l.length), R l[i] ((xs.drop (i * sz)).take sz)) ∧ (l.map size).sum + 1 ≤ Rows.uptoBulk d ∧ l.length + 1 ≤ Rows.uptoBulk d := by
  rcases Deep.open_slice ht h with ⟨hc, hx⟩ | ⟨a, len, cap, m, n, D, Pl, hcs7, _, hl, hm, hmm, hx, hi⟩
  · have hc7 : c = .slice none 0 0 := by simpa using hc
    have := bulk_one d
    exact ⟨[], none, 0, 0, [], hc7, rfl, Nat.le_refl _, Rds_nil, fun i hi => absurd hi (Nat.not_lt_zero _), by simpa using this, by simpa using this⟩
  · have hc7 : c = .slice (some a) len cap := by simpa using hcs7
    have hm2 : m = cap := by simpa using hmm
    have hd5 : d = .slice (List.map D (List.range len)) (List.map (fun j => D (len + j)) (List.range (m - len))) := (Prod.mk.inj hx).1
    have hb5 : Rows.uptoBulk d = Rows.uptoBulkAll (List.map D (List.range len)) + Rows.uptoBulkAll (List.map (fun j => D (len + j)) (List.range (m - len))) + 1 := by rw [hd5]; rfl
    obtain ⟨l, xs, hll, hr, hp⟩ := rows_of (W := W) (a := a) (len := len) (sz := sz) hsz (p := fun i (x : α) cs => R x cs ∧ size x ≤ Rows.uptoBulk (D i)) fun i hil => by
      obtain ⟨cs', hc, ht'⟩ := hi i (by omega)
      rw [hC] at hc
      obtain ⟨_, hcl, hat⟩ := World.cells?_some hc
      have hmem : D i ∈ List.map D (List.range len) := List.mem_map.2 ⟨i, List.mem_range.2 hil, rfl⟩
      have hbi := bulk_mem hmem
      obtain ⟨e, he, hs⟩ := ih n cs' (D i) (Pl i) ht' (by omega)
      exact ⟨e, cs', hcl, fun j hj => by rw [← Deep.add_add]; exact hat j hj, he, hs⟩
    have hsz2 := sum_bulk (size := size) l (List.map D (List.range len)) (by simp [hll]) fun i h1 h2 => by simpa using (hp i h1).2
    have hlen := bulk_len (List.map D (List.range len))
    rw [List.length_map, List.length_range] at hlen
    exact ⟨l, some a, len, cap, xs, hc7, hll.symm, hl, hr, fun i hi => (hp i hi).1, by omega, by omega⟩

set_option maxHeartbeats 2000000 in
set_option maxRecDepth 100000 in
theorem open_st : ∀ (B : Nat) (fuel : Nat) (cs : List Value) (d : DataW H) (p : List MemPlace), DataW.trod enc Tryz.prog W 0 (fun _ => true) true fuel 35 cs = some (d, p) → Rows.uptoBulk d ≤ B → B ≤ 1048576 → ∃ e : St, stRep ⟨W, DoW W⟩ e cs ∧ sizeS e ≤ Rows.uptoBulk d := by
  intro B
  induction B with
  | zero => intro fuel cs d p _ hB _; have := bulk_one d; omega
  | succ B ih =>
    intro fuel cs d p h hB hb
    obtain ⟨ys, n', _, hy, hlen, hyl, hf⟩ := DataW.trod_struct Tryz.underlying35 h
    rw [show Tryz.prog.cellsOf 35 = 23 by kernel_rfl] at hlen
    match cs, hlen with
    | [c0, c1, c2, c3, c4, c5, c6, c7, c8, c9, c10, c11, c12, c13, c14, c15, c16, c17, c18, c19, c20, c21, c22], _ =>
    match ys, hyl with
    | [y0, y1, y2, y3, y4, y5, y6], _ =>
      have f0 : DataW.trod enc Tryz.prog W 0 (fun _ => true) true n' 3 [c0] = some y0 := by have this : DataW.trod enc Tryz.prog W 0 (fun _ => true) true n' 3 (([c0, c1, c2, c3, c4, c5, c6, c7, c8, c9, c10, c11, c12, c13, c14, c15, c16, c17, c18, c19, c20, c21, c22].drop 0).take (Tryz.prog.cellsOf 3)) = some y0 := hf 0 _ rfl; rw [show Tryz.prog.cellsOf 3 = 1 by kernel_rfl] at this; exact this
      have f1 : DataW.trod enc Tryz.prog W 0 (fun _ => true) true n' 9 [c1] = some y1 := by have this : DataW.trod enc Tryz.prog W 0 (fun _ => true) true n' 9 (([c0, c1, c2, c3, c4, c5, c6, c7, c8, c9, c10, c11, c12, c13, c14, c15, c16, c17, c18, c19, c20, c21, c22].drop 1).take (Tryz.prog.cellsOf 9)) = some y1 := hf 1 _ rfl; rw [show Tryz.prog.cellsOf 9 = 1 by kernel_rfl] at this; exact this
      have f2 : DataW.trod enc Tryz.prog W 0 (fun _ => true) true n' 29 [c2, c3, c4] = some y2 := by have this : DataW.trod enc Tryz.prog W 0 (fun _ => true) true n' 29 (([c0, c1, c2, c3, c4, c5, c6, c7, c8, c9, c10, c11, c12, c13, c14, c15, c16, c17, c18, c19, c20, c21, c22].drop 2).take (Tryz.prog.cellsOf 29)) = some y2 := hf 2 _ rfl; rw [show Tryz.prog.cellsOf 29 = 3 by kernel_rfl] at this; exact this
      have f3 : DataW.trod enc Tryz.prog W 0 (fun _ => true) true n' 32 [c5, c6, c7, c8, c9, c10, c11, c12] = some y3 := by have this : DataW.trod enc Tryz.prog W 0 (fun _ => true) true n' 32 (([c0, c1, c2, c3, c4, c5, c6, c7, c8, c9, c10, c11, c12, c13, c14, c15, c16, c17, c18, c19, c20, c21, c22].drop 5).take (Tryz.prog.cellsOf 32)) = some y3 := hf 3 _ rfl; rw [show Tryz.prog.cellsOf 32 = 8 by kernel_rfl] at this; exact this
      have f4 : DataW.trod enc Tryz.prog W 0 (fun _ => true) true n' 32 [c13, c14, c15, c16, c17, c18, c19, c20] = some y4 := by have this : DataW.trod enc Tryz.prog W 0 (fun _ => true) true n' 32 (([c0, c1, c2, c3, c4, c5, c6, c7, c8, c9, c10, c11, c12, c13, c14, c15, c16, c17, c18, c19, c20, c21, c22].drop 13).take (Tryz.prog.cellsOf 32)) = some y4 := hf 4 _ rfl; rw [show Tryz.prog.cellsOf 32 = 8 by kernel_rfl] at this; exact this
      have f5 : DataW.trod enc Tryz.prog W 0 (fun _ => true) true n' 33 [c21] = some y5 := by have this : DataW.trod enc Tryz.prog W 0 (fun _ => true) true n' 33 (([c0, c1, c2, c3, c4, c5, c6, c7, c8, c9, c10, c11, c12, c13, c14, c15, c16, c17, c18, c19, c20, c21, c22].drop 21).take (Tryz.prog.cellsOf 33)) = some y5 := hf 5 _ rfl; rw [show Tryz.prog.cellsOf 33 = 1 by kernel_rfl] at this; exact this
      have f6 : DataW.trod enc Tryz.prog W 0 (fun _ => true) true n' 33 [c22] = some y6 := by have this : DataW.trod enc Tryz.prog W 0 (fun _ => true) true n' 33 (([c0, c1, c2, c3, c4, c5, c6, c7, c8, c9, c10, c11, c12, c13, c14, c15, c16, c17, c18, c19, c20, c21, c22].drop 22).take (Tryz.prog.cellsOf 33)) = some y6 := hf 6 _ rfl; rw [show Tryz.prog.cellsOf 33 = 1 by kernel_rfl] at this; exact this
      have hD : d = .agg [y0.1, y1.1, y2.1, y3.1, y4.1, y5.1, y6.1] := (Prod.mk.inj hy).1
      have hbd : Rows.uptoBulk d = Rows.uptoBulk y0.1 + (Rows.uptoBulk y1.1 + (Rows.uptoBulk y2.1 + (Rows.uptoBulk y3.1 + (Rows.uptoBulk y4.1 + (Rows.uptoBulk y5.1 + (Rows.uptoBulk y6.1 + 0)))))) + 1 := by rw [hD]; rfl
      obtain ⟨z0, e0, _, w0⟩ := DataW.trod_int Tryz.underlying3 f0
      cases e0
      obtain ⟨s1, e1, x1, _⟩ := DataW.trod_string Tryz.underlying9 f1
      cases e1
      have b1 : Rows.uptoBulk y1.1 = s1.data.toList.length + 1 := by rw [x1]; rfl
      have l1 : (tl s1).length = s1.data.toList.length := rfl
      obtain ⟨ty2, e2, t2a, t2b, t2c⟩ := open_ty (d := y2.1) (p := y2.2) f2
      simp only [tyC, List.cons.injEq, and_true] at e2
      obtain ⟨rfl, rfl, rfl⟩ := e2
      obtain ⟨ex3, h3a, h3b⟩ := open_ex (Rows.uptoBulk y3.1) n' _ y3.1 y3.2 f3 (Nat.le_refl _) (by omega)
      obtain ⟨N3, e3⟩ := exRep_nd h3a
      rw [e3] at h3a
      simp only [Nd.cs, List.cons.injEq, and_true] at e3
      obtain ⟨rfl, rfl, rfl, rfl, rfl, rfl, rfl, rfl⟩ := e3
      obtain ⟨ex4, h4a, h4b⟩ := open_ex (Rows.uptoBulk y4.1) n' _ y4.1 y4.2 f4 (Nat.le_refl _) (by omega)
      obtain ⟨N4, e4⟩ := exRep_nd h4a
      rw [e4] at h4a
      simp only [Nd.cs, List.cons.injEq, and_true] at e4
      obtain ⟨rfl, rfl, rfl, rfl, rfl, rfl, rfl, rfl⟩ := e4
      obtain ⟨body, a5, n5, k5, xs5, e5, g5a, g5b, g5c, g5d, g5e, g5f⟩ := open_rows (Tryz.underlying33) (show Tryz.prog.cellsOf 35 = 23 by kernel_rfl) (by decide) (stRep ⟨W, DoW W⟩) sizeS (d := y5.1) (p := y5.2) f5 fun n cs' D Pl ht hlt => ih n cs' D Pl ht (by omega) (by omega)
      obtain ⟨alt, a6, n6, k6, xs6, e6, g6a, g6b, g6c, g6d, g6e, g6f⟩ := open_rows (Tryz.underlying33) (show Tryz.prog.cellsOf 35 = 23 by kernel_rfl) (by decide) (stRep ⟨W, DoW W⟩) sizeS (d := y6.1) (p := y6.2) f6 fun n cs' D Pl ht hlt => ih n cs' D Pl ht (by omega) (by omega)
      subst e5 e6
      rw [sum_sizeSs] at g5e g6e
      refine ⟨.mk z0 (tl s1) ty2 ex3 ex4 body alt, ?_, by simp only [sizeS]; omega⟩
      have := st_mk (m := ⟨W, DoW W⟩) (⟨z0, tl s1, ty2, N3, N4, a5, n5, k5, a6, n6, k6⟩ : Sd) h3a h4a g5a g5b g6a g6b ⟨i64_of w0, by simp only [big]; omega, ⟨t2a, t2b, by simp only [big]; omega⟩, by simp only [big]; omega, by simp only [big]; omega⟩ g5c g6c (sts_of_at body xs5 g5d) (sts_of_at alt xs6 g6d)
      simp only [Sd.cs, bs_tl] at this
      exact this
set_option maxRecDepth 100000 in
/-- A statement that came in. -/
theorem open_stmt {v : Value} {d : DataW H} {p : List MemPlace} {r : Reach} {b0 : Nat} (hval : Value.okWide Tryz.prog W r b0 35 v) (h : DataW.Trod enc Tryz.prog W 0 (fun _ => true) true 35 v d p) (hb : Rows.uptoBulk d ≤ 1048576) :
    ∃ (e : St) (cs : List Value), v = .agg ⟨cs⟩ ∧ stRep ⟨W, DoW W⟩ e cs ∧ sizeS e ≤ 1048576 := by
  obtain ⟨⟨cs'⟩, rfl, hsz⟩ := okWide_struct Tryz.underlying35 hval
  obtain ⟨fuel, h⟩ := h
  obtain ⟨e, h1, h2⟩ := open_st (Rows.uptoBulk d) fuel cs' d p h (Nat.le_refl _) hb
  exact ⟨e, cs', rfl, h1, Nat.le_trans h2 hb⟩
end
end Go.Proofs.YtalalcpefggniaaGreatDoor.E

namespace Go.Proofs.YtalalcpefggniaaGreatDoor.E
open Go

/-- The parts of a method and of a class, as 'few' reads them. -/
structure FewM (Y : Mc) (mm : Mem) : Prop where
  pl : Y.pl ≤ big
  st : ∀ m', leM mm m' → AnsN 16 [.v (.slice Y.a Y.l Y.cp), .v (.int .i64 600)] m' 0 big
structure FewC (X : Cc) (mm : Mem) : Prop where
  il : X.il ≤ big
  fn : X.fn ≤ big
  ml : X.ml ≤ big
  st : ∀ m', leM mm m' → AnsN 16 [.v (.slice X.sa X.sl X.sc), .v (.int .i64 600)] m' 0 big
  me : ∀ m', leM mm m' → ∀ j, j < X.ml → ∃ Y : Mc, (Rd m' (ptrAt X.ma (j * 8)) Y.cs ∧ X.ma ≠ none) ∧ FewM Y m'
/-- Bounded. -/
def FewB (l : List Cd) : Prop := ∀ d ∈ l, sizeSs d.init ≤ big ∧ ∀ e ∈ d.methods, sizeSs e.body ≤ big
theorem few_c {d : Cd} {cs : List Value} {m : Mem} (h : cdRep m d cs) (hB : sizeSs d.init ≤ big ∧ ∀ e ∈ d.methods, sizeSs e.body ≤ big) : ∃ X : Cc, cs = X.cs ∧ FewC X m := by
  obtain ⟨x, ⟨rfl, _, _, _⟩, ⟨hil, hic, hfn, hfc, hml, hmc, hsl, hsc⟩, hok, r1, r2, xs, ys, r3, s3, r4, s4⟩ := h
  have up : ∀ {f : FuncId} {args : List SV} {m : Mem} {lo : Int} {hi : Nat}, hi ≤ big → AnsN f args m lo hi → AnsN f args m lo big := fun hh h => h.mono fun r H' m' _ ⟨a, b, x, c, d, e⟩ => ⟨a, b, x, c, d, by omega⟩
  refine ⟨x, rfl, ⟨by rw [hil]; exact hok.il, by rw [hfn]; exact hok.fn, by rw [hml]; exact hok.ml, fun m' hle => up hB.1 (stmts_all _ d.init x.sa x.sl x.sc ys 600 m' (Nat.le_refl _) hB.1 (by decide) (by decide) hsl (by rw [hsl]; exact hok.l) (Rds_upM hle r4) (stsRep_upM hle s4)), fun m' hle j hj => ?_⟩⟩
  have hjm : j < d.methods.length := by omega
  have hrep := mdRep_up hle (ls_at s3 hjm)
  have hrd := Rds_cells (Rds_upM hle r3) hj
  have hb := hB.2 _ (List.getElem_mem hjm)
  obtain ⟨Y, ⟨e1, _⟩, ⟨e2, e3, e4, e5⟩, hk2, _, zs, r5, s5⟩ := md_parts hrep
  rw [e1] at hrd
  exact ⟨Y, hrd, ⟨by rw [e2]; exact hk2.pl, fun m2 hle2 => up hb (stmts_all _ _ Y.a Y.l Y.cp zs 600 m2 (Nat.le_refl _) hb (by decide) (by decide) e4 (by rw [e4]; exact hk2.l) (Rds_upM hle2 r5) (stsRep_upM hle2 s5))⟩⟩
theorem few_spec (l : List Cd) (p : Option Addr) (n c : Nat) (m : Mem) (h : prRep m l p n c) (hB : FewB l) : FnH Tryz.prog 9 [.v (.slice p n c)] ⟨[], []⟩ m fun r H' m' => leM m m' ∧ H' = ⟨[], []⟩ ∧ ∃ b : Bool, r = .v (.bool b) := by
  obtain ⟨hl, hcp, hn, xs, hr, hs⟩ := h
  refine enter cfN puN Tryz.func9 rfl rfl (by kernel_rfl) rfl ?_ ?_
  · simp only [go_sem, ↓imp_tf, ↓imp_ft, ↓reduceIte]
  · simp only [go_sem, ↓imp_tf, ↓imp_ft, ↓reduceIte]
    refine WP_loop puN (fun x : Nat × Int × Mem => ⟨[⟨0, [], .v (.slice p n c)⟩, ⟨3, [], .v (.int .i64 x.2.1)⟩, ⟨4, [], .v (.int .i64 x.1)⟩], [], [], [], 0, x.2.2⟩)
      (fun x => leM m x.2.2 ∧ x.1 ≤ n ∧ 0 ≤ x.2.1 ∧ x.2.1 ≤ 10000000) (fun x => n - x.1) (0, 0, m) (by kernel_rfl) (fun _ _ => Nat.le_refl _) (fun x hx => hx.1) (fun _ => ?_) ?_ ?_ ?_
    · simp only [go_sem, ↓imp_tf, ↓imp_ft, ↓reduceIte]
    · simp only [go_sem, ↓imp_tf, ↓imp_ft, ↓reduceIte]
      rfl
    · exact ⟨.inl rfl, Nat.zero_le _, Int.le_refl _, by simp only; omega⟩
    · rintro ⟨k, x, mm⟩ ⟨h1, h2, h3, h4⟩
      simp only at h1 h2 h3 h4
      have hy : ∀ (hk : k < l.length), ∃ X : Cc, (Rd mm (ptrAt p (k * 7)) X.cs ∧ p ≠ none) ∧ FewC X mm := fun hk => by
        have hrep := cdRep_up h1 (ls_at hs hk)
        have hrd := Rds_cells (Rds_upM h1 hr) (by omega : k < n)
        obtain ⟨X, e1, e2⟩ := few_c hrep (hB _ (List.getElem_mem hk))
        rw [e1] at hrd
        exact ⟨X, hrd, e2⟩
      simp only [go_sem, ↓imp_tf, ↓imp_ft, ↓reduceIte]
      refine ⟨fun hlt => ?_, fun hge => ⟨h1, _, rfl⟩⟩
      have hk : k < l.length := by clear hy; omega
      refine Exists.elim (hy hk) fun X hy1 => ?_
      clear hy
      have hp := hy1.1.2
      have hR := fun m' (hle : leM mm m') => Rd_upM hle hy1.1.1
      have hI := hy1.2
      clear hy1
      refine WP_draw (.hoist 0 (.hoist 1 (.hoist 2 (.hoist 3 (.hoist 4 (.hoist 5 (.hoist 6 (.hoist 7 (.hoist 8 (.hoist 9 (.hoist 10 (.hoist 11 (.hoist 12 (.hoist 13 (.hoist 14 (.hoist 15 (.hoist 16 (.hoist 17 (.hoist 18 (.hoist 19 (.alt 20 [14, 13, 12, 11, 10, 9, 8, 7, 6, 5, 4, 3, 2, 1, 0] (.hoist 21 (.hoist 22 (.hoist 23 .done))) .stop))))))))))))))))))))) puN (by kernel_rfl) (by kernel_rfl) ?_
      simp only [go_sem, ↓imp_tf, ↓imp_ft, ↓reduceIte]
      refine ⟨⟨by clear hR hI; omega, hlt.1, hp⟩, Rd_ptr (hR mm (.inl rfl)), .slice X.fa X.fn X.fc, Rd_sub (hR mm (.inl rfl)) 4 1 (Nat.le_of_ble_eq_true rfl), ?_⟩
      simp only [go_sem, ↓imp_tf, ↓imp_ft, ↓reduceIte]
      have bf := hI.fn
      have bi := hI.il
      have bm := hI.ml
      simp only [big] at bf bi bm
      refine ⟨by clear hR hI; unfold I64; omega, ⟨by clear hR hI; omega, hlt.1, hp⟩, Rd_ptr (hR mm (.inl rfl)), .slice X.ia X.il X.ic, Rd_sub (hR mm (.inl rfl)) 3 1 (Nat.le_of_ble_eq_true rfl), ?_⟩
      simp only [go_sem, ↓imp_tf, ↓imp_ft, ↓reduceIte]
      refine ⟨by clear hR hI; unfold I64; omega, ⟨by clear hR hI; omega, hlt.1, hp⟩, Rd_ptr (hR mm (.inl rfl)), .slice X.sa X.sl X.sc, Rd_sub (hR mm (.inl rfl)) 6 1 (Nat.le_of_ble_eq_true rfl), by kernel_rfl, FnV_of ((hI.st mm (.inl rfl)).mono ?_)⟩
      rintro r H' m1 hm1 ⟨l1, rfl, y1, rfl, g1, g2⟩
      simp only [big] at g2
      simp only [go_sem, ↓imp_tf, ↓imp_ft, ↓reduceIte]
      refine ⟨by simp only [l1, and_self], by clear hR hI; unfold I64; omega, by clear hR hI; unfold I64; omega, ?_⟩
      refine WP_loop puN (fun z : Nat × Int × Mem => ⟨[⟨0, [], .v (.slice p n c)⟩, ⟨3, [], .v (.int .i64 z.2.1)⟩, ⟨4, [], .v (.int .i64 k)⟩, ⟨5, [], .v (.int .i64 z.1)⟩], [], [], [], 0, z.2.2⟩)
        (fun z => leM m1 z.2.2 ∧ z.1 ≤ X.ml ∧ 0 ≤ z.2.1 ∧ z.2.1 ≤ 10000000) (fun z => X.ml - z.1) (0, x + (1 + X.fn + X.il + y1), m1) (by kernel_rfl) (fun _ _ => Nat.le_refl _) (fun z hz => hz.1) (fun _ => ?_) ?_ ?_ ?_
      · simp only [go_sem, ↓imp_tf, ↓imp_ft, ↓reduceIte]
      · simp only [go_sem, ↓imp_tf, ↓imp_ft, ↓reduceIte]
        rfl
      · exact ⟨.inl rfl, Nat.zero_le _, by clear hR hI; simp only; omega, by clear hR hI; simp only; omega⟩
      · rintro ⟨j, z, mj⟩ ⟨q1, q2, q3, q4⟩
        simp only at q1 q2 q3 q4
        have kj := leM_tr l1 q1
        have hme := hI.me mj kj j
        simp only [go_sem, ↓imp_tf, ↓imp_ft, ↓reduceIte]
        refine ⟨⟨by clear hR hI hme; omega, hlt.1, hp⟩, Rd_ptr (hR mm (.inl rfl)), .slice X.ma X.ml X.mc, Rd_sub (hR mj kj) 5 1 (Nat.le_of_ble_eq_true rfl), ?_⟩
        simp only [go_sem, ↓imp_tf, ↓imp_ft, ↓reduceIte]
        refine ⟨fun hjt => ?_, fun hjg => ?_⟩
        · have hj : j < X.ml := by clear hR hI hme; omega
          refine Exists.elim (hme hj) fun Y hy1 => ?_
          clear hme
          have hRY := fun m' (hle : leM mj m') => Rd_upM hle hy1.1.1
          have hpY := hy1.1.2
          have hIY := hy1.2
          clear hy1
          have bp := hIY.pl
          simp only [big] at bp
          refine WP_draw (.hoist 0 (.hoist 1 (.hoist 2 (.hoist 3 (.hoist 4 (.hoist 5 (.hoist 6 (.hoist 7 (.hoist 8 (.hoist 9 (.hoist 10 (.hoist 11 (.hoist 12 (.hoist 13 (.hoist 14 (.hoist 15 (.hoist 16 (.hoist 17 (.hoist 18 (.hoist 19 (.hoist 20 (.alt 21 [11, 10, 9, 8, 7, 6, 5, 4, 3, 2, 1, 0] (.hoist 22 (.hoist 23 (.hoist 24 .done))) .stop)))))))))))))))))))))) puN (by kernel_rfl) (by kernel_rfl) ?_
          simp only [go_sem, ↓imp_tf, ↓imp_ft, ↓reduceIte]
          refine ⟨⟨by clear hR hI hRY hIY; omega, hlt.1, hp⟩, Rd_ptr (hR mm (.inl rfl)), .slice X.ma X.ml X.mc, Rd_sub (hR mj kj) 5 1 (Nat.le_of_ble_eq_true rfl), ?_⟩
          simp only [go_sem, ↓imp_tf, ↓imp_ft, ↓reduceIte]
          refine ⟨⟨by clear hR hI hRY hIY; omega, hjt.1, hpY⟩, Rd_ptr (hRY mj (.inl rfl)), .slice Y.pa Y.pl Y.pc, Rd_sub (hRY mj (.inl rfl)) 5 1 (Nat.le_of_ble_eq_true rfl), ?_⟩
          simp only [go_sem, ↓imp_tf, ↓imp_ft, ↓reduceIte]
          refine ⟨by clear hR hI hRY hIY; unfold I64; omega, ⟨by clear hR hI hRY hIY; omega, hlt.1, hp⟩, Rd_ptr (hR mm (.inl rfl)), .slice X.ma X.ml X.mc, Rd_sub (hR mj kj) 5 1 (Nat.le_of_ble_eq_true rfl), ?_⟩
          simp only [go_sem, ↓imp_tf, ↓imp_ft, ↓reduceIte]
          refine ⟨⟨by clear hR hI hRY hIY; omega, hjt.1, hpY⟩, Rd_ptr (hRY mj (.inl rfl)), .slice Y.a Y.l Y.cp, Rd_sub (hRY mj (.inl rfl)) 7 1 (Nat.le_of_ble_eq_true rfl), by kernel_rfl, FnV_of ((hIY.st mj (.inl rfl)).mono ?_)⟩
          clear hR hI hRY hIY
          rintro r H' m2 hm2 ⟨l2, rfl, y2, rfl, g3, g4⟩
          simp only [big] at g4
          simp only [go_sem, ↓imp_tf, ↓imp_ft, ↓reduceIte]
          refine ⟨by simp only [l2, and_self], by unfold I64; omega, by unfold I64; omega, by unfold I64; omega, (j + 1, z + (1 + Y.pl + y2), m2), ⟨⟨rfl, by simp⟩, .inl rfl⟩, ⟨leM_tr q1 l2, by simp only; omega, by simp only; omega, by simp only; omega⟩, by simp only; omega⟩
        · clear hR hI hme
          exact ⟨by unfold I64; simp only [big] at hn; omega, (k + 1, z, mj), ⟨⟨rfl, by simp⟩, .inl rfl⟩, ⟨leM_tr h1 kj, by simp only; omega, q3, q4⟩, by simp only; omega⟩
end Go.Proofs.YtalalcpefggniaaGreatDoor.E

namespace Go.Proofs.YtalalcpefggniaaGreatDoor.E
open Go Go.ChangeShapes Go.WideShapes Go.ChangeAt Go.RowKit

/-- The nodes of a method, of a class. -/
def sizeM (d : Md) : Nat := 1 + d.params.length + sizeSs d.body
def sizeC (d : Cd) : Nat := 1 + d.fields.length + d.ifs.length + sizeSs d.init + (d.methods.map sizeM).sum
section
variable {H : Type} {enc : TypeId × Value → H} {W : World}
set_option maxRecDepth 100000 in
theorem open_pc {fuel : Nat} {cs : List Value} {d : DataW H} {p : List MemPlace} (h : DataW.trod enc Tryz.prog W 0 (fun _ => true) true fuel 140 cs = some (d, p)) (hb : Rows.uptoBulk d ≤ 1048576) : ∃ f : Pc, cs = f.cs ∧ PcOk f := by
  obtain ⟨ys, n', _, hy, hlen, hyl, hf⟩ := DataW.trod_struct Tryz.underlying140 h
  rw [show Tryz.prog.cellsOf 140 = 4 by kernel_rfl] at hlen
  match cs, hlen with
  | [c0, c1, c2, c3], _ =>
  match ys, hyl with
  | [y0, y1], _ =>
    have f0 : DataW.trod enc Tryz.prog W 0 (fun _ => true) true n' 29 [c0, c1, c2] = some y0 := by have this : DataW.trod enc Tryz.prog W 0 (fun _ => true) true n' 29 (([c0, c1, c2, c3].drop 0).take (Tryz.prog.cellsOf 29)) = some y0 := hf 0 _ rfl; rw [show Tryz.prog.cellsOf 29 = 3 by kernel_rfl] at this; exact this
    have f1 : DataW.trod enc Tryz.prog W 0 (fun _ => true) true n' 9 [c3] = some y1 := by have this : DataW.trod enc Tryz.prog W 0 (fun _ => true) true n' 9 (([c0, c1, c2, c3].drop 3).take (Tryz.prog.cellsOf 9)) = some y1 := hf 1 _ rfl; rw [show Tryz.prog.cellsOf 9 = 1 by kernel_rfl] at this; exact this
    have hD : d = .agg [y0.1, y1.1] := (Prod.mk.inj hy).1
    have hbd : Rows.uptoBulk d = Rows.uptoBulk y0.1 + (Rows.uptoBulk y1.1 + 0) + 1 := by rw [hD]; rfl
    obtain ⟨ty0, e0, t0a, t0b, t0c⟩ := open_ty (d := y0.1) (p := y0.2) f0
    simp only [tyC, List.cons.injEq, and_true] at e0
    obtain ⟨rfl, rfl, rfl⟩ := e0
    obtain ⟨s1, e1, x1, _⟩ := DataW.trod_string Tryz.underlying9 f1
    cases e1
    have b1 : Rows.uptoBulk y1.1 = s1.data.toList.length + 1 := by rw [x1]; rfl
    have l1 : (tl s1).length = s1.data.toList.length := rfl
    exact ⟨⟨ty0, tl s1⟩, by simp only [Pc.cs, bs_tl], ⟨⟨t0a, t0b, by simp only [big]; omega⟩, by simp only [big]; omega⟩⟩
set_option maxRecDepth 100000 in
theorem open_fc {fuel : Nat} {cs : List Value} {d : DataW H} {p : List MemPlace} (h : DataW.trod enc Tryz.prog W 0 (fun _ => true) true fuel 85 cs = some (d, p)) (hb : Rows.uptoBulk d ≤ 1048576) : ∃ f : Fc, cs = f.cs ∧ FcOk f := by
  obtain ⟨ys, n', _, hy, hlen, hyl, hf⟩ := DataW.trod_struct Tryz.underlying85 h
  rw [show Tryz.prog.cellsOf 85 = 5 by kernel_rfl] at hlen
  match cs, hlen with
  | [c0, c1, c2, c3, c4], _ =>
  match ys, hyl with
  | [y0, y1, y2], _ =>
    have f0 : DataW.trod enc Tryz.prog W 0 (fun _ => true) true n' 3 [c0] = some y0 := by have this : DataW.trod enc Tryz.prog W 0 (fun _ => true) true n' 3 (([c0, c1, c2, c3, c4].drop 0).take (Tryz.prog.cellsOf 3)) = some y0 := hf 0 _ rfl; rw [show Tryz.prog.cellsOf 3 = 1 by kernel_rfl] at this; exact this
    have f1 : DataW.trod enc Tryz.prog W 0 (fun _ => true) true n' 29 [c1, c2, c3] = some y1 := by have this : DataW.trod enc Tryz.prog W 0 (fun _ => true) true n' 29 (([c0, c1, c2, c3, c4].drop 1).take (Tryz.prog.cellsOf 29)) = some y1 := hf 1 _ rfl; rw [show Tryz.prog.cellsOf 29 = 3 by kernel_rfl] at this; exact this
    have f2 : DataW.trod enc Tryz.prog W 0 (fun _ => true) true n' 9 [c4] = some y2 := by have this : DataW.trod enc Tryz.prog W 0 (fun _ => true) true n' 9 (([c0, c1, c2, c3, c4].drop 4).take (Tryz.prog.cellsOf 9)) = some y2 := hf 2 _ rfl; rw [show Tryz.prog.cellsOf 9 = 1 by kernel_rfl] at this; exact this
    have hD : d = .agg [y0.1, y1.1, y2.1] := (Prod.mk.inj hy).1
    have hbd : Rows.uptoBulk d = Rows.uptoBulk y0.1 + (Rows.uptoBulk y1.1 + (Rows.uptoBulk y2.1 + 0)) + 1 := by rw [hD]; rfl
    obtain ⟨z0, e0, _, w0⟩ := DataW.trod_int Tryz.underlying3 f0
    cases e0
    obtain ⟨ty1, e1, t1a, t1b, t1c⟩ := open_ty (d := y1.1) (p := y1.2) f1
    simp only [tyC, List.cons.injEq, and_true] at e1
    obtain ⟨rfl, rfl, rfl⟩ := e1
    obtain ⟨s2, e2, x2, _⟩ := DataW.trod_string Tryz.underlying9 f2
    cases e2
    have b2 : Rows.uptoBulk y2.1 = s2.data.toList.length + 1 := by rw [x2]; rfl
    have l2 : (tl s2).length = s2.data.toList.length := rfl
    exact ⟨⟨z0, ty1, tl s2⟩, by simp only [Fc.cs, bs_tl], ⟨i64_of w0, ⟨t1a, t1b, by simp only [big]; omega⟩, by simp only [big]; omega⟩⟩
set_option maxHeartbeats 2000000 in
set_option maxRecDepth 100000 in
theorem open_md {fuel : Nat} {cs : List Value} {d : DataW H} {p : List MemPlace} (h : DataW.trod enc Tryz.prog W 0 (fun _ => true) true fuel 58 cs = some (d, p)) (hb : Rows.uptoBulk d ≤ 1048576) : ∃ f : Md, mdRep ⟨W, DoW W⟩ f cs ∧ sizeM f ≤ Rows.uptoBulk d := by
  obtain ⟨ys, n', _, hy, hlen, hyl, hf⟩ := DataW.trod_struct Tryz.underlying58 h
  rw [show Tryz.prog.cellsOf 58 = 8 by kernel_rfl] at hlen
  match cs, hlen with
  | [c0, c1, c2, c3, c4, c5, c6, c7], _ =>
  match ys, hyl with
  | [y0, y1, y2, y3, y4, y5], _ =>
    have f0 : DataW.trod enc Tryz.prog W 0 (fun _ => true) true n' 3 [c0] = some y0 := by have this : DataW.trod enc Tryz.prog W 0 (fun _ => true) true n' 3 (([c0, c1, c2, c3, c4, c5, c6, c7].drop 0).take (Tryz.prog.cellsOf 3)) = some y0 := hf 0 _ rfl; rw [show Tryz.prog.cellsOf 3 = 1 by kernel_rfl] at this; exact this
    have f1 : DataW.trod enc Tryz.prog W 0 (fun _ => true) true n' 29 [c1, c2, c3] = some y1 := by have this : DataW.trod enc Tryz.prog W 0 (fun _ => true) true n' 29 (([c0, c1, c2, c3, c4, c5, c6, c7].drop 1).take (Tryz.prog.cellsOf 29)) = some y1 := hf 1 _ rfl; rw [show Tryz.prog.cellsOf 29 = 3 by kernel_rfl] at this; exact this
    have f2 : DataW.trod enc Tryz.prog W 0 (fun _ => true) true n' 9 [c4] = some y2 := by have this : DataW.trod enc Tryz.prog W 0 (fun _ => true) true n' 9 (([c0, c1, c2, c3, c4, c5, c6, c7].drop 4).take (Tryz.prog.cellsOf 9)) = some y2 := hf 2 _ rfl; rw [show Tryz.prog.cellsOf 9 = 1 by kernel_rfl] at this; exact this
    have f3 : DataW.trod enc Tryz.prog W 0 (fun _ => true) true n' 56 [c5] = some y3 := by have this : DataW.trod enc Tryz.prog W 0 (fun _ => true) true n' 56 (([c0, c1, c2, c3, c4, c5, c6, c7].drop 5).take (Tryz.prog.cellsOf 56)) = some y3 := hf 3 _ rfl; rw [show Tryz.prog.cellsOf 56 = 1 by kernel_rfl] at this; exact this
    have f4 : DataW.trod enc Tryz.prog W 0 (fun _ => true) true n' 4 [c6] = some y4 := by have this : DataW.trod enc Tryz.prog W 0 (fun _ => true) true n' 4 (([c0, c1, c2, c3, c4, c5, c6, c7].drop 6).take (Tryz.prog.cellsOf 4)) = some y4 := hf 4 _ rfl; rw [show Tryz.prog.cellsOf 4 = 1 by kernel_rfl] at this; exact this
    have f5 : DataW.trod enc Tryz.prog W 0 (fun _ => true) true n' 33 [c7] = some y5 := by have this : DataW.trod enc Tryz.prog W 0 (fun _ => true) true n' 33 (([c0, c1, c2, c3, c4, c5, c6, c7].drop 7).take (Tryz.prog.cellsOf 33)) = some y5 := hf 5 _ rfl; rw [show Tryz.prog.cellsOf 33 = 1 by kernel_rfl] at this; exact this
    have hD : d = .agg [y0.1, y1.1, y2.1, y3.1, y4.1, y5.1] := (Prod.mk.inj hy).1
    have hbd : Rows.uptoBulk d = Rows.uptoBulk y0.1 + (Rows.uptoBulk y1.1 + (Rows.uptoBulk y2.1 + (Rows.uptoBulk y3.1 + (Rows.uptoBulk y4.1 + (Rows.uptoBulk y5.1 + 0))))) + 1 := by rw [hD]; rfl
    obtain ⟨z0, e0, _, w0⟩ := DataW.trod_int Tryz.underlying3 f0
    cases e0
    obtain ⟨ty1, e1, t1a, t1b, t1c⟩ := open_ty (d := y1.1) (p := y1.2) f1
    simp only [tyC, List.cons.injEq, and_true] at e1
    obtain ⟨rfl, rfl, rfl⟩ := e1
    obtain ⟨s2, e2, x2, _⟩ := DataW.trod_string Tryz.underlying9 f2
    cases e2
    have b2 : Rows.uptoBulk y2.1 = s2.data.toList.length + 1 := by rw [x2]; rfl
    have l2 : (tl s2).length = s2.data.toList.length := rfl
    obtain ⟨z4, e4, _⟩ := DataW.trod_bool Tryz.underlying4 f4
    cases e4
    obtain ⟨ps, a3, n3, k3, xs3, e3, g3a, g3b, g3c, g3d, g3e, g3f⟩ := open_rows (Tryz.underlying56) (show Tryz.prog.cellsOf 140 = 4 by kernel_rfl) (by decide) (fun (f : Pc) cs => cs = f.cs ∧ PcOk f) (fun _ => 0) (d := y3.1) (p := y3.2) f3 fun n cs' D Pl ht hlt => by
      obtain ⟨f, h1, h2⟩ := open_pc ht (by omega)
      exact ⟨f, ⟨h1, h2⟩, Nat.zero_le _⟩
    obtain ⟨body, a5, n5, k5, xs5, e5, g5a, g5b, g5c, g5d, g5e, g5f⟩ := open_rows (Tryz.underlying33) (show Tryz.prog.cellsOf 35 = 23 by kernel_rfl) (by decide) (stRep ⟨W, DoW W⟩) sizeS (d := y5.1) (p := y5.2) f5 fun n cs' D Pl ht hlt => open_st (Rows.uptoBulk D) n cs' D Pl ht (Nat.le_refl _) (by omega)
    subst e3 e5
    rw [sum_sizeSs] at g5e
    have hx3 : xs3 = flat Pc.cs ps := flat_of (f := Pc.cs) (sz := 4) (fun _ => rfl) ps xs3 (by rw [g3c.1, g3a]) fun i hi => (g3d i hi).1
    refine ⟨⟨z0, ty1, tl s2, ps, z4, body⟩, ⟨⟨z0, ty1, tl s2, a3, n3, k3, z4, a5, n5, k5⟩, ⟨by simp only [Mc.cs, bs_tl], rfl, rfl, rfl, rfl⟩, ⟨g3a, g3b, g5a, g5b⟩, ⟨i64_of w0, ⟨t1a, t1b, by simp only [big]; omega⟩, by simp only [big]; omega, by simp only [big]; omega, fun q hq => ?_, by simp only [big]; omega⟩, by rw [← hx3]; exact g3c, xs5, g5c, sts_of_at body xs5 g5d⟩, by simp only [sizeM]; omega⟩
    obtain ⟨i, hi, rfl⟩ := List.getElem_of_mem hq
    exact (g3d i hi).2
set_option maxHeartbeats 2000000 in
set_option maxRecDepth 100000 in
theorem open_cd {fuel : Nat} {cs : List Value} {d : DataW H} {p : List MemPlace} (h : DataW.trod enc Tryz.prog W 0 (fun _ => true) true fuel 55 cs = some (d, p)) (hb : Rows.uptoBulk d ≤ 1048576) : ∃ f : Cd, (cdRep ⟨W, DoW W⟩ f cs ∧ sizeSs f.init ≤ big ∧ ∀ e ∈ f.methods, sizeSs e.body ≤ big) ∧ sizeC f ≤ Rows.uptoBulk d := by
  obtain ⟨ys, n', _, hy, hlen, hyl, hf⟩ := DataW.trod_struct Tryz.underlying55 h
  rw [show Tryz.prog.cellsOf 55 = 7 by kernel_rfl] at hlen
  match cs, hlen with
  | [c0, c1, c2, c3, c4, c5, c6], _ =>
  match ys, hyl with
  | [y0, y1, y2, y3, y4, y5, y6], _ =>
    have f0 : DataW.trod enc Tryz.prog W 0 (fun _ => true) true n' 3 [c0] = some y0 := by have this : DataW.trod enc Tryz.prog W 0 (fun _ => true) true n' 3 (([c0, c1, c2, c3, c4, c5, c6].drop 0).take (Tryz.prog.cellsOf 3)) = some y0 := hf 0 _ rfl; rw [show Tryz.prog.cellsOf 3 = 1 by kernel_rfl] at this; exact this
    have f1 : DataW.trod enc Tryz.prog W 0 (fun _ => true) true n' 9 [c1] = some y1 := by have this : DataW.trod enc Tryz.prog W 0 (fun _ => true) true n' 9 (([c0, c1, c2, c3, c4, c5, c6].drop 1).take (Tryz.prog.cellsOf 9)) = some y1 := hf 1 _ rfl; rw [show Tryz.prog.cellsOf 9 = 1 by kernel_rfl] at this; exact this
    have f2 : DataW.trod enc Tryz.prog W 0 (fun _ => true) true n' 9 [c2] = some y2 := by have this : DataW.trod enc Tryz.prog W 0 (fun _ => true) true n' 9 (([c0, c1, c2, c3, c4, c5, c6].drop 2).take (Tryz.prog.cellsOf 9)) = some y2 := hf 2 _ rfl; rw [show Tryz.prog.cellsOf 9 = 1 by kernel_rfl] at this; exact this
    have f3 : DataW.trod enc Tryz.prog W 0 (fun _ => true) true n' 51 [c3] = some y3 := by have this : DataW.trod enc Tryz.prog W 0 (fun _ => true) true n' 51 (([c0, c1, c2, c3, c4, c5, c6].drop 3).take (Tryz.prog.cellsOf 51)) = some y3 := hf 3 _ rfl; rw [show Tryz.prog.cellsOf 51 = 1 by kernel_rfl] at this; exact this
    have f4 : DataW.trod enc Tryz.prog W 0 (fun _ => true) true n' 52 [c4] = some y4 := by have this : DataW.trod enc Tryz.prog W 0 (fun _ => true) true n' 52 (([c0, c1, c2, c3, c4, c5, c6].drop 4).take (Tryz.prog.cellsOf 52)) = some y4 := hf 4 _ rfl; rw [show Tryz.prog.cellsOf 52 = 1 by kernel_rfl] at this; exact this
    have f5 : DataW.trod enc Tryz.prog W 0 (fun _ => true) true n' 53 [c5] = some y5 := by have this : DataW.trod enc Tryz.prog W 0 (fun _ => true) true n' 53 (([c0, c1, c2, c3, c4, c5, c6].drop 5).take (Tryz.prog.cellsOf 53)) = some y5 := hf 5 _ rfl; rw [show Tryz.prog.cellsOf 53 = 1 by kernel_rfl] at this; exact this
    have f6 : DataW.trod enc Tryz.prog W 0 (fun _ => true) true n' 33 [c6] = some y6 := by have this : DataW.trod enc Tryz.prog W 0 (fun _ => true) true n' 33 (([c0, c1, c2, c3, c4, c5, c6].drop 6).take (Tryz.prog.cellsOf 33)) = some y6 := hf 6 _ rfl; rw [show Tryz.prog.cellsOf 33 = 1 by kernel_rfl] at this; exact this
    have hD : d = .agg [y0.1, y1.1, y2.1, y3.1, y4.1, y5.1, y6.1] := (Prod.mk.inj hy).1
    have hbd : Rows.uptoBulk d = Rows.uptoBulk y0.1 + (Rows.uptoBulk y1.1 + (Rows.uptoBulk y2.1 + (Rows.uptoBulk y3.1 + (Rows.uptoBulk y4.1 + (Rows.uptoBulk y5.1 + (Rows.uptoBulk y6.1 + 0)))))) + 1 := by rw [hD]; rfl
    obtain ⟨z0, e0, _, w0⟩ := DataW.trod_int Tryz.underlying3 f0
    cases e0
    obtain ⟨s1, e1, x1, _⟩ := DataW.trod_string Tryz.underlying9 f1
    cases e1
    have b1 : Rows.uptoBulk y1.1 = s1.data.toList.length + 1 := by rw [x1]; rfl
    have l1 : (tl s1).length = s1.data.toList.length := rfl
    obtain ⟨s2, e2, x2, _⟩ := DataW.trod_string Tryz.underlying9 f2
    cases e2
    have b2 : Rows.uptoBulk y2.1 = s2.data.toList.length + 1 := by rw [x2]; rfl
    have l2 : (tl s2).length = s2.data.toList.length := rfl
    obtain ⟨ifs, a3, n3, k3, xs3, e3, g3a, g3b, g3c, g3d, g3e, g3f⟩ := open_rows (Tryz.underlying51) (show Tryz.prog.cellsOf 9 = 1 by kernel_rfl) (by decide) (fun (s : List UInt8) cs => cs = [.string (bs s)] ∧ s.length ≤ big) (fun _ => 0) (d := y3.1) (p := y3.2) f3 fun n cs' D Pl ht hlt => by
      obtain ⟨s, h1, h2, _⟩ := DataW.trod_string Tryz.underlying9 ht
      have h3 : Rows.uptoBulk D = s.data.toList.length + 1 := by rw [(Prod.mk.inj h2).1]; rfl
      have h4 : (tl s).length = s.data.toList.length := rfl
      exact ⟨tl s, ⟨by rw [h1, bs_tl], by simp only [big]; omega⟩, Nat.zero_le _⟩
    obtain ⟨fds, a4, n4, k4, xs4, e4, g4a, g4b, g4c, g4d, g4e, g4f⟩ := open_rows (Tryz.underlying52) (show Tryz.prog.cellsOf 85 = 5 by kernel_rfl) (by decide) (fun (f : Fc) cs => cs = f.cs ∧ FcOk f) (fun _ => 0) (d := y4.1) (p := y4.2) f4 fun n cs' D Pl ht hlt => by
      obtain ⟨f, h1, h2⟩ := open_fc ht (by omega)
      exact ⟨f, ⟨h1, h2⟩, Nat.zero_le _⟩
    obtain ⟨mds, a5, n5, k5, xs5, e5, g5a, g5b, g5c, g5d, g5e, g5f⟩ := open_rows (Tryz.underlying53) (show Tryz.prog.cellsOf 58 = 8 by kernel_rfl) (by decide) (fun (f : Md) cs => mdRep ⟨W, DoW W⟩ f cs ∧ sizeSs f.body ≤ big) sizeM (d := y5.1) (p := y5.2) f5 fun n cs' D Pl ht hlt => by
      obtain ⟨f, h1, h2⟩ := open_md ht (by omega)
      have h3 : sizeSs f.body ≤ sizeM f := by simp only [sizeM]; omega
      exact ⟨f, ⟨h1, by simp only [big]; omega⟩, h2⟩
    obtain ⟨init, a6, n6, k6, xs6, e6, g6a, g6b, g6c, g6d, g6e, g6f⟩ := open_rows (Tryz.underlying33) (show Tryz.prog.cellsOf 35 = 23 by kernel_rfl) (by decide) (stRep ⟨W, DoW W⟩) sizeS (d := y6.1) (p := y6.2) f6 fun n cs' D Pl ht hlt => open_st (Rows.uptoBulk D) n cs' D Pl ht (Nat.le_refl _) (by omega)
    subst e3 e4 e5 e6
    rw [sum_sizeSs] at g6e
    have hx3 : xs3 = strs ifs := by
      have h1 : xs3 = flat (fun s => [.string (bs s)]) ifs := flat_of (f := fun s => [.string (bs s)]) (sz := 1) (fun _ => rfl) ifs xs3 (by rw [g3c.1, g3a]) fun i hi => (g3d i hi).1
      rw [h1, flat_strs]
    have hx4 : xs4 = flat Fc.cs fds := flat_of (f := Fc.cs) (sz := 5) (fun _ => rfl) fds xs4 (by rw [g4c.1, g4a]) fun i hi => (g4d i hi).1
    refine ⟨⟨z0, tl s1, tl s2, ifs, fds, mds, init⟩, ⟨⟨⟨z0, tl s1, tl s2, a3, n3, k3, a4, n4, k4, a5, n5, k5, a6, n6, k6⟩, ⟨by simp only [Cc.cs, bs_tl], rfl, rfl, rfl⟩, ⟨g3a, g3b, g4a, g4b, g5a, g5b, g6a, g6b⟩, ?_, by rw [← hx3]; exact g3c, by rw [← hx4]; exact g4c, xs5, xs6, g5c, ls_of_at mds xs5 fun i hi => (g5d i hi).1, g6c, sts_of_at init xs6 g6d⟩, by simp only [big]; omega, fun e he => ?_⟩, by simp only [sizeC]; omega⟩
    · refine ⟨i64_of w0, by simp only [big]; omega, by simp only [big]; omega, by simp only [big]; omega, fun q hq => ?_, by simp only [big]; omega, fun q hq => ?_, by simp only [big]; omega, by simp only [big]; omega⟩
      · obtain ⟨i, hi, rfl⟩ := List.getElem_of_mem hq
        exact (g3d i hi).2
      · obtain ⟨i, hi, rfl⟩ := List.getElem_of_mem hq
        exact (g4d i hi).2
    · obtain ⟨i, hi, rfl⟩ := List.getElem_of_mem he
      exact (g5d i hi).2
set_option maxRecDepth 100000 in
/-- A program that came in. -/
theorem open_prog {v : Value} {d : DataW H} {p : List MemPlace} {r : Reach} {b0 : Nat} (hval : Value.okWide Tryz.prog W r b0 22 v) (h : DataW.Trod enc Tryz.prog W 0 (fun _ => true) true 22 v d p) (hb : Rows.uptoBulk d ≤ 1048576) :
    ∃ (l : List Cd) (a : Option Addr) (n c : Nat), v = .slice a n c ∧ prRep ⟨W, DoW W⟩ l a n c ∧ FewB l ∧ (l.map sizeC).sum ≤ 1048576 := by
  obtain ⟨va, vl, vc, hv0⟩ := okWide_slice Tryz.underlying22 hval
  have hcv : v.cells.toList = [v] := by rw [hv0]; rfl
  obtain ⟨fuel, h⟩ := h
  rw [hcv] at h
  obtain ⟨l, a, n, c, xs, e, ga, gb, gc, gd, ge, gf⟩ := open_rows (Tryz.underlying22) (show Tryz.prog.cellsOf 55 = 7 by kernel_rfl) (by decide) (fun (f : Cd) cs => cdRep ⟨W, DoW W⟩ f cs ∧ sizeSs f.init ≤ big ∧ ∀ e ∈ f.methods, sizeSs e.body ≤ big) sizeC h fun n cs' D Pl ht hlt => by
    obtain ⟨f, h1, h2⟩ := open_cd ht (by omega)
    exact ⟨f, h1, h2⟩
  refine ⟨l, a, n, c, e, ⟨ga, gb, by simp only [big]; omega, xs, gc, ls_of_at l xs fun i hi => (gd i hi).1⟩, fun q hq => ?_, by omega⟩
  obtain ⟨i, hi, rfl⟩ := List.getElem_of_mem hq
  exact (gd i hi).2
end

end Go.Proofs.YtalalcpefggniaaGreatDoor.E

namespace Go.Proofs.YtalalcpefggniaaGreatDoor.E
open Go

theorem smp1 (nm : List UInt8) (ty : Ty) (tN eN : Nd) (a : Option Addr) (l cp : Nat) (b : Option Addr) (l2 cp2 : Nat) (m : Mem) (u : Nat) (acc : List Tk) (hty : ty.dim ≤ 1000) (TX : List Tk)
    (hX : ∀ m' u acc, leM m m' → acc.length + TX.length ≤ cap → WrT 41 [.v (.agg ⟨eN.cs⟩)] m' u acc TX)
    (hb : acc.length + (typT ty.dim ty.base ty.name ++ [nm1 nm] ++ [sg [61]] ++ TX).length ≤ cap) : WrT 185 [.v (.agg ⟨Sd.cs ⟨1, nm, ty, tN, eN, a, l, cp, b, l2, cp2⟩⟩)] m u acc (typT ty.dim ty.base ty.name ++ [nm1 nm] ++ [sg [61]] ++ TX) := by
  simp only [List.length_append, List.length_cons, List.length_nil, cap] at hb
  refine enter cfW puW Tryz.func185 rfl rfl (by kernel_rfl) rfl ?_ ?_
  · simp only [go_sem, ↓imp_tf, ↓imp_ft, ↓reduceIte, Sd.cs, Nd.cs, Int.reduceEq, decide_true, decide_false]
  · simp only [go_sem, ↓imp_tf, ↓imp_ft, ↓reduceIte, Sd.cs, Nd.cs, Int.reduceEq, decide_true, decide_false]
    refine ⟨by kernel_rfl, FnV_of ((FnH_den (typ_spec ty.dim ty.base ty.name m u (acc) hty (by clear hX; first | omega | (simp only [room1, List.length_append, List.length_cons, List.length_nil, cap]; omega) | (simp only [cap]; omega))) (fun V => rfl)).mono ?_)⟩
    rintro r H' m1 hm1 ⟨l1, rfl, u1, hu1, rfl⟩
    simp only [go_sem, ↓imp_tf, ↓imp_ft, ↓reduceIte, Sd.cs, Nd.cs, Int.reduceEq, decide_true, decide_false]
    refine ⟨hu1, ?_⟩
    refine ⟨by kernel_rfl, FnV_of ((name_spec nm m1 u1 (acc ++ typT ty.dim ty.base ty.name) (by clear hX; first | omega | (simp only [room1, List.length_append, List.length_cons, List.length_nil, cap]; omega) | (simp only [cap]; omega))).mono ?_)⟩
    rintro r H' m2 hm2 ⟨l2, rfl, u2, hu2, rfl⟩
    simp only [go_sem, ↓imp_tf, ↓imp_ft, ↓reduceIte, Sd.cs, Nd.cs, Int.reduceEq, decide_true, decide_false]
    refine ⟨hu2, ?_⟩
    refine ⟨by kernel_rfl, fun a3 c3 w3 hw3 hc3 r3 => FnV_of ((sign1 [61] a3 c3 w3 u2 (acc ++ typT ty.dim ty.base ty.name ++ [nm1 nm]) r3 (by clear hX; first | omega | (simp only [room1, List.length_append, List.length_cons, List.length_nil, cap]; omega) | (simp only [cap]; omega))).mono ?_)⟩
    rintro r H' m3 hm3 ⟨l3, rfl, u3, hu3, rfl⟩
    simp only [go_sem, ↓imp_tf, ↓imp_ft, ↓reduceIte, Sd.cs, Nd.cs, Int.reduceEq, decide_true, decide_false]
    refine ⟨hu3, ?_⟩
    refine ⟨by kernel_rfl, FnV_of ((FnH_den (hX m3 u3 (acc ++ typT ty.dim ty.base ty.name ++ [nm1 nm] ++ [sg [61]]) (leM_tr (leM_tr (leM_tr (leM_tr (.inl rfl : leM m m) l1) l2) (.inr hw3)) l3) (by clear hX; first | omega | (simp only [room1, List.length_append, List.length_cons, List.length_nil, cap]; omega) | (simp only [cap]; omega))) (fun V => rfl)).mono ?_)⟩
    clear hX
    rintro r H' m4 hm4 ⟨l4, rfl, u4, hu4, rfl⟩
    simp only [go_sem, ↓imp_tf, ↓imp_ft, ↓reduceIte, Sd.cs, Nd.cs, Int.reduceEq, decide_true, decide_false]
    refine ⟨hu4, (leM_tr (leM_tr (leM_tr (leM_tr (leM_tr (.inl rfl : leM m m) l1) l2) (.inr hw3)) l3) l4), u4, by omega, ?_⟩
    simp only [List.append_assoc, List.cons_append, List.nil_append]
theorem smp2 (nm : List UInt8) (ty : Ty) (tN eN : Nd) (a : Option Addr) (l cp : Nat) (b : Option Addr) (l2 cp2 : Nat) (m : Mem) (u : Nat) (acc : List Tk) (TX TG : List Tk)
    (hX : ∀ m' u acc, leM m m' → acc.length + TX.length ≤ cap → WrT 41 [.v (.agg ⟨eN.cs⟩)] m' u acc TX)
    (hG : ∀ m' u acc, leM m m' → acc.length + TG.length ≤ cap → WrT 41 [.v (.agg ⟨tN.cs⟩)] m' u acc TG)
    (hb : acc.length + (TG ++ [sg [61]] ++ TX).length ≤ cap) : WrT 185 [.v (.agg ⟨Sd.cs ⟨2, nm, ty, tN, eN, a, l, cp, b, l2, cp2⟩⟩)] m u acc (TG ++ [sg [61]] ++ TX) := by
  simp only [List.length_append, List.length_cons, List.length_nil, cap] at hb
  refine enter cfW puW Tryz.func185 rfl rfl (by kernel_rfl) rfl ?_ ?_
  · simp only [go_sem, ↓imp_tf, ↓imp_ft, ↓reduceIte, Sd.cs, Nd.cs, Int.reduceEq, decide_true, decide_false]
  · simp only [go_sem, ↓imp_tf, ↓imp_ft, ↓reduceIte, Sd.cs, Nd.cs, Int.reduceEq, decide_true, decide_false]
    refine ⟨by kernel_rfl, FnV_of ((FnH_den (hG m u (acc) (.inl rfl : leM m m) (by clear hX hG; first | omega | (simp only [room1, List.length_append, List.length_cons, List.length_nil, cap]; omega) | (simp only [cap]; omega))) (fun V => rfl)).mono ?_)⟩
    clear hG
    rintro r H' m1 hm1 ⟨l1, rfl, u1, hu1, rfl⟩
    simp only [go_sem, ↓imp_tf, ↓imp_ft, ↓reduceIte, Sd.cs, Nd.cs, Int.reduceEq, decide_true, decide_false]
    refine ⟨hu1, ?_⟩
    refine ⟨by kernel_rfl, fun a2 c2 w2 hw2 hc2 r2 => FnV_of ((sign1 [61] a2 c2 w2 u1 (acc ++ TG) r2 (by clear hX; first | omega | (simp only [room1, List.length_append, List.length_cons, List.length_nil, cap]; omega) | (simp only [cap]; omega))).mono ?_)⟩
    rintro r H' m2 hm2 ⟨l2, rfl, u2, hu2, rfl⟩
    simp only [go_sem, ↓imp_tf, ↓imp_ft, ↓reduceIte, Sd.cs, Nd.cs, Int.reduceEq, decide_true, decide_false]
    refine ⟨hu2, ?_⟩
    refine ⟨by kernel_rfl, FnV_of ((FnH_den (hX m2 u2 (acc ++ TG ++ [sg [61]]) (leM_tr (leM_tr (leM_tr (.inl rfl : leM m m) l1) (.inr hw2)) l2) (by clear hX; first | omega | (simp only [room1, List.length_append, List.length_cons, List.length_nil, cap]; omega) | (simp only [cap]; omega))) (fun V => rfl)).mono ?_)⟩
    clear hX
    rintro r H' m3 hm3 ⟨l3, rfl, u3, hu3, rfl⟩
    simp only [go_sem, ↓imp_tf, ↓imp_ft, ↓reduceIte, Sd.cs, Nd.cs, Int.reduceEq, decide_true, decide_false]
    refine ⟨hu3, (leM_tr (leM_tr (leM_tr (leM_tr (.inl rfl : leM m m) l1) (.inr hw2)) l2) l3), u3, by omega, ?_⟩
    simp only [List.append_assoc, List.cons_append, List.nil_append]
theorem smp3 (nm : List UInt8) (ty : Ty) (tN eN : Nd) (a : Option Addr) (l cp : Nat) (b : Option Addr) (l2 cp2 : Nat) (m : Mem) (u : Nat) (acc : List Tk) (TX : List Tk)
    (hX : ∀ m' u acc, leM m m' → acc.length + TX.length ≤ cap → WrT 41 [.v (.agg ⟨eN.cs⟩)] m' u acc TX)
    (hb : acc.length + (TX).length ≤ cap) : WrT 185 [.v (.agg ⟨Sd.cs ⟨3, nm, ty, tN, eN, a, l, cp, b, l2, cp2⟩⟩)] m u acc (TX) := by
  simp only [List.length_append, List.length_cons, List.length_nil, cap] at hb
  refine enter cfW puW Tryz.func185 rfl rfl (by kernel_rfl) rfl ?_ ?_
  · simp only [go_sem, ↓imp_tf, ↓imp_ft, ↓reduceIte, Sd.cs, Nd.cs, Int.reduceEq, decide_true, decide_false]
  · simp only [go_sem, ↓imp_tf, ↓imp_ft, ↓reduceIte, Sd.cs, Nd.cs, Int.reduceEq, decide_true, decide_false]
    refine ⟨by kernel_rfl, FnV_of ((FnH_den (hX m u (acc) (.inl rfl : leM m m) (by clear hX; first | omega | (simp only [room1, List.length_append, List.length_cons, List.length_nil, cap]; omega) | (simp only [cap]; omega))) (fun V => rfl)).mono ?_)⟩
    clear hX
    rintro r H' m1 hm1 ⟨l1, rfl, u1, hu1, rfl⟩
    simp only [go_sem, ↓imp_tf, ↓imp_ft, ↓reduceIte, Sd.cs, Nd.cs, Int.reduceEq, decide_true, decide_false]
    refine ⟨hu1, (leM_tr (.inl rfl : leM m m) l1), u1, by omega, ?_⟩
    simp only [List.append_assoc, List.cons_append, List.nil_append]
theorem smp6a (nm : List UInt8) (ty : Ty) (tN eN : Nd) (a : Option Addr) (l cp : Nat) (b : Option Addr) (l2 cp2 : Nat) (m : Mem) (u : Nat) (acc : List Tk) (hc : (eN.k = 0) = False) (TX : List Tk)
    (hX : ∀ m' u acc, leM m m' → acc.length + TX.length ≤ cap → WrT 41 [.v (.agg ⟨eN.cs⟩)] m' u acc TX)
    (hb : acc.length + ([kw [114, 101, 116, 117, 114, 110]] ++ TX).length ≤ cap) : WrT 185 [.v (.agg ⟨Sd.cs ⟨6, nm, ty, tN, eN, a, l, cp, b, l2, cp2⟩⟩)] m u acc ([kw [114, 101, 116, 117, 114, 110]] ++ TX) := by
  simp only [List.length_append, List.length_cons, List.length_nil, cap] at hb
  refine enter cfW puW Tryz.func185 rfl rfl (by kernel_rfl) rfl ?_ ?_
  · simp only [go_sem, ↓imp_tf, ↓imp_ft, ↓reduceIte, Sd.cs, Nd.cs, Int.reduceEq, decide_true, decide_false, hc]
  · simp only [go_sem, ↓imp_tf, ↓imp_ft, ↓reduceIte, Sd.cs, Nd.cs, Int.reduceEq, decide_true, decide_false, hc]
    refine ⟨by kernel_rfl, fun a1 c1 w1 hw1 hc1 r1 => FnV_of ((word1 [114, 101, 116, 117, 114, 110] a1 c1 w1 u (acc) r1 (by clear hX; first | omega | (simp only [room1, List.length_append, List.length_cons, List.length_nil, cap]; omega) | (simp only [cap]; omega))).mono ?_)⟩
    rintro r H' m1 hm1 ⟨l1, rfl, u1, hu1, rfl⟩
    simp only [go_sem, ↓imp_tf, ↓imp_ft, ↓reduceIte, Sd.cs, Nd.cs, Int.reduceEq, decide_true, decide_false, hc]
    refine ⟨hu1, ?_⟩
    refine ⟨by kernel_rfl, FnV_of ((FnH_den (hX m1 u1 (acc ++ [kw [114, 101, 116, 117, 114, 110]]) (leM_tr (leM_tr (.inl rfl : leM m m) (.inr hw1)) l1) (by clear hX; first | omega | (simp only [room1, List.length_append, List.length_cons, List.length_nil, cap]; omega) | (simp only [cap]; omega))) (fun V => rfl)).mono ?_)⟩
    clear hX
    rintro r H' m2 hm2 ⟨l2, rfl, u2, hu2, rfl⟩
    simp only [go_sem, ↓imp_tf, ↓imp_ft, ↓reduceIte, Sd.cs, Nd.cs, Int.reduceEq, decide_true, decide_false, hc]
    refine ⟨hu2, (leM_tr (leM_tr (leM_tr (.inl rfl : leM m m) (.inr hw1)) l1) l2), u2, by omega, ?_⟩
    simp only [List.append_assoc, List.cons_append, List.nil_append]
theorem smp6b (nm : List UInt8) (ty : Ty) (tN eN : Nd) (a : Option Addr) (l cp : Nat) (b : Option Addr) (l2 cp2 : Nat) (m : Mem) (u : Nat) (acc : List Tk) (hc : (eN.k = 0) = True)
    (hb : acc.length + ([kw [114, 101, 116, 117, 114, 110]]).length ≤ cap) : WrT 185 [.v (.agg ⟨Sd.cs ⟨6, nm, ty, tN, eN, a, l, cp, b, l2, cp2⟩⟩)] m u acc ([kw [114, 101, 116, 117, 114, 110]]) := by
  simp only [List.length_append, List.length_cons, List.length_nil, cap] at hb
  refine enter cfW puW Tryz.func185 rfl rfl (by kernel_rfl) rfl ?_ ?_
  · simp only [go_sem, ↓imp_tf, ↓imp_ft, ↓reduceIte, Sd.cs, Nd.cs, Int.reduceEq, decide_true, decide_false, hc]
  · simp only [go_sem, ↓imp_tf, ↓imp_ft, ↓reduceIte, Sd.cs, Nd.cs, Int.reduceEq, decide_true, decide_false, hc]
    refine ⟨by kernel_rfl, fun a1 c1 w1 hw1 hc1 r1 => FnV_of ((word1 [114, 101, 116, 117, 114, 110] a1 c1 w1 u (acc) r1 (by first | omega | (simp only [room1, List.length_append, List.length_cons, List.length_nil, cap]; omega) | (simp only [cap]; omega))).mono ?_)⟩
    rintro r H' m1 hm1 ⟨l1, rfl, u1, hu1, rfl⟩
    simp only [go_sem, ↓imp_tf, ↓imp_ft, ↓reduceIte, Sd.cs, Nd.cs, Int.reduceEq, decide_true, decide_false, hc]
    refine ⟨hu1, (leM_tr (leM_tr (.inl rfl : leM m m) (.inr hw1)) l1), u1, by omega, ?_⟩
    simp only [List.append_assoc, List.cons_append, List.nil_append]
theorem smp7 (nm : List UInt8) (ty : Ty) (tN eN : Nd) (a : Option Addr) (l cp : Nat) (b : Option Addr) (l2 cp2 : Nat) (m : Mem) (u : Nat) (acc : List Tk) (TX : List Tk)
    (hX : ∀ m' u acc, leM m m' → acc.length + TX.length ≤ cap → WrT 41 [.v (.agg ⟨eN.cs⟩)] m' u acc TX)
    (hb : acc.length + ([kw [116, 104, 114, 111, 119]] ++ TX).length ≤ cap) : WrT 185 [.v (.agg ⟨Sd.cs ⟨7, nm, ty, tN, eN, a, l, cp, b, l2, cp2⟩⟩)] m u acc ([kw [116, 104, 114, 111, 119]] ++ TX) := by
  simp only [List.length_append, List.length_cons, List.length_nil, cap] at hb
  refine enter cfW puW Tryz.func185 rfl rfl (by kernel_rfl) rfl ?_ ?_
  · simp only [go_sem, ↓imp_tf, ↓imp_ft, ↓reduceIte, Sd.cs, Nd.cs, Int.reduceEq, decide_true, decide_false]
  · simp only [go_sem, ↓imp_tf, ↓imp_ft, ↓reduceIte, Sd.cs, Nd.cs, Int.reduceEq, decide_true, decide_false]
    refine ⟨by kernel_rfl, fun a1 c1 w1 hw1 hc1 r1 => FnV_of ((word1 [116, 104, 114, 111, 119] a1 c1 w1 u (acc) r1 (by clear hX; first | omega | (simp only [room1, List.length_append, List.length_cons, List.length_nil, cap]; omega) | (simp only [cap]; omega))).mono ?_)⟩
    rintro r H' m1 hm1 ⟨l1, rfl, u1, hu1, rfl⟩
    simp only [go_sem, ↓imp_tf, ↓imp_ft, ↓reduceIte, Sd.cs, Nd.cs, Int.reduceEq, decide_true, decide_false]
    refine ⟨hu1, ?_⟩
    refine ⟨by kernel_rfl, FnV_of ((FnH_den (hX m1 u1 (acc ++ [kw [116, 104, 114, 111, 119]]) (leM_tr (leM_tr (.inl rfl : leM m m) (.inr hw1)) l1) (by clear hX; first | omega | (simp only [room1, List.length_append, List.length_cons, List.length_nil, cap]; omega) | (simp only [cap]; omega))) (fun V => rfl)).mono ?_)⟩
    clear hX
    rintro r H' m2 hm2 ⟨l2, rfl, u2, hu2, rfl⟩
    simp only [go_sem, ↓imp_tf, ↓imp_ft, ↓reduceIte, Sd.cs, Nd.cs, Int.reduceEq, decide_true, decide_false]
    refine ⟨hu2, (leM_tr (leM_tr (leM_tr (.inl rfl : leM m m) (.inr hw1)) l1) l2), u2, by omega, ?_⟩
    simp only [List.append_assoc, List.cons_append, List.nil_append]
theorem smp11 (nm : List UInt8) (ty : Ty) (tN eN : Nd) (a : Option Addr) (l cp : Nat) (b : Option Addr) (l2 cp2 : Nat) (m : Mem) (u : Nat) (acc : List Tk) (TL : List Tk)
    (hL : ∀ m' u acc, leM m m' → acc.length + TL.length ≤ cap → WrT 104 [.v (.slice eN.a eN.l eN.cp)] m' u acc TL)
    (hb : acc.length + ([kw [115, 117, 112, 101, 114]] ++ TL).length ≤ cap) : WrT 185 [.v (.agg ⟨Sd.cs ⟨11, nm, ty, tN, eN, a, l, cp, b, l2, cp2⟩⟩)] m u acc ([kw [115, 117, 112, 101, 114]] ++ TL) := by
  simp only [List.length_append, List.length_cons, List.length_nil, cap] at hb
  refine enter cfW puW Tryz.func185 rfl rfl (by kernel_rfl) rfl ?_ ?_
  · simp only [go_sem, ↓imp_tf, ↓imp_ft, ↓reduceIte, Sd.cs, Nd.cs, Int.reduceEq, decide_true, decide_false]
  · simp only [go_sem, ↓imp_tf, ↓imp_ft, ↓reduceIte, Sd.cs, Nd.cs, Int.reduceEq, decide_true, decide_false]
    refine ⟨by kernel_rfl, fun a1 c1 w1 hw1 hc1 r1 => FnV_of ((word1 [115, 117, 112, 101, 114] a1 c1 w1 u (acc) r1 (by clear hL; first | omega | (simp only [room1, List.length_append, List.length_cons, List.length_nil, cap]; omega) | (simp only [cap]; omega))).mono ?_)⟩
    rintro r H' m1 hm1 ⟨l1, rfl, u1, hu1, rfl⟩
    simp only [go_sem, ↓imp_tf, ↓imp_ft, ↓reduceIte, Sd.cs, Nd.cs, Int.reduceEq, decide_true, decide_false]
    refine ⟨hu1, ?_⟩
    refine ⟨by kernel_rfl, FnV_of (((hL m1 u1 (acc ++ [kw [115, 117, 112, 101, 114]]) (leM_tr (leM_tr (.inl rfl : leM m m) (.inr hw1)) l1) (by clear hL; first | omega | (simp only [room1, List.length_append, List.length_cons, List.length_nil, cap]; omega) | (simp only [cap]; omega)))).mono ?_)⟩
    clear hL
    rintro r H' m2 hm2 ⟨l2, rfl, u2, hu2, rfl⟩
    simp only [go_sem, ↓imp_tf, ↓imp_ft, ↓reduceIte, Sd.cs, Nd.cs, Int.reduceEq, decide_true, decide_false]
    refine ⟨hu2, (leM_tr (leM_tr (leM_tr (.inl rfl : leM m m) (.inr hw1)) l1) l2), u2, by omega, ?_⟩
    simp only [List.append_assoc, List.cons_append, List.nil_append]
theorem stm4a (nm : List UInt8) (ty : Ty) (tN eN : Nd) (a : Option Addr) (l cp : Nat) (b : Option Addr) (l2 cp2 : Nat) (m : Mem) (u : Nat) (acc : List Tk) (hc : ((0 : Int) < (l2 : Int)) = True) (TR TB TA : List Tk)
    (hR : ∀ m' u acc, leM m m' → acc.length + TR.length ≤ cap → WrT 168 [.v (.agg ⟨eN.cs⟩)] m' u acc TR)
    (hB : ∀ m' u acc, leM m m' → acc.length + TB.length ≤ cap → WrT 89 [.v (.slice a l cp)] m' u acc TB)
    (hA : ∀ m' u acc, leM m m' → acc.length + TA.length ≤ cap → WrT 89 [.v (.slice b l2 cp2)] m' u acc TA)
    (hb : acc.length + ([kw [105, 102]] ++ TR ++ TB ++ [kw [101, 108, 115, 101]] ++ TA).length ≤ cap) : WrT 159 [.v (.agg ⟨Sd.cs ⟨4, nm, ty, tN, eN, a, l, cp, b, l2, cp2⟩⟩)] m u acc ([kw [105, 102]] ++ TR ++ TB ++ [kw [101, 108, 115, 101]] ++ TA) := by
  simp only [List.length_append, List.length_cons, List.length_nil, cap] at hb
  refine enter cfW puW Tryz.func159 rfl rfl (by kernel_rfl) rfl ?_ ?_
  · simp only [go_sem, ↓imp_tf, ↓imp_ft, ↓reduceIte, Sd.cs, Nd.cs, Int.reduceEq, decide_true, decide_false, hc]
  · simp only [go_sem, ↓imp_tf, ↓imp_ft, ↓reduceIte, Sd.cs, Nd.cs, Int.reduceEq, decide_true, decide_false, hc]
    refine ⟨by kernel_rfl, fun a1 c1 w1 hw1 hc1 r1 => FnV_of ((word1 [105, 102] a1 c1 w1 u (acc) r1 (by clear hR hB hA; first | omega | (simp only [room1, List.length_append, List.length_cons, List.length_nil, cap]; omega) | (simp only [cap]; omega))).mono ?_)⟩
    rintro r H' m1 hm1 ⟨l1, rfl, u1, hu1, rfl⟩
    simp only [go_sem, ↓imp_tf, ↓imp_ft, ↓reduceIte, Sd.cs, Nd.cs, Int.reduceEq, decide_true, decide_false, hc]
    refine ⟨hu1, ?_⟩
    refine ⟨by kernel_rfl, FnV_of ((FnH_den (hR m1 u1 (acc ++ [kw [105, 102]]) (leM_tr (leM_tr (.inl rfl : leM m m) (.inr hw1)) l1) (by clear hR hB hA; first | omega | (simp only [room1, List.length_append, List.length_cons, List.length_nil, cap]; omega) | (simp only [cap]; omega))) (fun V => rfl)).mono ?_)⟩
    clear hR
    rintro r H' m2 hm2 ⟨l2, rfl, u2, hu2, rfl⟩
    simp only [go_sem, ↓imp_tf, ↓imp_ft, ↓reduceIte, Sd.cs, Nd.cs, Int.reduceEq, decide_true, decide_false, hc]
    refine ⟨hu2, ?_⟩
    refine ⟨by kernel_rfl, FnV_of (((hB m2 u2 (acc ++ [kw [105, 102]] ++ TR) (leM_tr (leM_tr (leM_tr (.inl rfl : leM m m) (.inr hw1)) l1) l2) (by clear hB hA; first | omega | (simp only [room1, List.length_append, List.length_cons, List.length_nil, cap]; omega) | (simp only [cap]; omega)))).mono ?_)⟩
    clear hB
    rintro r H' m3 hm3 ⟨l3, rfl, u3, hu3, rfl⟩
    simp only [go_sem, ↓imp_tf, ↓imp_ft, ↓reduceIte, Sd.cs, Nd.cs, Int.reduceEq, decide_true, decide_false, hc]
    refine ⟨hu3, ?_⟩
    refine ⟨by kernel_rfl, fun a4 c4 w4 hw4 hc4 r4 => FnV_of ((word1 [101, 108, 115, 101] a4 c4 w4 u3 (acc ++ [kw [105, 102]] ++ TR ++ TB) r4 (by clear hA; first | omega | (simp only [room1, List.length_append, List.length_cons, List.length_nil, cap]; omega) | (simp only [cap]; omega))).mono ?_)⟩
    rintro r H' m4 hm4 ⟨l4, rfl, u4, hu4, rfl⟩
    simp only [go_sem, ↓imp_tf, ↓imp_ft, ↓reduceIte, Sd.cs, Nd.cs, Int.reduceEq, decide_true, decide_false, hc]
    refine ⟨hu4, ?_⟩
    refine ⟨by kernel_rfl, FnV_of (((hA m4 u4 (acc ++ [kw [105, 102]] ++ TR ++ TB ++ [kw [101, 108, 115, 101]]) (leM_tr (leM_tr (leM_tr (leM_tr (leM_tr (leM_tr (.inl rfl : leM m m) (.inr hw1)) l1) l2) l3) (.inr hw4)) l4) (by clear hA; first | omega | (simp only [room1, List.length_append, List.length_cons, List.length_nil, cap]; omega) | (simp only [cap]; omega)))).mono ?_)⟩
    clear hA
    rintro r H' m5 hm5 ⟨l5, rfl, u5, hu5, rfl⟩
    simp only [go_sem, ↓imp_tf, ↓imp_ft, ↓reduceIte, Sd.cs, Nd.cs, Int.reduceEq, decide_true, decide_false, hc]
    refine ⟨hu5, (leM_tr (leM_tr (leM_tr (leM_tr (leM_tr (leM_tr (leM_tr (.inl rfl : leM m m) (.inr hw1)) l1) l2) l3) (.inr hw4)) l4) l5), u5, by omega, ?_⟩
    simp only [List.append_assoc, List.cons_append, List.nil_append]
theorem stm4b (nm : List UInt8) (ty : Ty) (tN eN : Nd) (a : Option Addr) (l cp : Nat) (b : Option Addr) (l2 cp2 : Nat) (m : Mem) (u : Nat) (acc : List Tk) (hc : ((0 : Int) < (l2 : Int)) = False) (TR TB : List Tk)
    (hR : ∀ m' u acc, leM m m' → acc.length + TR.length ≤ cap → WrT 168 [.v (.agg ⟨eN.cs⟩)] m' u acc TR)
    (hB : ∀ m' u acc, leM m m' → acc.length + TB.length ≤ cap → WrT 89 [.v (.slice a l cp)] m' u acc TB)
    (hb : acc.length + ([kw [105, 102]] ++ TR ++ TB).length ≤ cap) : WrT 159 [.v (.agg ⟨Sd.cs ⟨4, nm, ty, tN, eN, a, l, cp, b, l2, cp2⟩⟩)] m u acc ([kw [105, 102]] ++ TR ++ TB) := by
  simp only [List.length_append, List.length_cons, List.length_nil, cap] at hb
  refine enter cfW puW Tryz.func159 rfl rfl (by kernel_rfl) rfl ?_ ?_
  · simp only [go_sem, ↓imp_tf, ↓imp_ft, ↓reduceIte, Sd.cs, Nd.cs, Int.reduceEq, decide_true, decide_false, hc]
  · simp only [go_sem, ↓imp_tf, ↓imp_ft, ↓reduceIte, Sd.cs, Nd.cs, Int.reduceEq, decide_true, decide_false, hc]
    refine ⟨by kernel_rfl, fun a1 c1 w1 hw1 hc1 r1 => FnV_of ((word1 [105, 102] a1 c1 w1 u (acc) r1 (by clear hR hB; first | omega | (simp only [room1, List.length_append, List.length_cons, List.length_nil, cap]; omega) | (simp only [cap]; omega))).mono ?_)⟩
    rintro r H' m1 hm1 ⟨l1, rfl, u1, hu1, rfl⟩
    simp only [go_sem, ↓imp_tf, ↓imp_ft, ↓reduceIte, Sd.cs, Nd.cs, Int.reduceEq, decide_true, decide_false, hc]
    refine ⟨hu1, ?_⟩
    refine ⟨by kernel_rfl, FnV_of ((FnH_den (hR m1 u1 (acc ++ [kw [105, 102]]) (leM_tr (leM_tr (.inl rfl : leM m m) (.inr hw1)) l1) (by clear hR hB; first | omega | (simp only [room1, List.length_append, List.length_cons, List.length_nil, cap]; omega) | (simp only [cap]; omega))) (fun V => rfl)).mono ?_)⟩
    clear hR
    rintro r H' m2 hm2 ⟨l2, rfl, u2, hu2, rfl⟩
    simp only [go_sem, ↓imp_tf, ↓imp_ft, ↓reduceIte, Sd.cs, Nd.cs, Int.reduceEq, decide_true, decide_false, hc]
    refine ⟨hu2, ?_⟩
    refine ⟨by kernel_rfl, FnV_of (((hB m2 u2 (acc ++ [kw [105, 102]] ++ TR) (leM_tr (leM_tr (leM_tr (.inl rfl : leM m m) (.inr hw1)) l1) l2) (by clear hB; first | omega | (simp only [room1, List.length_append, List.length_cons, List.length_nil, cap]; omega) | (simp only [cap]; omega)))).mono ?_)⟩
    clear hB
    rintro r H' m3 hm3 ⟨l3, rfl, u3, hu3, rfl⟩
    simp only [go_sem, ↓imp_tf, ↓imp_ft, ↓reduceIte, Sd.cs, Nd.cs, Int.reduceEq, decide_true, decide_false, hc]
    refine ⟨hu3, (leM_tr (leM_tr (leM_tr (leM_tr (.inl rfl : leM m m) (.inr hw1)) l1) l2) l3), u3, by omega, ?_⟩
    simp only [List.append_assoc, List.cons_append, List.nil_append]
theorem stm5 (nm : List UInt8) (ty : Ty) (tN eN : Nd) (a : Option Addr) (l cp : Nat) (b : Option Addr) (l2 cp2 : Nat) (m : Mem) (u : Nat) (acc : List Tk) (TR TB : List Tk)
    (hR : ∀ m' u acc, leM m m' → acc.length + TR.length ≤ cap → WrT 168 [.v (.agg ⟨eN.cs⟩)] m' u acc TR)
    (hB : ∀ m' u acc, leM m m' → acc.length + TB.length ≤ cap → WrT 89 [.v (.slice a l cp)] m' u acc TB)
    (hb : acc.length + ([kw [119, 104, 105, 108, 101]] ++ TR ++ TB).length ≤ cap) : WrT 159 [.v (.agg ⟨Sd.cs ⟨5, nm, ty, tN, eN, a, l, cp, b, l2, cp2⟩⟩)] m u acc ([kw [119, 104, 105, 108, 101]] ++ TR ++ TB) := by
  simp only [List.length_append, List.length_cons, List.length_nil, cap] at hb
  refine enter cfW puW Tryz.func159 rfl rfl (by kernel_rfl) rfl ?_ ?_
  · simp only [go_sem, ↓imp_tf, ↓imp_ft, ↓reduceIte, Sd.cs, Nd.cs, Int.reduceEq, decide_true, decide_false]
  · simp only [go_sem, ↓imp_tf, ↓imp_ft, ↓reduceIte, Sd.cs, Nd.cs, Int.reduceEq, decide_true, decide_false]
    refine ⟨by kernel_rfl, fun a1 c1 w1 hw1 hc1 r1 => FnV_of ((word1 [119, 104, 105, 108, 101] a1 c1 w1 u (acc) r1 (by clear hR hB; first | omega | (simp only [room1, List.length_append, List.length_cons, List.length_nil, cap]; omega) | (simp only [cap]; omega))).mono ?_)⟩
    rintro r H' m1 hm1 ⟨l1, rfl, u1, hu1, rfl⟩
    simp only [go_sem, ↓imp_tf, ↓imp_ft, ↓reduceIte, Sd.cs, Nd.cs, Int.reduceEq, decide_true, decide_false]
    refine ⟨hu1, ?_⟩
    refine ⟨by kernel_rfl, FnV_of ((FnH_den (hR m1 u1 (acc ++ [kw [119, 104, 105, 108, 101]]) (leM_tr (leM_tr (.inl rfl : leM m m) (.inr hw1)) l1) (by clear hR hB; first | omega | (simp only [room1, List.length_append, List.length_cons, List.length_nil, cap]; omega) | (simp only [cap]; omega))) (fun V => rfl)).mono ?_)⟩
    clear hR
    rintro r H' m2 hm2 ⟨l2, rfl, u2, hu2, rfl⟩
    simp only [go_sem, ↓imp_tf, ↓imp_ft, ↓reduceIte, Sd.cs, Nd.cs, Int.reduceEq, decide_true, decide_false]
    refine ⟨hu2, ?_⟩
    refine ⟨by kernel_rfl, FnV_of (((hB m2 u2 (acc ++ [kw [119, 104, 105, 108, 101]] ++ TR) (leM_tr (leM_tr (leM_tr (.inl rfl : leM m m) (.inr hw1)) l1) l2) (by clear hB; first | omega | (simp only [room1, List.length_append, List.length_cons, List.length_nil, cap]; omega) | (simp only [cap]; omega)))).mono ?_)⟩
    clear hB
    rintro r H' m3 hm3 ⟨l3, rfl, u3, hu3, rfl⟩
    simp only [go_sem, ↓imp_tf, ↓imp_ft, ↓reduceIte, Sd.cs, Nd.cs, Int.reduceEq, decide_true, decide_false]
    refine ⟨hu3, (leM_tr (leM_tr (leM_tr (leM_tr (.inl rfl : leM m m) (.inr hw1)) l1) l2) l3), u3, by omega, ?_⟩
    simp only [List.append_assoc, List.cons_append, List.nil_append]
theorem stm8 (nm : List UInt8) (ty : Ty) (tN eN : Nd) (a : Option Addr) (l cp : Nat) (b : Option Addr) (l2 cp2 : Nat) (m : Mem) (u : Nat) (acc : List Tk) (hty : ty.dim ≤ 1000) (TB TA : List Tk)
    (hB : ∀ m' u acc, leM m m' → acc.length + TB.length ≤ cap → WrT 89 [.v (.slice a l cp)] m' u acc TB)
    (hA : ∀ m' u acc, leM m m' → acc.length + TA.length ≤ cap → WrT 89 [.v (.slice b l2 cp2)] m' u acc TA)
    (hb : acc.length + ([kw [116, 114, 121]] ++ TB ++ [kw [99, 97, 116, 99, 104]] ++ [sg [40]] ++ typT ty.dim ty.base ty.name ++ [nm1 nm] ++ [sg [41]] ++ TA).length ≤ cap) : WrT 159 [.v (.agg ⟨Sd.cs ⟨8, nm, ty, tN, eN, a, l, cp, b, l2, cp2⟩⟩)] m u acc ([kw [116, 114, 121]] ++ TB ++ [kw [99, 97, 116, 99, 104]] ++ [sg [40]] ++ typT ty.dim ty.base ty.name ++ [nm1 nm] ++ [sg [41]] ++ TA) := by
  simp only [List.length_append, List.length_cons, List.length_nil, cap] at hb
  refine enter cfW puW Tryz.func159 rfl rfl (by kernel_rfl) rfl ?_ ?_
  · simp only [go_sem, ↓imp_tf, ↓imp_ft, ↓reduceIte, Sd.cs, Nd.cs, Int.reduceEq, decide_true, decide_false]
  · simp only [go_sem, ↓imp_tf, ↓imp_ft, ↓reduceIte, Sd.cs, Nd.cs, Int.reduceEq, decide_true, decide_false]
    refine ⟨by kernel_rfl, fun a1 c1 w1 hw1 hc1 r1 => FnV_of ((word1 [116, 114, 121] a1 c1 w1 u (acc) r1 (by clear hB hA; first | omega | (simp only [room1, List.length_append, List.length_cons, List.length_nil, cap]; omega) | (simp only [cap]; omega))).mono ?_)⟩
    rintro r H' m1 hm1 ⟨l1, rfl, u1, hu1, rfl⟩
    simp only [go_sem, ↓imp_tf, ↓imp_ft, ↓reduceIte, Sd.cs, Nd.cs, Int.reduceEq, decide_true, decide_false]
    refine ⟨hu1, ?_⟩
    refine ⟨by kernel_rfl, FnV_of (((hB m1 u1 (acc ++ [kw [116, 114, 121]]) (leM_tr (leM_tr (.inl rfl : leM m m) (.inr hw1)) l1) (by clear hB hA; first | omega | (simp only [room1, List.length_append, List.length_cons, List.length_nil, cap]; omega) | (simp only [cap]; omega)))).mono ?_)⟩
    clear hB
    rintro r H' m2 hm2 ⟨l2, rfl, u2, hu2, rfl⟩
    simp only [go_sem, ↓imp_tf, ↓imp_ft, ↓reduceIte, Sd.cs, Nd.cs, Int.reduceEq, decide_true, decide_false]
    refine ⟨hu2, ?_⟩
    refine ⟨by kernel_rfl, fun a3 c3 w3 hw3 hc3 r3 => FnV_of ((word1 [99, 97, 116, 99, 104] a3 c3 w3 u2 (acc ++ [kw [116, 114, 121]] ++ TB) r3 (by clear hA; first | omega | (simp only [room1, List.length_append, List.length_cons, List.length_nil, cap]; omega) | (simp only [cap]; omega))).mono ?_)⟩
    rintro r H' m3 hm3 ⟨l3, rfl, u3, hu3, rfl⟩
    simp only [go_sem, ↓imp_tf, ↓imp_ft, ↓reduceIte, Sd.cs, Nd.cs, Int.reduceEq, decide_true, decide_false]
    refine ⟨hu3, ?_⟩
    refine ⟨by kernel_rfl, fun a4 c4 w4 hw4 hc4 r4 => FnV_of ((sign1 [40] a4 c4 w4 u3 (acc ++ [kw [116, 114, 121]] ++ TB ++ [kw [99, 97, 116, 99, 104]]) r4 (by clear hA; first | omega | (simp only [room1, List.length_append, List.length_cons, List.length_nil, cap]; omega) | (simp only [cap]; omega))).mono ?_)⟩
    rintro r H' m4 hm4 ⟨l4, rfl, u4, hu4, rfl⟩
    simp only [go_sem, ↓imp_tf, ↓imp_ft, ↓reduceIte, Sd.cs, Nd.cs, Int.reduceEq, decide_true, decide_false]
    refine ⟨hu4, ?_⟩
    refine ⟨by kernel_rfl, FnV_of ((FnH_den (typ_spec ty.dim ty.base ty.name m4 u4 (acc ++ [kw [116, 114, 121]] ++ TB ++ [kw [99, 97, 116, 99, 104]] ++ [sg [40]]) hty (by clear hA; first | omega | (simp only [room1, List.length_append, List.length_cons, List.length_nil, cap]; omega) | (simp only [cap]; omega))) (fun V => rfl)).mono ?_)⟩
    rintro r H' m5 hm5 ⟨l5, rfl, u5, hu5, rfl⟩
    simp only [go_sem, ↓imp_tf, ↓imp_ft, ↓reduceIte, Sd.cs, Nd.cs, Int.reduceEq, decide_true, decide_false]
    refine ⟨hu5, ?_⟩
    refine ⟨by kernel_rfl, FnV_of ((name_spec nm m5 u5 (acc ++ [kw [116, 114, 121]] ++ TB ++ [kw [99, 97, 116, 99, 104]] ++ [sg [40]] ++ typT ty.dim ty.base ty.name) (by clear hA; first | omega | (simp only [room1, List.length_append, List.length_cons, List.length_nil, cap]; omega) | (simp only [cap]; omega))).mono ?_)⟩
    rintro r H' m6 hm6 ⟨l6, rfl, u6, hu6, rfl⟩
    simp only [go_sem, ↓imp_tf, ↓imp_ft, ↓reduceIte, Sd.cs, Nd.cs, Int.reduceEq, decide_true, decide_false]
    refine ⟨hu6, ?_⟩
    refine ⟨by kernel_rfl, fun a7 c7 w7 hw7 hc7 r7 => FnV_of ((sign1 [41] a7 c7 w7 u6 (acc ++ [kw [116, 114, 121]] ++ TB ++ [kw [99, 97, 116, 99, 104]] ++ [sg [40]] ++ typT ty.dim ty.base ty.name ++ [nm1 nm]) r7 (by clear hA; first | omega | (simp only [room1, List.length_append, List.length_cons, List.length_nil, cap]; omega) | (simp only [cap]; omega))).mono ?_)⟩
    rintro r H' m7 hm7 ⟨l7, rfl, u7, hu7, rfl⟩
    simp only [go_sem, ↓imp_tf, ↓imp_ft, ↓reduceIte, Sd.cs, Nd.cs, Int.reduceEq, decide_true, decide_false]
    refine ⟨hu7, ?_⟩
    refine ⟨by kernel_rfl, FnV_of (((hA m7 u7 (acc ++ [kw [116, 114, 121]] ++ TB ++ [kw [99, 97, 116, 99, 104]] ++ [sg [40]] ++ typT ty.dim ty.base ty.name ++ [nm1 nm] ++ [sg [41]]) (leM_tr (leM_tr (leM_tr (leM_tr (leM_tr (leM_tr (leM_tr (leM_tr (leM_tr (leM_tr (leM_tr (.inl rfl : leM m m) (.inr hw1)) l1) l2) (.inr hw3)) l3) (.inr hw4)) l4) l5) l6) (.inr hw7)) l7) (by clear hA; first | omega | (simp only [room1, List.length_append, List.length_cons, List.length_nil, cap]; omega) | (simp only [cap]; omega)))).mono ?_)⟩
    clear hA
    rintro r H' m8 hm8 ⟨l8, rfl, u8, hu8, rfl⟩
    simp only [go_sem, ↓imp_tf, ↓imp_ft, ↓reduceIte, Sd.cs, Nd.cs, Int.reduceEq, decide_true, decide_false]
    refine ⟨hu8, (leM_tr (leM_tr (leM_tr (leM_tr (leM_tr (leM_tr (leM_tr (leM_tr (leM_tr (leM_tr (leM_tr (leM_tr (.inl rfl : leM m m) (.inr hw1)) l1) l2) (.inr hw3)) l3) (.inr hw4)) l4) l5) l6) (.inr hw7)) l7) l8), u8, by omega, ?_⟩
    simp only [List.append_assoc, List.cons_append, List.nil_append]
theorem stm9 (nm : List UInt8) (ty : Ty) (tN eN : Nd) (a : Option Addr) (l cp : Nat) (b : Option Addr) (l2 cp2 : Nat) (m : Mem) (u : Nat) (acc : List Tk) (TR TB : List Tk)
    (hR : ∀ m' u acc, leM m m' → acc.length + TR.length ≤ cap → WrT 168 [.v (.agg ⟨eN.cs⟩)] m' u acc TR)
    (hB : ∀ m' u acc, leM m m' → acc.length + TB.length ≤ cap → WrT 89 [.v (.slice a l cp)] m' u acc TB)
    (hb : acc.length + ([kw [115, 121, 110, 99]] ++ TR ++ TB).length ≤ cap) : WrT 159 [.v (.agg ⟨Sd.cs ⟨9, nm, ty, tN, eN, a, l, cp, b, l2, cp2⟩⟩)] m u acc ([kw [115, 121, 110, 99]] ++ TR ++ TB) := by
  simp only [List.length_append, List.length_cons, List.length_nil, cap] at hb
  refine enter cfW puW Tryz.func159 rfl rfl (by kernel_rfl) rfl ?_ ?_
  · simp only [go_sem, ↓imp_tf, ↓imp_ft, ↓reduceIte, Sd.cs, Nd.cs, Int.reduceEq, decide_true, decide_false]
  · simp only [go_sem, ↓imp_tf, ↓imp_ft, ↓reduceIte, Sd.cs, Nd.cs, Int.reduceEq, decide_true, decide_false]
    refine ⟨by kernel_rfl, fun a1 c1 w1 hw1 hc1 r1 => FnV_of ((word1 [115, 121, 110, 99] a1 c1 w1 u (acc) r1 (by clear hR hB; first | omega | (simp only [room1, List.length_append, List.length_cons, List.length_nil, cap]; omega) | (simp only [cap]; omega))).mono ?_)⟩
    rintro r H' m1 hm1 ⟨l1, rfl, u1, hu1, rfl⟩
    simp only [go_sem, ↓imp_tf, ↓imp_ft, ↓reduceIte, Sd.cs, Nd.cs, Int.reduceEq, decide_true, decide_false]
    refine ⟨hu1, ?_⟩
    refine ⟨by kernel_rfl, FnV_of ((FnH_den (hR m1 u1 (acc ++ [kw [115, 121, 110, 99]]) (leM_tr (leM_tr (.inl rfl : leM m m) (.inr hw1)) l1) (by clear hR hB; first | omega | (simp only [room1, List.length_append, List.length_cons, List.length_nil, cap]; omega) | (simp only [cap]; omega))) (fun V => rfl)).mono ?_)⟩
    clear hR
    rintro r H' m2 hm2 ⟨l2, rfl, u2, hu2, rfl⟩
    simp only [go_sem, ↓imp_tf, ↓imp_ft, ↓reduceIte, Sd.cs, Nd.cs, Int.reduceEq, decide_true, decide_false]
    refine ⟨hu2, ?_⟩
    refine ⟨by kernel_rfl, FnV_of (((hB m2 u2 (acc ++ [kw [115, 121, 110, 99]] ++ TR) (leM_tr (leM_tr (leM_tr (.inl rfl : leM m m) (.inr hw1)) l1) l2) (by clear hB; first | omega | (simp only [room1, List.length_append, List.length_cons, List.length_nil, cap]; omega) | (simp only [cap]; omega)))).mono ?_)⟩
    clear hB
    rintro r H' m3 hm3 ⟨l3, rfl, u3, hu3, rfl⟩
    simp only [go_sem, ↓imp_tf, ↓imp_ft, ↓reduceIte, Sd.cs, Nd.cs, Int.reduceEq, decide_true, decide_false]
    refine ⟨hu3, (leM_tr (leM_tr (leM_tr (leM_tr (.inl rfl : leM m m) (.inr hw1)) l1) l2) l3), u3, by omega, ?_⟩
    simp only [List.append_assoc, List.cons_append, List.nil_append]
theorem stm10 (nm : List UInt8) (ty : Ty) (tN eN : Nd) (a : Option Addr) (l cp : Nat) (b : Option Addr) (l2 cp2 : Nat) (m : Mem) (u : Nat) (acc : List Tk) (TB : List Tk)
    (hB : ∀ m' u acc, leM m m' → acc.length + TB.length ≤ cap → WrT 89 [.v (.slice a l cp)] m' u acc TB)
    (hb : acc.length + (TB).length ≤ cap) : WrT 159 [.v (.agg ⟨Sd.cs ⟨10, nm, ty, tN, eN, a, l, cp, b, l2, cp2⟩⟩)] m u acc (TB) := by
  simp only [List.length_append, List.length_cons, List.length_nil, cap] at hb
  refine enter cfW puW Tryz.func159 rfl rfl (by kernel_rfl) rfl ?_ ?_
  · simp only [go_sem, ↓imp_tf, ↓imp_ft, ↓reduceIte, Sd.cs, Nd.cs, Int.reduceEq, decide_true, decide_false]
  · simp only [go_sem, ↓imp_tf, ↓imp_ft, ↓reduceIte, Sd.cs, Nd.cs, Int.reduceEq, decide_true, decide_false]
    refine ⟨by kernel_rfl, FnV_of (((hB m u (acc) (.inl rfl : leM m m) (by clear hB; first | omega | (simp only [room1, List.length_append, List.length_cons, List.length_nil, cap]; omega) | (simp only [cap]; omega)))).mono ?_)⟩
    clear hB
    rintro r H' m1 hm1 ⟨l1, rfl, u1, hu1, rfl⟩
    simp only [go_sem, ↓imp_tf, ↓imp_ft, ↓reduceIte, Sd.cs, Nd.cs, Int.reduceEq, decide_true, decide_false]
    refine ⟨hu1, (leM_tr (.inl rfl : leM m m) l1), u1, by omega, ?_⟩
    simp only [List.append_assoc, List.cons_append, List.nil_append]
theorem stmd (k : Int) (nm : List UInt8) (ty : Ty) (tN eN : Nd) (a : Option Addr) (l cp : Nat) (b : Option Addr) (l2 cp2 : Nat) (m : Mem) (u : Nat) (acc : List Tk) (hk : ∀ j : Int, j = 4 ∨ j = 5 ∨ j = 8 ∨ j = 9 ∨ j = 10 → (k = j) = False) (TZ : List Tk)
    (hZ : ∀ m' u acc, leM m m' → acc.length + TZ.length ≤ cap → WrT 185 [.v (.agg ⟨Sd.cs ⟨k, nm, ty, tN, eN, a, l, cp, b, l2, cp2⟩⟩)] m' u acc TZ)
    (hb : acc.length + (TZ ++ [sg [59]]).length ≤ cap) : WrT 159 [.v (.agg ⟨Sd.cs ⟨k, nm, ty, tN, eN, a, l, cp, b, l2, cp2⟩⟩)] m u acc (TZ ++ [sg [59]]) := by
  simp only [List.length_append, List.length_cons, List.length_nil, cap] at hb
  have e4 := hk 4 (by decide)
  have e5 := hk 5 (by decide)
  have e8 := hk 8 (by decide)
  have e9 := hk 9 (by decide)
  have e10 := hk 10 (by decide)
  refine enter cfW puW Tryz.func159 rfl rfl (by kernel_rfl) rfl ?_ ?_
  · simp only [go_sem, ↓imp_tf, ↓imp_ft, ↓reduceIte, Sd.cs, Nd.cs, Int.reduceEq, decide_true, decide_false, e4, e5, e8, e9, e10]
  · simp only [go_sem, ↓imp_tf, ↓imp_ft, ↓reduceIte, Sd.cs, Nd.cs, Int.reduceEq, decide_true, decide_false, e4, e5, e8, e9, e10]
    refine ⟨by kernel_rfl, FnV_of ((FnH_den (hZ m u (acc) (.inl rfl : leM m m) (by clear hZ; first | omega | (simp only [room1, List.length_append, List.length_cons, List.length_nil, cap]; omega) | (simp only [cap]; omega))) (fun V => rfl)).mono ?_)⟩
    clear hZ
    rintro r H' m1 hm1 ⟨l1, rfl, u1, hu1, rfl⟩
    simp only [go_sem, ↓imp_tf, ↓imp_ft, ↓reduceIte, Sd.cs, Nd.cs, Int.reduceEq, decide_true, decide_false, e4, e5, e8, e9, e10]
    refine ⟨hu1, ?_⟩
    refine ⟨by kernel_rfl, fun a2 c2 w2 hw2 hc2 r2 => FnV_of ((sign1 [59] a2 c2 w2 u1 (acc ++ TZ) r2 (by first | omega | (simp only [room1, List.length_append, List.length_cons, List.length_nil, cap]; omega) | (simp only [cap]; omega))).mono ?_)⟩
    rintro r H' m2 hm2 ⟨l2, rfl, u2, hu2, rfl⟩
    simp only [go_sem, ↓imp_tf, ↓imp_ft, ↓reduceIte, Sd.cs, Nd.cs, Int.reduceEq, decide_true, decide_false, e4, e5, e8, e9, e10]
    refine ⟨hu2, (leM_tr (leM_tr (leM_tr (.inl rfl : leM m m) l1) (.inr hw2)) l2), u2, by omega, ?_⟩
    simp only [List.append_assoc, List.cons_append, List.nil_append]
end Go.Proofs.YtalalcpefggniaaGreatDoor.E

namespace Go.Proofs.YtalalcpefggniaaGreatDoor.E
open Go

def StW (s : St) (m : Mem) : Prop := ∀ (cs : List Value) (m' : Mem) (u : Nat) (acc : List Tk), leM m m' → stRep m' s cs → acc.length + (stmtT s).length ≤ cap → WrT 159 [.v (.agg ⟨cs⟩)] m' u acc (stmtT s)
theorem stmtsT_map : ∀ (l : List St), stmtsT l = (l.map stmtT).flatten
  | [] => by simp [stmtsT]
  | s :: r => by simp [stmtsT, stmtsT_map r]
theorem blockW_spec (l : List St) (a : Option Addr) (n c : Nat) (xs : List Value) (m : Mem) (u : Nat) (acc : List Tk) (hl : l.length = n) (hn : n ≤ big) (hr : Rds m a n 23 xs) (hs : stsRep m l xs) (hS : ∀ e ∈ l, StW e m)
    (hb : acc.length + (brT (stmtsT l)).length ≤ cap) : WrT 89 [.v (.slice a n c)] m u acc (brT (stmtsT l)) := by
  rw [stmtsT_map] at hb ⊢
  have hb0 : acc.length + ((l.map stmtT).flatten).length + 2 ≤ cap := by
    simp only [brT, List.length_cons, List.length_append, List.length_nil] at hb; omega
  clear hb
  have hs0 := fun (a : Option Addr) (c : Nat) (m' : Mem) (hr : Rds m' a 1 1 (strs [[123]])) => sign1 [123] a c m' u acc hr (by simp only [cap] at hb0; omega)
  refine enter cfW puW Tryz.func89 rfl rfl (by kernel_rfl) rfl ?_ ?_
  · simp only [go_sem, ↓imp_tf, ↓imp_ft, ↓reduceIte]
  · simp only [go_sem, ↓imp_tf, ↓imp_ft, ↓reduceIte]
    refine ⟨by kernel_rfl, fun a0 c0 m1 hm1 hc hr1 => FnV_of ((hs0 a0 c0 m1 hr1).mono ?_)⟩
    clear hs0
    rintro r H' m2 hm2 ⟨hle2, rfl, u', hu, rfl⟩
    simp only [go_sem, ↓imp_tf, ↓imp_ft, ↓reduceIte]
    refine ⟨hu, ?_⟩
    have hle0 : leM m m2 := leM_tr (.inr hm1) hle2
    refine WP_loop puW (fun x : Nat × Nat × List Tk × Mem => ⟨[⟨0, [], .box 0 0⟩, ⟨9, [], .v (.slice a n c)⟩, ⟨10, [], .v (.int .i64 n)⟩, ⟨11, [], .v (.int .i64 x.1)⟩], [], [⟨0, 64, [.vec 1 (u' + x.2.1)]⟩], [⟨1, u' + x.2.1, 79, 4, x.2.2.1.length, tkCells x.2.2.1⟩], 100, x.2.2.2⟩)
      (fun x => leM m2 x.2.2.2 ∧ x.1 ≤ n ∧ x.2.2.1 = acc ++ [sg [123]] ++ ((l.take x.1).map stmtT).flatten) (fun x => n - x.1) (0, 0, acc ++ [sg [123]], m2) (by kernel_rfl) (fun _ _ => Nat.le_of_ble_eq_true rfl) (fun x hx => hx.1) (fun _ => ?_) ?_ ?_ ?_
    · simp only [go_sem, ↓imp_tf, ↓imp_ft, ↓reduceIte]
    · simp only [go_sem, ↓imp_tf, ↓imp_ft, ↓reduceIte]
      exact ⟨rfl, rfl, rfl⟩
    · exact ⟨.inl rfl, Nat.zero_le _, by simp⟩
    · rintro ⟨k, v, acc', mm⟩ ⟨h1, h2, h3⟩
      simp only at h1 h2 h3
      have hal : acc'.length = acc.length + 1 + (((l.take k).map stmtT).flatten).length := by rw [h3]; simp only [List.length_append, List.length_singleton]
      have hcl := flat_le (f := stmtT) l k
      have hs2 := fun (a : Option Addr) (c : Nat) (m' : Mem) (hr : Rds m' a 1 1 (strs [[125]])) => sign1 [125] a c m' (u' + v) acc' hr (by simp only [cap] at hb0; omega)
      have hx : ∀ (hk : k < l.length), ∃ x : Sd, (Rd mm (ptrAt a (k * 23)) x.cs ∧ a ≠ none) ∧ WrT 159 [.v (.agg ⟨x.cs⟩)] mm (u' + v) acc' (stmtT l[k]) := fun hk => by
        have hrep := stRep_upM (leM_tr hle0 h1) (sts_at hs hk)
        obtain ⟨x, hx⟩ := stRep_sd hrep
        have hrd := Rds_cells (Rds_upM (leM_tr hle0 h1) hr) (by omega : k < n)
        rw [hx] at hrep hrd
        have hsz := flat_le (f := stmtT) l (k + 1)
        have hst := congrArg List.length (flat_takeT (f := stmtT) hk)
        rw [List.length_append] at hst
        exact ⟨x, hrd, hS _ (List.getElem_mem hk) x.cs mm _ acc' (leM_tr hle0 h1) hrep (by omega)⟩
      have hft := fun (hk : k < l.length) => flat_takeT (f := stmtT) hk
      clear hS
      simp only [go_sem, ↓imp_tf, ↓imp_ft, ↓reduceIte]
      refine ⟨fun hlt => ?_, fun hge => ?_⟩
      · clear hs2
        have hk : k < l.length := by clear hx; omega
        refine Exists.elim (hx hk) fun x hx' => ⟨⟨by clear hx hx'; omega, hlt, hx'.1.2⟩, x.cs, ⟨hx'.1.1, rfl⟩, ?_⟩
        clear hx
        have ha := hx'.2
        clear hx'
        have hft' := hft hk
        clear hft
        simp only [go_sem, ↓imp_tf, ↓imp_ft, ↓reduceIte, Sd.cs]
        refine ⟨by kernel_rfl, FnV_of ((FnH_den ha (fun V => rfl)).mono ?_)⟩
        clear ha
        rintro r H' m4 hm4 ⟨hle4, rfl, w, hw, rfl⟩
        simp only [go_sem, ↓imp_tf, ↓imp_ft, ↓reduceIte, Sd.cs]
        refine ⟨hw, by unfold I64; simp only [big] at hn; omega, (k + 1, w - u', acc' ++ stmtT l[k], m4), ⟨by simp, by rw [show u' + (w - u') = w by omega], ⟨by simp only; omega, rfl, rfl⟩, .inl rfl⟩, ⟨leM_tr h1 hle4, by simp only; omega, ?_⟩, by simp only; omega⟩
        simp only
        rw [hft', h3, List.append_assoc]
      · clear hx hft
        refine ⟨by kernel_rfl, fun a1 c1 m3 hm3 hc3 hr3 => FnV_of ((hs2 a1 c1 m3 hr3).mono ?_)⟩
        clear hs2
        rintro r H' m4 hm4 ⟨hle4, rfl, w, hw, rfl⟩
        simp only [go_sem, ↓imp_tf, ↓imp_ft, ↓reduceIte]
        refine ⟨hw, leM_tr hle0 (leM_tr h1 (leM_tr (.inr hm3) hle4)), w, by omega, ?_⟩
        have e : acc' ++ [sg [125]] = acc ++ brT ((l.map stmtT).flatten) := by
          rw [h3, List.take_of_length_le (by omega)]
          simp [brT]
        rw [e]
theorem validSs_mem : ∀ {sup : Bool} {l : List St}, validSs sup l = true → ∀ e ∈ l, validS e = true
  | _, [], _, e, he => by cases he
  | sup, x :: r, h, e, he => by
    simp only [validSs, Bool.and_eq_true] at h
    rcases List.mem_cons.1 he with rfl | he
    · exact h.1.2
    · exact validSs_mem h.2 e he
theorem okStm_kind {k : Int} {nm : List UInt8} {ty : Ty} {tg ex : Ex} {B : Bool} (h : okStm k nm ty tg ex B = true) : k = 1 ∨ k = 2 ∨ k = 3 ∨ k = 4 ∨ k = 5 ∨ k = 6 ∨ k = 7 ∨ k = 8 ∨ k = 9 ∨ k = 10 ∨ k = 11 := by
  by_cases hk : k = 1 ∨ k = 2 ∨ k = 3 ∨ k = 4 ∨ k = 5 ∨ k = 6 ∨ k = 7 ∨ k = 8 ∨ k = 9 ∨ k = 10 ∨ k = 11
  · exact hk
  · simp only [not_or] at hk
    simp only [okStm, hk, or_self, if_false] at h
    cases h
theorem value_dim {d b : Int} {nm : List UInt8} (h : valueTy d b nm = true) : d ≤ 8 := by
  simp only [valueTy, Bool.and_eq_true] at h
  have := h.1.1
  unfold validTy at this
  split at this
  · cases this
  · omega
theorem target_valid {e : Ex} (h : targetE e = true) : validE e = true := by
  simp only [targetE, Bool.and_eq_true] at h; exact h.2
theorem call_valid {e : Ex} (h : callE e = true) : validE e = true := by
  simp only [callE, Bool.and_eq_true] at h; exact h.2
theorem valid_k {e : Ex} (h : validE e = true) : e.k ≠ 0 := by
  cases e with
  | mk k n s c ty args =>
    simp only [validE, Bool.and_eq_true] at h
    obtain ⟨hk, _, _⟩ := node_kind h.1
    intro h0
    simp only [Ex.k] at h0
    subst h0
    cases hk
theorem empty_k {e : Ex} (h : emptyE e = true) : e.k = 0 := by
  cases e with
  | mk k n s c ty args =>
    simp only [emptyE, emptyL, Bool.and_eq_true, decide_eq_true_eq] at h
    exact h.1.1.1.1.2
theorem super_args {e : Ex} (h : superE e = true) : validEs e.args = true := by
  cases e with
  | mk k n s c ty args =>
    simp only [superE, Bool.and_eq_true] at h
    exact h.2
theorem exRep_args {m : Mem} {e : Ex} {x : Nd} (h : exRep m e x.cs) : x.k = e.k ∧ x.l = e.args.length ∧ x.l ≤ x.cp ∧ x.l ≤ big ∧ ∃ xs, Rds m x.a x.l 8 xs ∧ exsRep m e.args xs := by
  cases e with
  | mk k n s c ty args =>
    obtain ⟨y, hy, h1, h2, h3, h4, h5, h6, h7, h8, h9⟩ := ex_parts h
    rw [nd_inj hy]
    exact ⟨h1, h6, h7, h8, h9⟩
theorem dk {j : Int} (h : j = 1 ∨ j = 2 ∨ j = 3 ∨ j = 6 ∨ j = 7 ∨ j = 11) : ∀ i : Int, i = 4 ∨ i = 5 ∨ i = 8 ∨ i = 9 ∨ i = 10 → (j = i) = False := fun i hi => eq_false (by omega)
theorem stmtW_all : ∀ (h : Nat) (s : St) (m : Mem), depthS s ≤ h → validS s = true → StW s m
  | 0, .mk k nm ty tg ex body alt, m, hd, _ => by simp [depthS] at hd
  | h + 1, .mk k nm ty tg ex body alt, m, hd, hv => by
    intro cs m' u acc hle hrep hb
    obtain ⟨⟨k', nm', ty', tN, eN, a, l, cp, b, l2, cp2⟩, rfl, rfl, rfl, rfl, htg, hex, hl, hcp, hl2, hcp2, hok, xs, ys, r1, r2, s1, s2⟩ := st_parts hrep
    simp only at htg hex hl hcp hl2 hcp2 r1 r2 hv hb hok
    simp only [depthS] at hd
    simp only [validS, Bool.and_eq_true] at hv
    have hv1 := hv.1
    clear hv hrep
    have hB : ∀ {q : Bool}, (decide (body.length ≤ 32) && validSs false body && q) = true → ∀ m2 u acc, leM m' m2 → acc.length + (brT (stmtsT body)).length ≤ cap → WrT 89 [.v (.slice a l cp)] m2 u acc (brT (stmtsT body)) := fun hvb m2 u acc hle2 hb => by
      simp only [Bool.and_eq_true] at hvb
      exact blockW_spec body a l cp xs m2 u acc hl.symm (by rw [hl]; exact hok.l) (Rds_upM hle2 r1) (stsRep_upM hle2 s1) (fun e he => stmtW_all h e m2 (by have := depthSs_mem he; omega) (validSs_mem hvb.1.2 e he)) hb
    have hA : ∀ {q : Bool}, (q && (decide (alt.length ≤ 32) && validSs false alt)) = true → ∀ m2 u acc, leM m' m2 → acc.length + (brT (stmtsT alt)).length ≤ cap → WrT 89 [.v (.slice b l2 cp2)] m2 u acc (brT (stmtsT alt)) := fun hvb m2 u acc hle2 hb => by
      simp only [Bool.and_eq_true] at hvb
      exact blockW_spec alt b l2 cp2 ys m2 u acc hl2.symm (by rw [hl2]; exact hok.l2) (Rds_upM hle2 r2) (stsRep_upM hle2 s2) (fun e he => stmtW_all h e m2 (by have := depthSs_mem he; omega) (validSs_mem hvb.2.2 e he)) hb
    have hX : validE ex = true → ∀ m2 u acc, leM m' m2 → acc.length + (exprT ex).length ≤ cap → WrT 41 [.v (.agg ⟨eN.cs⟩)] m2 u acc (exprT ex) := fun hv m2 u acc hle2 hb => expr_all _ ex m2 (Nat.le_refl _) hv _ m2 u acc (.inl rfl) (exRep_upM hle2 hex) hb
    have hG : validE tg = true → ∀ m2 u acc, leM m' m2 → acc.length + (exprT tg).length ≤ cap → WrT 41 [.v (.agg ⟨tN.cs⟩)] m2 u acc (exprT tg) := fun hv m2 u acc hle2 hb => expr_all _ tg m2 (Nat.le_refl _) hv _ m2 u acc (.inl rfl) (exRep_upM hle2 htg) hb
    have hR : validE ex = true → ∀ m2 u acc, leM m' m2 → acc.length + (listT [exprT ex]).length ≤ cap → WrT 168 [.v (.agg ⟨eN.cs⟩)] m2 u acc (listT [exprT ex]) := fun hv m2 u acc hle2 hb => round_spec ex _ m2 u acc (exRep_upM hle2 hex) (expr_all _ ex m2 (Nat.le_refl _) hv) hb
    rcases okStm_kind hv1 with rfl | rfl | rfl | rfl | rfl | rfl | rfl | rfl | rfl | rfl | rfl
    · have hv2 : (identL nm' && valueTy ty'.dim ty'.base ty'.name && validE ex) = true := hv1
      simp only [Bool.and_eq_true] at hv2
      have hT : stmtT (.mk 1 nm' ty' tg ex body alt) = (typT ty'.dim ty'.base ty'.name ++ [nm1 nm'] ++ [sg [61]] ++ exprT ex) ++ [sg [59]] := rfl
      rw [hT] at hb ⊢
      exact stmd 1 nm' ty' tN eN a l cp b l2 cp2 m' u acc (dk (by decide)) _ (fun m2 u2 acc2 h2 b2 => smp1 nm' ty' tN eN a l cp b l2 cp2 m2 u2 acc2 (by have := value_dim hv2.1.2; omega) _ (fun m3 u3 acc3 h3 b3 => hX hv2.2 m3 u3 acc3 (leM_tr h2 h3) b3) b2) hb
    · have hv2 : (targetE tg && validE ex) = true := hv1
      simp only [Bool.and_eq_true] at hv2
      have hT : stmtT (.mk 2 nm' ty' tg ex body alt) = (exprT tg ++ [sg [61]] ++ exprT ex) ++ [sg [59]] := rfl
      rw [hT] at hb ⊢
      exact stmd 2 nm' ty' tN eN a l cp b l2 cp2 m' u acc (dk (by decide)) _ (fun m2 u2 acc2 h2 b2 => smp2 nm' ty' tN eN a l cp b l2 cp2 m2 u2 acc2 _ _ (fun m3 u3 acc3 h3 b3 => hX hv2.2 m3 u3 acc3 (leM_tr h2 h3) b3) (fun m3 u3 acc3 h3 b3 => hG (target_valid hv2.1) m3 u3 acc3 (leM_tr h2 h3) b3) b2) hb
    · have hv2 : callE ex = true := hv1
      have hT : stmtT (.mk 3 nm' ty' tg ex body alt) = (exprT ex) ++ [sg [59]] := rfl
      rw [hT] at hb ⊢
      exact stmd 3 nm' ty' tN eN a l cp b l2 cp2 m' u acc (dk (by decide)) _ (fun m2 u2 acc2 h2 b2 => smp3 nm' ty' tN eN a l cp b l2 cp2 m2 u2 acc2 _ (fun m3 u3 acc3 h3 b3 => hX (call_valid hv2) m3 u3 acc3 (leM_tr h2 h3) b3) b2) hb
    · have hv2 : ((decide (body.length ≤ 32) && validSs false body && (decide (alt.length ≤ 32) && validSs false alt)) && validE ex) = true := hv1
      rw [Bool.and_eq_true] at hv2
      by_cases ha : 0 < alt.length
      · have hT : stmtT (.mk 4 nm' ty' tg ex body alt) = [kw [105, 102]] ++ listT [exprT ex] ++ brT (stmtsT body) ++ [kw [101, 108, 115, 101]] ++ brT (stmtsT alt) := by
          show [kw [105, 102]] ++ listT [exprT ex] ++ brT (stmtsT body) ++ (if 0 < alt.length then [kw [101, 108, 115, 101]] ++ brT (stmtsT alt) else []) = _
          rw [if_pos ha]
          simp only [List.append_assoc]
        rw [hT] at hb ⊢
        exact stm4a nm' ty' tN eN a l cp b l2 cp2 m' u acc (eq_true (by omega)) _ _ _ (fun m3 u3 acc3 h3 b3 => hR hv2.2 m3 u3 acc3 h3 b3) (fun m3 u3 acc3 h3 b3 => hB hv2.1 m3 u3 acc3 h3 b3) (fun m3 u3 acc3 h3 b3 => hA hv2.1 m3 u3 acc3 h3 b3) hb
      · have hT : stmtT (.mk 4 nm' ty' tg ex body alt) = [kw [105, 102]] ++ listT [exprT ex] ++ brT (stmtsT body) := by
          show [kw [105, 102]] ++ listT [exprT ex] ++ brT (stmtsT body) ++ (if 0 < alt.length then [kw [101, 108, 115, 101]] ++ brT (stmtsT alt) else []) = _
          rw [if_neg ha, List.append_nil]
        rw [hT] at hb ⊢
        exact stm4b nm' ty' tN eN a l cp b l2 cp2 m' u acc (eq_false (by omega)) _ _ (fun m3 u3 acc3 h3 b3 => hR hv2.2 m3 u3 acc3 h3 b3) (fun m3 u3 acc3 h3 b3 => hB hv2.1 m3 u3 acc3 h3 b3) hb
    · have hv2 : ((decide (body.length ≤ 32) && validSs false body && (decide (alt.length ≤ 32) && validSs false alt)) && validE ex) = true := hv1
      rw [Bool.and_eq_true] at hv2
      have hT : stmtT (.mk 5 nm' ty' tg ex body alt) = [kw [119, 104, 105, 108, 101]] ++ listT [exprT ex] ++ brT (stmtsT body) := rfl
      rw [hT] at hb ⊢
      exact stm5 nm' ty' tN eN a l cp b l2 cp2 m' u acc _ _ (fun m3 u3 acc3 h3 b3 => hR hv2.2 m3 u3 acc3 h3 b3) (fun m3 u3 acc3 h3 b3 => hB hv2.1 m3 u3 acc3 h3 b3) hb
    · have hv2 : (emptyE ex || validE ex) = true := hv1
      have hkx := (exRep_args hex).1
      by_cases h0 : ex.k = 0
      · have hT : stmtT (.mk 6 nm' ty' tg ex body alt) = ([kw [114, 101, 116, 117, 114, 110]]) ++ [sg [59]] := by
          show ([kw [114, 101, 116, 117, 114, 110]] ++ (if ex.k ≠ 0 then exprT ex else [])) ++ [sg [59]] = _
          rw [if_neg (by simpa using h0), List.append_nil]
        rw [hT] at hb ⊢
        exact stmd 6 nm' ty' tN eN a l cp b l2 cp2 m' u acc (dk (by decide)) _ (fun m2 u2 acc2 h2 b2 => smp6b nm' ty' tN eN a l cp b l2 cp2 m2 u2 acc2 (eq_true (by rw [hkx]; exact h0)) b2) hb
      · have hT : stmtT (.mk 6 nm' ty' tg ex body alt) = ([kw [114, 101, 116, 117, 114, 110]] ++ exprT ex) ++ [sg [59]] := by
          show ([kw [114, 101, 116, 117, 114, 110]] ++ (if ex.k ≠ 0 then exprT ex else [])) ++ [sg [59]] = _
          rw [if_pos h0]
        have hv3 : validE ex = true := by
          rw [Bool.or_eq_true] at hv2
          rcases hv2 with g | g
          · exact absurd (empty_k g) h0
          · exact g
        rw [hT] at hb ⊢
        exact stmd 6 nm' ty' tN eN a l cp b l2 cp2 m' u acc (dk (by decide)) _ (fun m2 u2 acc2 h2 b2 => smp6a nm' ty' tN eN a l cp b l2 cp2 m2 u2 acc2 (eq_false (by rw [hkx]; exact h0)) _ (fun m3 u3 acc3 h3 b3 => hX hv3 m3 u3 acc3 (leM_tr h2 h3) b3) b2) hb
    · have hv2 : validE ex = true := hv1
      have hT : stmtT (.mk 7 nm' ty' tg ex body alt) = ([kw [116, 104, 114, 111, 119]] ++ exprT ex) ++ [sg [59]] := rfl
      rw [hT] at hb ⊢
      exact stmd 7 nm' ty' tN eN a l cp b l2 cp2 m' u acc (dk (by decide)) _ (fun m2 u2 acc2 h2 b2 => smp7 nm' ty' tN eN a l cp b l2 cp2 m2 u2 acc2 _ (fun m3 u3 acc3 h3 b3 => hX hv2 m3 u3 acc3 (leM_tr h2 h3) b3) b2) hb
    · have hv2 : ((decide (body.length ≤ 32) && validSs false body && (decide (alt.length ≤ 32) && validSs false alt)) && identL nm' && valueTy ty'.dim ty'.base ty'.name) = true := hv1
      rw [Bool.and_eq_true, Bool.and_eq_true] at hv2
      have hT : stmtT (.mk 8 nm' ty' tg ex body alt) = [kw [116, 114, 121]] ++ brT (stmtsT body) ++ [kw [99, 97, 116, 99, 104]] ++ [sg [40]] ++ typT ty'.dim ty'.base ty'.name ++ [nm1 nm'] ++ [sg [41]] ++ brT (stmtsT alt) := rfl
      rw [hT] at hb ⊢
      exact stm8 nm' ty' tN eN a l cp b l2 cp2 m' u acc (by have := value_dim hv2.2; omega) _ _ (fun m3 u3 acc3 h3 b3 => hB hv2.1.1 m3 u3 acc3 h3 b3) (fun m3 u3 acc3 h3 b3 => hA hv2.1.1 m3 u3 acc3 h3 b3) hb
    · have hv2 : ((decide (body.length ≤ 32) && validSs false body && (decide (alt.length ≤ 32) && validSs false alt)) && validE ex) = true := hv1
      rw [Bool.and_eq_true] at hv2
      have hT : stmtT (.mk 9 nm' ty' tg ex body alt) = [kw [115, 121, 110, 99]] ++ listT [exprT ex] ++ brT (stmtsT body) := rfl
      rw [hT] at hb ⊢
      exact stm9 nm' ty' tN eN a l cp b l2 cp2 m' u acc _ _ (fun m3 u3 acc3 h3 b3 => hR hv2.2 m3 u3 acc3 h3 b3) (fun m3 u3 acc3 h3 b3 => hB hv2.1 m3 u3 acc3 h3 b3) hb
    · have hv2 : (decide (body.length ≤ 32) && validSs false body && (decide (alt.length ≤ 32) && validSs false alt)) = true := hv1
      have hT : stmtT (.mk 10 nm' ty' tg ex body alt) = brT (stmtsT body) := rfl
      rw [hT] at hb ⊢
      exact stm10 nm' ty' tN eN a l cp b l2 cp2 m' u acc _ (fun m3 u3 acc3 h3 b3 => hB hv2 m3 u3 acc3 h3 b3) hb
    · have hv2 : superE ex = true := hv1
      have hv3 := super_args hv2
      obtain ⟨_, q1, q2, q3, zs, q4, q5⟩ := exRep_args hex
      have hT : stmtT (.mk 11 nm' ty' tg ex body alt) = ([kw [115, 117, 112, 101, 114]] ++ listT (ex.args.map exprT)) ++ [sg [59]] := rfl
      rw [hT] at hb ⊢
      exact stmd 11 nm' ty' tN eN a l cp b l2 cp2 m' u acc (dk (by decide)) _ (fun m2 u2 acc2 h2 b2 => smp11 nm' ty' tN eN a l cp b l2 cp2 m2 u2 acc2 _ (fun m3 u3 acc3 h3 b3 => list_spec ex.args eN.a eN.l eN.cp zs m3 u3 acc3 q1.symm q3 (Rds_upM (leM_tr h2 h3) q4) (exsRep_upM (leM_tr h2 h3) q5) (fun e he => expr_all _ e m3 (Nat.le_refl _) (validEs_mem hv3 e he)) b3) b2) hb
end Go.Proofs.YtalalcpefggniaaGreatDoor.E

/- Several texts in one: AstY, AstZ, AstSa, AstSc, AstRc, AstRd, AstRs, AstTa, AstTb, AstCard, AstCardE, AstCardQ, AstSd, AstCardP, AstXg, AstTc, AstTd, AstXc, AstXd. -/
import Derived.Test.YtalalcpefggniaaGreatDoorRows
import Derived.Test.YtalalcpefggniaaGreatDoorCards
import Derived.Test.YtalalcpefggniaaGreatDoorTie
import Derived.ProofKit
import Derived.OpenShut
import Derived.LaidMore
import Derived.Lay
import Derived.SevenTiedAt
import Derived.Stop.Joined
import Derived.Stop.LaidErr
import Derived.Lib.LaidTab
import Derived.Shelf.Vars
import Derived.Deep.Slices
import Derived.Deep.DeepHandedRow
import Derived.Carry
import Derived.Test.YtalalcpefggniaaGreatDoorMrg4
set_option linter.unusedSimpArgs false
set_option linter.unusedVariables false
set_option maxHeartbeats 4000000
set_option maxRecDepth 20000
namespace Go.Proofs.YtalalcpefggniaaGreatDoor.E
open Go
def smpL : List Cd := [⟨0, [112, 47, 65], objS, [], [⟨0, ⟨0, 74, []⟩, [120]⟩], [], []⟩]
def badL : List Cd := [⟨0, [112, 47, 97], objS, [], [], [], []⟩]
theorem sample_spec (m : Mem) : FnH Tryz.prog 31 [] ⟨[], []⟩ m fun r H' m' => ∃ (a : Option Addr) (c : Nat), leM m m' ∧ Rds m' a 1 5 [.int .i64 0, .int .i64 0, .int .u8 74, .string (bs []), .string (bs [120])] ∧ 1 ≤ c ∧ r = .vec 1 0 ∧
  H' = ⟨[], [⟨1, 0, 55, 7, 1, [.int .i64 0, .string (bs [112, 47, 65]), .string (bs objS), .slice none 0 0, .slice a 1 c, .slice none 0 0, .slice none 0 0]⟩]⟩ := by
 refine enter cfW puW Tryz.func31 rfl rfl (by kernel_rfl) rfl ?_ ?_
 ·simp only [go_sem, ↓tfi, ↓fti, ↓reduceIte]
 ·simp only [go_sem, ↓tfi, ↓fti, ↓reduceIte]
  intro a c m1 hm1 hc hr
  exact ⟨a, c, .inr hm1, hr, hc, rfl⟩
def oneE : Ex := .mk 1 1 [] [] zTy []
def zeroE : Ex := .mk 1 0 [] [] zTy []
def twoE : Ex := .mk 1 2 [] [] zTy []
def aE : Ex := .mk 6 0 [97] [] zTy []
def sumE : Ex := .mk 16 0 [43] [] zTy [oneE, negE aE]
def arrE : Ex := .mk 14 0 [] [] ⟨1, 73, []⟩ [twoE]
def idxE : Ex := .mk 9 0 [] [] zTy [arrE, zeroE]
def blkS : St := .mk 10 [] zTy zE zE [] []
set_option maxRecDepth 100000 in
theorem ex1 : fmtE sumE = ([49, 32, 43, 32, 40, 32, 45, 32, 97, 32, 41], 0) := by decide +kernel
set_option maxRecDepth 100000 in
theorem ex2 : fmtE idxE = ([110, 101, 119, 32, 105, 110, 116, 32, 91, 32, 93, 32, 91, 32, 50, 32, 93, 32, 91, 32, 48, 32, 93], 0) := by decide +kernel
set_option maxRecDepth 100000 in
theorem ex3 : fmtP smpL = ([99, 108, 97, 115, 115, 32, 112, 58, 58, 65, 32, 101, 120, 116, 101, 110, 100, 115, 32, 108, 97, 110, 103, 58, 58, 79, 98, 106, 101, 99, 116, 32, 123, 32, 108, 111, 110, 103, 32, 120, 32, 59, 32, 125], 0) := by decide +kernel
theorem ex4 : (checkL [] badL).2 = 4 := by decide +kernel
theorem ex5 : depthE sumE = 3 := by decide +kernel
theorem ex6 : validE sumE = true := by decide +kernel
theorem ex7 : validS blkS = true := by decide +kernel
theorem ex8 : validE zE = false := by decide +kernel
theorem ex9 : all2 eqC smpL smpL = true := by decide +kernel
theorem ex10 : all2 eqC smpL [] = false := by decide +kernel
theorem ex_mk {m : Mem} {k n : Int} {s c : List UInt8} {ty : Ty} {args : List Ex} {a : Option Addr} {cp : Nat} {xs : List Value} (hcp : args.length ≤ cp) (hr : Rds m a args.length 8 xs) (hok : ExOk k n s c ty args.length) (hes : exsRep m args xs) :
  exRep m (.mk k n s c ty args) (exC k n s c ty (.slice a args.length cp)) := by
 simp only [exRep]
 exact ⟨a, cp, xs, rfl, hcp, hr, hok, hes⟩
theorem exs_nil {m : Mem} {xs : List Value} : exsRep m [] xs := by simp only [exsRep]
theorem exs_cons {m : Mem} {e : Ex} {r : List Ex} {cs xs : List Value} (h : exRep m e cs) (hc : cs.length = 8) (hr : exsRep m r xs) : exsRep m (e :: r) (cs ++ xs) := by
 simp only [exsRep]
 rw [← hc, List.take_left, List.drop_left]
 exact ⟨h, hr⟩
theorem leaf_rep {m : Mem} {k n : Int} {s : List UInt8} (hk : I64 k) (hn : I64 n) (hs : s.length ≤ big) : exRep m (.mk k n s [] zTy []) (exC k n s [] zTy (.slice none 0 0)) :=
 ex_mk (Nnr _) Rds_nil ⟨hk, hn, hs, Nat.zero_le _, z_ok, Nat.zero_le _⟩ exs_nil
theorem neg_rep {m : Mem} {e : Ex} {cs : List Value} {a : Option Addr} {c : Nat} (hc : 1 ≤ c) (he : exRep m e cs) (hr : Rds m a 1 8 cs) : exRep m (negE e) (exC 15 0 [45] [] zTy (.slice a 1 c)) := by
 have hl : cs.length = 8 := ex_len he
 exact ex_mk (args := [e]) hc hr ⟨by unfold I64; decide, by unfold I64; decide, by decide, by decide, z_ok, nbl rfl⟩ (exs_one he hl)
theorem aE_rep {m : Mem} : exRep m aE (exC 6 0 [97] [] zTy (.slice none 0 0)) := leaf_rep (by unfold I64; decide) (by unfold I64; decide) (by decide)
theorem oneE_rep {m : Mem} : exRep m oneE (exC 1 1 [] [] zTy (.slice none 0 0)) := leaf_rep (by unfold I64; decide) (by unfold I64; decide) (by decide)
theorem zeroE_rep {m : Mem} : exRep m zeroE (exC 1 0 [] [] zTy (.slice none 0 0)) := leaf_rep (by unfold I64; decide) (by unfold I64; decide) (by decide)
theorem twoE_rep {m : Mem} : exRep m twoE (exC 1 2 [] [] zTy (.slice none 0 0)) := leaf_rep (by unfold I64; decide) (by unfold I64; decide) (by decide)
theorem sum_rep {m : Mem} {a a2 : Option Addr} {c c2 : Nat} (hc : 1 ≤ c) (hr : Rds m a 1 8 (exC 6 0 [97] [] zTy (.slice none 0 0))) (hc2 : 2 ≤ c2) (hr2 : Rds m a2 2 8 (exC 1 1 [] [] zTy (.slice none 0 0) ++ exC 15 0 [45] [] zTy (.slice a 1 c))) :
  exRep m sumE (exC 16 0 [43] [] zTy (.slice a2 2 c2)) :=
 ex_mk (args := [oneE, negE aE]) hc2 hr2 ⟨by unfold I64; decide, by unfold I64; decide, by decide, by decide, z_ok, by decide⟩ (exs_cons oneE_rep rfl (exs_one (neg_rep hc aE_rep hr) rfl))
theorem idx_rep {m : Mem} {a a2 : Option Addr} {c c2 : Nat} (hc : 1 ≤ c) (hr : Rds m a 1 8 (exC 1 2 [] [] zTy (.slice none 0 0))) (hc2 : 2 ≤ c2) (hr2 : Rds m a2 2 8 (exC 14 0 [] [] ⟨1, 73, []⟩ (.slice a 1 c) ++ exC 1 0 [] [] zTy (.slice none 0 0))) :
  exRep m idxE (exC 9 0 [] [] zTy (.slice a2 2 c2)) :=
 ex_mk (args := [arrE, zeroE]) hc2 hr2 ⟨by unfold I64; decide, by unfold I64; decide, by decide, by decide, z_ok, by decide⟩
  (exs_cons (ex_mk (args := [twoE]) hc hr ⟨by unfold I64; decide, by unfold I64; decide, by decide, by decide, ⟨by unfold I64; decide, by decide, by decide⟩, by decide⟩ (exs_one twoE_rep rfl)) rfl (exs_one zeroE_rep rfl))
theorem smp_rep {m : Mem} {a a2 : Option Addr} {c c2 : Nat} (hc : 1 ≤ c) (hr : Rds m a 1 5 [.int .i64 0, .int .i64 0, .int .u8 74, .string (bs []), .string (bs [120])]) (hc2 : 1 ≤ c2)
  (hr2 : Rds m a2 1 7 [.int .i64 0, .string (bs [112, 47, 65]), .string (bs objS), .slice none 0 0, .slice a 1 c, .slice none 0 0, .slice none 0 0]) : prRep m smpL a2 1 c2 := by
 refine ⟨rfl, hc2, by decide, _, hr2, ?_, trivial⟩
 refine ⟨⟨0, [112, 47, 65], objS, none, 0, 0, a, 1, c, none, 0, 0, none, 0, 0⟩, ⟨rfl, rfl, rfl, rfl⟩, ⟨rfl, Nnr _, rfl, hc, rfl, Nnr _, rfl, Nnr _⟩, ?_, Rds_nil, hr, [], [], Rds_nil, trivial, Rds_nil, sts_nil⟩
 exact ⟨by unfold I64; decide, by decide, by decide, by decide, (fun s h => by cases h), by decide, (fun s h => by rw [List.mem_singleton.1 h]; exact ⟨by unfold I64; decide, ⟨by unfold I64; decide, by decide, by decide⟩, by decide⟩), by decide, by decide⟩
theorem bad_rep {m : Mem} {a2 : Option Addr} {c2 : Nat} (hc2 : 1 ≤ c2) (hr2 : Rds m a2 1 7 [.int .i64 0, .string (bs [112, 47, 97]), .string (bs objS), .slice none 0 0, .slice none 0 0, .slice none 0 0, .slice none 0 0]) : prRep m badL a2 1 c2 := by
 refine ⟨rfl, hc2, by decide, _, hr2, ?_, trivial⟩
 refine ⟨⟨0, [112, 47, 97], objS, none, 0, 0, none, 0, 0, none, 0, 0, none, 0, 0⟩, ⟨rfl, rfl, rfl, rfl⟩, ⟨rfl, Nnr _, rfl, Nnr _, rfl, Nnr _, rfl, Nnr _⟩, ?_, Rds_nil, Rds_nil, [], [], Rds_nil, trivial, Rds_nil, sts_nil⟩
 exact ⟨by unfold I64; decide, by decide, by decide, by decide, (fun s h => by cases h), by decide, (fun s h => by cases h), by decide, by decide⟩
theorem nil_rep {m : Mem} : prRep m [] none 0 0 := ⟨rfl, Nnr _, Nat.zero_le _, [], Rds_nil, trivial⟩
theorem chk0 {d : Cd} (hm : d.methods = []) (hi : d.init = []) : CdB d := by
 refine ⟨?_, ?_, ?_, ?_⟩ <;> simp [hi, hm, depthSs, exprDs, mdsS, mdsE]
theorem smp_ok : ∀ d ∈ smpL, CdB d := fun d h => by rw [List.mem_singleton.1 h]; exact chk0 rfl rfl
theorem bad_ok : ∀ d ∈ badL, CdB d := fun d h => by rw [List.mem_singleton.1 h]; exact chk0 rfl rfl
theorem smp_wr {m : Mem} : ∀ d ∈ smpL, WrOk d m := fun d h => by
 rw [List.mem_singleton.1 h]
 exact ⟨fun f hf => by rw [List.mem_singleton.1 hf]; decide, fun h => absurd h (by decide), fun e he => by cases he⟩
theorem smp_tk : (progT smpL).length ≤ cap ∧ AllT TkOk (progT smpL) := by
 refine ⟨by decide +kernel, ?_⟩
 have : (progT smpL).all fun t => decide (t.s.length ≤ 2000000) && (decide (-9223372036854775808 ≤ t.n) && decide (t.n ≤ 9223372036854775807)) := by decide +kernel
 intro t ht
 have := List.all_eq_true.1 this t ht
 simp only [Bbt, decide_eq_true_eq] at this
 exact ⟨this.1, this.2⟩
theorem blk_rep {m : Mem} : stRep m blkS (Sd.cs ⟨10, [], zTy, zNd, zNd, none, 0, 0, none, 0, 0⟩) :=
 st_mk (⟨10, [], zTy, zNd, zNd, none, 0, 0, none, 0, 0⟩ : Sd) z_rep z_rep rfl (Nnr _) rfl (Nnr _) ⟨by unfold I64; decide, by decide, z_ok, by decide, by decide⟩ Rds_nil Rds_nil sts_nil sts_nil
theorem awake_spec (m : Mem) (hg : Glob m) : Ans 10 [] m (.bool true) := by
 refine enter cfW puW Tryz.func10 rfl rfl (by kernel_rfl) rfl ?_ ?_
 ·simp only [go_sem, ↓tfi, ↓fti, ↓reduceIte]
 ·simp only [go_sem, ↓tfi, ↓fti, ↓reduceIte]
  intro a c m1 hm1 hc r1
  have k1 : leM m m1 := .inr hm1
  have hF := fun a2 c2 m2 (hm2 : leM m1 m2) (hc2 : 2 ≤ c2) r2 => fexpr_spec sumE _ m2 (hg.upM (leM_tr k1 hm2)) (sum_rep hc (Rds_upM hm2 r1) (a2 := a2) hc2 r2) (by decide +kernel) (by decide +kernel)
  rw [ex1] at hF
  refine ⟨by kernel_rfl, fun a2 c2 m2 hm2 hc2 r2 => FnV_of ((FnH_den (hF a2 c2 m2 (.inr hm2) hc2 r2) (fun V => rfl)).mono ?_)⟩
  clear hF
  rintro r H' m3 hm3 ⟨l3, rfl, rfl⟩
  have k3 := leM_tr k1 (leM_tr (.inr hm2) l3)
  simp only [go_sem, ↓tfi, ↓fti, ↓reduceIte]
  intro a4 c4 m4 hm4 hc4 r4
  have k4 : leM m m4 := leM_tr k3 (.inr hm4)
  have hF := fun a5 c5 m5 (hm5 : leM m4 m5) (hc5 : 2 ≤ c5) r5 => fexpr_spec idxE _ m5 (hg.upM (leM_tr k4 hm5)) (idx_rep hc4 (Rds_upM hm5 r4) (a2 := a5) hc5 r5) (by decide +kernel) (by decide +kernel)
  rw [ex2] at hF
  refine ⟨by kernel_rfl, fun a5 c5 m5 hm5 hc5 r5 => FnV_of ((FnH_den (hF a5 c5 m5 (.inr hm5) hc5 r5) (fun V => rfl)).mono ?_)⟩
  clear hF
  rintro r H' m6 hm6 ⟨l6, rfl, rfl⟩
  have k6 := leM_tr k4 (leM_tr (.inr hm5) l6)
  simp only [go_sem, ↓tfi, ↓fti, ↓reduceIte]
  refine cvl ((sample_spec m6).mono ?_)
  rintro r H' m7 hm7 ⟨a7, c7, l7, r7, hc7, rfl, rfl⟩
  have k7 := leM_tr k6 l7
  simp only [go_sem, ↓tfi, ↓fti, ↓reduceIte]
  have hF := fun a8 c8 m8 (hm8 : leM m7 m8) (hc8 : 1 ≤ c8) r8 => formatP_spec smpL a8 1 c8 m8 (hg.upM (leM_tr k7 hm8)) smp_ok (fun _ => smp_wr) (fun _ => smp_tk) (smp_rep hc7 (Rds_upM hm8 r7) hc8 r8)
  rw [ex3] at hF
  refine ⟨by kernel_rfl, fun a8 c8 m8 hm8 hc8 r8 => FnV_of ((hF a8 c8 m8 (.inr hm8) hc8 r8).mono ?_)⟩
  clear hF
  rintro r H' m9 hm9 ⟨l9, rfl, rfl⟩
  have k9 := leM_tr k7 (leM_tr (.inr hm8) l9)
  simp only [go_sem, ↓tfi, ↓fti, ↓reduceIte]
  have hF := fun aa ca ma (hma : leM m9 ma) (hca : 1 ≤ ca) ra => check_spec badL aa 1 ca ma (hg.upM (leM_tr k9 hma)) bad_ok (bad_rep hca ra)
  rw [ex4] at hF
  refine ⟨by kernel_rfl, fun aa ca ma hma hca ra => FnV_of ((hF aa ca ma (.inr hma) hca ra).mono ?_)⟩
  clear hF
  rintro r H' mb hmb ⟨lb, rfl, rfl⟩
  have kb := leM_tr k9 (leM_tr (.inr hma) lb)
  have r1b : ∀ {mx : Mem}, leM mb mx → Rds mx a 1 8 (exC 6 0 [97] [] zTy (.slice none 0 0)) := fun h => Rds_upM (leM_tr (leM_tr (.inr hm2) (leM_tr l3 (leM_tr (.inr hm4) (leM_tr (.inr hm5) (leM_tr l6 (leM_tr l7 (leM_tr (.inr hm8) (leM_tr l9 (leM_tr (.inr hma) lb))))))))) h) r1
  simp only [go_sem, ↓tfi, ↓fti, ↓reduceIte]
  refine ⟨⟨by kernel_rfl, fun ac cc mc hmc hcc rc => ?_⟩, fun h => by simp at h⟩
  have hF := depth_all _ sumE _ mc (Nnr _) (by decide +kernel) (sum_rep hc (r1b (.inr hmc)) hcc rc)
  rw [ex5] at hF
  refine FnV_of ((FnH_den hF (fun V => rfl)).mono ?_)
  clear hF
  rintro r H' md hmd ⟨ld, rfl, rfl⟩
  have kd := leM_tr (leM_tr kb (.inr hmc)) ld
  have r1d : ∀ {mx : Mem}, leM md mx → Rds mx a 1 8 (exC 6 0 [97] [] zTy (.slice none 0 0)) := fun h => r1b (leM_tr (leM_tr (.inr hmc) ld) h)
  simp only [go_sem, ↓tfi, ↓fti, ↓reduceIte]
  refine ⟨fun _ => ⟨by kernel_rfl, fun ae ce me hme hce re => ?_⟩, fun h => absurd rfl h⟩
  have hF := valid_all _ sumE _ me (Nnr _) (hg.upM (leM_tr kd (.inr hme))) (sum_rep hc (r1d (.inr hme)) hce re)
  rw [ex6] at hF
  refine FnV_of ((FnH_den hF (fun V => rfl)).mono ?_)
  clear hF
  rintro r H' mf hmf ⟨lf, rfl, rfl⟩
  have kf := leM_tr (leM_tr kd (.inr hme)) lf
  clear r1b r1d
  simp only [go_sem, ↓tfi, ↓fti, ↓reduceIte]
  have hF := validS_all _ blkS _ mf (Nnr _) (hg.upM kf) blk_rep
  rw [ex7] at hF
  refine cvl ((FnH_den hF (fun V => rfl)).mono ?_)
  clear hF
  rintro r H' mg hmg ⟨lg, rfl, rfl⟩
  have kg := leM_tr kf lg
  simp only [go_sem, ↓tfi, ↓fti, ↓reduceIte]
  have hF := valid_all _ zE _ mg (Nnr _) (hg.upM kg) z_rep
  rw [ex8] at hF
  refine cvl ((FnH_den hF (fun V => rfl)).mono ?_)
  clear hF
  rintro r H' mh hmh ⟨lh, rfl, rfl⟩
  have kh := leM_tr kg lh
  clear r1 r2 r4 r5 r7
  simp only [go_sem, ↓tfi, ↓fti, ↓reduceIte]
  refine cvl ((sample_spec mh).mono ?_)
  rintro r H' mi hmi ⟨ai, ci, li, ri, hci, rfl, rfl⟩
  simp only [go_sem, ↓tfi, ↓fti, ↓reduceIte]
  refine cvl ((sample_spec mi).mono ?_)
  rintro r H' mj hmj ⟨aj, cj, lj, rj, hcj, rfl, rfl⟩
  have kj := leM_tr (leM_tr kh li) lj
  simp only [go_sem, ↓tfi, ↓fti, ↓reduceIte]
  refine ⟨by kernel_rfl, fun p1 q1 n1 hn1 hq1 s1 p2 q2 n2 hn2 hq2 s2 => ?_⟩
  have hF := equal_spec smpL smpL p1 1 q1 p2 1 q2 n2 (smp_rep hci (Rds_upM (leM_tr lj (leM_tr (.inr hn1) (.inr hn2))) ri) hq1 (Rds_upM (.inr hn2) s1)) (smp_rep hcj (Rds_upM (leM_tr (.inr hn1) (.inr hn2)) rj) hq2 s2)
  rw [ex9] at hF
  refine FnV_of (hF.mono ?_)
  clear hF
  rintro r H' mk hmk ⟨lk, rfl, rfl⟩
  have kk := leM_tr kj (leM_tr (.inr hn1) (leM_tr (.inr hn2) lk))
  clear ri rj s1 s2
  simp only [go_sem, ↓tfi, ↓fti, ↓reduceIte]
  refine cvl ((sample_spec mk).mono ?_)
  rintro r H' ml hml ⟨al, cl, ll, rl, hcl, rfl, rfl⟩
  have kl := leM_tr kk ll
  simp only [go_sem, ↓tfi, ↓fti, ↓reduceIte]
  refine ⟨by kernel_rfl, fun p3 q3 n3 hn3 hq3 s3 => ?_⟩
  have hF := equal_spec smpL [] p3 1 q3 none 0 0 n3 (smp_rep hcl (Rds_upM (.inr hn3) rl) hq3 s3) nil_rep
  rw [ex10] at hF
  refine FnV_of (hF.mono ?_)
  clear hF
  rintro r H' mo hmo ⟨lo, rfl, rfl⟩
  simp only [go_sem, ↓tfi, ↓fti, ↓reduceIte]
  exact leM_tr kl (leM_tr (.inr hn3) lo)
theorem add_addA (ad : Addr) (i j : Nat) (h : ad.spot = none) : (ad.add i).add j = ad.add (i + j) := by
 obtain ⟨e1, e2, e3⟩ := add_parts ad i h
 obtain ⟨f1, f2, f3⟩ := add_parts (ad.add i) j e3
 obtain ⟨g1, g2, g3⟩ := add_parts ad (i + j) h
 rcases hx : (ad.add i).add j with ⟨b, o, s⟩
 rcases hy : ad.add (i + j) with ⟨b', o', s'⟩
 rw [hx] at f1 f2 f3
 rw [hy] at g1 g2 g3
 simp only at f1 f2 f3 g1 g2 g3
 subst f3 g3
 have h1 : b = b' := by omega
 have h2 : o = o' := by omega
 rw [h1, h2]
theorem Rd_ptr {m : Mem} {x : Value} {cs : List Value} (h : Rd m x cs) : isPtr x := by
 obtain ⟨ad, e, _⟩ := h
 exact ⟨ad, e⟩
theorem Rd_sub {m : Mem} {x : Value} {cs : List Value} (h : Rd m x cs) (o n : Nat) (hn : o + n ≤ cs.length) : Rd m (ptrAdd x o) ((cs.drop o).take n) := by
 obtain ⟨ad, rfl, hs, hc⟩ := h
 obtain ⟨e1, e2, e3⟩ := add_parts ad o hs
 refine ⟨ad.add o, rfl, e3, fun j hj => ?_⟩
 have hl : ((cs.drop o).take n).length = n := by rw [List.length_take, List.length_drop]; omega
 rw [hl] at hj
 obtain ⟨h1, h2⟩ := hc (o + j) (by omega)
 refine ⟨by rw [add_addA ad o j hs, h1, List.getElem?_take, if_pos hj, List.getElem?_drop], by rw [e1, e2]; omega⟩
mutual
def sizeS : St → Nat
 | .mk _ _ _ tg ex body alt => 1 + sizeE ex + sizeE tg + sizeSs body + sizeSs alt
def sizeSs : List St → Nat
 | [] => 0
 | e :: r => sizeS e + sizeSs r
end
theorem sizeSs_take : ∀ {l : List St} {k : Nat} (hk : k < l.length), sizeSs (l.take (k + 1)) = sizeSs (l.take k) + sizeS l[k]
 | [], _, hk => absurd hk (Nat.not_lt_zero _)
 | e :: r, 0, _ => by simp [sizeSs]
 | e :: r, k + 1, hk => by
  have := sizeSs_take (l := r) (k := k) (by simpa using hk)
  simp only [List.take_succ_cons, sizeSs, this, List.getElem_cons_succ, Nat.add_assoc]
theorem sizeSs_le : ∀ (l : List St) (k : Nat), sizeSs (l.take k) ≤ sizeSs l
 | [], k => by simp
 | e :: r, 0 => by simp [sizeSs]
 | e :: r, k + 1 => by
  have := sizeSs_le r k
  simp only [List.take_succ_cons, sizeSs]
  omega
theorem sizeSs_mem : ∀ {l : List St} {e : St}, e ∈ l → sizeS e ≤ sizeSs l
 | [], e, he => by cases he
 | x :: r, e, he => by
  simp only [sizeSs]
  rcases List.mem_cons.1 he with rfl | he
  ·omega
  ·have := sizeSs_mem he; omega
def St.exOf : St → Ex | .mk _ _ _ _ ex _ _ => ex
def St.tgOf : St → Ex | .mk _ _ _ tg _ _ _ => tg
def St.bodyOf : St → List St | .mk _ _ _ _ _ body _ => body
def St.altOf : St → List St | .mk _ _ _ _ _ _ alt => alt
theorem sizeS_eq (e : St) : sizeS e = 1 + sizeE e.exOf + sizeE e.tgOf + sizeSs e.bodyOf + sizeSs e.altOf := by cases e; rfl
def AnsN (f : FuncId) (args : List SV) (m : Mem) (lo hi : Int) : Prop := FnH Tryz.prog f args ⟨[], []⟩ m fun r H' m' => leM m m' ∧ H' = ⟨[], []⟩ ∧ ∃ x : Int, r = .v (.int .i64 x) ∧ lo ≤ x ∧ x ≤ hi
theorem Rd_upM {m m' : Mem} {x : Value} {cs : List Value} (hle : leM m m') (h : Rd m x cs) : Rd m' x cs := by
 rcases hle with rfl | hle
 ·exact h
 ·exact Rd_up hle h
structure StmIt (X : Sd) (e : St) (mm : Mem) (most : Int) : Prop where
 ex : ∀ m', leM mm m' → ∀ k : Int, 0 ≤ k → k ≤ 1000000 → AnsN 15 [.v (.agg ⟨X.ex.cs⟩), .v (.int .i64 k)] m' 1 (sizeE e.exOf)
 tg : ∀ m', leM mm m' → ∀ k : Int, 0 ≤ k → k ≤ 1000000 → AnsN 15 [.v (.agg ⟨X.tg.cs⟩), .v (.int .i64 k)] m' 1 (sizeE e.tgOf)
 body : ∀ m', leM mm m' → ∀ k : Int, -3000000 ≤ k → k ≤ 1000000 → AnsN 16 [.v (.slice X.a X.l X.cp), .v (.int .i64 k)] m' 0 (sizeSs e.bodyOf)
 alt : ∀ m', leM mm m' → ∀ k : Int, -3000000 ≤ k → k ≤ 1000000 → AnsN 16 [.v (.slice X.b X.l2 X.cp2), .v (.int .i64 k)] m' 0 (sizeSs e.altOf)
theorem stmts_all : ∀ (h : Nat) (l : List St) (a : Option Addr) (n c : Nat) (xs : List Value) (most : Int) (m : Mem), depthSs l ≤ h → sizeSs l ≤ big → -3000000 ≤ most → most ≤ 1000000 → n = l.length → n ≤ big → Rds m a n 23 xs → stsRep m l xs →
  AnsN 16 [.v (.slice a n c), .v (.int .i64 most)] m 0 (sizeSs l) := by
 intro h
 induction h using Nat.strongRecOn with
 | ind h ih =>
  intro l a n c xs most m hd hb hm0 hm1 hl hn hr hs
  refine enter cfN puN Tryz.func16 rfl rfl (by kernel_rfl) rfl ?_ ?_
  ·simp only [go_sem, ↓tfi, ↓fti, ↓reduceIte]
  ·simp only [go_sem, ↓tfi, ↓fti, ↓reduceIte]
   refine WP_loop puN (fun x : Nat × Int × Mem => ⟨[⟨0, [], .v (.slice a n c)⟩, ⟨1, [], .v (.int .i64 most)⟩, ⟨5, [], .v (.int .i64 x.2.1)⟩, ⟨6, [], .v (.int .i64 x.1)⟩], [], [], [], 0, x.2.2⟩)
    (fun x => leM m x.2.2 ∧ x.1 ≤ n ∧ 0 ≤ x.2.1 ∧ x.2.1 ≤ sizeSs (l.take x.1)) (fun x => n - x.1) (0, 0, m) (by kernel_rfl) (fun _ _ => Nnr _) (fun x hx => hx.1) (fun _ => ?_) ?_ ?_ ?_
   ·simp only [go_sem, ↓tfi, ↓fti, ↓reduceIte]
   ·simp only [go_sem, ↓tfi, ↓fti, ↓reduceIte]
    rfl
   ·exact ⟨.inl rfl, Nat.zero_le _, Int.le_refl _, by simp [sizeSs]⟩
   ·rintro ⟨k, x, mm⟩ ⟨h1, h2, h3, h4⟩
    simp only at h1 h2 h3 h4
    have hy : ∀ (hk : k < l.length), ∃ X : Sd, (Rd mm (ptrAt a (k * 23)) X.cs ∧ a ≠ none) ∧ StmIt X l[k] mm most := fun hk => by
     have hrep := stRep_upM h1 (sts_at hs hk)
     have hrd := Rds_cells (Rds_upM h1 hr) (by omega : k < n)
     have q1 := depthSs_mem (List.getElem_mem hk)
     have q2 := sizeSs_mem (List.getElem_mem hk)
     rw [sizeS_eq] at q2
     cases he : l[k] with
     | mk k' nm ty tg ex body alt =>
      rw [he] at hrep q1 q2
      simp only [St.exOf, St.tgOf, St.bodyOf, St.altOf] at q2
      simp only [depthS] at q1
      obtain ⟨X, hX, _, _, _, htg, hex, hl1, hcp, hl2, hcp2, hok, ys, zs, r1, r2, s1, s2⟩ := st_parts hrep
      rw [hX] at hrd
      refine ⟨X, hrd, ⟨fun m' hle k h0 h1 => exprs_all _ ex k _ m' (Nnr _) (by omega) h0 h1 (exRep_upM hle hex), fun m' hle k h0 h1 => exprs_all _ tg k _ m' (Nnr _) (by omega) h0 h1 (exRep_upM hle htg), fun m' hle k h0 h1 => ?_, fun m' hle k h0 h1 => ?_⟩⟩
      ·exact ih (depthSs body) (by omega) body X.a X.l X.cp ys k m' (Nnr _) (by omega) h0 h1 hl1 (by rw [hl1]; exact hok.l) (Rds_upM hle r1) (stsRep_upM hle s1)
      ·exact ih (depthSs alt) (by omega) alt X.b X.l2 X.cp2 zs k m' (Nnr _) (by omega) h0 h1 hl2 (by rw [hl2]; exact hok.l2) (Rds_upM hle r2) (stsRep_upM hle s2)
    have hst := fun (hk : k < l.length) => And.intro (sizeSs_take hk) (sizeSs_le l (k + 1))
    have hsl := sizeSs_le l k
    clear ih
    simp only [go_sem, ↓tfi, ↓fti, ↓reduceIte]
    refine ⟨fun hlt => ?_, fun hge => ⟨h1, h3, by clear hy hst; omega⟩⟩
    have hk : k < l.length := by clear hy hst; omega
    have hs1 := hst hk
    have hq := sizeS_eq l[k]
    clear hst
    refine Exists.elim (hy hk) fun X hy1 => ?_
    clear hy
    have hp := hy1.1.2
    have hR := fun m' (hle : leM mm m') => Rd_upM hle hy1.1.1
    have hI := hy1.2
    clear hy1
    refine ⟨⟨by clear hR hI; omega, hlt.1, hp⟩, Rd_ptr (hR mm (.inl rfl)), X.ex.cs, ⟨Rd_sub (hR mm (.inl rfl)) 13 8 (nbl rfl), rfl⟩, by clear hR hI; unfold I64; simp only [big] at hb; omega, by kernel_rfl, FnV_of ((hI.ex mm (.inl rfl) (most - x) (by clear hR hI; omega) (by clear hR hI; omega)).mono ?_)⟩
    rintro r H' m1 hm1' ⟨l1, rfl, y1, rfl, hy1, hy1'⟩
    simp only [go_sem, ↓tfi, ↓fti, ↓reduceIte]
    refine ⟨by clear hR hI; unfold I64; simp only [big] at hb; omega, by clear hR hI; unfold I64; simp only [big] at hb; omega, ?_⟩
    refine ⟨⟨by clear hR hI; omega, hlt.1, hp⟩, Rd_ptr (hR mm (.inl rfl)), X.tg.cs, ⟨Rd_sub (hR m1 l1) 5 8 (nbl rfl), rfl⟩, by kernel_rfl, FnV_of ((hI.tg m1 l1 most (by clear hR hI; omega) hm1).mono ?_)⟩
    rintro r H' m2 hm2' ⟨l2, rfl, y2, rfl, hy2, hy2'⟩
    have k2 := leM_tr l1 l2
    simp only [go_sem, ↓tfi, ↓fti, ↓reduceIte]
    refine ⟨by clear hR hI; unfold I64; simp only [big] at hb; omega, ?_⟩
    refine ⟨⟨by clear hR hI; omega, hlt.1, hp⟩, Rd_ptr (hR mm (.inl rfl)), .slice X.a X.l X.cp, Rd_sub (hR m2 k2) 21 1 (nbl rfl), by clear hR hI; unfold I64; simp only [big] at hb; omega, by kernel_rfl, FnV_of ((hI.body m2 k2 _ (by clear hR hI; simp only [big] at hb; omega) (by clear hR hI; omega)).mono ?_)⟩
    rintro r H' m3 hm3' ⟨l3, rfl, y3, rfl, hy3, hy3'⟩
    have k3 := leM_tr k2 l3
    simp only [go_sem, ↓tfi, ↓fti, ↓reduceIte]
    refine ⟨by clear hR hI; unfold I64; simp only [big] at hb; omega, ?_⟩
    refine ⟨⟨by clear hR hI; omega, hlt.1, hp⟩, Rd_ptr (hR mm (.inl rfl)), .slice X.b X.l2 X.cp2, Rd_sub (hR m3 k3) 22 1 (nbl rfl), by clear hR hI; unfold I64; simp only [big] at hb; omega, by kernel_rfl, FnV_of ((hI.alt m3 k3 _ (by clear hR hI; simp only [big] at hb; omega) (by clear hR hI; omega)).mono ?_)⟩
    clear hR hI
    rintro r H' m4 hm4' ⟨l4, rfl, y4, rfl, hy4, hy4'⟩
    have k4 := leM_tr k3 l4
    simp only [go_sem, ↓tfi, ↓fti, ↓reduceIte]
    exact ⟨by unfold I64; simp only [big] at hb; omega, by unfold I64; simp only [big] at hn; omega, (k + 1, x + (1 + y1) + y2 + y3 + y4, m4), ⟨⟨rfl, by simp⟩, .inl rfl⟩, ⟨leM_tr h1 k4, by simp only; omega, by simp only; omega, by simp only; omega⟩, by simp only; omega⟩
theorem take_con {u : List UInt8} {c : UInt8} {k : Nat} (h : k < u.length) : (u.take (k + 1)).contains c = ((u.take k).contains c || decide (u.getD k 0 = c)) := by
 have e : u.getD k 0 = u[k] := by rw [List.getD_eq_getElem?_getD, List.getElem?_eq_getElem h]; rfl
 rw [List.take_succ_eq_append_getElem h, e]
 simp only [List.contains_eq_mem, List.mem_append, List.mem_singleton, Bool.decide_or, eq_comm]
theorem u8_dec (d c : UInt8) : decide (d = c) = decide ((d.toNat : Int) = (c.toNat : Int)) := by
 rw [decide_eq_decide]
 exact ⟨fun e => by rw [e], fun e => UInt8.toNat_inj.1 (by omega)⟩
theorem bare_spec (k n : Int) (s c : List UInt8) (ty : Ty) (sl : Value) (u : List UInt8) (m : Mem) (hsl : sl.oneCell' = true) (hu : u.length ≤ 4) :
  FnH Tryz.prog 112 [.v (.agg ⟨exC k n s c ty sl⟩), .v (.string (bs u))] ⟨[], []⟩ m fun r H' _ => r = .v (.bool (bareR u n s c ty)) ∧ H' = ⟨[], []⟩ := by
 refine enter cfN puN Tryz.func112 rfl rfl (by kernel_rfl) rfl ?_ ?_
 ·simp only [go_sem, ↓tfi, ↓fti, ↓reduceIte, exC]
 ·simp only [go_sem, ↓tfi, ↓fti, ↓reduceIte, exC]
  refine WP_loop puN (fun k' : Nat => ⟨[⟨1, [], .v (.string (bs u))⟩, ⟨2, [], .box 0 0⟩, ⟨5, [], .v (.bool ((u.take k').contains 78))⟩, ⟨6, [], .v (.bool ((u.take k').contains 83))⟩, ⟨7, [], .v (.bool ((u.take k').contains 67))⟩, ⟨8, [], .v (.bool ((u.take k').contains 84))⟩, ⟨9, [], .v (.int .i64 k')⟩], [], [⟨0, 32, (exC k n s c ty sl).map .v⟩], [], 1, m⟩)
   (fun k' => k' ≤ u.length) (fun k' => u.length - k') 0 (by kernel_rfl) (fun _ _ => Nnr _) (fun _ _ => .inl rfl) (fun _ => ?_) ?_ ?_ ?_
  ·simp only [go_sem, ↓tfi, ↓fti, ↓reduceIte, exC]
  ·simp only [go_sem, ↓tfi, ↓fti, ↓reduceIte, exC]
   simp
  ·exact Nat.zero_le _
  ·intro k' hk
   simp only [go_sem, ↓tfi, ↓fti, ↓reduceIte, exC, eqOkT]
   have hc : k' < u.length → ∀ c, (u.take (k' + 1)).contains c = ((u.take k').contains c || decide (u.getD k' 0 = c)) := fun h c => take_con h
   generalize u.getD k' 0 = d at hc ⊢
   have q78 : decide (d = 78) = decide ((d.toNat : Int) = 78) := u8_dec d 78
   have q83 : decide (d = 83) = decide ((d.toNat : Int) = 83) := u8_dec d 83
   have q67 : decide (d = 67) = decide ((d.toNat : Int) = 67) := u8_dec d 67
   have q84 : decide (d = 84) = decide ((d.toNat : Int) = 84) := u8_dec d 84
   refine ⟨fun hlt => ?_, fun hge => ?_⟩
   ·have hc := hc (by omega)
    exact ⟨by omega, fun h1 => ⟨by unfold I64; omega, k' + 1, ⟨by rw [hc, q78]; simp [h1], by rw [hc, q83]; simp [h1], by rw [hc, q67]; simp [h1], by rw [hc, q84]; simp [h1], by simp⟩, by omega, by omega⟩, fun n1 => ⟨fun h2 => ⟨by unfold I64; omega, k' + 1, ⟨by rw [hc, q78]; simp [n1, h2], by rw [hc, q83]; simp [n1, h2], by rw [hc, q67]; simp [n1, h2], by rw [hc, q84]; simp [n1, h2], by simp⟩, by omega, by omega⟩, fun n2 => ⟨fun h3 => ⟨by unfold I64; omega, k' + 1, ⟨by rw [hc, q78]; simp [n1, n2, h3], by rw [hc, q83]; simp [n1, n2, h3], by rw [hc, q67]; simp [n1, n2, h3], by rw [hc, q84]; simp [n1, n2, h3], by simp⟩, by omega, by omega⟩, fun n3 => ⟨fun h4 => ⟨by unfold I64; omega, k' + 1, ⟨by rw [hc, q78]; simp [n1, n2, n3, h4], by rw [hc, q83]; simp [n1, n2, n3, h4], by rw [hc, q67]; simp [n1, n2, n3, h4], by rw [hc, q84]; simp [n1, n2, n3, h4], by simp⟩, by omega, by omega⟩, fun n4 => ⟨by unfold I64; omega, k' + 1, ⟨by rw [hc, q78]; simp [n1, n2, n3, n4], by rw [hc, q83]; simp [n1, n2, n3, n4], by rw [hc, q67]; simp [n1, n2, n3, n4], by rw [hc, q84]; simp [n1, n2, n3, n4], by simp⟩, by omega, by omega⟩⟩⟩⟩⟩
   ·rw [List.take_of_length_le (by omega)]
    rfl
def pBare : List Value → Option (Prop × Value)
 | [.agg ⟨[.int .i64 _, .int .i64 n, .string s, .string c, .int .i64 d, .int .u8 b, .string nm, sl]⟩, .string u] => some (sl.oneCell' = true ∧ (tl u).length ≤ 4, .bool (bareR (tl u) n (tl s) (tl c) ⟨d, b, tl nm⟩))
 | _ => none
attribute [go_sem] pBare.eq_1
theorem pureBare : Pure0 Tryz.prog 112 pBare := fun vals y hy hB m => by
 unfold pBare at hy
 split at hy
 ·rename_i k n s c d b nm sl u
  cases hy
  have := bare_spec k n (tl s) (tl c) ⟨d, b, tl nm⟩ sl (tl u) m hB.1 hB.2
  simp only [exC, bs_tl] at this
  exact this
 ·cases hy
abbrev cfE : Cfg := mkCf (fun _ => false) [(112, pBare), (113, pS1 BL fun s => .bool (printL s)), (114, pS1 BL fun s => .bool (identL s)), (77, pS1 BL fun s => .bool (isCls s)), (115, pTy valueTy), (116, pS1 BL fun s => .bool (opsL.contains s))]
theorem puE : PureOk cfE Tryz.prog := pure_cons (by kernel_rfl) pureBare (pure_cons (by kernel_rfl) (pureS rplain_spec) (pure_cons (by kernel_rfl) (pureS rident_spec) (pure_cons (by kernel_rfl) (pureS risCls_spec) (pure_cons (by kernel_rfl) (pureTy rvalue_spec) (pure_cons (by kernel_rfl) (pureS roper_spec) pure_nil)))))
theorem rnode_k (k n : Int) (s c : List UInt8) (ty : Ty) (a : Option Addr) (l cp : Nat) (m : Mem) (hs : BL s) (hc : BL c) (hn : BL ty.name) (hk : isKind k = true) :
  FnH Tryz.prog 46 [.v (.agg ⟨exC k n s c ty (.slice a l cp)⟩)] ⟨[], []⟩ m fun r H' _ => r = .v (.bool (nodeR k n s c ty l)) ∧ H' = ⟨[], []⟩ := by
 rcases kinds hk with h | h | h | h | h | h | h | h | h | h | h | h | h | h | h | h | h | h | h | h | h <;> subst h <;> refine enter cfE puE Tryz.func46 rfl rfl (by kernel_rfl) rfl (by simp only [go_sem, ↓tfi, ↓fti, ↓reduceIte, exC]) ?_ <;>
  simp only [go_sem, ↓tfi, ↓fti, ↓reduceIte, exC, Int.reduceEq, decide_true, decide_false]
 all_goals first | rfl | exact ⟨fun _ => hs, rfl⟩ | exact ⟨fun _ => hc, rfl⟩ | exact ⟨fun _ => hn, rfl⟩ | exact ⟨fun _ => hs, fun _ => hc, rfl⟩
theorem rnode_no (k n : Int) (s c : List UInt8) (ty : Ty) (a : Option Addr) (l cp : Nat) (m : Mem) (e : ∀ j : Int, 1 ≤ j → j ≤ 21 → (k = j) = False) :
  FnH Tryz.prog 46 [.v (.agg ⟨exC k n s c ty (.slice a l cp)⟩)] ⟨[], []⟩ m fun r H' _ => r = .v (.bool false) ∧ H' = ⟨[], []⟩ := by
 have e1 := e 1 (by decide) (by decide)
 have e2 := e 2 (by decide) (by decide)
 have e3 := e 3 (by decide) (by decide)
 have e4 := e 4 (by decide) (by decide)
 have e5 := e 5 (by decide) (by decide)
 have e6 := e 6 (by decide) (by decide)
 have e7 := e 7 (by decide) (by decide)
 have e8 := e 8 (by decide) (by decide)
 have e9 := e 9 (by decide) (by decide)
 have e10 := e 10 (by decide) (by decide)
 have e11 := e 11 (by decide) (by decide)
 have e12 := e 12 (by decide) (by decide)
 have e13 := e 13 (by decide) (by decide)
 have e14 := e 14 (by decide) (by decide)
 have e15 := e 15 (by decide) (by decide)
 have e16 := e 16 (by decide) (by decide)
 have e17 := e 17 (by decide) (by decide)
 have e18 := e 18 (by decide) (by decide)
 have e19 := e 19 (by decide) (by decide)
 have e20 := e 20 (by decide) (by decide)
 have e21 := e 21 (by decide) (by decide)
 refine enter cfE puE Tryz.func46 rfl rfl (by kernel_rfl) rfl ?_ ?_
 ·simp only [go_sem, ↓tfi, ↓fti, ↓reduceIte, exC]
 ·simp only [go_sem, ↓tfi, ↓fti, ↓reduceIte, exC, e1, e2, e3, e4, e5, e6, e7, e8, e9, e10, e11, e12, e13, e14, e15, e16, e17, e18, e19, e20, e21, decide_false]
theorem rnode_spec (k n : Int) (s c : List UInt8) (ty : Ty) (a : Option Addr) (l cp : Nat) (m : Mem) (hs : BL s) (hc : BL c) (hn : BL ty.name) :
  FnH Tryz.prog 46 [.v (.agg ⟨exC k n s c ty (.slice a l cp)⟩)] ⟨[], []⟩ m fun r H' _ => r = .v (.bool (nodeL k n s c ty.dim ty.base ty.name l)) ∧ H' = ⟨[], []⟩ := by
 by_cases hk : isKind k = true
 ·rw [← node_eq]
  exact rnode_k k n s c ty a l cp m hs hc hn hk
 ·rw [Bool.not_eq_true] at hk
  have e0 : nodeL k n s c ty.dim ty.base ty.name l = false := by rw [nodeL, hk]; rfl
  rw [e0]
  exact rnode_no k n s c ty a l cp m fun j h1 h2 => eq_false fun h => by rw [h] at hk; simp [isKind, h1, h2] at hk
theorem validEs_take : ∀ {l : List Ex} {i : Nat} (hi : i < l.length), validEs (l.take (i + 1)) = (validEs (l.take i) && validE l[i])
 | [], _, hi => absurd hi (Nat.not_lt_zero _)
 | e :: r, 0, _ => by simp [validEs]
 | e :: r, i + 1, hi => by
  have := validEs_take (l := r) (i := i) (by simpa using hi)
  simp only [List.take_succ_cons, validEs, this, List.getElem_cons_succ, Bool.and_assoc]
theorem validEs_no {l : List Ex} {i : Nat} (hi : i < l.length) (h : validE l[i] = false) : validEs l = false := by
 cases hv : validEs l with
 | false => rfl
 | true => rw [validEs_mem hv _ (List.getElem_mem hi)] at h; cases h
theorem rvalid_all : ∀ (h : Nat) (e : Ex) (cs : List Value) (m : Mem), depthE e ≤ h → exRep m e cs → Ans 20 [.v (.agg ⟨cs⟩)] m (.bool (validE e))
 | 0, .mk k n s c ty args, cs, m, hd, _ => by simp [depthE] at hd
 | h + 1, .mk k n s c ty args, cs, m, hd, he => by
  simp only [exRep] at he
  obtain ⟨a, cp, xs, rfl, hcp, hr, hok, hes⟩ := he
  have hn := hok.2.2.2.2.2
  simp only [depthE] at hd
  have hN := fun m' => rnode_spec k n s c ty a args.length cp m' (Nat.le_trans hok.2.2.1 (by decide)) (Nat.le_trans hok.2.2.2.1 (by decide)) (Nat.le_trans hok.2.2.2.2.1.2.2 (by decide))
  refine enter cfN puN Tryz.func20 rfl rfl (by kernel_rfl) rfl ?_ ?_
  ·simp only [go_sem, ↓tfi, ↓fti, ↓reduceIte, exC]
  ·simp only [go_sem, ↓tfi, ↓fti, ↓reduceIte, exC]
   refine WP_loop puN (fun x : Nat × Mem => ⟨[⟨1, [], .box 0 0⟩, ⟨3, [], .v (.int .i64 x.1)⟩], [], [⟨0, 32, (exC k n s c ty (.slice a args.length cp)).map .v⟩], [], 1, x.2⟩)
    (fun x => leM m x.2 ∧ x.1 ≤ args.length ∧ validEs (args.take x.1) = true) (fun x => args.length - x.1) (0, m) (by kernel_rfl) (fun _ _ => Nnr _) (fun x hx => hx.1) (fun _ => ?_) ?_ ?_ ?_
   ·simp only [go_sem, ↓tfi, ↓fti, ↓reduceIte, exC]
   ·simp only [go_sem, ↓tfi, ↓fti, ↓reduceIte, exC]
    rfl
   ·exact ⟨.inl rfl, Nat.zero_le _, by simp [validEs]⟩
   ·rintro ⟨i, mm⟩ ⟨h1, h2, h3⟩
    simp only at h1 h2 h3
    have hx : ∀ (hi : i < args.length), ∃ x : Nd, Rd mm (ptrAt a (i * 8)) x.cs ∧ a ≠ none ∧ Ans 20 [.v (.agg ⟨x.cs⟩)] mm (.bool (validE args[i])) := fun hi => by
     have hrep := exRep_upM h1 (exs_at hes hi)
     obtain ⟨x, hx⟩ := exRep_nd hrep
     have hrd := Rds_cells (Rds_upM h1 hr) hi
     rw [hx] at hrep hrd
     exact ⟨x, hrd.1, hrd.2, rvalid_all h args[i] x.cs mm (by have := depth_mem hi; omega) hrep⟩
    simp only [go_sem, ↓tfi, ↓fti, ↓reduceIte, exC]
    refine ⟨fun hlt => ?_, fun hge => ?_⟩
    ·clear hN
     refine Exists.elim (hx (by clear hx; omega)) fun x hx' => ⟨⟨by clear hx hx'; omega, hlt, hx'.2.1⟩, x.cs, ⟨hx'.1, rfl⟩, ?_⟩
     clear hx
     have ha := hx'.2.2
     simp only [go_sem, ↓tfi, ↓fti, ↓reduceIte, Nd.cs, exC]
     refine cvl ((FnH_den ha (fun V => rfl)).mono ?_)
     clear hx' ha
     rintro r H' m2 hm2 ⟨hle2, rfl, rfl⟩
     simp only [go_sem, ↓tfi, ↓fti, ↓reduceIte, exC]
     have hi : i < args.length := by omega
     refine ⟨fun hv => ⟨leM_tr h1 hle2, ?_⟩, fun hv => ⟨by unfold I64; simp only [big] at hn; omega, (i + 1, m2), ⟨by simp, .inl rfl⟩, ⟨leM_tr h1 hle2, by simp only; omega, ?_⟩, by simp only; omega⟩⟩
     ·rw [validE, validEs_no hi hv, Bool.and_false]
     ·simp only
      rw [validEs_take hi, h3, hv]
      rfl
    ·clear hx
     refine cvl ((FnH_den (hN mm) (fun V => rfl)).mono ?_)
     clear hN
     rintro r H' m2 hm2 ⟨rfl, rfl⟩
     simp only [go_sem, ↓tfi, ↓fti, ↓reduceIte]
     refine ⟨leM_tr h1 (.inr hm2), ?_⟩
     rw [List.take_of_length_le (by omega)] at h3
     rw [validE, h3, Bool.and_true]
theorem rdepth_all : ∀ (h : Nat) (e : Ex) (cs : List Value) (m : Mem), depthE e ≤ h → h ≤ big → exRep m e cs → Ans 24 [.v (.agg ⟨cs⟩)] m (.int .i64 (depthE e))
 | 0, .mk k n s c ty args, cs, m, hd, _, _ => by simp [depthE] at hd
 | h + 1, .mk k n s c ty args, cs, m, hd, hb, he => by
  simp only [exRep] at he
  obtain ⟨a, cp, xs, rfl, hcp, hr, hok, hes⟩ := he
  have hn := hok.2.2.2.2.2
  simp only [depthE] at hd
  refine enter cfN puN Tryz.func24 rfl rfl (by kernel_rfl) rfl ?_ ?_
  ·simp only [go_sem, ↓tfi, ↓fti, ↓reduceIte, exC]
  ·simp only [go_sem, ↓tfi, ↓fti, ↓reduceIte, exC]
   refine WP_loop puN (fun x : Nat × Mem => ⟨[⟨1, [], .box 0 0⟩, ⟨3, [], .v (.int .i64 (depthL (args.take x.1)))⟩, ⟨4, [], .v (.int .i64 x.1)⟩], [], [⟨0, 32, (exC k n s c ty (.slice a args.length cp)).map .v⟩], [], 1, x.2⟩)
    (fun x => leM m x.2 ∧ x.1 ≤ args.length) (fun x => args.length - x.1) (0, m) (by kernel_rfl) (fun _ _ => Nnr _) (fun x hx => hx.1) (fun _ => ?_) ?_ ?_ ?_
   ·simp only [go_sem, ↓tfi, ↓fti, ↓reduceIte, exC]
   ·simp only [go_sem, ↓tfi, ↓fti, ↓reduceIte, exC]
    exact ⟨rfl, rfl⟩
   ·exact ⟨.inl rfl, Nat.zero_le _⟩
   ·rintro ⟨i, mm⟩ ⟨h1, h2⟩
    simp only at h1 h2
    have hx : ∀ (hi : i < args.length), ∃ x : Nd, Rd mm (ptrAt a (i * 8)) x.cs ∧ a ≠ none ∧ Ans 24 [.v (.agg ⟨x.cs⟩)] mm (.int .i64 (depthE args[i])) := fun hi => by
     have hrep := exRep_upM h1 (exs_at hes hi)
     obtain ⟨x, hx⟩ := exRep_nd hrep
     have hrd := Rds_cells (Rds_upM h1 hr) hi
     rw [hx] at hrep hrd
     exact ⟨x, hrd.1, hrd.2, rdepth_all h args[i] x.cs mm (by have := depth_mem hi; omega) (by omega) hrep⟩
    simp only [go_sem, ↓tfi, ↓fti, ↓reduceIte, exC]
    refine ⟨fun hlt => ?_, fun hge => ?_⟩
    ·refine Exists.elim (hx (by clear hx; omega)) fun x hx' => ⟨⟨by clear hx hx'; omega, hlt, hx'.2.1⟩, x.cs, ⟨hx'.1, rfl⟩, ?_⟩
     clear hx
     have ha := hx'.2.2
     simp only [go_sem, ↓tfi, ↓fti, ↓reduceIte, Nd.cs, exC]
     refine cvl ((FnH_den ha (fun V => rfl)).mono ?_)
     clear hx' ha
     rintro r H' m2 hm2 ⟨hle2, rfl, rfl⟩
     simp only [go_sem, ↓tfi, ↓fti, ↓reduceIte, exC]
     have hi : i < args.length := by omega
     have hdt := depth_take hi
     refine ⟨by unfold I64; simp only [big] at hn; omega, (i + 1, m2), ⟨⟨?_, by simp⟩, .inl rfl⟩, ⟨leM_tr h1 hle2, by simp only; omega⟩, by simp only; omega⟩
     simp only
     rw [hdt]
     split <;> omega
    ·clear hx
     have : args.take i = args := List.take_of_length_le (by omega)
     rw [this]
     simp only [depthE]
     exact ⟨by unfold I64; simp only [big] at hb; omega, h1, by omega⟩
theorem bare0 (n : Int) (s c : List UInt8) (ty : Ty) : bareR [] n s c ty = (decide (n = 0) && decide (s = []) && decide (c = []) && Ty.eq ty zTy) := by simp [bareR]
theorem zero_eq (k n : Int) (s c : List UInt8) (ty : Ty) (l : Nat) : (decide (k = 0) && bareR [] n s c ty && decide ((l : Int) = 0)) = emptyL k n s c ty l := by
 rw [bare0, emptyL]
 grind
theorem super_eq (k n : Int) (s c : List UInt8) (ty : Ty) (l : Nat) : (decide (k = 0) && bareR [] n s c ty && decide ((l : Int) ≤ 16)) = (emptyL k n s c ty 0 && decide (l ≤ 16)) := by
 rw [bare0, emptyL]
 grind
theorem rzero_spec (k n : Int) (s c : List UInt8) (ty : Ty) (a : Option Addr) (l cp : Nat) (m : Mem) : FnH Tryz.prog 56 [.v (.agg ⟨exC k n s c ty (.slice a l cp)⟩)] ⟨[], []⟩ m fun r H' _ => r = .v (.bool (emptyL k n s c ty l)) ∧ H' = ⟨[], []⟩ := by
 refine enter cfE puE Tryz.func56 rfl rfl (by kernel_rfl) rfl ?_ ?_
 ·simp only [go_sem, ↓tfi, ↓fti, ↓reduceIte, exC]
 ·simp only [go_sem, ↓tfi, ↓fti, ↓reduceIte, exC]
  exact zero_eq k n s c ty l
def pZero : List Value → Option (Prop × Value)
 | [.agg ⟨[.int .i64 k, .int .i64 n, .string s, .string c, .int .i64 d, .int .u8 b, .string nm, .slice _ l _]⟩] => some (True, .bool (emptyL k n (tl s) (tl c) ⟨d, b, tl nm⟩ l))
 | _ => none
attribute [go_sem] pZero.eq_1
theorem pureZero : Pure0 Tryz.prog 56 pZero := fun vals y hy _ m => by
 unfold pZero at hy
 split at hy
 ·rename_i k n s c d b nm a l cp
  cases hy
  have := rzero_spec k n (tl s) (tl c) ⟨d, b, tl nm⟩ a l cp m
  simp only [exC, bs_tl] at this
  exact this
 ·cases hy
theorem rtyped_spec (k : Int) (nm : List UInt8) (ty : Ty) (c5 c6 c7 c8 c9 c10 c11 c12 c13 c14 c15 c16 c17 c18 c19 c20 c21 c22 : Value) (t : Bool) (m : Mem) (h1 : BL nm) (h2 : BL ty.name) :
  FnH Tryz.prog 123 [.v (.agg ⟨[.int .i64 k, .string (bs nm), .int .i64 ty.dim, .int .u8 ty.base, .string (bs ty.name), c5, c6, c7, c8, c9, c10, c11, c12, c13, c14, c15, c16, c17, c18, c19, c20, c21, c22]⟩), .v (.bool t)] ⟨[], []⟩ m fun r H' _ => r = .v (.bool (typedR nm ty t)) ∧ H' = ⟨[], []⟩ := by
 refine enter cfE puE Tryz.func123 rfl rfl (by kernel_rfl) rfl ?_ ?_
 ·simp only [go_sem, ↓tfi, ↓fti, ↓reduceIte]
 ·simp only [go_sem, ↓tfi, ↓fti, ↓reduceIte, eqOkT]
  exact ⟨fun h => ⟨h2, fun _ => h1, by rw [typedR, if_pos h]⟩, fun h => by rw [typedR, if_neg (by simp [h])]; rfl⟩
def pTyped : List Value → Option (Prop × Value)
 | [.agg ⟨[.int .i64 _, .string s, .int .i64 d, .int .u8 b, .string nm, _, _, _, _, _, _, _, _, _, _, _, _, _, _, _, _, _, _]⟩, .bool t] => some (BL (tl s) ∧ BL (tl nm), .bool (typedR (tl s) ⟨d, b, tl nm⟩ t))
 | _ => none
attribute [go_sem] pTyped.eq_1
theorem pureTyped : Pure0 Tryz.prog 123 pTyped := fun vals y hy hB m => by
 unfold pTyped at hy
 split at hy
 ·rename_i k s d b nm c5 c6 c7 c8 c9 c10 c11 c12 c13 c14 c15 c16 c17 c18 c19 c20 c21 c22 t
  cases hy
  have := rtyped_spec k (tl s) ⟨d, b, tl nm⟩ c5 c6 c7 c8 c9 c10 c11 c12 c13 c14 c15 c16 c17 c18 c19 c20 c21 c22 t m hB.1 hB.2
  simp only [bs_tl] at this
  exact this
 ·cases hy
abbrev cfS : Cfg := mkCf (fun _ => false) [(56, pZero), (123, pTyped)]
theorem puS : PureOk cfS Tryz.prog := pure_cons (by kernel_rfl) pureZero (pure_cons (by kernel_rfl) pureTyped pure_nil)
theorem rargs_spec (e : Ex) (cs : List Value) (m : Mem) (he : exRep m e cs) : Ans 57 [.v (.agg ⟨cs⟩)] m (.bool (superE e)) := by
 cases e with
 | mk k n s c ty args =>
  simp only [exRep] at he
  obtain ⟨a, cp, xs, rfl, hcp, hr, hok, hes⟩ := he
  have hn := hok.2.2.2.2.2
  refine enter cfE puE Tryz.func57 rfl rfl (by kernel_rfl) rfl ?_ ?_
  ·simp only [go_sem, ↓tfi, ↓fti, ↓reduceIte, exC]
  ·simp only [go_sem, ↓tfi, ↓fti, ↓reduceIte, exC]
   refine WP_loop puE (fun x : Nat × Mem => ⟨[⟨1, [], .box 0 0⟩, ⟨3, [], .v (.int .i64 x.1)⟩], [], [⟨0, 32, (exC k n s c ty (.slice a args.length cp)).map .v⟩], [], 1, x.2⟩)
    (fun x => leM m x.2 ∧ x.1 ≤ args.length ∧ validEs (args.take x.1) = true) (fun x => args.length - x.1) (0, m) (by kernel_rfl) (fun _ _ => Nnr _) (fun x hx => hx.1) (fun _ => ?_) ?_ ?_ ?_
   ·simp only [go_sem, ↓tfi, ↓fti, ↓reduceIte, exC]
   ·simp only [go_sem, ↓tfi, ↓fti, ↓reduceIte, exC]
    rfl
   ·exact ⟨.inl rfl, Nat.zero_le _, by simp [validEs]⟩
   ·rintro ⟨i, mm⟩ ⟨h1, h2, h3⟩
    simp only at h1 h2 h3
    have hx : ∀ (hi : i < args.length), ∃ x : Nd, Rd mm (ptrAt a (i * 8)) x.cs ∧ a ≠ none ∧ Ans 20 [.v (.agg ⟨x.cs⟩)] mm (.bool (validE args[i])) := fun hi => by
     have hrep := exRep_upM h1 (exs_at hes hi)
     obtain ⟨x, hx⟩ := exRep_nd hrep
     have hrd := Rds_cells (Rds_upM h1 hr) hi
     rw [hx] at hrep hrd
     exact ⟨x, hrd.1, hrd.2, rvalid_all _ args[i] x.cs mm (Nnr _) hrep⟩
    simp only [go_sem, ↓tfi, ↓fti, ↓reduceIte, exC]
    refine ⟨fun hlt => ?_, fun hge => ?_⟩
    ·refine Exists.elim (hx (by clear hx; omega)) fun x hx' => ⟨⟨by clear hx hx'; omega, hlt, hx'.2.1⟩, x.cs, ⟨hx'.1, rfl⟩, ?_⟩
     clear hx
     have ha := hx'.2.2
     simp only [go_sem, ↓tfi, ↓fti, ↓reduceIte, Nd.cs, exC]
     refine cvl ((FnH_den ha (fun V => rfl)).mono ?_)
     clear hx' ha
     rintro r H' m2 hm2 ⟨hle2, rfl, rfl⟩
     simp only [go_sem, ↓tfi, ↓fti, ↓reduceIte, exC]
     have hi : i < args.length := by omega
     refine ⟨fun hv => ⟨leM_tr h1 hle2, ?_⟩, fun hv => ⟨by unfold I64; simp only [big] at hn; omega, (i + 1, m2), ⟨by simp, .inl rfl⟩, ⟨leM_tr h1 hle2, by simp only; omega, ?_⟩, by simp only; omega⟩⟩
     ·rw [superE, validEs_no hi hv, Bool.and_false]
     ·simp only
      rw [validEs_take hi, h3, hv]
      rfl
    ·clear hx
     rw [List.take_of_length_le (by omega)] at h3
     refine ⟨h1, ?_⟩
     rw [superE, h3, Bool.and_true]
     exact super_eq k n s c ty args.length
theorem rblock_spec (sup : Bool) (l : List St) (a : Option Addr) (n c : Nat) (xs : List Value) (m : Mem) (hl : n = l.length) (hr : Rds m a n 23 xs) (hs : stsRep m l xs) (hn : n ≤ big)
  (hV : ∀ e ∈ l, ∀ cs m', leM m m' → stRep m' e cs → Ans 22 [.v (.agg ⟨cs⟩)] m' (.bool (validS e))) :
  Ans 78 [.v (.slice a n c), .v (.bool sup)] m (.bool (blockL sup l)) := by
 refine enter cfN puN Tryz.func78 rfl rfl (by kernel_rfl) rfl ?_ ?_
 ·simp only [go_sem, ↓tfi, ↓fti, ↓reduceIte]
 ·simp only [go_sem, ↓tfi, ↓fti, ↓reduceIte]
  refine WP_loop puN (fun x : Nat × Mem => ⟨[⟨0, [], .v (.slice a n c)⟩, ⟨1, [], .v (.bool sup)⟩, ⟨5, [], .v (.int .i64 x.1)⟩], [], [], [], 0, x.2⟩)
    (fun x => leM m x.2 ∧ x.1 ≤ n ∧ validSs sup (l.take x.1) = true) (fun x => n - x.1) (0, m) (by kernel_rfl) (fun _ _ => Nnr _) (fun x hx => hx.1) (fun _ => ?_) ?_ ?_ ?_
  ·simp only [go_sem, ↓tfi, ↓fti, ↓reduceIte]
  ·simp only [go_sem, ↓tfi, ↓fti, ↓reduceIte]
   rfl
  ·exact ⟨.inl rfl, Nat.zero_le _, by simp [validSs]⟩
  ·rintro ⟨k, mm⟩ ⟨h1, h2, h3⟩
   simp only at h1 h2 h3
   have hy : ∀ (hk : k < l.length), ∃ X : Sd, (Rd mm (ptrAt a (k * 23)) X.cs ∧ a ≠ none) ∧ X.k = l[k].k ∧ Ans 22 [.v (.agg ⟨X.cs⟩)] mm (.bool (validS l[k])) := fun hk => by
    have hrep := stRep_upM h1 (sts_at hs hk)
    have hkx : ∃ X : Sd, (xs.drop (k * 23)).take 23 = X.cs ∧ X.k = l[k].k := by
     cases hlk : l[k] with
     | mk k' nm ty tg ex body alt =>
      rw [hlk] at hrep
      obtain ⟨X, e1, e2, _⟩ := st_parts hrep
      exact ⟨X, e1, e2⟩
    obtain ⟨X, e1, e2⟩ := hkx
    have r1 := Rds_cells (Rds_upM h1 hr) (by omega : k < n)
    rw [e1] at r1 hrep
    exact ⟨X, r1, e2, hV _ (List.getElem_mem hk) _ _ h1 hrep⟩
   clear hV
   simp only [go_sem, ↓tfi, ↓fti, ↓reduceIte]
   refine ⟨fun hlt => ?_, fun hge => ⟨h1, ?_⟩⟩
   ·have hk : k < l.length := by clear hy; omega
    refine Exists.elim (hy hk) fun X hy' => ⟨⟨by clear hy hy'; omega, hlt, hy'.1.2⟩, Rd_ptr hy'.1.1, .int .i64 X.k, Rd_sub hy'.1.1 0 1 (nbl rfl), ?_⟩
    clear hy
    have hkk := hy'.2.1
    have ha := hy'.2.2
    have hr1 := hy'.1.1
    have hrn := hy'.1.2
    clear hy'
    simp only [go_sem, ↓tfi, ↓fti, ↓reduceIte, Sd.cs, Nd.cs]
    refine ⟨fun _ => ⟨by omega, hlt, hrn⟩, X.cs, fun _ => ⟨hr1, rfl⟩, fun hc => cvl (ha.mono ?_), fun hc => ⟨h1, ?_⟩⟩
    ·clear ha
     have hb : blk1 sup k l[k] = validS l[k] := by
      rw [hkk] at hc
      rcases hc with hc | hc
      ·simp [blk1, hc]
      ·have : k = 0 := by omega
       simp [blk1, hc.1, this]
     rintro r H' m2 hm2 ⟨hle2, rfl, rfl⟩
     simp only [go_sem, ↓tfi, ↓fti, ↓reduceIte]
     refine ⟨fun hv => ⟨leM_tr h1 hle2, ?_⟩, fun hv => ⟨by unfold I64; simp only [big] at hn; omega, (k + 1, m2), ⟨by simp, .inl rfl⟩, ⟨leM_tr h1 hle2, by simp only; omega, ?_⟩, by simp only; omega⟩⟩
     ·rw [blockL, validSs_no hk (by rw [hb]; exact hv), Bool.and_false]
     ·simp only
      rw [validSs_take hk, h3, hb, hv]
      rfl
    ·clear ha
     rw [hkk] at hc
     rw [blockL, validSs_no hk, Bool.and_false]
     rcases hc.2 with h0 | h0
     ·simp [blk1, hc.1, h0]
     ·have : ¬ k = 0 := by omega
      simp [blk1, hc.1, this]
   ·clear hy
    rw [List.take_of_length_le (by omega)] at h3
    rw [blockL, h3, Bool.and_true, decide_eq_decide]
    omega
theorem rshape_spec (X : Sd) (tg ex : Ex) (body alt : List St) (t t2 b1 b2 : Bool) (m : Mem) (h1 : BL X.name) (h2 : BL X.ty.name) (htg : exRep m tg X.tg.cs) (hl : X.l = body.length) (hl2 : X.l2 = alt.length)
  (hB : ∀ m', leM m m' → Ans 78 [.v (.slice X.a X.l X.cp), .v (.bool false)] m' (.bool (blockL false body)))
  (hA : ∀ m', leM m m' → Ans 78 [.v (.slice X.b X.l2 X.cp2), .v (.bool false)] m' (.bool (blockL false alt))) :
  Ans 55 [.v (.agg ⟨X.cs⟩), .v (.bool t), .v (.bool t2), .v (.bool b1), .v (.bool b2)] m (.bool (shapeR X.name X.ty tg body alt t t2 b1 b2)) := by
 have hz : emptyE tg = emptyL X.tg.k X.tg.n X.tg.s X.tg.c X.tg.ty X.tg.l := by
  cases tg with
  | mk k n s c ty args =>
   obtain ⟨y, hy, e1, e2, e3, e4, e5, e6, _⟩ := ex_parts htg
   rw [nd_inj hy, e1, e2, e3, e4, e5, e6]
   rfl
 refine enter cfS puS Tryz.func55 rfl rfl (by kernel_rfl) rfl ?_ ?_
 ·simp only [go_sem, ↓tfi, ↓fti, ↓reduceIte, Sd.cs, Nd.cs]
 ·simp only [go_sem, ↓tfi, ↓fti, ↓reduceIte, Sd.cs, Nd.cs]
  have e0 : shapeR X.name X.ty tg body alt t t2 b1 b2 = (typedR X.name X.ty t && (t2 || emptyE tg) && (b1 || decide (body.length = 0)) && (b2 || decide (alt.length = 0)) && blockL false body && blockL false alt) := rfl
  refine ⟨⟨h1, h2⟩, fun hc => cvl ((hB m (.inl rfl)).mono ?_), fun hc => ?_⟩
  ·have q : (typedR X.name X.ty t && (t2 || emptyE tg) && (b1 || decide (body.length = 0)) && (b2 || decide (alt.length = 0))) = true := by
    rw [hz, ← hl, ← hl2]
    simp only [Bbt, Bool.or_eq_true, decide_eq_true_eq]
    exact ⟨⟨⟨hc.1.1.1, hc.1.1.2⟩, Or.elim hc.1.2 .inl fun h => .inr (by omega)⟩, Or.elim hc.2 .inl fun h => .inr (by omega)⟩
   rw [e0, q]
   clear hB e0 q
   rintro r H' m1 hm1 ⟨l1, rfl, rfl⟩
   simp only [go_sem, ↓tfi, ↓fti, ↓reduceIte]
   refine ⟨fun hb => cvl ((hA m1 l1).mono ?_), fun hb => ⟨l1, by rw [hb]; rfl⟩⟩
   clear hA
   rintro r H' m2 hm2 ⟨l2, rfl, rfl⟩
   simp only [go_sem, ↓tfi, ↓fti, ↓reduceIte]
   exact ⟨leM_tr l1 l2, by rw [hb]; rfl⟩
  ·clear hA hB
   rw [e0, hz, ← hl, ← hl2]
   rcases hc with ((h | h) | h) | h
   ·have h' : typedR X.name X.ty t = false := h
    rw [h']; rfl
   ·have h' : emptyL X.tg.k X.tg.n X.tg.s X.tg.c X.tg.ty X.tg.l = false := h.2
    rw [h', h.1]; simp
   ·have h' : decide (X.l = 0) = false := decide_eq_false (by omega)
    rw [h', h.1]; simp
   ·have h' : decide (X.l2 = 0) = false := decide_eq_false (by omega)
    rw [h', h.1]; simp
theorem rst1 (nm : List UInt8) (ty : Ty) (tN eN : Nd) (a : Option Addr) (l cp : Nat) (b : Option Addr) (l2 cp2 : Nat) (m : Mem) (sB : Bool) (hS : Ans 55 [.v (.agg ⟨Sd.cs ⟨1, nm, ty, tN, eN, a, l, cp, b, l2, cp2⟩⟩), .v (.bool true), .v (.bool false), .v (.bool false), .v (.bool false)] m (.bool sB)) (xB : Bool) (hX : ∀ m', leM m m' → Ans 20 [.v (.agg ⟨eN.cs⟩)] m' (.bool xB)) : Ans 22 [.v (.agg ⟨Sd.cs ⟨1, nm, ty, tN, eN, a, l, cp, b, l2, cp2⟩⟩)] m (.bool (sB && xB)) := by
 refine enter cfS puS Tryz.func22 rfl rfl (by kernel_rfl) rfl ?_ ?_
 ·simp only [go_sem, ↓tfi, ↓fti, ↓reduceIte, Sd.cs, Nd.cs, Int.reduceEq, decide_true, decide_false]
 ·simp only [go_sem, ↓tfi, ↓fti, ↓reduceIte, Sd.cs, Nd.cs, Int.reduceEq, decide_true, decide_false]
  refine cvl ((FnH_den hS (fun V => rfl)).mono ?_)
  clear hS
  rintro r H' m1 hm1 ⟨l1, rfl, rfl⟩
  simp only [go_sem, ↓tfi, ↓fti, ↓reduceIte, Sd.cs, Nd.cs, Int.reduceEq, decide_true, decide_false]
  refine ⟨fun c => cvl ((FnH_den (hX m1 l1) (fun V => rfl)).mono ?_), fun c => ⟨l1, by rw [c]; rfl⟩⟩
  clear hX
  rintro r H' m2 hm2 ⟨l2', rfl, rfl⟩
  simp only [go_sem, ↓tfi, ↓fti, ↓reduceIte, Sd.cs, Nd.cs, Int.reduceEq, decide_true, decide_false]
  exact ⟨leM_tr l1 l2', by rw [c]; rfl⟩
theorem rst2 (nm : List UInt8) (ty : Ty) (tN eN : Nd) (a : Option Addr) (l cp : Nat) (b : Option Addr) (l2 cp2 : Nat) (m : Mem) (sB : Bool) (hS : Ans 55 [.v (.agg ⟨Sd.cs ⟨2, nm, ty, tN, eN, a, l, cp, b, l2, cp2⟩⟩), .v (.bool false), .v (.bool true), .v (.bool false), .v (.bool false)] m (.bool sB)) (xB : Bool) (hX : ∀ m', leM m m' → Ans 20 [.v (.agg ⟨eN.cs⟩)] m' (.bool xB)) (tB : Bool) (hT : ∀ m', leM m m' → Ans 20 [.v (.agg ⟨tN.cs⟩)] m' (.bool tB)) : Ans 22 [.v (.agg ⟨Sd.cs ⟨2, nm, ty, tN, eN, a, l, cp, b, l2, cp2⟩⟩)] m (.bool (sB && xB && tB && (decide (tN.k = 6) || decide (tN.k = 7) || decide (tN.k = 8) || decide (tN.k = 9)))) := by
 refine enter cfS puS Tryz.func22 rfl rfl (by kernel_rfl) rfl ?_ ?_
 ·simp only [go_sem, ↓tfi, ↓fti, ↓reduceIte, Sd.cs, Nd.cs, Int.reduceEq, decide_true, decide_false]
 ·simp only [go_sem, ↓tfi, ↓fti, ↓reduceIte, Sd.cs, Nd.cs, Int.reduceEq, decide_true, decide_false]
  refine cvl ((FnH_den hS (fun V => rfl)).mono ?_)
  clear hS
  rintro r H' m1 hm1 ⟨l1, rfl, rfl⟩
  simp only [go_sem, ↓tfi, ↓fti, ↓reduceIte, Sd.cs, Nd.cs, Int.reduceEq, decide_true, decide_false]
  refine ⟨fun c => cvl ((FnH_den (hX m1 l1) (fun V => rfl)).mono ?_), fun c => ⟨l1, by rw [c]; rfl⟩⟩
  clear hX
  rintro r H' m2 hm2 ⟨l2', rfl, rfl⟩
  simp only [go_sem, ↓tfi, ↓fti, ↓reduceIte, Sd.cs, Nd.cs, Int.reduceEq, decide_true, decide_false]
  have k2 := leM_tr l1 l2'
  refine ⟨fun c2 => cvl ((FnH_den (hT m2 k2) (fun V => rfl)).mono ?_), fun c2 => ⟨k2, by rw [c, c2]; rfl⟩⟩
  clear hT
  rintro r H' m3 hm3 ⟨l3', rfl, rfl⟩
  simp only [go_sem, ↓tfi, ↓fti, ↓reduceIte, Sd.cs, Nd.cs, Int.reduceEq, decide_true, decide_false]
  exact ⟨leM_tr k2 l3', by rw [c, c2]; rfl⟩
theorem rst3 (nm : List UInt8) (ty : Ty) (tN eN : Nd) (a : Option Addr) (l cp : Nat) (b : Option Addr) (l2 cp2 : Nat) (m : Mem) (sB : Bool) (hS : Ans 55 [.v (.agg ⟨Sd.cs ⟨3, nm, ty, tN, eN, a, l, cp, b, l2, cp2⟩⟩), .v (.bool false), .v (.bool false), .v (.bool false), .v (.bool false)] m (.bool sB)) (xB : Bool) (hX : ∀ m', leM m m' → Ans 20 [.v (.agg ⟨eN.cs⟩)] m' (.bool xB)) : Ans 22 [.v (.agg ⟨Sd.cs ⟨3, nm, ty, tN, eN, a, l, cp, b, l2, cp2⟩⟩)] m (.bool (sB && xB && (decide (eN.k = 10) || decide (eN.k = 11) || decide (eN.k = 12) || decide (eN.k = 13)))) := by
 refine enter cfS puS Tryz.func22 rfl rfl (by kernel_rfl) rfl ?_ ?_
 ·simp only [go_sem, ↓tfi, ↓fti, ↓reduceIte, Sd.cs, Nd.cs, Int.reduceEq, decide_true, decide_false]
 ·simp only [go_sem, ↓tfi, ↓fti, ↓reduceIte, Sd.cs, Nd.cs, Int.reduceEq, decide_true, decide_false]
  refine cvl ((FnH_den hS (fun V => rfl)).mono ?_)
  clear hS
  rintro r H' m1 hm1 ⟨l1, rfl, rfl⟩
  simp only [go_sem, ↓tfi, ↓fti, ↓reduceIte, Sd.cs, Nd.cs, Int.reduceEq, decide_true, decide_false]
  refine ⟨fun c => cvl ((FnH_den (hX m1 l1) (fun V => rfl)).mono ?_), fun c => ⟨l1, by rw [c]; rfl⟩⟩
  clear hX
  rintro r H' m2 hm2 ⟨l2', rfl, rfl⟩
  simp only [go_sem, ↓tfi, ↓fti, ↓reduceIte, Sd.cs, Nd.cs, Int.reduceEq, decide_true, decide_false]
  exact ⟨leM_tr l1 l2', by rw [c]; rfl⟩
theorem rst4 (nm : List UInt8) (ty : Ty) (tN eN : Nd) (a : Option Addr) (l cp : Nat) (b : Option Addr) (l2 cp2 : Nat) (m : Mem) (sB : Bool) (hS : Ans 55 [.v (.agg ⟨Sd.cs ⟨4, nm, ty, tN, eN, a, l, cp, b, l2, cp2⟩⟩), .v (.bool false), .v (.bool false), .v (.bool true), .v (.bool true)] m (.bool sB)) (xB : Bool) (hX : ∀ m', leM m m' → Ans 20 [.v (.agg ⟨eN.cs⟩)] m' (.bool xB)) : Ans 22 [.v (.agg ⟨Sd.cs ⟨4, nm, ty, tN, eN, a, l, cp, b, l2, cp2⟩⟩)] m (.bool (sB && xB)) := by
 refine enter cfS puS Tryz.func22 rfl rfl (by kernel_rfl) rfl ?_ ?_
 ·simp only [go_sem, ↓tfi, ↓fti, ↓reduceIte, Sd.cs, Nd.cs, Int.reduceEq, decide_true, decide_false]
 ·simp only [go_sem, ↓tfi, ↓fti, ↓reduceIte, Sd.cs, Nd.cs, Int.reduceEq, decide_true, decide_false]
  refine cvl ((FnH_den hS (fun V => rfl)).mono ?_)
  clear hS
  rintro r H' m1 hm1 ⟨l1, rfl, rfl⟩
  simp only [go_sem, ↓tfi, ↓fti, ↓reduceIte, Sd.cs, Nd.cs, Int.reduceEq, decide_true, decide_false]
  refine ⟨fun c => cvl ((FnH_den (hX m1 l1) (fun V => rfl)).mono ?_), fun c => ⟨l1, by rw [c]; rfl⟩⟩
  clear hX
  rintro r H' m2 hm2 ⟨l2', rfl, rfl⟩
  simp only [go_sem, ↓tfi, ↓fti, ↓reduceIte, Sd.cs, Nd.cs, Int.reduceEq, decide_true, decide_false]
  exact ⟨leM_tr l1 l2', by rw [c]; rfl⟩
theorem rst5 (nm : List UInt8) (ty : Ty) (tN eN : Nd) (a : Option Addr) (l cp : Nat) (b : Option Addr) (l2 cp2 : Nat) (m : Mem) (sB : Bool) (hS : Ans 55 [.v (.agg ⟨Sd.cs ⟨5, nm, ty, tN, eN, a, l, cp, b, l2, cp2⟩⟩), .v (.bool false), .v (.bool false), .v (.bool true), .v (.bool false)] m (.bool sB)) (xB : Bool) (hX : ∀ m', leM m m' → Ans 20 [.v (.agg ⟨eN.cs⟩)] m' (.bool xB)) : Ans 22 [.v (.agg ⟨Sd.cs ⟨5, nm, ty, tN, eN, a, l, cp, b, l2, cp2⟩⟩)] m (.bool (sB && xB)) := by
 refine enter cfS puS Tryz.func22 rfl rfl (by kernel_rfl) rfl ?_ ?_
 ·simp only [go_sem, ↓tfi, ↓fti, ↓reduceIte, Sd.cs, Nd.cs, Int.reduceEq, decide_true, decide_false]
 ·simp only [go_sem, ↓tfi, ↓fti, ↓reduceIte, Sd.cs, Nd.cs, Int.reduceEq, decide_true, decide_false]
  refine cvl ((FnH_den hS (fun V => rfl)).mono ?_)
  clear hS
  rintro r H' m1 hm1 ⟨l1, rfl, rfl⟩
  simp only [go_sem, ↓tfi, ↓fti, ↓reduceIte, Sd.cs, Nd.cs, Int.reduceEq, decide_true, decide_false]
  refine ⟨fun c => cvl ((FnH_den (hX m1 l1) (fun V => rfl)).mono ?_), fun c => ⟨l1, by rw [c]; rfl⟩⟩
  clear hX
  rintro r H' m2 hm2 ⟨l2', rfl, rfl⟩
  simp only [go_sem, ↓tfi, ↓fti, ↓reduceIte, Sd.cs, Nd.cs, Int.reduceEq, decide_true, decide_false]
  exact ⟨leM_tr l1 l2', by rw [c]; rfl⟩
theorem rst6 (nm : List UInt8) (ty : Ty) (tN eN : Nd) (a : Option Addr) (l cp : Nat) (b : Option Addr) (l2 cp2 : Nat) (m : Mem) (sB : Bool) (hS : Ans 55 [.v (.agg ⟨Sd.cs ⟨6, nm, ty, tN, eN, a, l, cp, b, l2, cp2⟩⟩), .v (.bool false), .v (.bool false), .v (.bool false), .v (.bool false)] m (.bool sB)) (xB : Bool) (hX : ∀ m', leM m m' → Ans 20 [.v (.agg ⟨eN.cs⟩)] m' (.bool xB)) : Ans 22 [.v (.agg ⟨Sd.cs ⟨6, nm, ty, tN, eN, a, l, cp, b, l2, cp2⟩⟩)] m (.bool (sB && (emptyL eN.k eN.n eN.s eN.c eN.ty eN.l || xB))) := by
 refine enter cfS puS Tryz.func22 rfl rfl (by kernel_rfl) rfl ?_ ?_
 ·simp only [go_sem, ↓tfi, ↓fti, ↓reduceIte, Sd.cs, Nd.cs, Int.reduceEq, decide_true, decide_false]
 ·simp only [go_sem, ↓tfi, ↓fti, ↓reduceIte, Sd.cs, Nd.cs, Int.reduceEq, decide_true, decide_false]
  refine cvl ((FnH_den hS (fun V => rfl)).mono ?_)
  clear hS
  rintro r H' m1 hm1 ⟨l1, rfl, rfl⟩
  simp only [go_sem, ↓tfi, ↓fti, ↓reduceIte, Sd.cs, Nd.cs, Int.reduceEq, decide_true, decide_false]
  refine ⟨fun c => ⟨fun z => cvl ((FnH_den (hX m1 l1) (fun V => rfl)).mono ?_), fun z => ⟨l1, ?_⟩⟩, fun c => ⟨l1, by rw [c]; rfl⟩⟩
  ·clear hX
   have z : emptyL eN.k eN.n eN.s eN.c eN.ty eN.l = false := z
   rintro r H' m2 hm2 ⟨l2', rfl, rfl⟩
   simp only [go_sem, ↓tfi, ↓fti, ↓reduceIte, Sd.cs, Nd.cs, Int.reduceEq, decide_true, decide_false]
   exact ⟨leM_tr l1 l2', by rw [c, z]; rfl⟩
  ·have z : emptyL eN.k eN.n eN.s eN.c eN.ty eN.l = true := z
   rw [c, z]; rfl
theorem rst7 (nm : List UInt8) (ty : Ty) (tN eN : Nd) (a : Option Addr) (l cp : Nat) (b : Option Addr) (l2 cp2 : Nat) (m : Mem) (sB : Bool) (hS : Ans 55 [.v (.agg ⟨Sd.cs ⟨7, nm, ty, tN, eN, a, l, cp, b, l2, cp2⟩⟩), .v (.bool false), .v (.bool false), .v (.bool false), .v (.bool false)] m (.bool sB)) (xB : Bool) (hX : ∀ m', leM m m' → Ans 20 [.v (.agg ⟨eN.cs⟩)] m' (.bool xB)) : Ans 22 [.v (.agg ⟨Sd.cs ⟨7, nm, ty, tN, eN, a, l, cp, b, l2, cp2⟩⟩)] m (.bool (sB && xB)) := by
 refine enter cfS puS Tryz.func22 rfl rfl (by kernel_rfl) rfl ?_ ?_
 ·simp only [go_sem, ↓tfi, ↓fti, ↓reduceIte, Sd.cs, Nd.cs, Int.reduceEq, decide_true, decide_false]
 ·simp only [go_sem, ↓tfi, ↓fti, ↓reduceIte, Sd.cs, Nd.cs, Int.reduceEq, decide_true, decide_false]
  refine cvl ((FnH_den hS (fun V => rfl)).mono ?_)
  clear hS
  rintro r H' m1 hm1 ⟨l1, rfl, rfl⟩
  simp only [go_sem, ↓tfi, ↓fti, ↓reduceIte, Sd.cs, Nd.cs, Int.reduceEq, decide_true, decide_false]
  refine ⟨fun c => cvl ((FnH_den (hX m1 l1) (fun V => rfl)).mono ?_), fun c => ⟨l1, by rw [c]; rfl⟩⟩
  clear hX
  rintro r H' m2 hm2 ⟨l2', rfl, rfl⟩
  simp only [go_sem, ↓tfi, ↓fti, ↓reduceIte, Sd.cs, Nd.cs, Int.reduceEq, decide_true, decide_false]
  exact ⟨leM_tr l1 l2', by rw [c]; rfl⟩
theorem rst8 (nm : List UInt8) (ty : Ty) (tN eN : Nd) (a : Option Addr) (l cp : Nat) (b : Option Addr) (l2 cp2 : Nat) (m : Mem) (sB : Bool) (hS : Ans 55 [.v (.agg ⟨Sd.cs ⟨8, nm, ty, tN, eN, a, l, cp, b, l2, cp2⟩⟩), .v (.bool true), .v (.bool false), .v (.bool true), .v (.bool true)] m (.bool sB)) : Ans 22 [.v (.agg ⟨Sd.cs ⟨8, nm, ty, tN, eN, a, l, cp, b, l2, cp2⟩⟩)] m (.bool (sB && emptyL eN.k eN.n eN.s eN.c eN.ty eN.l)) := by
 refine enter cfS puS Tryz.func22 rfl rfl (by kernel_rfl) rfl ?_ ?_
 ·simp only [go_sem, ↓tfi, ↓fti, ↓reduceIte, Sd.cs, Nd.cs, Int.reduceEq, decide_true, decide_false]
 ·simp only [go_sem, ↓tfi, ↓fti, ↓reduceIte, Sd.cs, Nd.cs, Int.reduceEq, decide_true, decide_false]
  refine cvl ((FnH_den hS (fun V => rfl)).mono ?_)
  clear hS
  rintro r H' m1 hm1 ⟨l1, rfl, rfl⟩
  simp only [go_sem, ↓tfi, ↓fti, ↓reduceIte, Sd.cs, Nd.cs, Int.reduceEq, decide_true, decide_false]
  exact l1
theorem rst9 (nm : List UInt8) (ty : Ty) (tN eN : Nd) (a : Option Addr) (l cp : Nat) (b : Option Addr) (l2 cp2 : Nat) (m : Mem) (sB : Bool) (hS : Ans 55 [.v (.agg ⟨Sd.cs ⟨9, nm, ty, tN, eN, a, l, cp, b, l2, cp2⟩⟩), .v (.bool false), .v (.bool false), .v (.bool true), .v (.bool false)] m (.bool sB)) (xB : Bool) (hX : ∀ m', leM m m' → Ans 20 [.v (.agg ⟨eN.cs⟩)] m' (.bool xB)) : Ans 22 [.v (.agg ⟨Sd.cs ⟨9, nm, ty, tN, eN, a, l, cp, b, l2, cp2⟩⟩)] m (.bool (sB && xB)) := by
 refine enter cfS puS Tryz.func22 rfl rfl (by kernel_rfl) rfl ?_ ?_
 ·simp only [go_sem, ↓tfi, ↓fti, ↓reduceIte, Sd.cs, Nd.cs, Int.reduceEq, decide_true, decide_false]
 ·simp only [go_sem, ↓tfi, ↓fti, ↓reduceIte, Sd.cs, Nd.cs, Int.reduceEq, decide_true, decide_false]
  refine cvl ((FnH_den hS (fun V => rfl)).mono ?_)
  clear hS
  rintro r H' m1 hm1 ⟨l1, rfl, rfl⟩
  simp only [go_sem, ↓tfi, ↓fti, ↓reduceIte, Sd.cs, Nd.cs, Int.reduceEq, decide_true, decide_false]
  refine ⟨fun c => cvl ((FnH_den (hX m1 l1) (fun V => rfl)).mono ?_), fun c => ⟨l1, by rw [c]; rfl⟩⟩
  clear hX
  rintro r H' m2 hm2 ⟨l2', rfl, rfl⟩
  simp only [go_sem, ↓tfi, ↓fti, ↓reduceIte, Sd.cs, Nd.cs, Int.reduceEq, decide_true, decide_false]
  exact ⟨leM_tr l1 l2', by rw [c]; rfl⟩
theorem rst10 (nm : List UInt8) (ty : Ty) (tN eN : Nd) (a : Option Addr) (l cp : Nat) (b : Option Addr) (l2 cp2 : Nat) (m : Mem) (sB : Bool) (hS : Ans 55 [.v (.agg ⟨Sd.cs ⟨10, nm, ty, tN, eN, a, l, cp, b, l2, cp2⟩⟩), .v (.bool false), .v (.bool false), .v (.bool true), .v (.bool false)] m (.bool sB)) : Ans 22 [.v (.agg ⟨Sd.cs ⟨10, nm, ty, tN, eN, a, l, cp, b, l2, cp2⟩⟩)] m (.bool (sB && emptyL eN.k eN.n eN.s eN.c eN.ty eN.l)) := by
 refine enter cfS puS Tryz.func22 rfl rfl (by kernel_rfl) rfl ?_ ?_
 ·simp only [go_sem, ↓tfi, ↓fti, ↓reduceIte, Sd.cs, Nd.cs, Int.reduceEq, decide_true, decide_false]
 ·simp only [go_sem, ↓tfi, ↓fti, ↓reduceIte, Sd.cs, Nd.cs, Int.reduceEq, decide_true, decide_false]
  refine cvl ((FnH_den hS (fun V => rfl)).mono ?_)
  clear hS
  rintro r H' m1 hm1 ⟨l1, rfl, rfl⟩
  simp only [go_sem, ↓tfi, ↓fti, ↓reduceIte, Sd.cs, Nd.cs, Int.reduceEq, decide_true, decide_false]
  exact l1
theorem rst11 (nm : List UInt8) (ty : Ty) (tN eN : Nd) (a : Option Addr) (l cp : Nat) (b : Option Addr) (l2 cp2 : Nat) (m : Mem) (sB : Bool) (hS : Ans 55 [.v (.agg ⟨Sd.cs ⟨11, nm, ty, tN, eN, a, l, cp, b, l2, cp2⟩⟩), .v (.bool false), .v (.bool false), .v (.bool false), .v (.bool false)] m (.bool sB)) (xB : Bool) (hX : ∀ m', leM m m' → Ans 57 [.v (.agg ⟨eN.cs⟩)] m' (.bool xB)) : Ans 22 [.v (.agg ⟨Sd.cs ⟨11, nm, ty, tN, eN, a, l, cp, b, l2, cp2⟩⟩)] m (.bool (sB && xB)) := by
 refine enter cfS puS Tryz.func22 rfl rfl (by kernel_rfl) rfl ?_ ?_
 ·simp only [go_sem, ↓tfi, ↓fti, ↓reduceIte, Sd.cs, Nd.cs, Int.reduceEq, decide_true, decide_false]
 ·simp only [go_sem, ↓tfi, ↓fti, ↓reduceIte, Sd.cs, Nd.cs, Int.reduceEq, decide_true, decide_false]
  refine cvl ((FnH_den hS (fun V => rfl)).mono ?_)
  clear hS
  rintro r H' m1 hm1 ⟨l1, rfl, rfl⟩
  simp only [go_sem, ↓tfi, ↓fti, ↓reduceIte, Sd.cs, Nd.cs, Int.reduceEq, decide_true, decide_false]
  refine ⟨fun c => cvl ((FnH_den (hX m1 l1) (fun V => rfl)).mono ?_), fun c => ⟨l1, by rw [c]; rfl⟩⟩
  clear hX
  rintro r H' m2 hm2 ⟨l2', rfl, rfl⟩
  simp only [go_sem, ↓tfi, ↓fti, ↓reduceIte, Sd.cs, Nd.cs, Int.reduceEq, decide_true, decide_false]
  exact ⟨leM_tr l1 l2', by rw [c]; rfl⟩
theorem rst0 (k : Int) (nm : List UInt8) (ty : Ty) (tN eN : Nd) (a : Option Addr) (l cp : Nat) (b : Option Addr) (l2 cp2 : Nat) (m : Mem) (e : ∀ j : Int, 1 ≤ j → j ≤ 11 → (k = j) = False) :
  Ans 22 [.v (.agg ⟨Sd.cs ⟨k, nm, ty, tN, eN, a, l, cp, b, l2, cp2⟩⟩)] m (.bool false) := by
 have e1 := e 1 (by decide) (by decide)
 have e2 := e 2 (by decide) (by decide)
 have e3 := e 3 (by decide) (by decide)
 have e4 := e 4 (by decide) (by decide)
 have e5 := e 5 (by decide) (by decide)
 have e6 := e 6 (by decide) (by decide)
 have e7 := e 7 (by decide) (by decide)
 have e8 := e 8 (by decide) (by decide)
 have e9 := e 9 (by decide) (by decide)
 have e10 := e 10 (by decide) (by decide)
 have e11 := e 11 (by decide) (by decide)
 refine enter cfS puS Tryz.func22 rfl rfl (by kernel_rfl) rfl ?_ ?_
 ·simp only [go_sem, ↓tfi, ↓fti, ↓reduceIte, Sd.cs, Nd.cs]
 ·simp only [go_sem, ↓tfi, ↓fti, ↓reduceIte, Sd.cs, Nd.cs, e1, e2, e3, e4, e5, e6, e7, e8, e9, e10, e11, decide_false]
theorem nd_of {m : Mem} {e : Ex} {x : Nd} (h : exRep m e x.cs) : x.k = e.k ∧ emptyL x.k x.n x.s x.c x.ty x.l = emptyE e := by
 cases e with
 | mk k n s c ty args =>
  obtain ⟨y, hy, e1, e2, e3, e4, e5, e6, _⟩ := ex_parts h
  rw [nd_inj hy, e1, e2, e3, e4, e5, e6]
  exact ⟨rfl, rfl⟩
theorem rvalidS_all : ∀ (h : Nat) (e : St) (cs : List Value) (m : Mem), depthS e ≤ h → stRep m e cs → Ans 22 [.v (.agg ⟨cs⟩)] m (.bool (validS e))
 | 0, .mk k nm ty tg ex body alt, cs, m, hd, _ => by simp [depthS] at hd
 | h + 1, .mk k nm ty tg ex body alt, cs, m, hd, he => by
  obtain ⟨⟨k, nm, ty, tN, eN, a, l, cp, b, l2, cp2⟩, rfl, rfl, rfl, rfl, htg, hex, hl, hcp, hl2, hcp2, hok, xs, ys, r1, r2, s1, s2⟩ := st_parts he
  simp only [depthS] at hd
  simp only at htg hex hl hcp hl2 hcp2 hok r1 r2
  have hB := fun m' (hle : leM m m') => rblock_spec false body a l cp xs m' hl (Rds_upM hle r1) (stsRep_upM hle s1) (by rw [hl]; exact hok.l) fun e he cs m2 hle2 hrep => rvalidS_all h e cs m2 (by have := depthSs_mem he; omega) hrep
  have hA := fun m' (hle : leM m m') => rblock_spec false alt b l2 cp2 ys m' hl2 (Rds_upM hle r2) (stsRep_upM hle s2) (by rw [hl2]; exact hok.l2) fun e he cs m2 hle2 hrep => rvalidS_all h e cs m2 (by have := depthSs_mem he; omega) hrep
  have hS := fun (t t2 b1 b2 : Bool) => rshape_spec ⟨k, nm, ty, tN, eN, a, l, cp, b, l2, cp2⟩ tg ex body alt t t2 b1 b2 m (Nat.le_trans hok.nm (by decide)) (Nat.le_trans hok.ty.2.2 (by decide)) htg hl hl2 hB hA
  have hX := fun m' (hle : leM m m') => rvalid_all _ ex eN.cs m' (Nnr _) (exRep_upM hle hex)
  have hT := fun m' (hle : leM m m') => rvalid_all _ tg tN.cs m' (Nnr _) (exRep_upM hle htg)
  have hR := fun m' (hle : leM m m') => rargs_spec ex eN.cs m' (exRep_upM hle hex)
  have nt := nd_of htg
  have ne := nd_of hex
  rw [stm_eq]
  simp only
  rcases kinds_or (k := k) with hk | hk
  ·rcases hk with rfl | rfl | rfl | rfl | rfl | rfl | rfl | rfl | rfl | rfl | rfl
   ·have h := rst1 nm ty tN eN a l cp b l2 cp2 m _ (hS true false false false) _ hX
    simp only [stmR, Int.reduceEq, or_false, or_true, false_or, true_or, if_true, if_false]
    exact h
   ·have h := rst2 nm ty tN eN a l cp b l2 cp2 m _ (hS false true false false) _ hX _ hT
    rw [nt.1] at h
    simp only [stmR, Int.reduceEq, or_false, or_true, false_or, true_or, if_true, if_false]
    exact h
   ·have h := rst3 nm ty tN eN a l cp b l2 cp2 m _ (hS false false false false) _ hX
    rw [ne.1] at h
    simp only [stmR, Int.reduceEq, or_false, or_true, false_or, true_or, if_true, if_false]
    exact h
   ·have h := rst4 nm ty tN eN a l cp b l2 cp2 m _ (hS false false true true) _ hX
    simp only [stmR, Int.reduceEq, or_false, or_true, false_or, true_or, if_true, if_false]
    exact h
   ·have h := rst5 nm ty tN eN a l cp b l2 cp2 m _ (hS false false true false) _ hX
    simp only [stmR, Int.reduceEq, or_false, or_true, false_or, true_or, if_true, if_false]
    exact h
   ·have h := rst6 nm ty tN eN a l cp b l2 cp2 m _ (hS false false false false) _ hX
    rw [ne.2] at h
    simp only [stmR, Int.reduceEq, or_false, or_true, false_or, true_or, if_true, if_false]
    exact h
   ·have h := rst7 nm ty tN eN a l cp b l2 cp2 m _ (hS false false false false) _ hX
    simp only [stmR, Int.reduceEq, or_false, or_true, false_or, true_or, if_true, if_false]
    exact h
   ·have h := rst8 nm ty tN eN a l cp b l2 cp2 m _ (hS true false true true)
    rw [ne.2] at h
    simp only [stmR, Int.reduceEq, or_false, or_true, false_or, true_or, if_true, if_false]
    exact h
   ·have h := rst9 nm ty tN eN a l cp b l2 cp2 m _ (hS false false true false) _ hX
    simp only [stmR, Int.reduceEq, or_false, or_true, false_or, true_or, if_true, if_false]
    exact h
   ·have h := rst10 nm ty tN eN a l cp b l2 cp2 m _ (hS false false true false)
    rw [ne.2] at h
    simp only [stmR, Int.reduceEq, or_false, or_true, false_or, true_or, if_true, if_false]
    exact h
   ·have h := rst11 nm ty tN eN a l cp b l2 cp2 m _ (hS false false false false) _ hR
    simp only [stmR, Int.reduceEq, or_false, or_true, false_or, true_or, if_true, if_false]
    exact h
  ·have e : ∀ j : Int, 1 ≤ j → j ≤ 11 → ¬ k = j := fun j h1 h2 h3 => by have := hk j h1 h2; rw [this] at h3; exact h3
   have e0 : stmR k nm ty tg ex body alt = false := by
    simp only [stmR, hk 1 (by decide) (by decide), hk 2 (by decide) (by decide), hk 3 (by decide) (by decide), hk 4 (by decide) (by decide), hk 5 (by decide) (by decide), hk 6 (by decide) (by decide), hk 7 (by decide) (by decide), hk 8 (by decide) (by decide), hk 9 (by decide) (by decide), hk 10 (by decide) (by decide), hk 11 (by decide) (by decide), or_false, if_false]
   rw [e0]
   exact rst0 k nm ty tN eN a l cp b l2 cp2 m hk
theorem rone_spec (fl : Int) (m : Mem) : FnH Tryz.prog 154 [.v (.int .i64 fl)] ⟨[], []⟩ m fun r H' _ => r = .v (.bool (visL fl)) ∧ H' = ⟨[], []⟩ := by
 refine enter cfN puN Tryz.func154 rfl rfl (by kernel_rfl) rfl ?_ ?_
 ·simp only [go_sem, ↓tfi, ↓fti, ↓reduceIte]
 ·simp only [go_sem, ↓tfi, ↓fti, ↓reduceIte]
  rfl
theorem ronly_spec (fl al : Int) (m : Mem) : FnH Tryz.prog 79 [.v (.int .i64 fl), .v (.int .i64 al)] ⟨[], []⟩ m fun r H' _ => r = .v (.bool (ronlyL fl al)) ∧ H' = ⟨[], []⟩ := by
 refine enter cfN puN Tryz.func79 rfl rfl (by kernel_rfl) rfl ?_ ?_
 ·simp only [go_sem, ↓tfi, ↓fti, ↓reduceIte]
 ·simp only [go_sem, ↓tfi, ↓fti, ↓reduceIte]
  rfl
def rflagsL (fl : Int) : Bool := ronlyL fl 1087 && visL fl && (!hasB fl 32 || !hasB fl 8) && (!hasB fl 1024 || !hasB fl 58)
theorem rflags_eq {fl : Int} (hI : I64 fl) : rflagsL fl = mflagsL fl := by
 have e : ronlyL fl 1087 = onlyL fl 1087 := ronly_eq (al := 1087) hI (by decide)
 rw [rflagsL, e, mflagsL, Bool.not_and]
 cases visL fl <;> cases onlyL fl 1087 <;> simp [Bool.and_comm]
abbrev cfG : Cfg := mkCf (fun _ => false) [(79, pI2 ronlyL), (154, pI1 visL), (114, pS1 BL fun s => .bool (identL s)), (115, pTy valueTy), (77, pS1 BL fun s => .bool (isCls s))]
theorem puG : PureOk cfG Tryz.prog := pure_cons (by kernel_rfl) (pureI2 ronly_spec) (pure_cons (by kernel_rfl) (pureI1 rone_spec) (pure_cons (by kernel_rfl) (pureS rident_spec) (pure_cons (by kernel_rfl) (pureTy rvalue_spec) (pure_cons (by kernel_rfl) (pureS risCls_spec) pure_nil))))
theorem rfield_spec (f : Fc) (m : Mem) (h : FcOk f) : Ans 80 [.v (.agg ⟨f.cs⟩)] m (.bool (fieldL f)) := by
 have h1 : BL f.name := Nat.le_trans h.name (by decide)
 have h2 : BL f.ty.name := Nat.le_trans h.ty.2.2 (by decide)
 have h3 : fieldL f = (ronlyL f.fl 31 && visL f.fl && valueTy f.ty.dim f.ty.base f.ty.name && identL f.name) := by
  have e : ronlyL f.fl 31 = onlyL f.fl 31 := ronly_eq (al := 31) h.fl (by decide)
  rw [e, fieldL]
  cases valueTy f.ty.dim f.ty.base f.ty.name <;> cases identL f.name <;> cases visL f.fl <;> simp
 rw [h3]
 refine enter cfG puG Tryz.func80 rfl rfl (by kernel_rfl) rfl ?_ ?_
 ·simp only [go_sem, ↓tfi, ↓fti, ↓reduceIte, Fc.cs]
 ·simp only [go_sem, ↓tfi, ↓fti, ↓reduceIte, Fc.cs]
  exact ⟨fun _ => h2, fun _ => h1⟩
theorem rflags_spec (fl : Int) (m : Mem) : FnH Tryz.prog 155 [.v (.int .i64 fl)] ⟨[], []⟩ m fun r H' _ => r = .v (.bool (rflagsL fl)) ∧ H' = ⟨[], []⟩ := by
 refine enter cfG puG Tryz.func155 rfl rfl (by kernel_rfl) rfl ?_ ?_
 ·simp only [go_sem, ↓tfi, ↓fti, ↓reduceIte]
 ·simp only [go_sem, ↓tfi, ↓fti, ↓reduceIte]
  refine ⟨fun h => ?_, fun h => ?_⟩
  ·rcases h with (h | h) | h
   ·simp [rflagsL, h]
   ·simp [rflagsL, h]
   ·simp [rflagsL, hasB, h.1, h.2]
  ·rw [rflagsL, h.1.1, h.1.2]
   rcases h.2 with g | g <;> simp [hasB, g]
def methodR (d : Md) (i : Bool) : Bool := methodL d && !(i && badM d)
abbrev cfRm : Cfg := mkCf (fun _ => false) [(79, pI2 ronlyL), (154, pI1 visL), (114, pS1 BL fun s => .bool (identL s)), (115, pTy valueTy), (155, pI1 rflagsL)]
theorem puRm : PureOk cfRm Tryz.prog := pure_cons (by kernel_rfl) (pureI2 ronly_spec) (pure_cons (by kernel_rfl) (pureI1 rone_spec) (pure_cons (by kernel_rfl) (pureS rident_spec) (pure_cons (by kernel_rfl) (pureTy rvalue_spec) (pure_cons (by kernel_rfl) (pureI1 rflags_spec) pure_nil))))
theorem all_not {α : Type} (p : α → Bool) : ∀ (l : List α), l.all p = !(l.any fun x => !p x)
 | [] => rfl
 | a :: l => by rw [List.all_cons, List.any_cons, Bool.not_or, Bool.not_not, all_not p l]
theorem all_take {α : Type} {p : α → Bool} {l : List α} {k : Nat} (hk : k < l.length) : (l.take (k + 1)).all p = ((l.take k).all p && p l[k]) := by
 rw [List.take_succ_eq_append_getElem hk, List.all_append]
 simp
theorem all_no {α : Type} {p : α → Bool} {l : List α} {k : Nat} (hk : k < l.length) (h : p l[k] = false) : l.all p = false := by
 rw [List.all_eq_false]
 exact ⟨_, List.getElem_mem hk, by rw [h]; decide⟩
theorem rblock_all (sup : Bool) (l : List St) (a : Option Addr) (n c : Nat) (xs : List Value) (m : Mem) (hl : n = l.length) (hr : Rds m a n 23 xs) (hs : stsRep m l xs) (hn : n ≤ big) :
  Ans 78 [.v (.slice a n c), .v (.bool sup)] m (.bool (blockL sup l)) :=
 rblock_spec sup l a n c xs m hl hr hs hn fun e _ cs m' _ he => rvalidS_all _ e cs m' (Nnr _) he
theorem methodR_eq {d : Md} {i : Bool} (hI : I64 d.fl) (hp : d.params.all paramL = true) : methodR d i = (decide (d.params.length ≤ 16) && (d.hb || decide (d.body.length = 0)) && blockL (decide (d.name = initS)) d.body &&
  (if d.name = initS then !i && voidTy d.res && d.hb && ronlyL d.fl 7 && visL d.fl else ((!i || decide (d.fl = 1)) || decide (d.fl = 1025)) && (identL d.name && (voidTy d.res || valueTy d.res.dim d.res.base d.res.name) && rflagsL d.fl && (d.hb == decide (bits .and .i64 d.fl 1024 = 0))))) := by
 have e0 : (d.params.any fun p => !paramL p) = false := by
  have := all_not paramL d.params
  rw [hp] at this
  cases h : d.params.any fun p => !paramL p with
  | false => rfl
  | true => rw [h] at this; cases this
 rw [methodR, methodL, mHead, mMid, e0, badM]
 by_cases hn : d.name = initS
 ·have e7 : ronlyL d.fl 7 = onlyL d.fl 7 := ronly_eq (al := 7) hI (by decide)
  rw [if_pos hn, if_pos hn, decide_eq_true hn, e7]
  cases ho : onlyL d.fl 7 with
  | false => simp
  | true =>
   obtain ⟨q1, q2⟩ := flags7 hI ho
   rw [q1, q2]
   generalize decide (d.params.length ≤ 16) = w1
   generalize decide (d.body.length = 0) = w2
   generalize blockL true d.body = w3
   generalize voidTy d.res = w4
   generalize visL d.fl = w5
   cases d.hb <;> cases i <;> cases w1 <;> cases w2 <;> cases w3 <;> cases w4 <;> cases w5 <;> simp
 ·rw [if_neg hn, if_neg hn, decide_eq_false hn, rflags_eq hI, hasB]
  generalize decide (d.params.length ≤ 16) = w1
  generalize decide (d.body.length = 0) = w2
  generalize blockL false d.body = w3
  generalize (identL d.name && (voidTy d.res || valueTy d.res.dim d.res.base d.res.name)) = w4
  generalize mflagsL d.fl = w5
  generalize decide (bits .and .i64 d.fl 1024 = 0) = w6
  generalize decide (d.fl = 1) = w7
  generalize decide (d.fl = 1025) = w8
  cases d.hb <;> cases i <;> cases w1 <;> cases w2 <;> cases w3 <;> cases w4 <;> cases w5 <;> cases w6 <;> cases w7 <;> cases w8 <;> rfl
theorem methodR_param {d : Md} {i : Bool} {k : Nat} (hk : k < d.params.length) (h : paramL d.params[k] = false) : methodR d i = false := by
 have e0 := all_not paramL d.params
 rw [all_no hk h] at e0
 rw [methodR, methodL, ← e0]
 simp
theorem methodR_block {d : Md} {i : Bool} (h : blockL (decide (d.name = initS)) d.body = false) : methodR d i = false := by
 rw [methodR, methodL, h]
 simp
theorem rmethod_spec (d : Md) (i : Bool) (cs : List Value) (m : Mem) (h : mdRep m d cs) : Ans 81 [.v (.agg ⟨cs⟩), .v (.bool i)] m (.bool (methodR d i)) := by
 obtain ⟨fl, res, name, params, hb, body⟩ := d
 obtain ⟨x, ⟨rfl, rfl, rfl, rfl, rfl⟩, ⟨hpl, hpc, hl, hcp⟩, hok, r1, xs, r2, s2⟩ := h
 simp only at hpl hl r1 s2
 have h1 : BL x.name := Nat.le_trans hok.name (by decide)
 have h2 : BL x.res.name := Nat.le_trans hok.res.2.2 (by decide)
 have bp : x.pl ≤ big := by rw [hpl]; exact hok.pl
 have hps : ∀ p ∈ params, BL p.name ∧ BL p.ty.name := fun p hp => ⟨Nat.le_trans (hok.ps p hp).name (by decide), Nat.le_trans (hok.ps p hp).ty.2.2 (by decide)⟩
 have hB := rblock_all (decide (x.name = initS)) body x.a x.l x.cp xs m hl r2 s2 (by rw [hl]; exact hok.l)
 have hI : I64 x.fl := hok.fl
 clear s2
 refine enter cfRm puRm Tryz.func81 rfl rfl (by kernel_rfl) rfl ?_ ?_
 ·simp only [go_sem, ↓tfi, ↓fti, ↓reduceIte, Mc.cs]
 ·simp only [go_sem, ↓tfi, ↓fti, ↓reduceIte, Mc.cs]
  refine WP_loop puRm (fun y : Nat => ⟨[⟨1, [], .v (.bool i)⟩, ⟨2, [], .box 0 0⟩, ⟨5, [], .v (.int .i64 y)⟩], [], [⟨0, 58, x.cs.map .v⟩], [], 1, m⟩)
    (fun y => y ≤ x.pl ∧ (params.take y).all paramL = true) (fun y => x.pl - y) 0 (by kernel_rfl) (fun _ _ => Nnr _) (fun y hy => .inl rfl) (fun _ => ?_) ?_ ?_ ?_
  ·simp only [go_sem, ↓tfi, ↓fti, ↓reduceIte, Mc.cs]
  ·simp only [go_sem, ↓tfi, ↓fti, ↓reduceIte, Mc.cs]
   rfl
  ·exact ⟨Nat.zero_le _, rfl⟩
  ·rintro k ⟨g2, g3⟩
   have hy : ∀ (hk : k < params.length), (Rd m (ptrAt x.pa (k * 4)) (params[k]).cs ∧ x.pa ≠ none) ∧ BL params[k].name ∧ BL params[k].ty.name := fun hk => by
    have q1 := Rds_cells r1 (by omega : k < x.pl)
    rw [flat_at (f := Pc.cs) (sz := 4) (fun _ => rfl) hk] at q1
    exact ⟨q1, hps _ (List.getElem_mem hk)⟩
   simp only [go_sem, ↓tfi, ↓fti, ↓reduceIte, Mc.cs]
   refine ⟨fun hlt => ?_, fun hge => ⟨eqOkT, fun c => cvl (hB.mono ?_), fun c => ?_⟩⟩
   ·have hk : k < params.length := by clear hB; omega
    have hy' := hy hk
    clear hy hB
    refine ⟨⟨by omega, hlt, hy'.1.2⟩, Rd_ptr hy'.1.1, [.int .i64 params[k].ty.dim, .int .u8 params[k].ty.base, .string (bs params[k].ty.name)], ⟨Rd_sub hy'.1.1 0 3 (nbl rfl), rfl⟩, ?_⟩
    simp only [go_sem, ↓tfi, ↓fti, ↓reduceIte, Mc.cs, Pc.cs]
    refine ⟨hy'.2.2, fun _ => ⟨by omega, hlt, hy'.1.2⟩, fun _ => Rd_ptr hy'.1.1, .string (bs params[k].name), fun _ => Rd_sub hy'.1.1 3 1 (nbl rfl), ?_⟩
    have hBn := hy'.2.1
    clear hy'
    have hE2 := methodR_param (d := ⟨x.fl, x.res, x.name, params, x.hb, body⟩) (i := i) hk
    simp only [paramL] at hE2
    simp only [go_sem, ↓tfi, ↓fti, ↓reduceIte, Mc.cs, Pc.cs]
    refine ⟨fun _ => hBn, fun hf => (hE2 ?_).symm, fun ht => ⟨by unfold I64; simp only [big] at bp; omega, k + 1, by simp, ⟨by omega, ?_⟩, by omega⟩⟩
    ·rcases hf with h | h <;> simp [h]
    ·rw [all_take hk, g3, paramL, ht.1, ht.2]
     rfl
   ·clear hB
    have hkk : params.take k = params := List.take_of_length_le (by omega)
    rw [hkk] at g3
    have hE := methodR_eq (d := ⟨x.fl, x.res, x.name, params, x.hb, body⟩) (i := i) hI g3
    have hE2 := methodR_block (d := ⟨x.fl, x.res, x.name, params, x.hb, body⟩) (i := i)
    simp only at hE hE2
    rw [decide_eq_true (by omega : params.length ≤ 16), (by rcases c.2 with h | h; rw [h]; rfl; rw [decide_eq_true (by omega : body.length = 0), Bool.or_true] : (x.hb || decide (body.length = 0)) = true), Bool.true_and, Bool.true_and] at hE
    rintro r H' m2 hm2 ⟨l2, rfl, rfl⟩
    simp only [go_sem, ↓tfi, ↓fti, ↓reduceIte, Mc.cs]
    refine ⟨fun hb => ⟨l2, (hE2 hb).symm⟩, fun hb => ?_⟩
    rw [hb, Bool.true_and] at hE
    refine ⟨fun hn => ⟨l2, ?_⟩, fun hn => ⟨fun hc => ⟨l2, ?_⟩, fun hc => ⟨h1, fun _ => h2, by kernel_rfl, l2, ?_⟩⟩⟩
    ·have hn' : x.name = initS := hn
     rw [hE, if_pos hn']
     rfl
    ·have hn' : ¬ x.name = initS := hn
     rw [hE, if_neg hn']
     simp [hc]
    ·have hn' : ¬ x.name = initS := hn
     rw [hE, if_neg hn']
     have e : ((!i || decide (x.fl = 1)) || decide (x.fl = 1025)) = true := by
      rcases hc with (h | h) | h <;> simp [h]
     rw [e, Bool.true_and]
     rfl
   ·clear hB
    have hkk : params.take k = params := List.take_of_length_le (by omega)
    rw [hkk] at g3
    have hE := methodR_eq (d := ⟨x.fl, x.res, x.name, params, x.hb, body⟩) (i := i) hI g3
    simp only at hE
    rw [hE]
    rcases c with h | h
    ·rw [decide_eq_false (by omega : ¬ params.length ≤ 16)]; rfl
    ·rw [h.1, decide_eq_false (by omega : ¬ body.length = 0)]; simp
def ifaceF (d : Cd) : Bool := ronlyL d.fl 1537 && hasB d.fl 1024 && decide (d.fields.length = 0) && decide (d.init.length = 0) && decide (d.super = objS)
def plainF (d : Cd) : Bool := ronlyL d.fl 1041 && !(hasB d.fl 16 && hasB d.fl 1024)
def headF (d : Cd) : Bool := if hasB d.fl 512 = true then ifaceF d else plainF d
def lensF (d : Cd) : Bool := cNames d && cLens d
def classR (d : Cd) : Bool := lensF d && blockL false d.init && headF d && d.ifs.all isCls && d.fields.all fieldL && d.methods.all fun e => methodR e (hasB d.fl 512)
theorem all_meth (i : Bool) : ∀ (l : List Md), (l.all fun e => methodR e i) = (l.all methodL && !(i && l.any badM))
 | [] => by simp
 | e :: r => by
  rw [List.all_cons, List.all_cons, List.any_cons, all_meth i r, methodR]
  cases methodL e <;> cases i <;> cases badM e <;> simp
theorem class_eq (d : Cd) (hI : I64 d.fl) : classR d = classL d := by
 have e1 : ronlyL d.fl 1537 = onlyL d.fl 1537 := ronly_eq (al := 1537) hI (by decide)
 have e2 : ronlyL d.fl 1041 = onlyL d.fl 1041 := ronly_eq (al := 1041) hI (by decide)
 have e3 : decide (d.fields.length + d.init.length = 0) = (decide (d.fields.length = 0) && decide (d.init.length = 0)) := by
  rw [← Bool.decide_and, decide_eq_decide]
  omega
 rw [classR, all_meth, classL, cHead, headF, lensF, ifaceF, plainF, ifaceL, e1, e2, e3, all_not isCls, all_not fieldL, all_not methodL]
 generalize cNames d = q1
 generalize cLens d = q2
 generalize blockL false d.init = q3
 generalize onlyL d.fl 1537 = q4
 generalize onlyL d.fl 1041 = q5
 generalize (d.ifs.any fun x => !isCls x) = q6
 generalize (d.fields.any fun x => !fieldL x) = q7
 generalize (d.methods.any fun x => !methodL x) = q8
 generalize d.methods.any badM = q9
 generalize hasB d.fl 1024 = w1
 generalize decide (d.fields.length = 0) = w2
 generalize decide (d.init.length = 0) = w3
 generalize decide (d.super = objS) = w4
 cases hasB d.fl 512
 ·simp only [Bool.false_and, Bool.not_false, Bool.and_true, Bool.false_eq_true, if_false]
  generalize hasB d.fl 16 = w5
  cases q1 <;> cases q2 <;> cases q3 <;> cases q5 <;> cases q6 <;> cases q7 <;> cases q8 <;> simp
 ·simp only [Bool.true_and, if_true]
  cases q1 <;> cases q2 <;> cases q3 <;> cases q4 <;> cases q6 <;> cases q7 <;> cases q8 <;> cases q9 <;> cases w2 <;> cases w3 <;> simp
abbrev cfRc : Cfg := mkCf (fun _ => false) [(79, pI2 ronlyL), (77, pS1 BL fun s => .bool (isCls s))]
theorem puRc : PureOk cfRc Tryz.prog := pure_cons (by kernel_rfl) (pureI2 ronly_spec) (pure_cons (by kernel_rfl) (pureS risCls_spec) pure_nil)
set_option maxHeartbeats 8000000 in
theorem rclass_spec (d : Cd) (cs : List Value) (m : Mem) (h : cdRep m d cs) : Ans 35 [.v (.agg ⟨cs⟩)] m (.bool (classR d)) := by
 obtain ⟨fl, name, super, ifs, fields, methods, init⟩ := d
 obtain ⟨x, ⟨rfl, rfl, rfl, rfl⟩, ⟨hil, hic, hfn, hfc, hml, hmc, hsl, hsc⟩, hok, r1, r2, xs, ys, r3, s3, r4, s4⟩ := h
 simp only at hil hfn hml hsl r1 r2 r3 s3 r4 s4
 have h1 : BL x.name := Nat.le_trans hok.name (by decide)
 have h2 : BL x.super := Nat.le_trans hok.super (by decide)
 have b0 : x.il ≤ big := by rw [hil]; exact hok.il
 have b1 : x.fn ≤ big := by rw [hfn]; exact hok.fn
 have b2 : x.ml ≤ big := by rw [hml]; exact hok.ml
 have hB := rblock_all false init x.sa x.sl x.sc ys m hsl r4 s4 (by rw [hsl]; exact hok.l)
 have y0 : ∀ m', leM m m' → ∀ i (hk : i < ifs.length), (Rd m' (ptrAt x.ia i) [.string (bs ifs[i])] ∧ x.ia ≠ none) ∧ BL ifs[i] := fun m' hle i hk => ⟨strs_rd (Rds_upM hle r1) hk, Nat.le_trans (hok.ifs _ (List.getElem_mem hk)) (by decide)⟩
 have y1 : ∀ m', leM m m' → ∀ i (hk : i < fields.length), (Rd m' (ptrAt x.fa (i * 5)) (fields[i]).cs ∧ x.fa ≠ none) ∧ Ans 80 [.v (.agg ⟨(fields[i]).cs⟩)] m' (.bool (fieldL fields[i])) := fun m' hle i hk => by
  have := Rds_cells (Rds_upM hle r2) (by omega : i < x.fn)
  rw [flat_at (f := Fc.cs) (sz := 5) (fun _ => rfl) hk] at this
  exact ⟨this, rfield_spec _ m' (hok.fs _ (List.getElem_mem hk))⟩
 have y2 : ∀ m', leM m m' → ∀ i (hk : i < methods.length), ∃ X : Mc, (Rd m' (ptrAt x.ma (i * 8)) X.cs ∧ x.ma ≠ none) ∧ ∀ b, Ans 81 [.v (.agg ⟨X.cs⟩), .v (.bool b)] m' (.bool (methodR methods[i] b)) := fun m' hle i hk => by
  have hrep := mdRep_up hle (ls_at s3 hk)
  have hrd := Rds_cells (Rds_upM hle r3) (by omega : i < x.ml)
  obtain ⟨X, e1⟩ := mdRep_mc hrep
  rw [e1] at hrd hrep
  exact ⟨X, hrd, fun b => rmethod_spec _ b _ m' hrep⟩
 clear s3 s4
 have hX : classR ⟨x.fl, x.name, x.super, ifs, fields, methods, init⟩ = (lensF ⟨x.fl, x.name, x.super, ifs, fields, methods, init⟩ && blockL false init && headF ⟨x.fl, x.name, x.super, ifs, fields, methods, init⟩ && ifs.all isCls && fields.all fieldL && methods.all fun e => methodR e (hasB x.fl 512)) := rfl
 have hN : lensF ⟨x.fl, x.name, x.super, ifs, fields, methods, init⟩ = (isCls x.name && isCls x.super && decide (x.il ≤ 8) && decide (x.fn ≤ 64) && decide (x.ml ≤ 64)) := by
  rw [lensF, cNames, cLens, hil, hfn, hml]
  simp only [Bool.and_assoc]
 refine enter cfRc puRc Tryz.func35 rfl rfl (by kernel_rfl) rfl ?_ ?_
 ·simp only [go_sem, ↓tfi, ↓fti, ↓reduceIte, Cc.cs]
 ·simp only [go_sem, ↓tfi, ↓fti, ↓reduceIte, Cc.cs]
  refine ⟨h1, fun _ => h2, fun hc => cvl (hB.mono ?_), fun hc => ?_⟩
  ·clear hB
   have hN1 : lensF ⟨x.fl, x.name, x.super, ifs, fields, methods, init⟩ = true := by
    rw [hN]
    simp only [Bbt, decide_eq_true_eq]
    exact ⟨⟨⟨hc.1.1.1, by omega⟩, by omega⟩, by omega⟩
   rw [hN1, Bool.true_and] at hX
   clear hN hN1
   rintro r H' m1 hm1 ⟨l1, rfl, rfl⟩
   simp only [go_sem, ↓tfi, ↓fti, ↓reduceIte, Cc.cs]
   have hz5 : hasB x.fl 512 = !decide (bits .and .i64 x.fl 512 = 0) := rfl
   have hz10 : hasB x.fl 1024 = !decide (bits .and .i64 x.fl 1024 = 0) := rfl
   have hz1 : hasB x.fl 16 = !decide (bits .and .i64 x.fl 16 = 0) := rfl
   have hH : headF ⟨x.fl, x.name, x.super, ifs, fields, methods, init⟩ = (if hasB x.fl 512 = true then (ronlyL x.fl 1537 && hasB x.fl 1024 && decide (fields.length = 0) && decide (init.length = 0) && decide (x.super = objS)) else (ronlyL x.fl 1041 && !(hasB x.fl 16 && hasB x.fl 1024))) := rfl
   refine ⟨fun b => ⟨l1, ?_⟩, fun b => ⟨fun c1 => ⟨l1, ?_⟩, fun c1 => ⟨fun c2 => ⟨l1, ?_⟩, fun c2 => ?_⟩⟩⟩
   ·rw [hX, b]; simp
   ·rw [decide_eq_false c1.1, Bool.not_false] at hz5
    rw [hX, hH, if_pos hz5]
    rcases c1.2 with (((h | h) | h) | h) | h
    ·simp [h]
    ·simp [hz10, h]
    ·rw [decide_eq_false (by clear y0 y1 y2; omega : ¬ fields.length = 0)]; simp
    ·rw [decide_eq_false (by clear y0 y1 y2; omega : ¬ init.length = 0)]; simp
    ·have h' : ¬ x.super = objS := h
     rw [decide_eq_false h']; simp
   ·rw [decide_eq_true c2.1, Bool.not_true] at hz5
    rw [hX, hH, if_neg (Bool.eq_false_iff.1 hz5)]
    rcases c2.2 with h | h
    ·simp [h]
    ·rw [hz1, hz10, decide_eq_false h.1, decide_eq_false h.2]; simp
   ·have hH1 : headF ⟨x.fl, x.name, x.super, ifs, fields, methods, init⟩ = true := by
     rw [hH]
     by_cases h5 : bits .and .i64 x.fl 512 = 0
     ·rw [decide_eq_true h5, Bool.not_true] at hz5
      rw [if_neg (Bool.eq_false_iff.1 hz5)]
      rcases c2 with h | h
      ·exact absurd h5 h
      ·rw [h.1, hz1, hz10]
       rcases h.2 with g | g <;> simp [g]
     ·rw [decide_eq_false h5, Bool.not_false] at hz5
      rw [if_pos hz5]
      rcases c1 with h | h
      ·exact absurd h h5
      ·have h' : x.super = objS := h.2
       rw [h.1.1.1.1, hz10, decide_eq_false h.1.1.1.2, decide_eq_true h', decide_eq_true (by clear y0 y1 y2; omega : fields.length = 0), decide_eq_true (by clear y0 y1 y2; omega : init.length = 0)]
       rfl
    rw [b, hH1, Bool.true_and, Bool.true_and] at hX
    clear hH hH1 hz10 hz1 hz5 c1 c2 hc
    refine WP_loop puRc (fun y : Nat × Mem => ⟨[⟨1, [], .box 0 0⟩, ⟨3, [], .v (.bool (hasB x.fl 512))⟩, ⟨4, [], .v (.int .i64 y.1)⟩], [], [⟨0, 55, x.cs.map .v⟩], [], 1, y.2⟩)
     (fun y => leM m1 y.2 ∧ y.1 ≤ x.il ∧ (ifs.take y.1).all isCls = true) (fun y => x.il - y.1) (0, m1) (by kernel_rfl) (fun _ _ => Nnr _) (fun y hy => ?_) (fun _ => ?_) ?_ ?_ ?_
    ·exact hy.1
    ·simp only [go_sem, ↓tfi, ↓fti, ↓reduceIte, Cc.cs]
    ·simp only [go_sem, ↓tfi, ↓fti, ↓reduceIte, Cc.cs]
     exact ⟨rfl, rfl⟩
    ·exact ⟨.inl rfl, Nat.zero_le _, rfl⟩
    ·rintro ⟨k, m2⟩ ⟨g1, g2, g3⟩
     simp only at g1 g2 g3
     have k2 := leM_tr l1 g1
     simp only [go_sem, ↓tfi, ↓fti, ↓reduceIte, Cc.cs]
     refine ⟨fun hlt => ?_, fun hge => ?_⟩
     ·have hk : k < ifs.length := by clear y0 y1 y2; omega
      have hy := y0 m2 k2 k hk
      clear y0 y1 y2
      refine ⟨⟨by omega, hlt, hy.1.2⟩, _, hy.1.1, ?_⟩
      have hBs := hy.2
      clear hy
      simp only [go_sem, ↓tfi, ↓fti, ↓reduceIte, Cc.cs]
      refine ⟨hBs, fun hf => ⟨k2, ?_⟩, fun ht => ⟨by unfold I64; simp only [big] at b0; omega, (k + 1, m2), ⟨by simp, .inl rfl⟩, ⟨g1, by simp only; omega, ?_⟩, by simp only; omega⟩⟩
      ·rw [hX, all_no hk hf]; simp
      ·simp only; rw [all_take hk, g3, ht]; rfl
     ·have hkk : ifs.take k = ifs := List.take_of_length_le (by clear y0 y1 y2; omega)
      rw [hkk] at g3
      rw [g3, Bool.true_and] at hX
      clear g3 hkk
      refine WP_loop puRc (fun y : Nat × Mem => ⟨[⟨1, [], .box 0 0⟩, ⟨3, [], .v (.bool (hasB x.fl 512))⟩, ⟨5, [], .v (.int .i64 y.1)⟩], [], [⟨0, 55, x.cs.map .v⟩], [], 1, y.2⟩)
       (fun y => leM m2 y.2 ∧ y.1 ≤ x.fn ∧ (fields.take y.1).all fieldL = true) (fun y => x.fn - y.1) (0, m2) (by kernel_rfl) (fun _ _ => Nnr _) (fun y hy => ?_) (fun _ => ?_) ?_ ?_ ?_
      ·exact hy.1
      ·simp only [go_sem, ↓tfi, ↓fti, ↓reduceIte, Cc.cs]
      ·simp only [go_sem, ↓tfi, ↓fti, ↓reduceIte, Cc.cs]
       rfl
      ·exact ⟨.inl rfl, Nat.zero_le _, rfl⟩
      ·rintro ⟨k, m3⟩ ⟨g1, g2, g3⟩
       simp only at g1 g2 g3
       have k3 := leM_tr k2 g1
       simp only [go_sem, ↓tfi, ↓fti, ↓reduceIte, Cc.cs]
       refine ⟨fun hlt => ?_, fun hge => ?_⟩
       ·have hk : k < fields.length := by clear y0 y1 y2; omega
        have hy := y1 m3 k3 k hk
        clear y0 y1 y2
        refine ⟨⟨by clear hy; omega, hlt, hy.1.2⟩, (fields[k]).cs, ⟨hy.1.1, rfl⟩, ?_⟩
        have ha := hy.2
        clear hy
        simp only [go_sem, ↓tfi, ↓fti, ↓reduceIte, Cc.cs, Fc.cs]
        refine cvl ((FnH_den ha (fun V => rfl)).mono ?_)
        clear ha
        rintro r H' m5 hm5 ⟨l5, rfl, rfl⟩
        simp only [go_sem, ↓tfi, ↓fti, ↓reduceIte, Cc.cs]
        refine ⟨fun hf => ⟨leM_tr k3 l5, ?_⟩, fun ht => ⟨by unfold I64; simp only [big] at b1; omega, (k + 1, m5), ⟨by simp, .inl rfl⟩, ⟨leM_tr g1 l5, by simp only; omega, ?_⟩, by simp only; omega⟩⟩
        ·rw [hX, all_no hk hf]; simp
        ·simp only; rw [all_take hk, g3, ht]; rfl
       ·have hkk : fields.take k = fields := List.take_of_length_le (by clear y0 y1 y2; omega)
        rw [hkk] at g3
        rw [g3, Bool.true_and] at hX
        clear g3 hkk
        refine WP_loop puRc (fun y : Nat × Mem => ⟨[⟨1, [], .box 0 0⟩, ⟨3, [], .v (.bool (hasB x.fl 512))⟩, ⟨6, [], .v (.int .i64 y.1)⟩], [], [⟨0, 55, x.cs.map .v⟩], [], 1, y.2⟩)
         (fun y => leM m3 y.2 ∧ y.1 ≤ x.ml ∧ (methods.take y.1).all (fun e => methodR e (hasB x.fl 512)) = true) (fun y => x.ml - y.1) (0, m3) (by kernel_rfl) (fun _ _ => Nnr _) (fun y hy => ?_) (fun _ => ?_) ?_ ?_ ?_
        ·exact hy.1
        ·simp only [go_sem, ↓tfi, ↓fti, ↓reduceIte, Cc.cs]
        ·simp only [go_sem, ↓tfi, ↓fti, ↓reduceIte, Cc.cs]
         rfl
        ·exact ⟨.inl rfl, Nat.zero_le _, rfl⟩
        ·rintro ⟨k, m4⟩ ⟨g1, g2, g3⟩
         simp only at g1 g2 g3
         have k4 := leM_tr k3 g1
         simp only [go_sem, ↓tfi, ↓fti, ↓reduceIte, Cc.cs]
         refine ⟨fun hlt => ?_, fun hge => ?_⟩
         ·have hk : k < methods.length := by clear y0 y1 y2; omega
          have hy := y2 m4 k4 k hk
          clear y0 y1 y2
          refine Exists.elim hy fun X hy1 => ⟨⟨by clear hy hy1; omega, hlt, hy1.1.2⟩, X.cs, ⟨hy1.1.1, rfl⟩, ?_⟩
          have ha := hy1.2 (hasB x.fl 512)
          clear hy hy1
          simp only [go_sem, ↓tfi, ↓fti, ↓reduceIte, Cc.cs, Mc.cs]
          refine cvl ((FnH_den ha (fun V => rfl)).mono ?_)
          clear ha
          rintro r H' m5 hm5 ⟨l5, rfl, rfl⟩
          simp only [go_sem, ↓tfi, ↓fti, ↓reduceIte, Cc.cs]
          refine ⟨fun hf => ⟨leM_tr k4 l5, ?_⟩, fun ht => ⟨by unfold I64; simp only [big] at b2; omega, (k + 1, m5), ⟨by simp, .inl rfl⟩, ⟨leM_tr g1 l5, by simp only; omega, ?_⟩, by simp only; omega⟩⟩
          ·rw [hX]; exact (all_no (p := (fun e => methodR e (hasB x.fl 512))) hk hf).symm
          ·simp only; rw [all_take hk, g3, ht]; rfl
         ·have hkk : methods.take k = methods := List.take_of_length_le (by clear y0 y1 y2; omega)
          rw [hkk] at g3
          exact ⟨k4, by rw [hX]; exact g3.symm⟩
  ·clear hB
   rw [hX, hN]
   rcases hc with (((h | h) | h) | h) | h
   ·simp [h]
   ·simp [h]
   ·rw [decide_eq_false (by omega : ¬ x.il ≤ 8)]; simp
   ·rw [decide_eq_false (by omega : ¬ x.fn ≤ 64)]; simp
   ·rw [decide_eq_false (by omega : ¬ x.ml ≤ 64)]; simp
end Go.Proofs.YtalalcpefggniaaGreatDoor.E
namespace Go.Proofs.YtalalcpefggniaaGreatDoor.E
open Go Go.ChangeShapes Go.WideShapes Go.ChangeAt Go.RowKit
def DoW (W : World) (b : Nat) : Nat := match W.heap[b]? with | some (.cells c _ _) => c.size + 1 | _ => 0
theorem DoW_wf (W : World) : Wf W (DoW W) := fun b hb => by
 have : W.heap[b]? = none := Array.getElem?_eq_none hb
 simp [DoW, this]
theorem DoW_at {W : World} {b : Nat} {c : Array Value} {t : TypeId} {f : Nat × Nat} (h : W.heap[b]? = some (.cells c t f)) : DoW W b = c.size + 1 := by
 simp [DoW, h]
theorem DoW_same {W w : World} {D : Nat → Nat} {b : Nat} {c : Array Value} {t : TypeId} {f : Nat × Nat} (hle : Mem.le ⟨W, DoW W⟩ ⟨w, D⟩) (h : W.heap[b]? = some (.cells c t f)) : ∃ t' f', w.heap[b]? = some (.cells c t' f') := by
 obtain ⟨_, hk⟩ := hle b
 have hd : DoW W b = c.size + 1 := DoW_at h
 obtain ⟨_, hk⟩ := hk (by show 0 < DoW W b; omega)
 obtain ⟨c', t', f', ho, hj⟩ := keep_cell hk h
 simp only [hd] at ho hj
 have e : c' = c := by
  apply Array.ext_getElem?
  intro i
  rcases Nat.lt_or_ge i (c.size + 1) with hi | hi
  ·exact hj i hi
  ·have h1 := hj c.size (by omega)
   rw [Array.getElem?_eq_none (Nnr c.size)] at h1
   have h2 : c'.size ≤ c.size := by
    rcases Nat.lt_or_ge c.size c'.size with h | h
    ·rw [Array.getElem?_eq_getElem h] at h1; cases h1
    ·exact h
   rw [Array.getElem?_eq_none (by omega), Array.getElem?_eq_none (by omega)]
 subst e
 exact ⟨t', f', ho⟩
theorem DoW_cell {W w : World} {D : Nat → Nat} {g i : Nat} {v : Value} (hle : Mem.le ⟨W, DoW W⟩ ⟨w, D⟩) (h : W.cell? ⟨g, i, none⟩ = some v) : w.cell? ⟨g, i, none⟩ = some v := by
 unfold World.cell? at h ⊢
 split at h
 ·rename_i c t f hc
  obtain ⟨t', f', ho⟩ := DoW_same hle hc
  dsimp only at ho
  rw [ho]
  simpa using h
 ·cases h
theorem DoW_var {W w : World} {D : Nat → Nat} {P : Program} {n : String} {c : Array Value} (hle : Mem.le ⟨W, DoW W⟩ ⟨w, D⟩) (h : W.var? P n = some c) : w.var? P n = some c := by
 unfold World.var? at h ⊢
 obtain ⟨g, hg, h⟩ := Option.bind_eq_some_iff.1 h
 rw [hg]
 split at h
 ·rename_i c' t f hc
  obtain ⟨t', f', ho⟩ := DoW_same hle hc
  cases h
  simp [ho]
 ·cases h
theorem witness_row {H : Type} {enc : TypeId × Value → H} {C : Checked} {os : Os} {f : FuncId} {fn : Func} {s : OpenSpec} {conds : List PathCond} {apart : Bool} {laid : List (String × DataW Unit)} (modest : Bool) (w0 : World) (args : Array Value) (hos : w0.os = os)
  (hsh : (w0.forCall (fun _ _ => 0) ⟨#[], args, []⟩).Shaped C.prog)
  (hok : Input.okWideB C.prog (w0.forCall (fun _ _ => 0) ⟨#[], args, []⟩) f ⟨#[], args, []⟩ = true)
  (hrow : s.preRow enc C.prog fn conds apart laid (w0.forCall (fun _ _ => 0) ⟨#[], args, []⟩).memory args) :
  ∃ (w : World) (tape : Tape) (i : Input), w.os = os ∧ (w.forCall tape i).Shaped C.prog ∧ i.vars = [] ∧ Input.okWide C.prog (w.forCall tape i) .any w.heap.size f i ∧
   s.preRow enc C.prog fn conds apart laid (w.forCall tape i).memory i.args ∧ ({ modest := modest } : Assume).holds C.prog (lone (Frame.enter C.prog f i.args .normal) [] (w.forCall tape i)) :=
 ⟨w0, fun _ _ => 0, ⟨#[], args, []⟩, hos, hsh, (Input.okWide_of_okWideB (base := 0) hok).1, (Input.okWide_of_okWideB hok).2, hrow, by
  simp only [Assume.holds]
  exact ⟨by simp, by simp, fun _ => Modest.zero, by simp, by simp⟩⟩
theorem cell_spot {W : World} {a : Addr} {v : Value} (h : W.cell? a = some v) : a.spot = none ∧ a.off < DoW W a.block := by
 unfold World.cell? at h
 split at h
 ·rename_i c t f hc
  cases hs : a.spot with
  | some x => rw [hs] at h; simp at h
  | none =>
   rw [hs] at h
   simp only [Option.isSome_none, Bool.false_eq_true, if_false] at h
   refine ⟨rfl, ?_⟩
   rw [DoW_at hc]
   have := (Array.getElem?_eq_some_iff.1 h).1
   omega
 ·cases h
theorem bulk_mem {H : Type} {d : DataW H} : ∀ {l : List (DataW H)}, d ∈ l → Rows.uptoBulk d ≤ Rows.uptoBulkAll l
 | [], h => by cases h
 | x :: l, h => by
  simp only [Rows.uptoBulkAll]
  rcases List.mem_cons.1 h with rfl | h
  ·omega
  ·have := bulk_mem h; omega
theorem bulk_one {H : Type} (d : DataW H) : 1 ≤ Rows.uptoBulk d := by
 cases d with
 | lit l => cases l <;> simp [Rows.uptoBulk]
 | _ => simp [Rows.uptoBulk]
theorem bulk_len {H : Type} : ∀ (l : List (DataW H)), l.length ≤ Rows.uptoBulkAll l
 | [] => Nat.zero_le _
 | d :: l => by
  have h1 := bulk_one d
  have h2 := bulk_len l
  simp only [Rows.uptoBulkAll, Llc]
  omega
theorem calls_sv {P : Program} {f : FuncId} {args : List SV} {vals : List Value} {W : World} {x : Value} (hden : ∀ V, args.map (den V) = vals) (h : FnH P f args ⟨[], []⟩ ⟨W, DoW W⟩ fun r H' m' => leM ⟨W, DoW W⟩ m' ∧ H' = ⟨[], []⟩ ∧ r = .v x) :
  Calls P f ⟨vals⟩ W fun e W' => e = .returned x ∧ Below W.heap.size W W' := by
 have := h ⟨fun _ => 0, fun _ _ => ⟨none, 0, 0⟩⟩ W (DoW W) (DoW_wf W) (Mem.le_refl ⟨W, DoW W⟩ (DoW_wf W)) ⟨fun b hb => (by cases hb), fun b hb => (by cases hb), by simp [blks], by simp⟩
 rw [hden] at this
 refine this.mono ?_
 rintro e w' ⟨r, V', D', H', m', rfl, _, _, _, _, hf, _, _, _, _, _, rfl, rfl⟩
 exact ⟨rfl, hf.os, hf.tape, hf.output, hf.size, fun b hb => (hf.same b hb (by simp [blks])).1⟩
theorem own : ownKnob Tryz.prog.godebug = none := by kernel_rfl
def laidZ : List (String × DataW Unit) := Rows.astDeeperRow.laid
theorem g1 (W : World) (h : W.ShapedOpen Tryz.prog) : ∃ k, W.cell? ⟨1, 0, none⟩ = some (.int .i64 k) :=
 cell_of_shapedOpen_int (P := Tryz.prog) (g := 1) (t := 3) (zero := #[.int .i64 0]) h (of_decide_eq_true (by kernel_rfl)) (by kernel_rfl) rfl (by kernel_rfl) (by kernel_rfl) (by kernel_rfl)
theorem ops_of {W : World} {rest : List (String × DataW Unit)} (h : laidMet Tryz.prog (("armature/ast.operators", Rows.laid_armature_ast_operators) :: rest) W) :
  ∃ ad c, Rd ⟨W, DoW W⟩ (.pointer (some ⟨0, 0, none⟩)) [.slice (some ad) 19 c] ∧ 19 ≤ c ∧ Rds ⟨W, DoW W⟩ (some ad) 19 1 (strs opsL) := by
 obtain ⟨ps, ⟨g', t', cs, fuel, p, q, hg', ht', hvar, hd, _, _⟩, _⟩ := h
 obtain rfl := Option.some.inj ((show Tryz.prog.globalNamed "armature/ast.operators" = some 0 by kernel_rfl).symm.trans hg')
 obtain rfl := Option.some.inj ((show (Tryz.prog.globals[0]?).map (·.type) = some 51 by kernel_rfl).symm.trans ht')
 have hl : (Rows.laid_armature_ast_operators : DataW Unit) = .slice (opsL.map fun l => .lit (.string l)) [] := rfl
 rw [hl] at hd
 obtain ⟨a, cap, hcs, hcap, hel⟩ := open_row (P := Tryz.prog) (e := 9) (by kernel_rfl) (by kernel_rfl) hd
 have hlen : (opsL.map fun l => (DataW.lit (.string l) : DataW Unit)).length = 19 := rfl
 rw [hlen] at hcs hcap
 have hcell : W.cell? ⟨0, 0, none⟩ = some (.slice (some a) 19 cap) := by
  have := World.var?_cell hg' hvar 0
  rw [Array.eq_one_of_toList hcs] at this
  simpa using this
 have hat : ∀ i (hi : i < 19), W.cell? (a.add i) = some (.string (bs (opsL[i]'hi))) := fun i hi => by
  obtain ⟨v, n, q', hc, hr⟩ := hel i (.lit (.string (opsL[i]'hi))) (by rw [List.getElem?_map, List.getElem?_eq_getElem (by exact hi)]; rfl)
  obtain ⟨s, e1, e2, _⟩ := DataW.trod_string (show Tryz.prog.underlying 9 = some .string by kernel_rfl) hr
  have e3 : v = .string s := by simpa using e1
  have e4 : s.data.toList = opsL[i]'hi := by simpa using (congrArg Prod.fst e2).symm
  rw [hc, e3, ← e4]
  rfl
 have hspot : a.spot = none := by
  have := (cell_spot (hat 0 (by decide))).1
  simpa [Addr.add] using this
 refine ⟨a, cap, ⟨⟨0, 0, none⟩, rfl, rfl, fun j hj => ?_⟩, hcap, rfl, fun _ => ⟨a, rfl, hspot, fun j hj => ?_⟩⟩
 ·have : j = 0 := by simpa using hj
  subst this
  exact ⟨hcell, (cell_spot hcell).2⟩
 ·have hj : j < 19 := by omega
  have h1 := hat j hj
  obtain ⟨p1, p2, _⟩ := add_parts a j hspot
  have h2 := (cell_spot h1).2
  rw [p1, p2] at h2
  refine ⟨?_, h2⟩
  rw [strs, List.getElem?_map, List.getElem?_eq_getElem (by exact hj)]
  exact h1
theorem glob_of {W : World} (hL : laidMetH Tryz.prog laidZ W) (hs : W.ShapedOpen Tryz.prog) : Glob ⟨W, DoW W⟩ := by
 rw [MakeChecks.laidMetH_plain _ _ _ (by kernel_rfl)] at hL
 have h3 := hL.tail.tail
 have ht := Lib.tabIs_of_head (P := Tryz.prog) (zs := Lib.pow10Tab) (g := 4) (t := 193) (e := 182) (n := 20) (by kernel_rfl) (by kernel_rfl) (by kernel_rfl) (by kernel_rfl) (by kernel_rfl) (by kernel_rfl) h3
 obtain ⟨k, hk⟩ := g1 W hs
 exact ⟨fun w D hle => ⟨⟨k, DoW_cell hle hk⟩, DoW_var hle ht⟩, ops_of h3.tail.tail⟩
end Go.Proofs.YtalalcpefggniaaGreatDoor.E
namespace Go.Proofs.YtalalcpefggniaaGreatDoor.E
open Go Go.ChangeShapes Go.WideShapes Go.ChangeAt Go.RowKit
theorem list_ofA {α : Type} {p : Nat → α → Prop} : ∀ (n : Nat), (∀ i, i < n → ∃ t, p i t) → ∃ ts : List α, ts.length = n ∧ ∀ i (hi : i < ts.length), p i ts[i]
 | 0, _ => ⟨[], rfl, fun i hi => absurd hi (Nat.not_lt_zero _)⟩
 | n + 1, h => by
  obtain ⟨ts, h1, h2⟩ := list_ofA n fun i hi => h i (by omega)
  obtain ⟨t, ht⟩ := h n (Nat.lt_succ_self _)
  refine ⟨ts ++ [t], by simp [h1], fun i hi => ?_⟩
  rcases Nat.lt_or_ge i ts.length with h3 | h3
  ·rw [List.getElem_append_left h3]; exact h2 i h3
  ·have : i = n := by rw [Lla, List.length_singleton] at hi; omega
   subst this
   rw [List.getElem_append_right h3]
   simpa using ht
theorem rows_of {α : Type} {W : World} {a : Addr} {len sz : Nat} (hsz : 0 < sz) {p : Nat → α → List Value → Prop} (h : ∀ i, i < len → ∃ (x : α) (cs : List Value), cs.length = sz ∧ (∀ j, j < sz → W.cell? (a.add (i * sz + j)) = cs[j]?) ∧ p i x cs) :
  ∃ (l : List α) (xs : List Value), l.length = len ∧ Rds ⟨W, DoW W⟩ (some a) len sz xs ∧ ∀ i (hi : i < l.length), p i l[i] ((xs.drop (i * sz)).take sz) := by
 obtain ⟨ts, hl, hp⟩ := list_ofA (α := α × { cs : List Value // cs.length = sz }) (p := fun i x => (∀ j, j < sz → W.cell? (a.add (i * sz + j)) = x.2.1[j]?) ∧ p i x.1 x.2.1) len fun i hi => by
  obtain ⟨x, cs, h1, h2, h3⟩ := h i hi
  exact ⟨⟨x, cs, h1⟩, h2, h3⟩
 have hfa : ∀ {i : Nat} (hi : i < ts.length), ((flat (fun x => x.2.1) ts).drop (i * sz)).take sz = ts[i].2.1 := fun hi => flat_at (fun x => x.2.2) hi
 have hfl : ∀ (l : List (α × { cs : List Value // cs.length = sz })), (flat (fun x => x.2.1) l).length = l.length * sz := fun l => by
  induction l with
  | nil => simp [flat]
  | cons x r ih =>
   simp only [flat, List.map_cons, List.flatten_cons, Lla, Llc, Nat.succ_mul] at ih ⊢
   rw [ih, x.2.2]; omega
 refine ⟨ts.map (·.1), flat (fun x => x.2.1) ts, by simp [hl], ⟨by rw [hfl, hl], fun h0 => ⟨a, rfl, ?_, fun j hj => ?_⟩⟩, fun i hi => ?_⟩
 ·have h1 := (hp 0 (by omega)).1 0 hsz
  have h2 : (ts[0]'(by omega)).2.1[0]? = some ((ts[0]'(by omega)).2.1[0]'(by rw [(ts[0]'(by omega)).2.2]; exact hsz)) := List.getElem?_eq_getElem _
  rw [h2] at h1
  have := (cell_spot h1).1
  simpa [Addr.add] using this
 ·have hq : j / sz < ts.length := by rw [hl]; exact Nat.div_lt_of_lt_mul (by rw [Nat.mul_comm]; exact hj)
  have hr : j % sz < sz := Nat.mod_lt _ hsz
  have hj' : j / sz * sz + j % sz = j := Nat.div_add_mod' j sz
  have h1 := (hp (j / sz) hq).1 (j % sz) hr
  rw [hj'] at h1
  have h2 : (flat (fun x => x.2.1) ts)[j]? = (ts[j / sz]'hq).2.1[j % sz]? := by
   rw [← hfa hq, List.getElem?_take, if_pos hr, List.getElem?_drop, hj']
  have h3 : (ts[j / sz]'hq).2.1[j % sz]? = some ((ts[j / sz]'hq).2.1[j % sz]'(by rw [(ts[j / sz]'hq).2.2]; exact hr)) := List.getElem?_eq_getElem _
  refine ⟨by rw [h2]; exact h1, ?_⟩
  rw [h3] at h1
  have h4 := cell_spot h1
  have h0' := (hp 0 (by omega)).1 0 hsz
  have h5 : (ts[0]'(by omega)).2.1[0]? = some ((ts[0]'(by omega)).2.1[0]'(by rw [(ts[0]'(by omega)).2.2]; exact hsz)) := List.getElem?_eq_getElem _
  rw [h5] at h0'
  have hs : a.spot = none := by
   have := (cell_spot h0').1
   simpa [Addr.add] using this
  obtain ⟨p1, p2, _⟩ := add_parts a j hs
  rw [p1, p2] at h4
  exact h4.2
 ·have hi' : i < ts.length := by simpa using hi
  rw [hfa hi']
  simpa using (hp i hi').2
theorem exs_of_at {m : Mem} : ∀ (l : List Ex) (xs : List Value), (∀ i (hi : i < l.length), exRep m l[i] ((xs.drop (i * 8)).take 8)) → exsRep m l xs
 | [], _, _ => by simp only [exsRep]
 | e :: r, xs, h => by
  simp only [exsRep]
  have h0 := h 0 (by simp)
  rw [Nat.zero_mul, List.drop_zero, List.getElem_cons_zero] at h0
  refine ⟨h0, exs_of_at r (xs.drop 8) fun i hi => ?_⟩
  have := h (i + 1) (by simpa using hi)
  rw [List.getElem_cons_succ] at this
  rw [List.drop_drop, show 8 + i * 8 = (i + 1) * 8 by omega]
  exact this
theorem size_bulk {H : Type} : ∀ (l : List Ex) (ds : List (DataW H)), l.length = ds.length → (∀ i (h : i < l.length) (h' : i < ds.length), sizeE l[i] ≤ Rows.uptoBulk ds[i]) → sizeL l ≤ Rows.uptoBulkAll ds
 | [], _, _, _ => by simp [sizeL]
 | e :: r, [], h, _ => by simp at h
 | e :: r, d :: ds, h, hp => by
  have h1 := hp 0 (by simp) (by simp)
  have h2 := size_bulk r ds (by simpa using h) fun i h3 h4 => by
   have := hp (i + 1) (by simpa using h3) (by simpa using h4)
   simp only [List.getElem_cons_succ] at this
   exact this
  simp only [sizeL, Rows.uptoBulkAll]
  simp only [List.getElem_cons_zero] at h1
  omega
mutual
theorem depth_size : ∀ (e : Ex), depthE e ≤ sizeE e
 | .mk _ _ _ _ _ args => by
  have := depthL_size args
  simp only [depthE, sizeE]; omega
theorem depthL_size : ∀ (l : List Ex), depthL l ≤ sizeL l
 | [] => by simp [depthL]
 | e :: r => by
  have h1 := depth_size e
  have h2 := depthL_size r
  simp only [depthL, sizeL]; omega
end
theorem len_sizeL : ∀ (l : List Ex), l.length ≤ sizeL l
 | [] => Nat.zero_le _
 | .mk _ _ _ _ _ args :: r => by
  have := len_sizeL r
  simp only [Llc, sizeL, sizeE]; omega
section
variable {H : Type} {enc : TypeId × Value → H} {W : World}
theorem i64_of {z : Int} (w : (Lit.int .i64 z).wf = true) : I64 z := by
 have h : decide (IntKind.min .i64 ≤ z) = true ∧ decide (z ≤ IntKind.max .i64) = true := Bool.and_eq_true_iff.1 w
 exact ⟨of_decide_eq_true h.1, of_decide_eq_true h.2⟩
set_option maxRecDepth 100000 in
theorem open_ty {fuel : Nat} {cs : List Value} {d : DataW H} {p : List MemPlace} (h : DataW.trod enc Tryz.prog W 0 (fun _ => true) true fuel 29 cs = some (d, p)) : ∃ t : Ty, cs = tyC t ∧ I64 t.dim ∧ (0 ≤ t.base ∧ t.base < 256) ∧ t.name.length ≤ Rows.uptoBulk d := by
 obtain ⟨ys, n', _, hy, hlen, hyl, hf⟩ := DataW.trod_struct Tryz.underlying29 h
 have hC : Tryz.prog.cellsOf 29 = 3 := by kernel_rfl
 have k3 : Tryz.prog.cellsOf 3 = 1 := by kernel_rfl
 have k5 : Tryz.prog.cellsOf 5 = 1 := by kernel_rfl
 have k9 : Tryz.prog.cellsOf 9 = 1 := by kernel_rfl
 rw [hC] at hlen
 match cs, hlen with
 | [c0, c1, c2], _ =>
  match ys, hyl with
  | [y0, y1, y2], _ =>
   have f0 : DataW.trod enc Tryz.prog W 0 (fun _ => true) true n' 3 [c0] = some y0 := by have this : DataW.trod enc Tryz.prog W 0 (fun _ => true) true n' 3 (([c0, c1, c2].drop 0).take (Tryz.prog.cellsOf 3)) = some y0 := hf 0 _ rfl; rw [k3] at this; exact this
   have f1 : DataW.trod enc Tryz.prog W 0 (fun _ => true) true n' 5 [c1] = some y1 := by have this : DataW.trod enc Tryz.prog W 0 (fun _ => true) true n' 5 (([c0, c1, c2].drop 1).take (Tryz.prog.cellsOf 5)) = some y1 := hf 1 _ rfl; rw [k5] at this; exact this
   have f2 : DataW.trod enc Tryz.prog W 0 (fun _ => true) true n' 9 [c2] = some y2 := by have this : DataW.trod enc Tryz.prog W 0 (fun _ => true) true n' 9 (([c0, c1, c2].drop 2).take (Tryz.prog.cellsOf 9)) = some y2 := hf 2 _ rfl; rw [k9] at this; exact this
   obtain ⟨z0, e0, _, w0⟩ := DataW.trod_int Tryz.underlying3 f0
   obtain ⟨z1, e1, _, w1⟩ := DataW.trod_int Tryz.underlying5 f1
   obtain ⟨s, e2, x2, _⟩ := DataW.trod_string Tryz.underlying9 f2
   cases e0; cases e1; cases e2
   refine ⟨⟨z0, z1, tl s⟩, by simp only [tyC, bs_tl], i64_of w0, ?_, ?_⟩
   ·have h : decide (IntKind.min .u8 ≤ z1) = true ∧ decide (z1 ≤ IntKind.max .u8) = true := Bool.and_eq_true_iff.1 w1
    have h1 : IntKind.min .u8 ≤ z1 := of_decide_eq_true h.1
    have h2 : z1 ≤ IntKind.max .u8 := of_decide_eq_true h.2
    have h3 : IntKind.min .u8 = 0 := by decide
    have h4 : IntKind.max .u8 = 255 := by decide
    simp only
    omega
   ·have hD : d = .agg [y0.1, y1.1, y2.1] := (Prod.mk.inj hy).1
    have h2 : Rows.uptoBulk d = Rows.uptoBulk y0.1 + (Rows.uptoBulk y1.1 + (Rows.uptoBulk y2.1 + 0)) + 1 := by rw [hD]; rfl
    have h3 : Rows.uptoBulk y2.1 = s.data.toList.length + 1 := by rw [x2]; rfl
    show (tl s).length ≤ _
    have e : (tl s).length = s.data.toList.length := rfl
    omega
set_option maxHeartbeats 1000000 in
set_option maxRecDepth 100000 in
theorem open_ex : ∀ (B : Nat) (fuel : Nat) (cs : List Value) (d : DataW H) (p : List MemPlace), DataW.trod enc Tryz.prog W 0 (fun _ => true) true fuel 32 cs = some (d, p) → Rows.uptoBulk d ≤ B → B ≤ 1048576 → ∃ e : Ex, exRep ⟨W, DoW W⟩ e cs ∧ sizeE e ≤ Rows.uptoBulk d := by
 intro B
 induction B with
 | zero => intro fuel cs d p _ hB _; have := bulk_one d; omega
 | succ B ih =>
  intro fuel cs d p h hB hb
  obtain ⟨ys, n', _, hy, hlen, hyl, hf⟩ := DataW.trod_struct Tryz.underlying32 h
  have hC : Tryz.prog.cellsOf 32 = 8 := by kernel_rfl
  have kT : Tryz.prog.cellsOf 29 = 3 := by kernel_rfl
  have kL : Tryz.prog.cellsOf 30 = 1 := by kernel_rfl
  have k3 : Tryz.prog.cellsOf 3 = 1 := by kernel_rfl
  have k9 : Tryz.prog.cellsOf 9 = 1 := by kernel_rfl
  rw [hC] at hlen
  match cs, hlen with
  | [c0, c1, c2, c3, c4, c5, c6, c7], _ =>
   match ys, hyl with
   | [y0, y1, y2, y3, y4, y5], _ =>
    have f0 : DataW.trod enc Tryz.prog W 0 (fun _ => true) true n' 3 [c0] = some y0 := by have this : DataW.trod enc Tryz.prog W 0 (fun _ => true) true n' 3 (([c0, c1, c2, c3, c4, c5, c6, c7].drop 0).take (Tryz.prog.cellsOf 3)) = some y0 := hf 0 _ rfl; rw [k3] at this; exact this
    have f1 : DataW.trod enc Tryz.prog W 0 (fun _ => true) true n' 3 [c1] = some y1 := by have this : DataW.trod enc Tryz.prog W 0 (fun _ => true) true n' 3 (([c0, c1, c2, c3, c4, c5, c6, c7].drop 1).take (Tryz.prog.cellsOf 3)) = some y1 := hf 1 _ rfl; rw [k3] at this; exact this
    have f2 : DataW.trod enc Tryz.prog W 0 (fun _ => true) true n' 9 [c2] = some y2 := by have this : DataW.trod enc Tryz.prog W 0 (fun _ => true) true n' 9 (([c0, c1, c2, c3, c4, c5, c6, c7].drop 2).take (Tryz.prog.cellsOf 9)) = some y2 := hf 2 _ rfl; rw [k9] at this; exact this
    have f3 : DataW.trod enc Tryz.prog W 0 (fun _ => true) true n' 9 [c3] = some y3 := by have this : DataW.trod enc Tryz.prog W 0 (fun _ => true) true n' 9 (([c0, c1, c2, c3, c4, c5, c6, c7].drop 3).take (Tryz.prog.cellsOf 9)) = some y3 := hf 3 _ rfl; rw [k9] at this; exact this
    have f4 : DataW.trod enc Tryz.prog W 0 (fun _ => true) true n' 29 [c4, c5, c6] = some y4 := by have this : DataW.trod enc Tryz.prog W 0 (fun _ => true) true n' 29 (([c0, c1, c2, c3, c4, c5, c6, c7].drop 4).take (Tryz.prog.cellsOf 29)) = some y4 := hf 4 _ rfl; rw [kT] at this; exact this
    have f5 : DataW.trod enc Tryz.prog W 0 (fun _ => true) true n' 30 [c7] = some y5 := by have this : DataW.trod enc Tryz.prog W 0 (fun _ => true) true n' 30 (([c0, c1, c2, c3, c4, c5, c6, c7].drop 7).take (Tryz.prog.cellsOf 30)) = some y5 := hf 5 _ rfl; rw [kL] at this; exact this
    obtain ⟨z0, e0, _, w0⟩ := DataW.trod_int Tryz.underlying3 f0
    obtain ⟨z1, e1, _, w1⟩ := DataW.trod_int Tryz.underlying3 f1
    obtain ⟨s2, e2, x2, _⟩ := DataW.trod_string Tryz.underlying9 f2
    obtain ⟨s3, e3, x3, _⟩ := DataW.trod_string Tryz.underlying9 f3
    obtain ⟨ty, e4, t1, t2, t3⟩ := open_ty (d := y4.1) (p := y4.2) f4
    have hD : d = .agg [y0.1, y1.1, y2.1, y3.1, y4.1, y5.1] := (Prod.mk.inj hy).1
    have hbd : Rows.uptoBulk d = Rows.uptoBulk y0.1 + (Rows.uptoBulk y1.1 + (Rows.uptoBulk y2.1 + (Rows.uptoBulk y3.1 + (Rows.uptoBulk y4.1 + (Rows.uptoBulk y5.1 + 0))))) + 1 := by rw [hD]; rfl
    have b2 : Rows.uptoBulk y2.1 = s2.data.toList.length + 1 := by rw [x2]; rfl
    have b3 : Rows.uptoBulk y3.1 = s3.data.toList.length + 1 := by rw [x3]; rfl
    have l2 : (tl s2).length = s2.data.toList.length := rfl
    have l3 : (tl s3).length = s3.data.toList.length := rfl
    simp only [tyC, List.cons.injEq, and_true] at e4
    obtain ⟨rfl, rfl, rfl⟩ := e4
    cases e0; cases e1; cases e2; cases e3
    have hok : ∀ l : Nat, l ≤ big → ExOk z0 z1 (tl s2) (tl s3) ty l := fun l hl => ⟨i64_of w0, i64_of w1, by simp only [big]; omega, by simp only [big]; omega, ⟨t1, t2, by simp only [big]; omega⟩, hl⟩
    have hcs : ∀ c7, [Value.int .i64 z0, .int .i64 z1, .string s2, .string s3, .int .i64 ty.dim, .int .u8 ty.base, .string (bs ty.name), c7] = exC z0 z1 (tl s2) (tl s3) ty c7 := fun c7 => by simp only [exC, bs_tl]
    rcases Deep.open_slice Tryz.underlying30 f5 with ⟨hc, hx⟩ | ⟨a, len, cap, m, n, D, Pl, hcs7, _, hl, hm, hmm, hx, hi⟩
    ·have hc7 : c7 = .slice none 0 0 := by simpa using hc
     subst hc7
     refine ⟨.mk z0 z1 (tl s2) (tl s3) ty [], ?_, by simp only [sizeE, sizeL]; omega⟩
     rw [hcs]
     exact ex_mk (args := []) (Nnr _) Rds_nil (hok _ (Nat.zero_le _)) exs_nil
    ·have hc7 : c7 = .slice (some a) len cap := by simpa using hcs7
     have hm2 : m = cap := by simpa using hmm
     subst hc7
     have hd5 : y5.1 = .slice (List.map D (List.range len)) (List.map (fun j => D (len + j)) (List.range (m - len))) := (Prod.mk.inj hx).1
     have hb5 : Rows.uptoBulk y5.1 = Rows.uptoBulkAll (List.map D (List.range len)) + Rows.uptoBulkAll (List.map (fun j => D (len + j)) (List.range (m - len))) + 1 := by rw [hd5]; rfl
     obtain ⟨l, xs, hll, hr, hp⟩ := rows_of (W := W) (a := a) (len := len) (sz := 8) (by decide) (p := fun i (x : Ex) cs => exRep ⟨W, DoW W⟩ x cs ∧ sizeE x ≤ Rows.uptoBulk (D i)) fun i hil => by
      obtain ⟨cs', hc, ht'⟩ := hi i (by omega)
      rw [hC] at hc
      obtain ⟨_, hcl, hat⟩ := World.cells?_some hc
      have hmem : D i ∈ List.map D (List.range len) := List.mem_map.2 ⟨i, List.mem_range.2 hil, rfl⟩
      have hbi := bulk_mem hmem
      obtain ⟨e, he, hs⟩ := ih n cs' (D i) (Pl i) ht' (by omega) (by omega)
      exact ⟨e, cs', hcl, fun j hj => by rw [← Deep.add_add]; exact hat j hj, he, hs⟩
     have hsz := size_bulk l (List.map D (List.range len)) (by simp [hll]) fun i h1 h2 => by simpa using (hp i h1).2
     have hln := len_sizeL l
     subst hll
     refine ⟨.mk z0 z1 (tl s2) (tl s3) ty l, ?_, by simp only [sizeE]; omega⟩
     rw [hcs]
     exact ex_mk hl hr (hok _ (by simp only [big]; omega)) (exs_of_at l xs fun i hi => (hp i hi).1)
end
end Go.Proofs.YtalalcpefggniaaGreatDoor.E
namespace Go.Proofs.YtalalcpefggniaaGreatDoor.E
open Go Go.ChangeShapes Go.WideShapes Go.ChangeAt Go.RowKit
theorem flat_of {α : Type} {f : α → List Value} {sz : Nat} (hf : ∀ x, (f x).length = sz) : ∀ (l : List α) (xs : List Value), xs.length = l.length * sz → (∀ i (hi : i < l.length), (xs.drop (i * sz)).take sz = f l[i]) → xs = flat f l
 | [], xs, h, _ => by
  have : xs = [] := List.length_eq_zero_iff.1 (by simpa using h)
  subst this; rfl
 | x :: r, xs, h, hp => by
  have h0 := hp 0 (by simp)
  rw [Nat.zero_mul, List.drop_zero, List.getElem_cons_zero] at h0
  have hl : (xs.drop sz).length = r.length * sz := by
   rw [List.length_drop, h, Llc, Nat.succ_mul]; omega
  have hr := flat_of hf r (xs.drop sz) hl fun i hi => by
   have := hp (i + 1) (by simpa using hi)
   rw [List.getElem_cons_succ] at this
   rw [List.drop_drop, ← this, Nat.succ_mul, Nat.add_comm]
  have e : flat f (x :: r) = f x ++ flat f r := rfl
  rw [e, ← h0, ← hr, List.take_append_drop]
theorem flat_strs : ∀ l : List (List UInt8), flat (fun s => [.string (bs s)]) l = strs l
 | [] => rfl
 | a :: r => by
  have h := flat_strs r
  simp only [flat, strs, List.map_cons, List.flatten_cons, List.cons_append, List.nil_append] at h ⊢
  rw [h]
theorem ls_of_at {α : Type} {R : α → List Value → Prop} {sz : Nat} : ∀ (l : List α) (xs : List Value), (∀ i (hi : i < l.length), R l[i] ((xs.drop (i * sz)).take sz)) → lsRep R sz l xs
 | [], _, _ => trivial
 | x :: r, xs, h => by
  have h0 := h 0 (by simp)
  rw [Nat.zero_mul, List.drop_zero, List.getElem_cons_zero] at h0
  refine ⟨h0, ls_of_at r (xs.drop sz) fun i hi => ?_⟩
  have := h (i + 1) (by simpa using hi)
  rw [List.getElem_cons_succ] at this
  rw [List.drop_drop, show sz + i * sz = (i + 1) * sz by rw [Nat.succ_mul, Nat.add_comm]]
  exact this
theorem sts_of_at {m : Mem} : ∀ (l : List St) (xs : List Value), (∀ i (hi : i < l.length), stRep m l[i] ((xs.drop (i * 23)).take 23)) → stsRep m l xs
 | [], _, _ => by simp only [stsRep]
 | x :: r, xs, h => by
  simp only [stsRep]
  have h0 := h 0 (by simp)
  rw [Nat.zero_mul, List.drop_zero, List.getElem_cons_zero] at h0
  refine ⟨h0, sts_of_at r (xs.drop 23) fun i hi => ?_⟩
  have := h (i + 1) (by simpa using hi)
  rw [List.getElem_cons_succ] at this
  rw [List.drop_drop, show 23 + i * 23 = (i + 1) * 23 by omega]
  exact this
theorem sum_bulk {H : Type} {α : Type} {size : α → Nat} : ∀ (l : List α) (ds : List (DataW H)), l.length = ds.length → (∀ i (h : i < l.length) (h' : i < ds.length), size l[i] ≤ Rows.uptoBulk ds[i]) → (l.map size).sum ≤ Rows.uptoBulkAll ds
 | [], _, _, _ => by simp
 | e :: r, [], h, _ => by simp at h
 | e :: r, d :: ds, h, hp => by
  have h1 := hp 0 (by simp) (by simp)
  have h2 := sum_bulk (size := size) r ds (by simpa using h) fun i h3 h4 => by
   have := hp (i + 1) (by simpa using h3) (by simpa using h4)
   simp only [List.getElem_cons_succ] at this
   exact this
  simp only [List.map_cons, List.sum_cons, Rows.uptoBulkAll]
  simp only [List.getElem_cons_zero] at h1
  omega
theorem sum_sizeSs : ∀ (l : List St), (l.map sizeS).sum = sizeSs l
 | [] => rfl
 | e :: r => by simp only [List.map_cons, List.sum_cons, sizeSs, sum_sizeSs r]
section
variable {H : Type} {enc : TypeId × Value → H} {W : World}
theorem open_rows {α : Type} {t e : TypeId} {sz : Nat} (ht : Tryz.prog.underlying t = some (.slice e)) (hC : Tryz.prog.cellsOf e = sz) (hsz : 0 < sz) (R : α → List Value → Prop) (size : α → Nat) {fuel : Nat} {c : Value} {d : DataW H} {p : List MemPlace}
  (h : DataW.trod enc Tryz.prog W 0 (fun _ => true) true fuel t [c] = some (d, p)) (ih : ∀ n cs' D Pl, DataW.trod enc Tryz.prog W 0 (fun _ => true) true n e cs' = some (D, Pl) → Rows.uptoBulk D < Rows.uptoBulk d → ∃ x, R x cs' ∧ size x ≤ Rows.uptoBulk D) :
  ∃ (l : List α) (a : Option Addr) (n cp : Nat) (xs : List Value), c = .slice a n cp ∧ n = l.length ∧ n ≤ cp ∧ Rds ⟨W, DoW W⟩ a n sz xs ∧ (∀ i (hi : i < l.length), R l[i] ((xs.drop (i * sz)).take sz)) ∧ (l.map size).sum + 1 ≤ Rows.uptoBulk d ∧ l.length + 1 ≤ Rows.uptoBulk d := by
 rcases Deep.open_slice ht h with ⟨hc, hx⟩ | ⟨a, len, cap, m, n, D, Pl, hcs7, _, hl, hm, hmm, hx, hi⟩
 ·have hc7 : c = .slice none 0 0 := by simpa using hc
  have := bulk_one d
  exact ⟨[], none, 0, 0, [], hc7, rfl, Nnr _, Rds_nil, fun i hi => absurd hi (Nat.not_lt_zero _), by simpa using this, by simpa using this⟩
 ·have hc7 : c = .slice (some a) len cap := by simpa using hcs7
  have hm2 : m = cap := by simpa using hmm
  have hd5 : d = .slice (List.map D (List.range len)) (List.map (fun j => D (len + j)) (List.range (m - len))) := (Prod.mk.inj hx).1
  have hb5 : Rows.uptoBulk d = Rows.uptoBulkAll (List.map D (List.range len)) + Rows.uptoBulkAll (List.map (fun j => D (len + j)) (List.range (m - len))) + 1 := by rw [hd5]; rfl
  obtain ⟨l, xs, hll, hr, hp⟩ := rows_of (W := W) (a := a) (len := len) (sz := sz) hsz (p := fun i (x : α) cs => R x cs ∧ size x ≤ Rows.uptoBulk (D i)) fun i hil => by
   obtain ⟨cs', hc, ht'⟩ := hi i (by omega)
   rw [hC] at hc
   obtain ⟨_, hcl, hat⟩ := World.cells?_some hc
   have hmem : D i ∈ List.map D (List.range len) := List.mem_map.2 ⟨i, List.mem_range.2 hil, rfl⟩
   have hbi := bulk_mem hmem
   obtain ⟨e, he, hs⟩ := ih n cs' (D i) (Pl i) ht' (by omega)
   exact ⟨e, cs', hcl, fun j hj => by rw [← Deep.add_add]; exact hat j hj, he, hs⟩
  have hsz2 := sum_bulk (size := size) l (List.map D (List.range len)) (by simp [hll]) fun i h1 h2 => by simpa using (hp i h1).2
  have hlen := bulk_len (List.map D (List.range len))
  rw [List.length_map, List.length_range] at hlen
  exact ⟨l, some a, len, cap, xs, hc7, hll.symm, hl, hr, fun i hi => (hp i hi).1, by omega, by omega⟩
set_option maxHeartbeats 2000000 in
set_option maxRecDepth 100000 in
theorem open_st : ∀ (B : Nat) (fuel : Nat) (cs : List Value) (d : DataW H) (p : List MemPlace), DataW.trod enc Tryz.prog W 0 (fun _ => true) true fuel 35 cs = some (d, p) → Rows.uptoBulk d ≤ B → B ≤ 1048576 → ∃ e : St, stRep ⟨W, DoW W⟩ e cs ∧ sizeS e ≤ Rows.uptoBulk d := by
 intro B
 induction B with
 | zero => intro fuel cs d p _ hB _; have := bulk_one d; omega
 | succ B ih =>
  intro fuel cs d p h hB hb
  obtain ⟨ys, n', _, hy, hlen, hyl, hf⟩ := DataW.trod_struct Tryz.underlying35 h
  rw [show Tryz.prog.cellsOf 35 = 23 by kernel_rfl] at hlen
  match cs, hlen with
  | [c0, c1, c2, c3, c4, c5, c6, c7, c8, c9, c10, c11, c12, c13, c14, c15, c16, c17, c18, c19, c20, c21, c22], _ =>
  match ys, hyl with
  | [y0, y1, y2, y3, y4, y5, y6], _ =>
   have f0 : DataW.trod enc Tryz.prog W 0 (fun _ => true) true n' 3 [c0] = some y0 := by have this : DataW.trod enc Tryz.prog W 0 (fun _ => true) true n' 3 (([c0, c1, c2, c3, c4, c5, c6, c7, c8, c9, c10, c11, c12, c13, c14, c15, c16, c17, c18, c19, c20, c21, c22].drop 0).take (Tryz.prog.cellsOf 3)) = some y0 := hf 0 _ rfl; rw [show Tryz.prog.cellsOf 3 = 1 by kernel_rfl] at this; exact this
   have f1 : DataW.trod enc Tryz.prog W 0 (fun _ => true) true n' 9 [c1] = some y1 := by have this : DataW.trod enc Tryz.prog W 0 (fun _ => true) true n' 9 (([c0, c1, c2, c3, c4, c5, c6, c7, c8, c9, c10, c11, c12, c13, c14, c15, c16, c17, c18, c19, c20, c21, c22].drop 1).take (Tryz.prog.cellsOf 9)) = some y1 := hf 1 _ rfl; rw [show Tryz.prog.cellsOf 9 = 1 by kernel_rfl] at this; exact this
   have f2 : DataW.trod enc Tryz.prog W 0 (fun _ => true) true n' 29 [c2, c3, c4] = some y2 := by have this : DataW.trod enc Tryz.prog W 0 (fun _ => true) true n' 29 (([c0, c1, c2, c3, c4, c5, c6, c7, c8, c9, c10, c11, c12, c13, c14, c15, c16, c17, c18, c19, c20, c21, c22].drop 2).take (Tryz.prog.cellsOf 29)) = some y2 := hf 2 _ rfl; rw [show Tryz.prog.cellsOf 29 = 3 by kernel_rfl] at this; exact this
   have f3 : DataW.trod enc Tryz.prog W 0 (fun _ => true) true n' 32 [c5, c6, c7, c8, c9, c10, c11, c12] = some y3 := by have this : DataW.trod enc Tryz.prog W 0 (fun _ => true) true n' 32 (([c0, c1, c2, c3, c4, c5, c6, c7, c8, c9, c10, c11, c12, c13, c14, c15, c16, c17, c18, c19, c20, c21, c22].drop 5).take (Tryz.prog.cellsOf 32)) = some y3 := hf 3 _ rfl; rw [show Tryz.prog.cellsOf 32 = 8 by kernel_rfl] at this; exact this
   have f4 : DataW.trod enc Tryz.prog W 0 (fun _ => true) true n' 32 [c13, c14, c15, c16, c17, c18, c19, c20] = some y4 := by have this : DataW.trod enc Tryz.prog W 0 (fun _ => true) true n' 32 (([c0, c1, c2, c3, c4, c5, c6, c7, c8, c9, c10, c11, c12, c13, c14, c15, c16, c17, c18, c19, c20, c21, c22].drop 13).take (Tryz.prog.cellsOf 32)) = some y4 := hf 4 _ rfl; rw [show Tryz.prog.cellsOf 32 = 8 by kernel_rfl] at this; exact this
   have f5 : DataW.trod enc Tryz.prog W 0 (fun _ => true) true n' 33 [c21] = some y5 := by have this : DataW.trod enc Tryz.prog W 0 (fun _ => true) true n' 33 (([c0, c1, c2, c3, c4, c5, c6, c7, c8, c9, c10, c11, c12, c13, c14, c15, c16, c17, c18, c19, c20, c21, c22].drop 21).take (Tryz.prog.cellsOf 33)) = some y5 := hf 5 _ rfl; rw [show Tryz.prog.cellsOf 33 = 1 by kernel_rfl] at this; exact this
   have f6 : DataW.trod enc Tryz.prog W 0 (fun _ => true) true n' 33 [c22] = some y6 := by have this : DataW.trod enc Tryz.prog W 0 (fun _ => true) true n' 33 (([c0, c1, c2, c3, c4, c5, c6, c7, c8, c9, c10, c11, c12, c13, c14, c15, c16, c17, c18, c19, c20, c21, c22].drop 22).take (Tryz.prog.cellsOf 33)) = some y6 := hf 6 _ rfl; rw [show Tryz.prog.cellsOf 33 = 1 by kernel_rfl] at this; exact this
   have hD : d = .agg [y0.1, y1.1, y2.1, y3.1, y4.1, y5.1, y6.1] := (Prod.mk.inj hy).1
   have hbd : Rows.uptoBulk d = Rows.uptoBulk y0.1 + (Rows.uptoBulk y1.1 + (Rows.uptoBulk y2.1 + (Rows.uptoBulk y3.1 + (Rows.uptoBulk y4.1 + (Rows.uptoBulk y5.1 + (Rows.uptoBulk y6.1 + 0)))))) + 1 := by rw [hD]; rfl
   obtain ⟨z0, e0, _, w0⟩ := DataW.trod_int Tryz.underlying3 f0
   cases e0
   obtain ⟨s1, e1, x1, _⟩ := DataW.trod_string Tryz.underlying9 f1
   cases e1
   have b1 : Rows.uptoBulk y1.1 = s1.data.toList.length + 1 := by rw [x1]; rfl
   have l1 : (tl s1).length = s1.data.toList.length := rfl
   obtain ⟨ty2, e2, t2a, t2b, t2c⟩ := open_ty (d := y2.1) (p := y2.2) f2
   simp only [tyC, List.cons.injEq, and_true] at e2
   obtain ⟨rfl, rfl, rfl⟩ := e2
   obtain ⟨ex3, h3a, h3b⟩ := open_ex (Rows.uptoBulk y3.1) n' _ y3.1 y3.2 f3 (Nnr _) (by omega)
   obtain ⟨N3, e3⟩ := exRep_nd h3a
   rw [e3] at h3a
   simp only [Nd.cs, List.cons.injEq, and_true] at e3
   obtain ⟨rfl, rfl, rfl, rfl, rfl, rfl, rfl, rfl⟩ := e3
   obtain ⟨ex4, h4a, h4b⟩ := open_ex (Rows.uptoBulk y4.1) n' _ y4.1 y4.2 f4 (Nnr _) (by omega)
   obtain ⟨N4, e4⟩ := exRep_nd h4a
   rw [e4] at h4a
   simp only [Nd.cs, List.cons.injEq, and_true] at e4
   obtain ⟨rfl, rfl, rfl, rfl, rfl, rfl, rfl, rfl⟩ := e4
   obtain ⟨body, a5, n5, k5, xs5, e5, g5a, g5b, g5c, g5d, g5e, g5f⟩ := open_rows (Tryz.underlying33) (show Tryz.prog.cellsOf 35 = 23 by kernel_rfl) (by decide) (stRep ⟨W, DoW W⟩) sizeS (d := y5.1) (p := y5.2) f5 fun n cs' D Pl ht hlt => ih n cs' D Pl ht (by omega) (by omega)
   obtain ⟨alt, a6, n6, k6, xs6, e6, g6a, g6b, g6c, g6d, g6e, g6f⟩ := open_rows (Tryz.underlying33) (show Tryz.prog.cellsOf 35 = 23 by kernel_rfl) (by decide) (stRep ⟨W, DoW W⟩) sizeS (d := y6.1) (p := y6.2) f6 fun n cs' D Pl ht hlt => ih n cs' D Pl ht (by omega) (by omega)
   subst e5 e6
   rw [sum_sizeSs] at g5e g6e
   refine ⟨.mk z0 (tl s1) ty2 ex3 ex4 body alt, ?_, by simp only [sizeS]; omega⟩
   have := st_mk (m := ⟨W, DoW W⟩) (⟨z0, tl s1, ty2, N3, N4, a5, n5, k5, a6, n6, k6⟩ : Sd) h3a h4a g5a g5b g6a g6b ⟨i64_of w0, by simp only [big]; omega, ⟨t2a, t2b, by simp only [big]; omega⟩, by simp only [big]; omega, by simp only [big]; omega⟩ g5c g6c (sts_of_at body xs5 g5d) (sts_of_at alt xs6 g6d)
   simp only [Sd.cs, bs_tl] at this
   exact this
end
structure FewM (Y : Mc) (mm : Mem) : Prop where
 pl : Y.pl ≤ big
 st : ∀ m', leM mm m' → AnsN 16 [.v (.slice Y.a Y.l Y.cp), .v (.int .i64 600)] m' 0 big
structure FewC (X : Cc) (mm : Mem) : Prop where
 il : X.il ≤ big
 fn : X.fn ≤ big
 ml : X.ml ≤ big
 st : ∀ m', leM mm m' → AnsN 16 [.v (.slice X.sa X.sl X.sc), .v (.int .i64 600)] m' 0 big
 me : ∀ m', leM mm m' → ∀ j, j < X.ml → ∃ Y : Mc, (Rd m' (ptrAt X.ma (j * 8)) Y.cs ∧ X.ma ≠ none) ∧ FewM Y m'
def FewB (l : List Cd) : Prop := ∀ d ∈ l, sizeSs d.init ≤ big ∧ ∀ e ∈ d.methods, sizeSs e.body ≤ big
theorem few_c {d : Cd} {cs : List Value} {m : Mem} (h : cdRep m d cs) (hB : sizeSs d.init ≤ big ∧ ∀ e ∈ d.methods, sizeSs e.body ≤ big) : ∃ X : Cc, cs = X.cs ∧ FewC X m := by
 obtain ⟨x, ⟨rfl, _, _, _⟩, ⟨hil, hic, hfn, hfc, hml, hmc, hsl, hsc⟩, hok, r1, r2, xs, ys, r3, s3, r4, s4⟩ := h
 have up : ∀ {f : FuncId} {args : List SV} {m : Mem} {lo : Int} {hi : Nat}, hi ≤ big → AnsN f args m lo hi → AnsN f args m lo big := fun hh h => h.mono fun r H' m' _ ⟨a, b, x, c, d, e⟩ => ⟨a, b, x, c, d, by omega⟩
 refine ⟨x, rfl, ⟨by rw [hil]; exact hok.il, by rw [hfn]; exact hok.fn, by rw [hml]; exact hok.ml, fun m' hle => up hB.1 (stmts_all _ d.init x.sa x.sl x.sc ys 600 m' (Nnr _) hB.1 (by decide) (by decide) hsl (by rw [hsl]; exact hok.l) (Rds_upM hle r4) (stsRep_upM hle s4)), fun m' hle j hj => ?_⟩⟩
 have hjm : j < d.methods.length := by omega
 have hrep := mdRep_up hle (ls_at s3 hjm)
 have hrd := Rds_cells (Rds_upM hle r3) hj
 have hb := hB.2 _ (List.getElem_mem hjm)
 obtain ⟨Y, ⟨e1, _⟩, ⟨e2, e3, e4, e5⟩, hk2, _, zs, r5, s5⟩ := md_parts hrep
 rw [e1] at hrd
 exact ⟨Y, hrd, ⟨by rw [e2]; exact hk2.pl, fun m2 hle2 => up hb (stmts_all _ _ Y.a Y.l Y.cp zs 600 m2 (Nnr _) hb (by decide) (by decide) e4 (by rw [e4]; exact hk2.l) (Rds_upM hle2 r5) (stsRep_upM hle2 s5))⟩⟩
theorem few_spec (l : List Cd) (p : Option Addr) (n c : Nat) (m : Mem) (h : prRep m l p n c) (hB : FewB l) : FnH Tryz.prog 9 [.v (.slice p n c)] ⟨[], []⟩ m fun r H' m' => leM m m' ∧ H' = ⟨[], []⟩ ∧ ∃ b : Bool, r = .v (.bool b) := by
 obtain ⟨hl, hcp, hn, xs, hr, hs⟩ := h
 refine enter cfN puN Tryz.func9 rfl rfl (by kernel_rfl) rfl ?_ ?_
 ·simp only [go_sem, ↓tfi, ↓fti, ↓reduceIte]
 ·simp only [go_sem, ↓tfi, ↓fti, ↓reduceIte]
  refine WP_loop puN (fun x : Nat × Int × Mem => ⟨[⟨0, [], .v (.slice p n c)⟩, ⟨3, [], .v (.int .i64 x.2.1)⟩, ⟨4, [], .v (.int .i64 x.1)⟩], [], [], [], 0, x.2.2⟩)
   (fun x => leM m x.2.2 ∧ x.1 ≤ n ∧ 0 ≤ x.2.1 ∧ x.2.1 ≤ 10000000) (fun x => n - x.1) (0, 0, m) (by kernel_rfl) (fun _ _ => Nnr _) (fun x hx => hx.1) (fun _ => ?_) ?_ ?_ ?_
  ·simp only [go_sem, ↓tfi, ↓fti, ↓reduceIte]
  ·simp only [go_sem, ↓tfi, ↓fti, ↓reduceIte]
   rfl
  ·exact ⟨.inl rfl, Nat.zero_le _, Int.le_refl _, by simp only; omega⟩
  ·rintro ⟨k, x, mm⟩ ⟨h1, h2, h3, h4⟩
   simp only at h1 h2 h3 h4
   have hy : ∀ (hk : k < l.length), ∃ X : Cc, (Rd mm (ptrAt p (k * 7)) X.cs ∧ p ≠ none) ∧ FewC X mm := fun hk => by
    have hrep := cdRep_up h1 (ls_at hs hk)
    have hrd := Rds_cells (Rds_upM h1 hr) (by omega : k < n)
    obtain ⟨X, e1, e2⟩ := few_c hrep (hB _ (List.getElem_mem hk))
    rw [e1] at hrd
    exact ⟨X, hrd, e2⟩
   simp only [go_sem, ↓tfi, ↓fti, ↓reduceIte]
   refine ⟨fun hlt => ?_, fun hge => ⟨h1, _, rfl⟩⟩
   have hk : k < l.length := by clear hy; omega
   refine Exists.elim (hy hk) fun X hy1 => ?_
   clear hy
   have hp := hy1.1.2
   have hR := fun m' (hle : leM mm m') => Rd_upM hle hy1.1.1
   have hI := hy1.2
   clear hy1
   refine WP_draw (.hoist 0 (.hoist 1 (.hoist 2 (.hoist 3 (.hoist 4 (.hoist 5 (.hoist 6 (.hoist 7 (.hoist 8 (.hoist 9 (.hoist 10 (.hoist 11 (.hoist 12 (.hoist 13 (.hoist 14 (.hoist 15 (.hoist 16 (.hoist 17 (.hoist 18 (.hoist 19 (.alt 20 [14, 13, 12, 11, 10, 9, 8, 7, 6, 5, 4, 3, 2, 1, 0] (.hoist 21 (.hoist 22 (.hoist 23 .done))) .stop))))))))))))))))))))) puN (by kernel_rfl) (by kernel_rfl) ?_
   simp only [go_sem, ↓tfi, ↓fti, ↓reduceIte]
   refine ⟨⟨by clear hR hI; omega, hlt.1, hp⟩, Rd_ptr (hR mm (.inl rfl)), .slice X.fa X.fn X.fc, Rd_sub (hR mm (.inl rfl)) 4 1 (nbl rfl), ?_⟩
   simp only [go_sem, ↓tfi, ↓fti, ↓reduceIte]
   have bf := hI.fn
   have bi := hI.il
   have bm := hI.ml
   simp only [big] at bf bi bm
   refine ⟨by clear hR hI; unfold I64; omega, ⟨by clear hR hI; omega, hlt.1, hp⟩, Rd_ptr (hR mm (.inl rfl)), .slice X.ia X.il X.ic, Rd_sub (hR mm (.inl rfl)) 3 1 (nbl rfl), ?_⟩
   simp only [go_sem, ↓tfi, ↓fti, ↓reduceIte]
   refine ⟨by clear hR hI; unfold I64; omega, ⟨by clear hR hI; omega, hlt.1, hp⟩, Rd_ptr (hR mm (.inl rfl)), .slice X.sa X.sl X.sc, Rd_sub (hR mm (.inl rfl)) 6 1 (nbl rfl), by kernel_rfl, FnV_of ((hI.st mm (.inl rfl)).mono ?_)⟩
   rintro r H' m1 hm1 ⟨l1, rfl, y1, rfl, g1, g2⟩
   simp only [big] at g2
   simp only [go_sem, ↓tfi, ↓fti, ↓reduceIte]
   refine ⟨by simp only [l1, and_self], by clear hR hI; unfold I64; omega, by clear hR hI; unfold I64; omega, ?_⟩
   refine WP_loop puN (fun z : Nat × Int × Mem => ⟨[⟨0, [], .v (.slice p n c)⟩, ⟨3, [], .v (.int .i64 z.2.1)⟩, ⟨4, [], .v (.int .i64 k)⟩, ⟨5, [], .v (.int .i64 z.1)⟩], [], [], [], 0, z.2.2⟩)
    (fun z => leM m1 z.2.2 ∧ z.1 ≤ X.ml ∧ 0 ≤ z.2.1 ∧ z.2.1 ≤ 10000000) (fun z => X.ml - z.1) (0, x + (1 + X.fn + X.il + y1), m1) (by kernel_rfl) (fun _ _ => Nnr _) (fun z hz => hz.1) (fun _ => ?_) ?_ ?_ ?_
   ·simp only [go_sem, ↓tfi, ↓fti, ↓reduceIte]
   ·simp only [go_sem, ↓tfi, ↓fti, ↓reduceIte]
    rfl
   ·exact ⟨.inl rfl, Nat.zero_le _, by clear hR hI; simp only; omega, by clear hR hI; simp only; omega⟩
   ·rintro ⟨j, z, mj⟩ ⟨q1, q2, q3, q4⟩
    simp only at q1 q2 q3 q4
    have kj := leM_tr l1 q1
    have hme := hI.me mj kj j
    simp only [go_sem, ↓tfi, ↓fti, ↓reduceIte]
    refine ⟨⟨by clear hR hI hme; omega, hlt.1, hp⟩, Rd_ptr (hR mm (.inl rfl)), .slice X.ma X.ml X.mc, Rd_sub (hR mj kj) 5 1 (nbl rfl), ?_⟩
    simp only [go_sem, ↓tfi, ↓fti, ↓reduceIte]
    refine ⟨fun hjt => ?_, fun hjg => ?_⟩
    ·have hj : j < X.ml := by clear hR hI hme; omega
     refine Exists.elim (hme hj) fun Y hy1 => ?_
     clear hme
     have hRY := fun m' (hle : leM mj m') => Rd_upM hle hy1.1.1
     have hpY := hy1.1.2
     have hIY := hy1.2
     clear hy1
     have bp := hIY.pl
     simp only [big] at bp
     refine WP_draw (.hoist 0 (.hoist 1 (.hoist 2 (.hoist 3 (.hoist 4 (.hoist 5 (.hoist 6 (.hoist 7 (.hoist 8 (.hoist 9 (.hoist 10 (.hoist 11 (.hoist 12 (.hoist 13 (.hoist 14 (.hoist 15 (.hoist 16 (.hoist 17 (.hoist 18 (.hoist 19 (.hoist 20 (.alt 21 [11, 10, 9, 8, 7, 6, 5, 4, 3, 2, 1, 0] (.hoist 22 (.hoist 23 (.hoist 24 .done))) .stop)))))))))))))))))))))) puN (by kernel_rfl) (by kernel_rfl) ?_
     simp only [go_sem, ↓tfi, ↓fti, ↓reduceIte]
     refine ⟨⟨by clear hR hI hRY hIY; omega, hlt.1, hp⟩, Rd_ptr (hR mm (.inl rfl)), .slice X.ma X.ml X.mc, Rd_sub (hR mj kj) 5 1 (nbl rfl), ?_⟩
     simp only [go_sem, ↓tfi, ↓fti, ↓reduceIte]
     refine ⟨⟨by clear hR hI hRY hIY; omega, hjt.1, hpY⟩, Rd_ptr (hRY mj (.inl rfl)), .slice Y.pa Y.pl Y.pc, Rd_sub (hRY mj (.inl rfl)) 5 1 (nbl rfl), ?_⟩
     simp only [go_sem, ↓tfi, ↓fti, ↓reduceIte]
     refine ⟨by clear hR hI hRY hIY; unfold I64; omega, ⟨by clear hR hI hRY hIY; omega, hlt.1, hp⟩, Rd_ptr (hR mm (.inl rfl)), .slice X.ma X.ml X.mc, Rd_sub (hR mj kj) 5 1 (nbl rfl), ?_⟩
     simp only [go_sem, ↓tfi, ↓fti, ↓reduceIte]
     refine ⟨⟨by clear hR hI hRY hIY; omega, hjt.1, hpY⟩, Rd_ptr (hRY mj (.inl rfl)), .slice Y.a Y.l Y.cp, Rd_sub (hRY mj (.inl rfl)) 7 1 (nbl rfl), by kernel_rfl, FnV_of ((hIY.st mj (.inl rfl)).mono ?_)⟩
     clear hR hI hRY hIY
     rintro r H' m2 hm2 ⟨l2, rfl, y2, rfl, g3, g4⟩
     simp only [big] at g4
     simp only [go_sem, ↓tfi, ↓fti, ↓reduceIte]
     refine ⟨by simp only [l2, and_self], by unfold I64; omega, by unfold I64; omega, by unfold I64; omega, (j + 1, z + (1 + Y.pl + y2), m2), ⟨⟨rfl, by simp⟩, .inl rfl⟩, ⟨leM_tr q1 l2, by simp only; omega, by simp only; omega, by simp only; omega⟩, by simp only; omega⟩
    ·clear hR hI hme
     exact ⟨by unfold I64; simp only [big] at hn; omega, (k + 1, z, mj), ⟨⟨rfl, by simp⟩, .inl rfl⟩, ⟨leM_tr h1 kj, by simp only; omega, q3, q4⟩, by simp only; omega⟩
end Go.Proofs.YtalalcpefggniaaGreatDoor.E
namespace Go.Proofs.YtalalcpefggniaaGreatDoor.E
open Go Go.ChangeShapes Go.WideShapes Go.ChangeAt Go.RowKit
def sizeM (d : Md) : Nat := 1 + d.params.length + sizeSs d.body
def sizeC (d : Cd) : Nat := 1 + d.fields.length + d.ifs.length + sizeSs d.init + (d.methods.map sizeM).sum
section
variable {H : Type} {enc : TypeId × Value → H} {W : World}
set_option maxRecDepth 100000 in
theorem open_pc {fuel : Nat} {cs : List Value} {d : DataW H} {p : List MemPlace} (h : DataW.trod enc Tryz.prog W 0 (fun _ => true) true fuel 140 cs = some (d, p)) (hb : Rows.uptoBulk d ≤ 1048576) : ∃ f : Pc, cs = f.cs ∧ PcOk f := by
 obtain ⟨ys, n', _, hy, hlen, hyl, hf⟩ := DataW.trod_struct Tryz.underlying140 h
 rw [show Tryz.prog.cellsOf 140 = 4 by kernel_rfl] at hlen
 match cs, hlen with
 | [c0, c1, c2, c3], _ =>
 match ys, hyl with
 | [y0, y1], _ =>
  have f0 : DataW.trod enc Tryz.prog W 0 (fun _ => true) true n' 29 [c0, c1, c2] = some y0 := by have this : DataW.trod enc Tryz.prog W 0 (fun _ => true) true n' 29 (([c0, c1, c2, c3].drop 0).take (Tryz.prog.cellsOf 29)) = some y0 := hf 0 _ rfl; rw [show Tryz.prog.cellsOf 29 = 3 by kernel_rfl] at this; exact this
  have f1 : DataW.trod enc Tryz.prog W 0 (fun _ => true) true n' 9 [c3] = some y1 := by have this : DataW.trod enc Tryz.prog W 0 (fun _ => true) true n' 9 (([c0, c1, c2, c3].drop 3).take (Tryz.prog.cellsOf 9)) = some y1 := hf 1 _ rfl; rw [show Tryz.prog.cellsOf 9 = 1 by kernel_rfl] at this; exact this
  have hD : d = .agg [y0.1, y1.1] := (Prod.mk.inj hy).1
  have hbd : Rows.uptoBulk d = Rows.uptoBulk y0.1 + (Rows.uptoBulk y1.1 + 0) + 1 := by rw [hD]; rfl
  obtain ⟨ty0, e0, t0a, t0b, t0c⟩ := open_ty (d := y0.1) (p := y0.2) f0
  simp only [tyC, List.cons.injEq, and_true] at e0
  obtain ⟨rfl, rfl, rfl⟩ := e0
  obtain ⟨s1, e1, x1, _⟩ := DataW.trod_string Tryz.underlying9 f1
  cases e1
  have b1 : Rows.uptoBulk y1.1 = s1.data.toList.length + 1 := by rw [x1]; rfl
  have l1 : (tl s1).length = s1.data.toList.length := rfl
  exact ⟨⟨ty0, tl s1⟩, by simp only [Pc.cs, bs_tl], ⟨⟨t0a, t0b, by simp only [big]; omega⟩, by simp only [big]; omega⟩⟩
set_option maxRecDepth 100000 in
theorem open_fc {fuel : Nat} {cs : List Value} {d : DataW H} {p : List MemPlace} (h : DataW.trod enc Tryz.prog W 0 (fun _ => true) true fuel 85 cs = some (d, p)) (hb : Rows.uptoBulk d ≤ 1048576) : ∃ f : Fc, cs = f.cs ∧ FcOk f := by
 obtain ⟨ys, n', _, hy, hlen, hyl, hf⟩ := DataW.trod_struct Tryz.underlying85 h
 rw [show Tryz.prog.cellsOf 85 = 5 by kernel_rfl] at hlen
 match cs, hlen with
 | [c0, c1, c2, c3, c4], _ =>
 match ys, hyl with
 | [y0, y1, y2], _ =>
  have f0 : DataW.trod enc Tryz.prog W 0 (fun _ => true) true n' 3 [c0] = some y0 := by have this : DataW.trod enc Tryz.prog W 0 (fun _ => true) true n' 3 (([c0, c1, c2, c3, c4].drop 0).take (Tryz.prog.cellsOf 3)) = some y0 := hf 0 _ rfl; rw [show Tryz.prog.cellsOf 3 = 1 by kernel_rfl] at this; exact this
  have f1 : DataW.trod enc Tryz.prog W 0 (fun _ => true) true n' 29 [c1, c2, c3] = some y1 := by have this : DataW.trod enc Tryz.prog W 0 (fun _ => true) true n' 29 (([c0, c1, c2, c3, c4].drop 1).take (Tryz.prog.cellsOf 29)) = some y1 := hf 1 _ rfl; rw [show Tryz.prog.cellsOf 29 = 3 by kernel_rfl] at this; exact this
  have f2 : DataW.trod enc Tryz.prog W 0 (fun _ => true) true n' 9 [c4] = some y2 := by have this : DataW.trod enc Tryz.prog W 0 (fun _ => true) true n' 9 (([c0, c1, c2, c3, c4].drop 4).take (Tryz.prog.cellsOf 9)) = some y2 := hf 2 _ rfl; rw [show Tryz.prog.cellsOf 9 = 1 by kernel_rfl] at this; exact this
  have hD : d = .agg [y0.1, y1.1, y2.1] := (Prod.mk.inj hy).1
  have hbd : Rows.uptoBulk d = Rows.uptoBulk y0.1 + (Rows.uptoBulk y1.1 + (Rows.uptoBulk y2.1 + 0)) + 1 := by rw [hD]; rfl
  obtain ⟨z0, e0, _, w0⟩ := DataW.trod_int Tryz.underlying3 f0
  cases e0
  obtain ⟨ty1, e1, t1a, t1b, t1c⟩ := open_ty (d := y1.1) (p := y1.2) f1
  simp only [tyC, List.cons.injEq, and_true] at e1
  obtain ⟨rfl, rfl, rfl⟩ := e1
  obtain ⟨s2, e2, x2, _⟩ := DataW.trod_string Tryz.underlying9 f2
  cases e2
  have b2 : Rows.uptoBulk y2.1 = s2.data.toList.length + 1 := by rw [x2]; rfl
  have l2 : (tl s2).length = s2.data.toList.length := rfl
  exact ⟨⟨z0, ty1, tl s2⟩, by simp only [Fc.cs, bs_tl], ⟨i64_of w0, ⟨t1a, t1b, by simp only [big]; omega⟩, by simp only [big]; omega⟩⟩
set_option maxHeartbeats 2000000 in
set_option maxRecDepth 100000 in
theorem open_md {fuel : Nat} {cs : List Value} {d : DataW H} {p : List MemPlace} (h : DataW.trod enc Tryz.prog W 0 (fun _ => true) true fuel 58 cs = some (d, p)) (hb : Rows.uptoBulk d ≤ 1048576) : ∃ f : Md, mdRep ⟨W, DoW W⟩ f cs ∧ sizeM f ≤ Rows.uptoBulk d := by
 obtain ⟨ys, n', _, hy, hlen, hyl, hf⟩ := DataW.trod_struct Tryz.underlying58 h
 rw [show Tryz.prog.cellsOf 58 = 8 by kernel_rfl] at hlen
 match cs, hlen with
 | [c0, c1, c2, c3, c4, c5, c6, c7], _ =>
 match ys, hyl with
 | [y0, y1, y2, y3, y4, y5], _ =>
  have f0 : DataW.trod enc Tryz.prog W 0 (fun _ => true) true n' 3 [c0] = some y0 := by have this : DataW.trod enc Tryz.prog W 0 (fun _ => true) true n' 3 (([c0, c1, c2, c3, c4, c5, c6, c7].drop 0).take (Tryz.prog.cellsOf 3)) = some y0 := hf 0 _ rfl; rw [show Tryz.prog.cellsOf 3 = 1 by kernel_rfl] at this; exact this
  have f1 : DataW.trod enc Tryz.prog W 0 (fun _ => true) true n' 29 [c1, c2, c3] = some y1 := by have this : DataW.trod enc Tryz.prog W 0 (fun _ => true) true n' 29 (([c0, c1, c2, c3, c4, c5, c6, c7].drop 1).take (Tryz.prog.cellsOf 29)) = some y1 := hf 1 _ rfl; rw [show Tryz.prog.cellsOf 29 = 3 by kernel_rfl] at this; exact this
  have f2 : DataW.trod enc Tryz.prog W 0 (fun _ => true) true n' 9 [c4] = some y2 := by have this : DataW.trod enc Tryz.prog W 0 (fun _ => true) true n' 9 (([c0, c1, c2, c3, c4, c5, c6, c7].drop 4).take (Tryz.prog.cellsOf 9)) = some y2 := hf 2 _ rfl; rw [show Tryz.prog.cellsOf 9 = 1 by kernel_rfl] at this; exact this
  have f3 : DataW.trod enc Tryz.prog W 0 (fun _ => true) true n' 56 [c5] = some y3 := by have this : DataW.trod enc Tryz.prog W 0 (fun _ => true) true n' 56 (([c0, c1, c2, c3, c4, c5, c6, c7].drop 5).take (Tryz.prog.cellsOf 56)) = some y3 := hf 3 _ rfl; rw [show Tryz.prog.cellsOf 56 = 1 by kernel_rfl] at this; exact this
  have f4 : DataW.trod enc Tryz.prog W 0 (fun _ => true) true n' 4 [c6] = some y4 := by have this : DataW.trod enc Tryz.prog W 0 (fun _ => true) true n' 4 (([c0, c1, c2, c3, c4, c5, c6, c7].drop 6).take (Tryz.prog.cellsOf 4)) = some y4 := hf 4 _ rfl; rw [show Tryz.prog.cellsOf 4 = 1 by kernel_rfl] at this; exact this
  have f5 : DataW.trod enc Tryz.prog W 0 (fun _ => true) true n' 33 [c7] = some y5 := by have this : DataW.trod enc Tryz.prog W 0 (fun _ => true) true n' 33 (([c0, c1, c2, c3, c4, c5, c6, c7].drop 7).take (Tryz.prog.cellsOf 33)) = some y5 := hf 5 _ rfl; rw [show Tryz.prog.cellsOf 33 = 1 by kernel_rfl] at this; exact this
  have hD : d = .agg [y0.1, y1.1, y2.1, y3.1, y4.1, y5.1] := (Prod.mk.inj hy).1
  have hbd : Rows.uptoBulk d = Rows.uptoBulk y0.1 + (Rows.uptoBulk y1.1 + (Rows.uptoBulk y2.1 + (Rows.uptoBulk y3.1 + (Rows.uptoBulk y4.1 + (Rows.uptoBulk y5.1 + 0))))) + 1 := by rw [hD]; rfl
  obtain ⟨z0, e0, _, w0⟩ := DataW.trod_int Tryz.underlying3 f0
  cases e0
  obtain ⟨ty1, e1, t1a, t1b, t1c⟩ := open_ty (d := y1.1) (p := y1.2) f1
  simp only [tyC, List.cons.injEq, and_true] at e1
  obtain ⟨rfl, rfl, rfl⟩ := e1
  obtain ⟨s2, e2, x2, _⟩ := DataW.trod_string Tryz.underlying9 f2
  cases e2
  have b2 : Rows.uptoBulk y2.1 = s2.data.toList.length + 1 := by rw [x2]; rfl
  have l2 : (tl s2).length = s2.data.toList.length := rfl
  obtain ⟨z4, e4, _⟩ := DataW.trod_bool Tryz.underlying4 f4
  cases e4
  obtain ⟨ps, a3, n3, k3, xs3, e3, g3a, g3b, g3c, g3d, g3e, g3f⟩ := open_rows (Tryz.underlying56) (show Tryz.prog.cellsOf 140 = 4 by kernel_rfl) (by decide) (fun (f : Pc) cs => cs = f.cs ∧ PcOk f) (fun _ => 0) (d := y3.1) (p := y3.2) f3 fun n cs' D Pl ht hlt => by
   obtain ⟨f, h1, h2⟩ := open_pc ht (by omega)
   exact ⟨f, ⟨h1, h2⟩, Nat.zero_le _⟩
  obtain ⟨body, a5, n5, k5, xs5, e5, g5a, g5b, g5c, g5d, g5e, g5f⟩ := open_rows (Tryz.underlying33) (show Tryz.prog.cellsOf 35 = 23 by kernel_rfl) (by decide) (stRep ⟨W, DoW W⟩) sizeS (d := y5.1) (p := y5.2) f5 fun n cs' D Pl ht hlt => open_st (Rows.uptoBulk D) n cs' D Pl ht (Nnr _) (by omega)
  subst e3 e5
  rw [sum_sizeSs] at g5e
  have hx3 : xs3 = flat Pc.cs ps := flat_of (f := Pc.cs) (sz := 4) (fun _ => rfl) ps xs3 (by rw [g3c.1, g3a]) fun i hi => (g3d i hi).1
  refine ⟨⟨z0, ty1, tl s2, ps, z4, body⟩, ⟨⟨z0, ty1, tl s2, a3, n3, k3, z4, a5, n5, k5⟩, ⟨by simp only [Mc.cs, bs_tl], rfl, rfl, rfl, rfl⟩, ⟨g3a, g3b, g5a, g5b⟩, ⟨i64_of w0, ⟨t1a, t1b, by simp only [big]; omega⟩, by simp only [big]; omega, by simp only [big]; omega, fun q hq => ?_, by simp only [big]; omega⟩, by rw [← hx3]; exact g3c, xs5, g5c, sts_of_at body xs5 g5d⟩, by simp only [sizeM]; omega⟩
  obtain ⟨i, hi, rfl⟩ := List.getElem_of_mem hq
  exact (g3d i hi).2
set_option maxHeartbeats 2000000 in
set_option maxRecDepth 100000 in
theorem open_cd {fuel : Nat} {cs : List Value} {d : DataW H} {p : List MemPlace} (h : DataW.trod enc Tryz.prog W 0 (fun _ => true) true fuel 55 cs = some (d, p)) (hb : Rows.uptoBulk d ≤ 1048576) : ∃ f : Cd, (cdRep ⟨W, DoW W⟩ f cs ∧ sizeSs f.init ≤ big ∧ ∀ e ∈ f.methods, sizeSs e.body ≤ big) ∧ sizeC f ≤ Rows.uptoBulk d := by
 obtain ⟨ys, n', _, hy, hlen, hyl, hf⟩ := DataW.trod_struct Tryz.underlying55 h
 rw [show Tryz.prog.cellsOf 55 = 7 by kernel_rfl] at hlen
 match cs, hlen with
 | [c0, c1, c2, c3, c4, c5, c6], _ =>
 match ys, hyl with
 | [y0, y1, y2, y3, y4, y5, y6], _ =>
  have f0 : DataW.trod enc Tryz.prog W 0 (fun _ => true) true n' 3 [c0] = some y0 := by have this : DataW.trod enc Tryz.prog W 0 (fun _ => true) true n' 3 (([c0, c1, c2, c3, c4, c5, c6].drop 0).take (Tryz.prog.cellsOf 3)) = some y0 := hf 0 _ rfl; rw [show Tryz.prog.cellsOf 3 = 1 by kernel_rfl] at this; exact this
  have f1 : DataW.trod enc Tryz.prog W 0 (fun _ => true) true n' 9 [c1] = some y1 := by have this : DataW.trod enc Tryz.prog W 0 (fun _ => true) true n' 9 (([c0, c1, c2, c3, c4, c5, c6].drop 1).take (Tryz.prog.cellsOf 9)) = some y1 := hf 1 _ rfl; rw [show Tryz.prog.cellsOf 9 = 1 by kernel_rfl] at this; exact this
  have f2 : DataW.trod enc Tryz.prog W 0 (fun _ => true) true n' 9 [c2] = some y2 := by have this : DataW.trod enc Tryz.prog W 0 (fun _ => true) true n' 9 (([c0, c1, c2, c3, c4, c5, c6].drop 2).take (Tryz.prog.cellsOf 9)) = some y2 := hf 2 _ rfl; rw [show Tryz.prog.cellsOf 9 = 1 by kernel_rfl] at this; exact this
  have f3 : DataW.trod enc Tryz.prog W 0 (fun _ => true) true n' 51 [c3] = some y3 := by have this : DataW.trod enc Tryz.prog W 0 (fun _ => true) true n' 51 (([c0, c1, c2, c3, c4, c5, c6].drop 3).take (Tryz.prog.cellsOf 51)) = some y3 := hf 3 _ rfl; rw [show Tryz.prog.cellsOf 51 = 1 by kernel_rfl] at this; exact this
  have f4 : DataW.trod enc Tryz.prog W 0 (fun _ => true) true n' 52 [c4] = some y4 := by have this : DataW.trod enc Tryz.prog W 0 (fun _ => true) true n' 52 (([c0, c1, c2, c3, c4, c5, c6].drop 4).take (Tryz.prog.cellsOf 52)) = some y4 := hf 4 _ rfl; rw [show Tryz.prog.cellsOf 52 = 1 by kernel_rfl] at this; exact this
  have f5 : DataW.trod enc Tryz.prog W 0 (fun _ => true) true n' 53 [c5] = some y5 := by have this : DataW.trod enc Tryz.prog W 0 (fun _ => true) true n' 53 (([c0, c1, c2, c3, c4, c5, c6].drop 5).take (Tryz.prog.cellsOf 53)) = some y5 := hf 5 _ rfl; rw [show Tryz.prog.cellsOf 53 = 1 by kernel_rfl] at this; exact this
  have f6 : DataW.trod enc Tryz.prog W 0 (fun _ => true) true n' 33 [c6] = some y6 := by have this : DataW.trod enc Tryz.prog W 0 (fun _ => true) true n' 33 (([c0, c1, c2, c3, c4, c5, c6].drop 6).take (Tryz.prog.cellsOf 33)) = some y6 := hf 6 _ rfl; rw [show Tryz.prog.cellsOf 33 = 1 by kernel_rfl] at this; exact this
  have hD : d = .agg [y0.1, y1.1, y2.1, y3.1, y4.1, y5.1, y6.1] := (Prod.mk.inj hy).1
  have hbd : Rows.uptoBulk d = Rows.uptoBulk y0.1 + (Rows.uptoBulk y1.1 + (Rows.uptoBulk y2.1 + (Rows.uptoBulk y3.1 + (Rows.uptoBulk y4.1 + (Rows.uptoBulk y5.1 + (Rows.uptoBulk y6.1 + 0)))))) + 1 := by rw [hD]; rfl
  obtain ⟨z0, e0, _, w0⟩ := DataW.trod_int Tryz.underlying3 f0
  cases e0
  obtain ⟨s1, e1, x1, _⟩ := DataW.trod_string Tryz.underlying9 f1
  cases e1
  have b1 : Rows.uptoBulk y1.1 = s1.data.toList.length + 1 := by rw [x1]; rfl
  have l1 : (tl s1).length = s1.data.toList.length := rfl
  obtain ⟨s2, e2, x2, _⟩ := DataW.trod_string Tryz.underlying9 f2
  cases e2
  have b2 : Rows.uptoBulk y2.1 = s2.data.toList.length + 1 := by rw [x2]; rfl
  have l2 : (tl s2).length = s2.data.toList.length := rfl
  obtain ⟨ifs, a3, n3, k3, xs3, e3, g3a, g3b, g3c, g3d, g3e, g3f⟩ := open_rows (Tryz.underlying51) (show Tryz.prog.cellsOf 9 = 1 by kernel_rfl) (by decide) (fun (s : List UInt8) cs => cs = [.string (bs s)] ∧ s.length ≤ big) (fun _ => 0) (d := y3.1) (p := y3.2) f3 fun n cs' D Pl ht hlt => by
   obtain ⟨s, h1, h2, _⟩ := DataW.trod_string Tryz.underlying9 ht
   have h3 : Rows.uptoBulk D = s.data.toList.length + 1 := by rw [(Prod.mk.inj h2).1]; rfl
   have h4 : (tl s).length = s.data.toList.length := rfl
   exact ⟨tl s, ⟨by rw [h1, bs_tl], by simp only [big]; omega⟩, Nat.zero_le _⟩
  obtain ⟨fds, a4, n4, k4, xs4, e4, g4a, g4b, g4c, g4d, g4e, g4f⟩ := open_rows (Tryz.underlying52) (show Tryz.prog.cellsOf 85 = 5 by kernel_rfl) (by decide) (fun (f : Fc) cs => cs = f.cs ∧ FcOk f) (fun _ => 0) (d := y4.1) (p := y4.2) f4 fun n cs' D Pl ht hlt => by
   obtain ⟨f, h1, h2⟩ := open_fc ht (by omega)
   exact ⟨f, ⟨h1, h2⟩, Nat.zero_le _⟩
  obtain ⟨mds, a5, n5, k5, xs5, e5, g5a, g5b, g5c, g5d, g5e, g5f⟩ := open_rows (Tryz.underlying53) (show Tryz.prog.cellsOf 58 = 8 by kernel_rfl) (by decide) (fun (f : Md) cs => mdRep ⟨W, DoW W⟩ f cs ∧ sizeSs f.body ≤ big) sizeM (d := y5.1) (p := y5.2) f5 fun n cs' D Pl ht hlt => by
   obtain ⟨f, h1, h2⟩ := open_md ht (by omega)
   have h3 : sizeSs f.body ≤ sizeM f := by simp only [sizeM]; omega
   exact ⟨f, ⟨h1, by simp only [big]; omega⟩, h2⟩
  obtain ⟨init, a6, n6, k6, xs6, e6, g6a, g6b, g6c, g6d, g6e, g6f⟩ := open_rows (Tryz.underlying33) (show Tryz.prog.cellsOf 35 = 23 by kernel_rfl) (by decide) (stRep ⟨W, DoW W⟩) sizeS (d := y6.1) (p := y6.2) f6 fun n cs' D Pl ht hlt => open_st (Rows.uptoBulk D) n cs' D Pl ht (Nnr _) (by omega)
  subst e3 e4 e5 e6
  rw [sum_sizeSs] at g6e
  have hx3 : xs3 = strs ifs := by
   have h1 : xs3 = flat (fun s => [.string (bs s)]) ifs := flat_of (f := fun s => [.string (bs s)]) (sz := 1) (fun _ => rfl) ifs xs3 (by rw [g3c.1, g3a]) fun i hi => (g3d i hi).1
   rw [h1, flat_strs]
  have hx4 : xs4 = flat Fc.cs fds := flat_of (f := Fc.cs) (sz := 5) (fun _ => rfl) fds xs4 (by rw [g4c.1, g4a]) fun i hi => (g4d i hi).1
  refine ⟨⟨z0, tl s1, tl s2, ifs, fds, mds, init⟩, ⟨⟨⟨z0, tl s1, tl s2, a3, n3, k3, a4, n4, k4, a5, n5, k5, a6, n6, k6⟩, ⟨by simp only [Cc.cs, bs_tl], rfl, rfl, rfl⟩, ⟨g3a, g3b, g4a, g4b, g5a, g5b, g6a, g6b⟩, ?_, by rw [← hx3]; exact g3c, by rw [← hx4]; exact g4c, xs5, xs6, g5c, ls_of_at mds xs5 fun i hi => (g5d i hi).1, g6c, sts_of_at init xs6 g6d⟩, by simp only [big]; omega, fun e he => ?_⟩, by simp only [sizeC]; omega⟩
  ·refine ⟨i64_of w0, by simp only [big]; omega, by simp only [big]; omega, by simp only [big]; omega, fun q hq => ?_, by simp only [big]; omega, fun q hq => ?_, by simp only [big]; omega, by simp only [big]; omega⟩
   ·obtain ⟨i, hi, rfl⟩ := List.getElem_of_mem hq
    exact (g3d i hi).2
   ·obtain ⟨i, hi, rfl⟩ := List.getElem_of_mem hq
    exact (g4d i hi).2
  ·obtain ⟨i, hi, rfl⟩ := List.getElem_of_mem he
   exact (g5d i hi).2
set_option maxRecDepth 100000 in
theorem open_prog {v : Value} {d : DataW H} {p : List MemPlace} {r : Reach} {b0 : Nat} (hval : Value.okWide Tryz.prog W r b0 22 v) (h : DataW.Trod enc Tryz.prog W 0 (fun _ => true) true 22 v d p) (hb : Rows.uptoBulk d ≤ 1048576) :
  ∃ (l : List Cd) (a : Option Addr) (n c : Nat), v = .slice a n c ∧ prRep ⟨W, DoW W⟩ l a n c ∧ FewB l ∧ (l.map sizeC).sum ≤ 1048576 := by
 obtain ⟨va, vl, vc, hv0⟩ := okWide_slice Tryz.underlying22 hval
 have hcv : v.cells.toList = [v] := by rw [hv0]; rfl
 obtain ⟨fuel, h⟩ := h
 rw [hcv] at h
 obtain ⟨l, a, n, c, xs, e, ga, gb, gc, gd, ge, gf⟩ := open_rows (Tryz.underlying22) (show Tryz.prog.cellsOf 55 = 7 by kernel_rfl) (by decide) (fun (f : Cd) cs => cdRep ⟨W, DoW W⟩ f cs ∧ sizeSs f.init ≤ big ∧ ∀ e ∈ f.methods, sizeSs e.body ≤ big) sizeC h fun n cs' D Pl ht hlt => by
  obtain ⟨f, h1, h2⟩ := open_cd ht (by omega)
  exact ⟨f, h1, h2⟩
 refine ⟨l, a, n, c, e, ⟨ga, gb, by simp only [big]; omega, xs, gc, ls_of_at l xs fun i hi => (gd i hi).1⟩, fun q hq => ?_, by omega⟩
 obtain ⟨i, hi, rfl⟩ := List.getElem_of_mem hq
 exact (gd i hi).2
end
/-! Depths against sizes. -/
mutual
theorem depD_size : ∀ (s : St), depthS s ≤ sizeS s ∧ exprD s ≤ sizeS s
 | .mk k nm ty tg ex body alt => by
  have h1 := depDs_size body
  have h2 := depDs_size alt
  have h3 := depth_size tg
  have h4 := depth_size ex
  have h5 : argsD ex ≤ depthE ex := by cases ex; simp [argsD, depthE]
  simp only [depthS, exprD, sizeS]
  constructor
  ·omega
  ·split <;> omega
theorem depDs_size : ∀ (l : List St), depthSs l ≤ sizeSs l ∧ exprDs l ≤ sizeSs l
 | [] => by simp [depthSs, exprDs]
 | e :: r => by
  have h1 := depD_size e
  have h2 := depDs_size r
  simp only [depthSs, exprDs, sizeSs]
  omega
end
theorem mds_size : ∀ (l : List Md), mdsS l ≤ (l.map sizeM).sum ∧ mdsE l ≤ (l.map sizeM).sum
 | [] => by simp [mdsS, mdsE]
 | e :: r => by
  have h1 := depDs_size e.body
  have h2 := mds_size r
  simp only [mdsS, mdsE, List.map_cons, List.sum_cons, sizeM]
  omega
theorem cdB_size {d : Cd} (h : sizeC d ≤ 1048576) : CdB d := by
 have h1 := depDs_size d.init
 have h2 := mds_size d.methods
 simp only [sizeC] at h
 exact ⟨by simp only [big]; omega, by simp only [big]; omega, by simp only [big]; omega, by simp only [big]; omega⟩
theorem sum_mem {α : Type} {f : α → Nat} : ∀ {l : List α}, ∀ x ∈ l, f x ≤ (l.map f).sum
 | [], x, hx => by cases hx
 | y :: r, x, hx => by
  simp only [List.map_cons, List.sum_cons]
  rcases List.mem_cons.1 hx with rfl | hx
  ·omega
  ·have := sum_mem (f := f) x hx; omega
theorem prog_cdB {l : List Cd} (h : (l.map sizeC).sum ≤ 1048576) : ∀ d ∈ l, CdB d := fun d hd => cdB_size (Nat.le_trans (sum_mem (f := sizeC) d hd) h)
mutual
def deepR : St → Nat
 | .mk k _ _ tg ex body alt => max (max (if k = 11 then depthE ex - 1 else max (depthE tg) (depthE ex)) (deepRs body)) (deepRs alt)
def deepRs : List St → Nat
 | [] => 0
 | e :: r => max (deepR e) (deepRs r)
end
theorem deepRs_take : ∀ {l : List St} {k : Nat} (hk : k < l.length), deepRs (l.take (k + 1)) = max (deepRs (l.take k)) (deepR l[k])
 | [], _, hk => absurd hk (Nat.not_lt_zero _)
 | e :: r, 0, _ => by simp [deepRs]
 | e :: r, k + 1, hk => by
  have := deepRs_take (l := r) (k := k) (by simpa using hk)
  simp only [List.take_succ_cons, deepRs, this, List.getElem_cons_succ, Nat.max_assoc]
theorem st_it {f : FuncId} {g : St → Value} {l : List St} {a : Option Addr} {n : Nat} {xs : List Value} {m : Mem} (hl : n = l.length) (hr : Rds m a n 23 xs) (hs : stsRep m l xs)
  (ih : ∀ e ∈ l, ∀ cs m', leM m m' → stRep m' e cs → Ans f [.v (.agg ⟨cs⟩)] m' (g e)) (mm : Mem) (hle : leM m mm) (k : Nat) (hk : k < l.length) :
  ∃ X : Sd, (Rd mm (ptrAt a (k * 23)) X.cs ∧ a ≠ none) ∧ ∀ m2, leM mm m2 → Ans f [.v (.agg ⟨X.cs⟩)] m2 (g l[k]) := by
 have hrep := stRep_upM hle (sts_at hs hk)
 obtain ⟨X, e1⟩ := stRep_sd hrep
 have r1 := Rds_cells (Rds_upM hle hr) (by omega : k < n)
 rw [e1] at r1 hrep
 exact ⟨X, r1, fun m2 h2 => ih _ (List.getElem_mem hk) _ _ (leM_tr hle h2) (stRep_upM h2 hrep)⟩
theorem sdepth_all : ∀ (h : Nat) (e : St) (cs : List Value) (m : Mem), depthS e ≤ h → h ≤ big → stRep m e cs → Ans 156 [.v (.agg ⟨cs⟩)] m (.int .i64 (depthS e))
 | 0, .mk k nm ty tg ex body alt, cs, m, hd, _, _ => by simp [depthS] at hd
 | h + 1, .mk k nm ty tg ex body alt, cs, m, hd, hb, he => by
  obtain ⟨X, rfl, rfl, rfl, rfl, htg, hex, hl, hcp, hl2, hcp2, hok, xs, ys, r1, r2, s1, s2⟩ := st_parts he
  simp only [depthS] at hd
  have bn : X.l ≤ big := by rw [hl]; exact hok.l
  have bn2 : X.l2 ≤ big := by rw [hl2]; exact hok.l2
  have hB := st_it (g := fun e => .int .i64 (depthS e)) hl r1 s1 fun e he cs m2 hle2 hrep => sdepth_all h e cs m2 (by have := depthSs_mem he; omega) (by omega) hrep
  have hA := st_it (g := fun e => .int .i64 (depthS e)) hl2 r2 s2 fun e he cs m2 hle2 hrep => sdepth_all h e cs m2 (by have := depthSs_mem he; omega) (by omega) hrep
  refine enter cfN puN Tryz.func156 rfl rfl (by kernel_rfl) rfl ?_ ?_
  ·simp only [go_sem, ↓tfi, ↓fti, ↓reduceIte, Sd.cs, Nd.cs]
  ·simp only [go_sem, ↓tfi, ↓fti, ↓reduceIte, Sd.cs, Nd.cs]
   refine WP_loop puN (fun x : Nat × Mem => ⟨[⟨1, [], .box 0 0⟩, ⟨3, [], .v (.int .i64 (depthSs (body.take x.1)))⟩, ⟨4, [], .v (.int .i64 x.1)⟩], [], [⟨0, 35, (X.cs).map .v⟩], [], 1, x.2⟩)
    (fun x => leM m x.2 ∧ x.1 ≤ X.l) (fun x => X.l - x.1) (0, m) (by kernel_rfl) (fun _ _ => Nnr _) (fun x hx => hx.1) (fun _ => ?_) ?_ ?_ ?_
   ·simp only [go_sem, ↓tfi, ↓fti, ↓reduceIte, Sd.cs, Nd.cs]
   ·simp only [go_sem, ↓tfi, ↓fti, ↓reduceIte, Sd.cs, Nd.cs]
    exact ⟨rfl, rfl⟩
   ·exact ⟨.inl rfl, Nat.zero_le _⟩
   ·rintro ⟨i, mm⟩ ⟨h1, h2⟩
    simp only at h1 h2
    simp only [go_sem, ↓tfi, ↓fti, ↓reduceIte, Sd.cs, Nd.cs]
    refine ⟨fun hlt => ?_, fun hge => ?_⟩
    ·have hi : i < body.length := by clear hA hB; omega
     clear hA
     refine Exists.elim (hB mm h1 i hi) fun Y hY => ⟨⟨by clear hB hY; omega, hlt, hY.1.2⟩, Y.cs, ⟨hY.1.1, rfl⟩, ?_⟩
     clear hB
     have ha := hY.2 mm (.inl rfl)
     clear hY
     simp only [go_sem, ↓tfi, ↓fti, ↓reduceIte, Sd.cs, Nd.cs]
     refine cvl ((FnH_den ha (fun V => rfl)).mono ?_)
     clear ha
     rintro r H' m2 hm2 ⟨hle2, rfl, rfl⟩
     simp only [go_sem, ↓tfi, ↓fti, ↓reduceIte, Sd.cs, Nd.cs]
     have hdt := depthSs_take hi
     refine ⟨by unfold I64; simp only [big] at bn; omega, (i + 1, m2), ⟨⟨?_, by simp⟩, .inl rfl⟩, ⟨leM_tr h1 hle2, by simp only; omega⟩, by simp only; omega⟩
     simp only
     rw [hdt]
     split <;> omega
    ·clear hB
     have e0 : body.take i = body := List.take_of_length_le (by clear hA; omega)
     rw [e0]
     refine WP_loop puN (fun x : Nat × Nat × Mem => ⟨[⟨1, [], .box 0 0⟩, ⟨3, [], .v (.int .i64 x.2.1)⟩, ⟨5, [], .v (.int .i64 x.1)⟩], [], [⟨0, 35, (X.cs).map .v⟩], [], 1, x.2.2⟩)
      (fun x => leM mm x.2.2 ∧ x.1 ≤ X.l2 ∧ x.2.1 = max (depthSs body) (depthSs (alt.take x.1))) (fun x => X.l2 - x.1) (0, depthSs body, mm) (by kernel_rfl) (fun _ _ => Nnr _) (fun x hx => ?_) (fun _ => ?_) ?_ ?_ ?_
     ·exact hx.1
     ·simp only [go_sem, ↓tfi, ↓fti, ↓reduceIte, Sd.cs, Nd.cs]
     ·simp only [go_sem, ↓tfi, ↓fti, ↓reduceIte, Sd.cs, Nd.cs]
      rfl
     ·exact ⟨.inl rfl, Nat.zero_le _, by simp only [List.take_zero, depthSs, Nat.max_zero]⟩
     ·rintro ⟨j, v, mj⟩ ⟨h3, h4, h5⟩
      simp only at h3 h4 h5
      simp only [go_sem, ↓tfi, ↓fti, ↓reduceIte, Sd.cs, Nd.cs]
      refine ⟨fun hlt => ?_, fun hge => ?_⟩
      ·have hi : j < alt.length := by clear hA; omega
       refine Exists.elim (hA mj (leM_tr h1 h3) j hi) fun Y hY => ⟨⟨by clear hA hY; omega, hlt, hY.1.2⟩, Y.cs, ⟨hY.1.1, rfl⟩, ?_⟩
       clear hA
       have ha := hY.2 mj (.inl rfl)
       clear hY
       simp only [go_sem, ↓tfi, ↓fti, ↓reduceIte, Sd.cs, Nd.cs]
       refine cvl ((FnH_den ha (fun V => rfl)).mono ?_)
       clear ha
       rintro r H' m2 hm2 ⟨hle2, rfl, rfl⟩
       simp only [go_sem, ↓tfi, ↓fti, ↓reduceIte, Sd.cs, Nd.cs]
       have hdt := depthSs_take hi
       refine ⟨by unfold I64; simp only [big] at bn2; omega, (j + 1, max v (depthS alt[j]), m2), ⟨⟨?_, by simp⟩, .inl rfl⟩, ⟨leM_tr h3 hle2, by simp only; omega, by simp only; rw [hdt, h5]; exact Nat.max_assoc _ _ _⟩, by simp only; omega⟩
       simp only
       split <;> omega
      ·clear hA
       have e1 : alt.take j = alt := List.take_of_length_le (by omega)
       rw [e1] at h5
       simp only [depthS]
       exact ⟨by unfold I64; simp only [big] at hb; omega, leM_tr h1 h3, by omega⟩
theorem sdeep_all : ∀ (h : Nat) (e : St) (cs : List Value) (m : Mem), depthS e ≤ h → sizeS e ≤ big → stRep m e cs → Ans 157 [.v (.agg ⟨cs⟩)] m (.int .i64 (deepR e))
 | 0, .mk k nm ty tg ex body alt, cs, m, hd, _, _ => by simp [depthS] at hd
 | h + 1, .mk k nm ty tg ex body alt, cs, m, hd, hb, he => by
  obtain ⟨X, rfl, rfl, rfl, rfl, htg, hex, hl, hcp, hl2, hcp2, hok, xs, ys, r1, r2, s1, s2⟩ := st_parts he
  simp only [depthS] at hd
  simp only [sizeS] at hb
  have z1 := depth_size tg
  have z2 := depth_size ex
  have hT := fun m2 (hle : leM m m2) => rdepth_all _ tg X.tg.cs m2 (Nnr _) (by omega) (exRep_upM hle htg)
  have hE := fun m2 (hle : leM m m2) => rdepth_all _ ex X.ex.cs m2 (Nnr _) (by omega) (exRep_upM hle hex)
  have bn : X.l ≤ big := by rw [hl]; exact hok.l
  have bn2 : X.l2 ≤ big := by rw [hl2]; exact hok.l2
  have hB := st_it (g := fun e => .int .i64 (deepR e)) hl r1 s1 fun e he cs m2 hle2 hrep => sdeep_all h e cs m2 (by have := depthSs_mem he; omega) (by have := sizeSs_mem he; omega) hrep
  have hA := st_it (g := fun e => .int .i64 (deepR e)) hl2 r2 s2 fun e he cs m2 hle2 hrep => sdeep_all h e cs m2 (by have := depthSs_mem he; omega) (by have := sizeSs_mem he; omega) hrep
  refine enter cfN puN Tryz.func157 rfl rfl (by kernel_rfl) rfl ?_ ?_
  ·simp only [go_sem, ↓tfi, ↓fti, ↓reduceIte, Sd.cs, Nd.cs]
  ·simp only [go_sem, ↓tfi, ↓fti, ↓reduceIte, Sd.cs, Nd.cs]
   refine WP_draw (.hoist 0 (.hoist 1 (.hoist 3 (.hoist 4 (.alt 2 [4, 3] (.alt 5 [] (.hoist 6 (.hoist 7 .done)) .stop) .stop))))) puN (by kernel_rfl) (by kernel_rfl) ?_
   simp only [go_sem, ↓tfi, ↓fti, ↓reduceIte, Sd.cs, Nd.cs]
   refine cvl ((FnH_den (hT m (.inl rfl)) (fun V => rfl)).mono ?_)
   clear hT
   rintro r H' m1 hm1 ⟨l1, rfl, rfl⟩
   have hE1 := hE m1 l1
   simp only [go_sem, ↓tfi, ↓fti, ↓reduceIte, Sd.cs, Nd.cs, l1, and_self]
   refine cvl ((FnH_den hE1 (fun V => rfl)).mono ?_)
   clear hE1
   rintro r H' m2 hm2 ⟨l2, rfl, rfl⟩
   have k2 := leM_tr l1 l2
   have hE2 := hE m2 k2
   clear hE
   simp only [go_sem, ↓tfi, ↓fti, ↓reduceIte, Sd.cs, Nd.cs, l1, l2, k2, and_self]
   refine ⟨fun h11 => cvl ((FnH_den hE2 (fun V => rfl)).mono ?_), fun h11 => ?_⟩
   ·clear hE2
    rintro r H' m3 hm3 ⟨l3, rfl, rfl⟩
    have k3 := leM_tr k2 l3
    simp only [go_sem, ↓tfi, ↓fti, ↓reduceIte, Sd.cs, Nd.cs]
    refine ⟨by unfold I64; simp only [big] at hb; omega, ?_⟩
    have hR : deepR (.mk X.k X.name X.ty tg ex body alt) = max (max (depthE ex - 1) (deepRs body)) (deepRs alt) := by
     rw [deepR, if_pos h11]
    rw [hR]
    clear hR
    refine WP_loop puN (fun x : Nat × Int × Mem => ⟨[⟨1, [], .box 0 0⟩, ⟨3, [], .v (.int .i64 x.2.1)⟩, ⟨4, [], .v (.int .i64 x.1)⟩], [], [⟨0, 35, (X.cs).map .v⟩], [], 1, x.2.2⟩)
     (fun x => leM m3 x.2.2 ∧ x.1 ≤ X.l ∧ x.2.1 = (max (depthE ex - 1) (deepRs (body.take x.1)) : Nat)) (fun x => X.l - x.1) (0, ((depthE ex : Nat) : Int) - 1, m3) (by kernel_rfl) (fun _ _ => Nnr _) (fun x hx => ?_) (fun _ => ?_) ?_ ?_ ?_
    ·exact hx.1
    ·simp only [go_sem, ↓tfi, ↓fti, ↓reduceIte, Sd.cs, Nd.cs]
    ·simp only [go_sem, ↓tfi, ↓fti, ↓reduceIte, Sd.cs, Nd.cs]
     rfl
    ·refine ⟨.inl rfl, Nat.zero_le _, ?_⟩
     simp only [List.take_zero, deepRs, Nat.max_zero]
     have : 1 ≤ depthE ex := by cases ex; simp only [depthE]; omega
     omega
    ·rintro ⟨i, v, mm⟩ ⟨h1, h2, h5⟩
     simp only at h1 h2 h5
     have q1 := leM_tr k3 h1
     simp only [go_sem, ↓tfi, ↓fti, ↓reduceIte, Sd.cs, Nd.cs]
     refine ⟨fun hlt => ?_, fun hge => ?_⟩
     ·have hi : i < body.length := by clear hA hB; omega
      refine Exists.elim (hB mm q1 i hi) fun Y hY => ⟨⟨by clear hA hB hY; omega, hlt, hY.1.2⟩, Y.cs, ⟨hY.1.1, rfl⟩, ?_⟩
      have ha := hY.2 mm (.inl rfl)
      clear hY hA hB
      simp only [go_sem, ↓tfi, ↓fti, ↓reduceIte, Sd.cs, Nd.cs]
      refine cvl ((FnH_den ha (fun V => rfl)).mono ?_)
      clear ha
      rintro r H' m5 hm5 ⟨hle2, rfl, rfl⟩
      simp only [go_sem, ↓tfi, ↓fti, ↓reduceIte, Sd.cs, Nd.cs]
      have hdt := deepRs_take hi
      refine ⟨by unfold I64; simp only [big] at bn; omega, (i + 1, ((max (depthE ex - 1) (deepRs (body.take (i + 1))) : Nat) : Int), m5), ⟨⟨?_, by simp⟩, .inl rfl⟩, ⟨leM_tr h1 hle2, by simp only; omega, rfl⟩, by simp only; omega⟩
      simp only
      rw [hdt, h5]
      split <;> omega
     ·clear hB
      have e0 : body.take i = body := List.take_of_length_le (by clear hA; omega)
      rw [e0] at h5
      refine WP_loop puN (fun x : Nat × Int × Mem => ⟨[⟨1, [], .box 0 0⟩, ⟨3, [], .v (.int .i64 x.2.1)⟩, ⟨5, [], .v (.int .i64 x.1)⟩], [], [⟨0, 35, (X.cs).map .v⟩], [], 1, x.2.2⟩)
       (fun x => leM mm x.2.2 ∧ x.1 ≤ X.l2 ∧ x.2.1 = (max (max (depthE ex - 1) (deepRs body)) (deepRs (alt.take x.1)) : Nat)) (fun x => X.l2 - x.1) (0, v, mm) (by kernel_rfl) (fun _ _ => Nnr _) (fun x hx => ?_) (fun _ => ?_) ?_ ?_ ?_
      ·exact hx.1
      ·simp only [go_sem, ↓tfi, ↓fti, ↓reduceIte, Sd.cs, Nd.cs]
      ·simp only [go_sem, ↓tfi, ↓fti, ↓reduceIte, Sd.cs, Nd.cs]
       rfl
      ·exact ⟨.inl rfl, Nat.zero_le _, by simp only [List.take_zero, deepRs, Nat.max_zero]; exact h5⟩
      ·rintro ⟨j, u, mj⟩ ⟨h3, h4, h6⟩
       simp only at h3 h4 h6
       have q2 := leM_tr q1 h3
       have hB := True.intro
       simp only [go_sem, ↓tfi, ↓fti, ↓reduceIte, Sd.cs, Nd.cs]
       refine ⟨fun hlt => ?_, fun hge => ?_⟩
       ·have hi : j < alt.length := by clear hA hB; omega
        refine Exists.elim (hA mj q2 j hi) fun Y hY => ⟨⟨by clear hA hB hY; omega, hlt, hY.1.2⟩, Y.cs, ⟨hY.1.1, rfl⟩, ?_⟩
        have ha := hY.2 mj (.inl rfl)
        clear hY hA hB
        simp only [go_sem, ↓tfi, ↓fti, ↓reduceIte, Sd.cs, Nd.cs]
        refine cvl ((FnH_den ha (fun V => rfl)).mono ?_)
        clear ha
        rintro r H' m5 hm5 ⟨hle2, rfl, rfl⟩
        simp only [go_sem, ↓tfi, ↓fti, ↓reduceIte, Sd.cs, Nd.cs]
        have hdt := deepRs_take hi
        refine ⟨by unfold I64; simp only [big] at bn2; omega, (j + 1, ((max (max (depthE ex - 1) (deepRs body)) (deepRs (alt.take (j + 1))) : Nat) : Int), m5), ⟨⟨?_, by simp⟩, .inl rfl⟩, ⟨leM_tr h3 hle2, by simp only; omega, rfl⟩, by simp only; omega⟩
        simp only
        rw [hdt, h6]
        split <;> omega
       ·clear hA hB
        have e1 : alt.take j = alt := List.take_of_length_le (by omega)
        rw [e1] at h6
        exact ⟨q2, h6⟩
   ·clear hE2
    have hR : deepR (.mk X.k X.name X.ty tg ex body alt) = max (max (max (depthE tg) (depthE ex)) (deepRs body)) (deepRs alt) := by
     rw [deepR, if_neg h11]
    rw [hR]
    clear hR
    refine WP_loop puN (fun x : Nat × Int × Mem => ⟨[⟨1, [], .box 0 0⟩, ⟨3, [], .v (.int .i64 x.2.1)⟩, ⟨4, [], .v (.int .i64 x.1)⟩], [], [⟨0, 35, (X.cs).map .v⟩], [], 1, x.2.2⟩)
     (fun x => leM m2 x.2.2 ∧ x.1 ≤ X.l ∧ x.2.1 = (max (max (depthE tg) (depthE ex)) (deepRs (body.take x.1)) : Nat)) (fun x => X.l - x.1) (0, (if ((depthE tg : Nat) : Int) < (depthE ex : Nat) then ((depthE ex : Nat) : Int) else ((depthE tg : Nat) : Int)), m2) (by kernel_rfl) (fun _ _ => Nnr _) (fun x hx => ?_) (fun _ => ?_) ?_ ?_ ?_
    ·exact hx.1
    ·simp only [go_sem, ↓tfi, ↓fti, ↓reduceIte, Sd.cs, Nd.cs]
    ·simp only [go_sem, ↓tfi, ↓fti, ↓reduceIte, Sd.cs, Nd.cs]
     rfl
    ·refine ⟨.inl rfl, Nat.zero_le _, ?_⟩
     simp only [List.take_zero, deepRs, Nat.max_zero]
     split <;> omega
    ·rintro ⟨i, v, mm⟩ ⟨h1, h2, h5⟩
     simp only at h1 h2 h5
     have q1 := leM_tr k2 h1
     simp only [go_sem, ↓tfi, ↓fti, ↓reduceIte, Sd.cs, Nd.cs]
     refine ⟨fun hlt => ?_, fun hge => ?_⟩
     ·have hi : i < body.length := by clear hA hB; omega
      refine Exists.elim (hB mm q1 i hi) fun Y hY => ⟨⟨by clear hA hB hY; omega, hlt, hY.1.2⟩, Y.cs, ⟨hY.1.1, rfl⟩, ?_⟩
      have ha := hY.2 mm (.inl rfl)
      clear hY hA hB
      simp only [go_sem, ↓tfi, ↓fti, ↓reduceIte, Sd.cs, Nd.cs]
      refine cvl ((FnH_den ha (fun V => rfl)).mono ?_)
      clear ha
      rintro r H' m5 hm5 ⟨hle2, rfl, rfl⟩
      simp only [go_sem, ↓tfi, ↓fti, ↓reduceIte, Sd.cs, Nd.cs]
      have hdt := deepRs_take hi
      refine ⟨by unfold I64; simp only [big] at bn; omega, (i + 1, ((max (max (depthE tg) (depthE ex)) (deepRs (body.take (i + 1))) : Nat) : Int), m5), ⟨⟨?_, by simp⟩, .inl rfl⟩, ⟨leM_tr h1 hle2, by simp only; omega, rfl⟩, by simp only; omega⟩
      simp only
      rw [hdt, h5]
      split <;> omega
     ·clear hB
      have e0 : body.take i = body := List.take_of_length_le (by clear hA; omega)
      rw [e0] at h5
      refine WP_loop puN (fun x : Nat × Int × Mem => ⟨[⟨1, [], .box 0 0⟩, ⟨3, [], .v (.int .i64 x.2.1)⟩, ⟨5, [], .v (.int .i64 x.1)⟩], [], [⟨0, 35, (X.cs).map .v⟩], [], 1, x.2.2⟩)
       (fun x => leM mm x.2.2 ∧ x.1 ≤ X.l2 ∧ x.2.1 = (max (max (max (depthE tg) (depthE ex)) (deepRs body)) (deepRs (alt.take x.1)) : Nat)) (fun x => X.l2 - x.1) (0, v, mm) (by kernel_rfl) (fun _ _ => Nnr _) (fun x hx => ?_) (fun _ => ?_) ?_ ?_ ?_
      ·exact hx.1
      ·simp only [go_sem, ↓tfi, ↓fti, ↓reduceIte, Sd.cs, Nd.cs]
      ·simp only [go_sem, ↓tfi, ↓fti, ↓reduceIte, Sd.cs, Nd.cs]
       rfl
      ·exact ⟨.inl rfl, Nat.zero_le _, by simp only [List.take_zero, deepRs, Nat.max_zero]; exact h5⟩
      ·rintro ⟨j, u, mj⟩ ⟨h3, h4, h6⟩
       simp only at h3 h4 h6
       have q2 := leM_tr q1 h3
       have hB := True.intro
       simp only [go_sem, ↓tfi, ↓fti, ↓reduceIte, Sd.cs, Nd.cs]
       refine ⟨fun hlt => ?_, fun hge => ?_⟩
       ·have hi : j < alt.length := by clear hA hB; omega
        refine Exists.elim (hA mj q2 j hi) fun Y hY => ⟨⟨by clear hA hB hY; omega, hlt, hY.1.2⟩, Y.cs, ⟨hY.1.1, rfl⟩, ?_⟩
        have ha := hY.2 mj (.inl rfl)
        clear hY hA hB
        simp only [go_sem, ↓tfi, ↓fti, ↓reduceIte, Sd.cs, Nd.cs]
        refine cvl ((FnH_den ha (fun V => rfl)).mono ?_)
        clear ha
        rintro r H' m5 hm5 ⟨hle2, rfl, rfl⟩
        simp only [go_sem, ↓tfi, ↓fti, ↓reduceIte, Sd.cs, Nd.cs]
        have hdt := deepRs_take hi
        refine ⟨by unfold I64; simp only [big] at bn2; omega, (j + 1, ((max (max (max (depthE tg) (depthE ex)) (deepRs body)) (deepRs (alt.take (j + 1))) : Nat) : Int), m5), ⟨⟨?_, by simp⟩, .inl rfl⟩, ⟨leM_tr h3 hle2, by simp only; omega, rfl⟩, by simp only; omega⟩
        simp only
        rw [hdt, h6]
        split <;> omega
       ·clear hA hB
        have e1 : alt.take j = alt := List.take_of_length_le (by omega)
        rw [e1] at h6
        exact ⟨q2, h6⟩
def flatL (l : List St) : Bool := decide (depthSs l ≤ 24) && decide (deepRs l ≤ 24)
theorem cont_take {α : Type} [BEq α] {l : List α} {k : Nat} (hk : k < l.length) (a : α) : (l.take (k + 1)).contains a = ((l.take k).contains a || a == l[k]) := by
 rw [List.take_succ_eq_append_getElem hk, List.contains_eq_any_beq, List.contains_eq_any_beq, List.any_append]
 simp only [List.any_cons, List.any_nil, Bool.or_false]
theorem cont_at {α : Type} [BEq α] [LawfulBEq α] {l : List α} {k j : Nat} (hj : j < k) (hk : k < l.length) (a : α) (h : l[j] = a) : (l.take k).contains a = true := by
 rw [List.contains_iff_mem]
 rw [← h]
 have e : (l.take k)[j]'(by rw [List.length_take]; omega) = l[j] := List.getElem_take
 rw [← e]
 exact List.getElem_mem _
set_option maxHeartbeats 8000000 in
theorem rtwice_spec (d : Cd) (cs : List Value) (m : Mem) (h : cdRep m d cs) : Ans 37 [.v (.agg ⟨cs⟩)] m (.bool (dupL d)) := by
 obtain ⟨fl, name, super, ifs, fields, methods, init⟩ := d
 obtain ⟨x, ⟨rfl, rfl, rfl, rfl⟩, ⟨hil, hic, hfn, hfc, hml, hmc, hsl, hsc⟩, hok, r1, r2, xs, ys, r3, s3, r4, s4⟩ := h
 simp only at hil hfn hml hsl r1 r2 r3 s3 r4 s4
 have b0 : x.il ≤ big := by rw [hil]; exact hok.il
 have b1 : x.fn ≤ big := by rw [hfn]; exact hok.fn
 have b2 : x.ml ≤ big := by rw [hml]; exact hok.ml
 clear r4 s4
 have y0 : ∀ i (hk : i < ifs.length), Rd m (ptrAt x.ia i) [.string (bs ifs[i])] ∧ x.ia ≠ none := fun i hk => strs_rd r1 hk
 have y1 : ∀ i (hk : i < fields.length), Rd m (ptrAt x.fa (i * 5)) (fields[i]).cs ∧ x.fa ≠ none := fun i hk => by
  have := Rds_cells r2 (by omega : i < x.fn)
  rw [flat_at (f := Fc.cs) (sz := 5) (fun _ => rfl) hk] at this
  exact this
 have y2 : ∀ i (hk : i < methods.length), ∃ X : Mc, (Rd m (ptrAt x.ma (i * 8)) X.cs ∧ x.ma ≠ none) ∧ X.name = methods[i].name ∧ X.pl = methods[i].params.length := fun i hk => by
  have hrep := ls_at s3 hk
  have hrd := Rds_cells r3 (by omega : i < x.ml)
  obtain ⟨X, e1, e2, _⟩ := hrep
  rw [e1.1] at hrd
  exact ⟨X, hrd, e1.2.2.2.1, e2.1⟩
 refine enter cfN puN Tryz.func37 rfl rfl (by kernel_rfl) rfl ?_ ?_
 ·simp only [go_sem, ↓tfi, ↓fti, ↓reduceIte, Cc.cs]
 ·simp only [go_sem, ↓tfi, ↓fti, ↓reduceIte, Cc.cs]
  refine WP_loop puN (fun y : Nat => ⟨[⟨1, [], .box 0 0⟩, ⟨3, [], .v (.int .i64 y)⟩], [], [⟨0, 55, x.cs.map .v⟩], [], 1, m⟩)
   (fun y => y ≤ x.il ∧ dupB [] ifs = dupB (ifs.take y) (ifs.drop y)) (fun y => x.il - y) 0 (by kernel_rfl) (fun _ _ => Nnr _) (fun _ _ => .inl rfl) (fun _ => ?_) ?_ ?_ ?_
  ·simp only [go_sem, ↓tfi, ↓fti, ↓reduceIte, Cc.cs]
  ·simp only [go_sem, ↓tfi, ↓fti, ↓reduceIte, Cc.cs]
   rfl
  ·exact ⟨Nat.zero_le _, rfl⟩
  ·rintro k0 ⟨h0, g0⟩
   simp only [go_sem, ↓tfi, ↓fti, ↓reduceIte, Cc.cs]
   refine ⟨fun hlt => ?_, fun hge => ?_⟩
   ·have hk : k0 < ifs.length := by omega
    have hkl : k0 < ifs.length := by simpa using hk
    have hds := dup_step hkl
    refine WP_loop puN (fun y : Nat => ⟨[⟨1, [], .box 0 0⟩, ⟨3, [], .v (.int .i64 k0)⟩, ⟨4, [], .v (.int .i64 y)⟩], [], [⟨0, 55, x.cs.map .v⟩], [], 1, m⟩)
     (fun y => y ≤ k0 ∧ (ifs.take y).contains ifs[k0] = false) (fun y => k0 - y) 0 (by kernel_rfl) (fun _ _ => Nnr _) (fun _ _ => .inl rfl) (fun _ => ?_) ?_ ?_ ?_
    ·simp only [go_sem, ↓tfi, ↓fti, ↓reduceIte, Cc.cs]
    ·simp only [go_sem, ↓tfi, ↓fti, ↓reduceIte, Cc.cs]
     rfl
    ·exact ⟨Nat.zero_le _, by simp⟩
    ·rintro j ⟨u1, u2⟩
     simp only [go_sem, ↓tfi, ↓fti, ↓reduceIte, Cc.cs]
     refine ⟨fun hjt => ?_, fun hje => ?_⟩
     ·have hj : j < ifs.length := by omega
      have hjl : j < ifs.length := by simpa using hj
      have hct := cont_take hjl ifs[k0]
      have hca := fun (hjk : j < k0) (he : ifs[j] = ifs[k0]) => cont_at hjk hkl ifs[k0] he
      refine WP_draw (.hoist 0 (.hoist 1 (.hoist 2 (.hoist 3 (.hoist 4 (.hoist 5 (.hoist 6 (.hoist 7 (.hoist 8 (.hoist 9 (.hoist 10 .done))))))))))) puN (by kernel_rfl) (by kernel_rfl) ?_
      simp only [go_sem, ↓tfi, ↓fti, ↓reduceIte, Cc.cs]
      refine ⟨⟨by omega, by omega, (y0 k0 hk).2⟩, .string (bs ifs[k0]), (y0 k0 hk).1, ⟨by omega, by omega, (y0 j hj).2⟩, .string (bs ifs[j]), (y0 j hj).1, ?_⟩
      simp only [go_sem, ↓tfi, ↓fti, ↓reduceIte, Cc.cs, Fc.cs]
      refine ⟨fun he => ?_, fun hne => ⟨by unfold I64; simp only [big] at b0; omega, j + 1, by simp, ⟨by omega, ?_⟩, by omega⟩⟩
      ·have hc := hca (by omega) he.symm
       rw [dupL, g0, hds, hc]; rfl
      ·rw [hct, u2, beq_eq_false_iff_ne.2 hne]; rfl
     ·have hk0 : j = k0 := by omega
      subst hk0
      exact ⟨by unfold I64; simp only [big] at b0; omega, j + 1, by simp, ⟨by omega, by rw [g0, hds, u2]; rfl⟩, by omega⟩
   ·have e0 : dupB [] ifs = false := by
     rw [g0, List.drop_of_length_le (by omega)]
     rfl
    refine WP_loop puN (fun y : Nat => ⟨[⟨1, [], .box 0 0⟩, ⟨5, [], .v (.int .i64 y)⟩], [], [⟨0, 55, x.cs.map .v⟩], [], 1, m⟩)
     (fun y => y ≤ x.fn ∧ dupB [] (fields.map (·.name)) = dupB ((fields.map (·.name)).take y) ((fields.map (·.name)).drop y)) (fun y => x.fn - y) 0 (by kernel_rfl) (fun _ _ => Nnr _) (fun _ _ => .inl rfl) (fun _ => ?_) ?_ ?_ ?_
    ·simp only [go_sem, ↓tfi, ↓fti, ↓reduceIte, Cc.cs]
    ·simp only [go_sem, ↓tfi, ↓fti, ↓reduceIte, Cc.cs]
     rfl
    ·exact ⟨Nat.zero_le _, rfl⟩
    ·rintro k1 ⟨h1, g1⟩
     simp only [go_sem, ↓tfi, ↓fti, ↓reduceIte, Cc.cs]
     refine ⟨fun hlt => ?_, fun hge => ?_⟩
     ·have hk : k1 < fields.length := by omega
      have hkl : k1 < (fields.map (·.name)).length := by simpa using hk
      have hds := dup_step hkl
      refine WP_loop puN (fun y : Nat => ⟨[⟨1, [], .box 0 0⟩, ⟨5, [], .v (.int .i64 k1)⟩, ⟨6, [], .v (.int .i64 y)⟩], [], [⟨0, 55, x.cs.map .v⟩], [], 1, m⟩)
       (fun y => y ≤ k1 ∧ ((fields.map (·.name)).take y).contains (fields.map (·.name))[k1] = false) (fun y => k1 - y) 0 (by kernel_rfl) (fun _ _ => Nnr _) (fun _ _ => .inl rfl) (fun _ => ?_) ?_ ?_ ?_
      ·simp only [go_sem, ↓tfi, ↓fti, ↓reduceIte, Cc.cs]
      ·simp only [go_sem, ↓tfi, ↓fti, ↓reduceIte, Cc.cs]
       rfl
      ·exact ⟨Nat.zero_le _, by simp⟩
      ·rintro j ⟨u1, u2⟩
       simp only [go_sem, ↓tfi, ↓fti, ↓reduceIte, Cc.cs]
       refine ⟨fun hjt => ?_, fun hje => ?_⟩
       ·have hj : j < fields.length := by omega
        have hjl : j < (fields.map (·.name)).length := by simpa using hj
        have hct := cont_take hjl (fields.map (·.name))[k1]
        have hca := fun (hjk : j < k1) (he : (fields.map (·.name))[j] = (fields.map (·.name))[k1]) => cont_at hjk hkl (fields.map (·.name))[k1] he
        refine WP_draw (.hoist 0 (.hoist 1 (.hoist 2 (.hoist 3 (.hoist 4 (.hoist 5 (.hoist 6 (.hoist 7 (.hoist 8 (.hoist 9 (.hoist 10 (.hoist 11 (.hoist 12 .done))))))))))))) puN (by kernel_rfl) (by kernel_rfl) ?_
        simp only [go_sem, ↓tfi, ↓fti, ↓reduceIte, Cc.cs]
        refine ⟨⟨by omega, by omega, (y1 k1 hk).2⟩, Rd_ptr (y1 k1 hk).1, .string (bs (fields[k1]).name), Rd_sub (y1 k1 hk).1 4 1 (nbl rfl), ⟨by omega, by omega, (y1 j hj).2⟩, Rd_ptr (y1 j hj).1, .string (bs (fields[j]).name), Rd_sub (y1 j hj).1 4 1 (nbl rfl), ?_⟩
        simp only [go_sem, ↓tfi, ↓fti, ↓reduceIte, Cc.cs, Fc.cs]
        simp only [List.getElem_map] at hct hca u2
        refine ⟨fun he => ?_, fun hne => ⟨by unfold I64; simp only [big] at b1; omega, j + 1, by simp, ⟨by omega, ?_⟩, by omega⟩⟩
        ·have hc := hca (by omega) he.symm
         simp only [List.getElem_map] at hds
         simp only [dupL, g1, hds, hc, Bool.true_or, Bool.or_true]
        ·rw [List.getElem_map, hct, u2, beq_eq_false_iff_ne.2 hne]; rfl
       ·have hk0 : j = k1 := by omega
        subst hk0
        exact ⟨by unfold I64; simp only [big] at b1; omega, j + 1, by simp, ⟨by omega, by rw [g1, hds, u2]; rfl⟩, by omega⟩
     ·have e1 : dupB [] (fields.map (·.name)) = false := by
       rw [g1, List.drop_of_length_le (by simp; omega)]
       rfl
      refine WP_loop puN (fun y : Nat => ⟨[⟨1, [], .box 0 0⟩, ⟨7, [], .v (.int .i64 y)⟩], [], [⟨0, 55, x.cs.map .v⟩], [], 1, m⟩)
       (fun y => y ≤ x.ml ∧ dupB [] (methods.map fun m => (m.name, m.params.length)) = dupB ((methods.map fun m => (m.name, m.params.length)).take y) ((methods.map fun m => (m.name, m.params.length)).drop y)) (fun y => x.ml - y) 0 (by kernel_rfl) (fun _ _ => Nnr _) (fun _ _ => .inl rfl) (fun _ => ?_) ?_ ?_ ?_
      ·simp only [go_sem, ↓tfi, ↓fti, ↓reduceIte, Cc.cs]
      ·simp only [go_sem, ↓tfi, ↓fti, ↓reduceIte, Cc.cs]
       rfl
      ·exact ⟨Nat.zero_le _, rfl⟩
      ·rintro k2 ⟨h2, g2⟩
       simp only [go_sem, ↓tfi, ↓fti, ↓reduceIte, Cc.cs]
       refine ⟨fun hlt => ?_, fun hge => ?_⟩
       ·have hk : k2 < methods.length := by omega
        have hkl : k2 < (methods.map fun m => (m.name, m.params.length)).length := by simpa using hk
        have hds := dup_step hkl
        refine WP_loop puN (fun y : Nat => ⟨[⟨1, [], .box 0 0⟩, ⟨7, [], .v (.int .i64 k2)⟩, ⟨8, [], .v (.int .i64 y)⟩], [], [⟨0, 55, x.cs.map .v⟩], [], 1, m⟩)
         (fun y => y ≤ k2 ∧ ((methods.map fun m => (m.name, m.params.length)).take y).contains (methods.map fun m => (m.name, m.params.length))[k2] = false) (fun y => k2 - y) 0 (by kernel_rfl) (fun _ _ => Nnr _) (fun _ _ => .inl rfl) (fun _ => ?_) ?_ ?_ ?_
        ·simp only [go_sem, ↓tfi, ↓fti, ↓reduceIte, Cc.cs]
        ·simp only [go_sem, ↓tfi, ↓fti, ↓reduceIte, Cc.cs]
         rfl
        ·exact ⟨Nat.zero_le _, by simp⟩
        ·rintro j ⟨u1, u2⟩
         simp only [go_sem, ↓tfi, ↓fti, ↓reduceIte, Cc.cs]
         refine ⟨fun hjt => ?_, fun hje => ?_⟩
         ·have hj : j < methods.length := by omega
          have hjl : j < (methods.map fun m => (m.name, m.params.length)).length := by simpa using hj
          have hct := cont_take hjl (methods.map fun m => (m.name, m.params.length))[k2]
          have hca := fun (hjk : j < k2) (he : (methods.map fun m => (m.name, m.params.length))[j] = (methods.map fun m => (m.name, m.params.length))[k2]) => cont_at hjk hkl (methods.map fun m => (m.name, m.params.length))[k2] he
          refine WP_draw (.hoist 0 (.hoist 1 (.hoist 2 (.hoist 3 (.hoist 4 (.hoist 5 (.hoist 6 (.hoist 7 (.hoist 8 (.hoist 9 (.hoist 10 (.hoist 11 (.hoist 12 (.hoist 13 (.hoist 14 (.hoist 15 (.hoist 16 (.hoist 17 (.hoist 18 (.hoist 19 (.hoist 20 (.hoist 21 (.hoist 22 (.hoist 23 (.hoist 24 (.hoist 25 (.hoist 26 (.hoist 27 (.hoist 28 (.hoist 29 .done)))))))))))))))))))))))))))))) puN (by kernel_rfl) (by kernel_rfl) ?_
          simp only [go_sem, ↓tfi, ↓fti, ↓reduceIte, Cc.cs]
          refine Exists.elim (y2 k2 hk) fun X hX => Exists.elim (y2 j hj) fun Y hY => ?_
          refine ⟨⟨by clear hX hY; omega, by clear hX hY; omega, hX.1.2⟩, Rd_ptr hX.1.1, .string (bs X.name), Rd_sub hX.1.1 4 1 (nbl rfl), ⟨by clear hX hY; omega, by clear hX hY; omega, hY.1.2⟩, Rd_ptr hY.1.1, .string (bs Y.name), Rd_sub hY.1.1 4 1 (nbl rfl), ?_⟩
          simp only [go_sem, ↓tfi, ↓fti, ↓reduceIte, Cc.cs, Mc.cs]
          refine ⟨fun _ => ⟨by clear hX hY; omega, by clear hX hY; omega, hX.1.2⟩, fun _ => Rd_ptr hX.1.1, .slice X.pa X.pl X.pc, fun _ => Rd_sub hX.1.1 5 1 (nbl rfl), ?_⟩
          simp only [go_sem, ↓tfi, ↓fti, ↓reduceIte, Cc.cs, Mc.cs]
          refine ⟨fun _ => ⟨by clear hX hY; omega, by clear hX hY; omega, hY.1.2⟩, fun _ => Rd_ptr hY.1.1, .slice Y.pa Y.pl Y.pc, fun _ => Rd_sub hY.1.1 5 1 (nbl rfl), ?_⟩
          have e3 : (methods.map fun m => (m.name, m.params.length))[k2] = (X.name, X.pl) := by rw [List.getElem_map, hX.2.1, hX.2.2]
          have e4 : (methods.map fun m => (m.name, m.params.length))[j] = (Y.name, Y.pl) := by rw [List.getElem_map, hY.2.1, hY.2.2]
          rw [e3] at hca hds u2 hct
          rw [e4] at hca hct
          clear hX hY e4
          simp only [go_sem, ↓tfi, ↓fti, ↓reduceIte, Cc.cs, Mc.cs]
          refine ⟨fun he => ?_, fun hne => ⟨by unfold I64; simp only [big] at b2; omega, j + 1, by simp, ⟨by omega, ?_⟩, by omega⟩⟩
          ·have hc := hca (by omega) (by rw [he.1, (by omega : X.pl = Y.pl)])
           simp only [dupL, g2, hds, hc, Bool.true_or, Bool.or_true]
          ·have hn : ¬ (X.name, X.pl) = (Y.name, Y.pl) := fun h => by
            have g1 := congrArg Prod.fst h
            have g2 := congrArg Prod.snd h
            simp only at g1 g2
            rcases hne with h | h
            ·exact h g1
            ·omega
           rw [e3, hct, u2, beq_eq_false_iff_ne.2 hn]; rfl
         ·have hk0 : j = k2 := by omega
          subst hk0
          exact ⟨by unfold I64; simp only [big] at b2; omega, j + 1, by simp, ⟨by omega, by rw [g2, hds, u2]; rfl⟩, by omega⟩
       ·have e2 : dupB [] (methods.map fun m => (m.name, m.params.length)) = false := by
         rw [g2, List.drop_of_length_le (by simp; omega)]
         rfl
        simp only [dupL, e0, e1, e2]; rfl
theorem smp1 (nm : List UInt8) (ty : Ty) (tN eN : Nd) (a : Option Addr) (l cp : Nat) (b : Option Addr) (l2 cp2 : Nat) (m : Mem) (u : Nat) (acc : List Tk) (hty : ty.dim ≤ 1000) (TX : List Tk)
  (hX : ∀ m' u acc, leM m m' → acc.length + TX.length ≤ cap → WrT 41 [.v (.agg ⟨eN.cs⟩)] m' u acc TX)
  (hb : acc.length + (typT ty.dim ty.base ty.name ++ [nm1 nm] ++ [sg [61]] ++ TX).length ≤ cap) : WrT 185 [.v (.agg ⟨Sd.cs ⟨1, nm, ty, tN, eN, a, l, cp, b, l2, cp2⟩⟩)] m u acc (typT ty.dim ty.base ty.name ++ [nm1 nm] ++ [sg [61]] ++ TX) := by
 simp only [Lla, Llc, Lln, cap] at hb
 refine enter cfW puW Tryz.func185 rfl rfl (by kernel_rfl) rfl ?_ ?_
 ·simp only [go_sem, ↓tfi, ↓fti, ↓reduceIte, Sd.cs, Nd.cs, Int.reduceEq, decide_true, decide_false]
 ·simp only [go_sem, ↓tfi, ↓fti, ↓reduceIte, Sd.cs, Nd.cs, Int.reduceEq, decide_true, decide_false]
  refine cvl ((FnH_den (typ_spec ty.dim ty.base ty.name m u (acc) hty (by clear hX; first | omega | (simp only [room1, Lla, Llc, Lln, cap]; omega) | (simp only [cap]; omega))) (fun V => rfl)).mono ?_)
  rintro r H' m1 hm1 ⟨l1, rfl, u1, hu1, rfl⟩
  simp only [go_sem, ↓tfi, ↓fti, ↓reduceIte, Sd.cs, Nd.cs, Int.reduceEq, decide_true, decide_false]
  refine ⟨hu1, ?_⟩
  refine cvl ((name_spec nm m1 u1 (acc ++ typT ty.dim ty.base ty.name) (by clear hX; first | omega | (simp only [room1, Lla, Llc, Lln, cap]; omega) | (simp only [cap]; omega))).mono ?_)
  rintro r H' m2 hm2 ⟨l2, rfl, u2, hu2, rfl⟩
  simp only [go_sem, ↓tfi, ↓fti, ↓reduceIte, Sd.cs, Nd.cs, Int.reduceEq, decide_true, decide_false]
  refine ⟨hu2, ?_⟩
  refine ⟨by kernel_rfl, fun a3 c3 w3 hw3 hc3 r3 => FnV_of ((sign1 [61] a3 c3 w3 u2 (acc ++ typT ty.dim ty.base ty.name ++ [nm1 nm]) r3 (by clear hX; first | omega | (simp only [room1, Lla, Llc, Lln, cap]; omega) | (simp only [cap]; omega))).mono ?_)⟩
  rintro r H' m3 hm3 ⟨l3, rfl, u3, hu3, rfl⟩
  simp only [go_sem, ↓tfi, ↓fti, ↓reduceIte, Sd.cs, Nd.cs, Int.reduceEq, decide_true, decide_false]
  refine ⟨hu3, ?_⟩
  refine cvl ((FnH_den (hX m3 u3 (acc ++ typT ty.dim ty.base ty.name ++ [nm1 nm] ++ [sg [61]]) (leM_tr (leM_tr (leM_tr (leM_tr (.inl rfl : leM m m) l1) l2) (.inr hw3)) l3) (by clear hX; first | omega | (simp only [room1, Lla, Llc, Lln, cap]; omega) | (simp only [cap]; omega))) (fun V => rfl)).mono ?_)
  clear hX
  rintro r H' m4 hm4 ⟨l4, rfl, u4, hu4, rfl⟩
  simp only [go_sem, ↓tfi, ↓fti, ↓reduceIte, Sd.cs, Nd.cs, Int.reduceEq, decide_true, decide_false]
  refine ⟨hu4, (leM_tr (leM_tr (leM_tr (leM_tr (leM_tr (.inl rfl : leM m m) l1) l2) (.inr hw3)) l3) l4), u4, by omega, ?_⟩
  simp only [List.append_assoc, List.cons_append, List.nil_append]
theorem smp2 (nm : List UInt8) (ty : Ty) (tN eN : Nd) (a : Option Addr) (l cp : Nat) (b : Option Addr) (l2 cp2 : Nat) (m : Mem) (u : Nat) (acc : List Tk) (TX TG : List Tk)
  (hX : ∀ m' u acc, leM m m' → acc.length + TX.length ≤ cap → WrT 41 [.v (.agg ⟨eN.cs⟩)] m' u acc TX)
  (hG : ∀ m' u acc, leM m m' → acc.length + TG.length ≤ cap → WrT 41 [.v (.agg ⟨tN.cs⟩)] m' u acc TG)
  (hb : acc.length + (TG ++ [sg [61]] ++ TX).length ≤ cap) : WrT 185 [.v (.agg ⟨Sd.cs ⟨2, nm, ty, tN, eN, a, l, cp, b, l2, cp2⟩⟩)] m u acc (TG ++ [sg [61]] ++ TX) := by
 simp only [Lla, Llc, Lln, cap] at hb
 refine enter cfW puW Tryz.func185 rfl rfl (by kernel_rfl) rfl ?_ ?_
 ·simp only [go_sem, ↓tfi, ↓fti, ↓reduceIte, Sd.cs, Nd.cs, Int.reduceEq, decide_true, decide_false]
 ·simp only [go_sem, ↓tfi, ↓fti, ↓reduceIte, Sd.cs, Nd.cs, Int.reduceEq, decide_true, decide_false]
  refine cvl ((FnH_den (hG m u (acc) (.inl rfl : leM m m) (by clear hX hG; first | omega | (simp only [room1, Lla, Llc, Lln, cap]; omega) | (simp only [cap]; omega))) (fun V => rfl)).mono ?_)
  clear hG
  rintro r H' m1 hm1 ⟨l1, rfl, u1, hu1, rfl⟩
  simp only [go_sem, ↓tfi, ↓fti, ↓reduceIte, Sd.cs, Nd.cs, Int.reduceEq, decide_true, decide_false]
  refine ⟨hu1, ?_⟩
  refine ⟨by kernel_rfl, fun a2 c2 w2 hw2 hc2 r2 => FnV_of ((sign1 [61] a2 c2 w2 u1 (acc ++ TG) r2 (by clear hX; first | omega | (simp only [room1, Lla, Llc, Lln, cap]; omega) | (simp only [cap]; omega))).mono ?_)⟩
  rintro r H' m2 hm2 ⟨l2, rfl, u2, hu2, rfl⟩
  simp only [go_sem, ↓tfi, ↓fti, ↓reduceIte, Sd.cs, Nd.cs, Int.reduceEq, decide_true, decide_false]
  refine ⟨hu2, ?_⟩
  refine cvl ((FnH_den (hX m2 u2 (acc ++ TG ++ [sg [61]]) (leM_tr (leM_tr (leM_tr (.inl rfl : leM m m) l1) (.inr hw2)) l2) (by clear hX; first | omega | (simp only [room1, Lla, Llc, Lln, cap]; omega) | (simp only [cap]; omega))) (fun V => rfl)).mono ?_)
  clear hX
  rintro r H' m3 hm3 ⟨l3, rfl, u3, hu3, rfl⟩
  simp only [go_sem, ↓tfi, ↓fti, ↓reduceIte, Sd.cs, Nd.cs, Int.reduceEq, decide_true, decide_false]
  refine ⟨hu3, (leM_tr (leM_tr (leM_tr (leM_tr (.inl rfl : leM m m) l1) (.inr hw2)) l2) l3), u3, by omega, ?_⟩
  simp only [List.append_assoc, List.cons_append, List.nil_append]
theorem smp3 (nm : List UInt8) (ty : Ty) (tN eN : Nd) (a : Option Addr) (l cp : Nat) (b : Option Addr) (l2 cp2 : Nat) (m : Mem) (u : Nat) (acc : List Tk) (TX : List Tk)
  (hX : ∀ m' u acc, leM m m' → acc.length + TX.length ≤ cap → WrT 41 [.v (.agg ⟨eN.cs⟩)] m' u acc TX)
  (hb : acc.length + (TX).length ≤ cap) : WrT 185 [.v (.agg ⟨Sd.cs ⟨3, nm, ty, tN, eN, a, l, cp, b, l2, cp2⟩⟩)] m u acc (TX) := by
 simp only [Lla, Llc, Lln, cap] at hb
 refine enter cfW puW Tryz.func185 rfl rfl (by kernel_rfl) rfl ?_ ?_
 ·simp only [go_sem, ↓tfi, ↓fti, ↓reduceIte, Sd.cs, Nd.cs, Int.reduceEq, decide_true, decide_false]
 ·simp only [go_sem, ↓tfi, ↓fti, ↓reduceIte, Sd.cs, Nd.cs, Int.reduceEq, decide_true, decide_false]
  refine cvl ((FnH_den (hX m u (acc) (.inl rfl : leM m m) (by clear hX; first | omega | (simp only [room1, Lla, Llc, Lln, cap]; omega) | (simp only [cap]; omega))) (fun V => rfl)).mono ?_)
  clear hX
  rintro r H' m1 hm1 ⟨l1, rfl, u1, hu1, rfl⟩
  simp only [go_sem, ↓tfi, ↓fti, ↓reduceIte, Sd.cs, Nd.cs, Int.reduceEq, decide_true, decide_false]
  refine ⟨hu1, (leM_tr (.inl rfl : leM m m) l1), u1, by omega, ?_⟩
  simp only [List.append_assoc, List.cons_append, List.nil_append]
theorem smp6a (nm : List UInt8) (ty : Ty) (tN eN : Nd) (a : Option Addr) (l cp : Nat) (b : Option Addr) (l2 cp2 : Nat) (m : Mem) (u : Nat) (acc : List Tk) (hc : (eN.k = 0) = False) (TX : List Tk)
  (hX : ∀ m' u acc, leM m m' → acc.length + TX.length ≤ cap → WrT 41 [.v (.agg ⟨eN.cs⟩)] m' u acc TX)
  (hb : acc.length + ([kw [114, 101, 116, 117, 114, 110]] ++ TX).length ≤ cap) : WrT 185 [.v (.agg ⟨Sd.cs ⟨6, nm, ty, tN, eN, a, l, cp, b, l2, cp2⟩⟩)] m u acc ([kw [114, 101, 116, 117, 114, 110]] ++ TX) := by
 simp only [Lla, Llc, Lln, cap] at hb
 refine enter cfW puW Tryz.func185 rfl rfl (by kernel_rfl) rfl ?_ ?_
 ·simp only [go_sem, ↓tfi, ↓fti, ↓reduceIte, Sd.cs, Nd.cs, Int.reduceEq, decide_true, decide_false, hc]
 ·simp only [go_sem, ↓tfi, ↓fti, ↓reduceIte, Sd.cs, Nd.cs, Int.reduceEq, decide_true, decide_false, hc]
  refine ⟨by kernel_rfl, fun a1 c1 w1 hw1 hc1 r1 => FnV_of ((word1 [114, 101, 116, 117, 114, 110] a1 c1 w1 u (acc) r1 (by clear hX; first | omega | (simp only [room1, Lla, Llc, Lln, cap]; omega) | (simp only [cap]; omega))).mono ?_)⟩
  rintro r H' m1 hm1 ⟨l1, rfl, u1, hu1, rfl⟩
  simp only [go_sem, ↓tfi, ↓fti, ↓reduceIte, Sd.cs, Nd.cs, Int.reduceEq, decide_true, decide_false, hc]
  refine ⟨hu1, ?_⟩
  refine cvl ((FnH_den (hX m1 u1 (acc ++ [kw [114, 101, 116, 117, 114, 110]]) (leM_tr (leM_tr (.inl rfl : leM m m) (.inr hw1)) l1) (by clear hX; first | omega | (simp only [room1, Lla, Llc, Lln, cap]; omega) | (simp only [cap]; omega))) (fun V => rfl)).mono ?_)
  clear hX
  rintro r H' m2 hm2 ⟨l2, rfl, u2, hu2, rfl⟩
  simp only [go_sem, ↓tfi, ↓fti, ↓reduceIte, Sd.cs, Nd.cs, Int.reduceEq, decide_true, decide_false, hc]
  refine ⟨hu2, (leM_tr (leM_tr (leM_tr (.inl rfl : leM m m) (.inr hw1)) l1) l2), u2, by omega, ?_⟩
  simp only [List.append_assoc, List.cons_append, List.nil_append]
theorem smp6b (nm : List UInt8) (ty : Ty) (tN eN : Nd) (a : Option Addr) (l cp : Nat) (b : Option Addr) (l2 cp2 : Nat) (m : Mem) (u : Nat) (acc : List Tk) (hc : (eN.k = 0) = True)
  (hb : acc.length + ([kw [114, 101, 116, 117, 114, 110]]).length ≤ cap) : WrT 185 [.v (.agg ⟨Sd.cs ⟨6, nm, ty, tN, eN, a, l, cp, b, l2, cp2⟩⟩)] m u acc ([kw [114, 101, 116, 117, 114, 110]]) := by
 simp only [Lla, Llc, Lln, cap] at hb
 refine enter cfW puW Tryz.func185 rfl rfl (by kernel_rfl) rfl ?_ ?_
 ·simp only [go_sem, ↓tfi, ↓fti, ↓reduceIte, Sd.cs, Nd.cs, Int.reduceEq, decide_true, decide_false, hc]
 ·simp only [go_sem, ↓tfi, ↓fti, ↓reduceIte, Sd.cs, Nd.cs, Int.reduceEq, decide_true, decide_false, hc]
  refine ⟨by kernel_rfl, fun a1 c1 w1 hw1 hc1 r1 => FnV_of ((word1 [114, 101, 116, 117, 114, 110] a1 c1 w1 u (acc) r1 (by first | omega | (simp only [room1, Lla, Llc, Lln, cap]; omega) | (simp only [cap]; omega))).mono ?_)⟩
  rintro r H' m1 hm1 ⟨l1, rfl, u1, hu1, rfl⟩
  simp only [go_sem, ↓tfi, ↓fti, ↓reduceIte, Sd.cs, Nd.cs, Int.reduceEq, decide_true, decide_false, hc]
  refine ⟨hu1, (leM_tr (leM_tr (.inl rfl : leM m m) (.inr hw1)) l1), u1, by omega, ?_⟩
  simp only [List.append_assoc, List.cons_append, List.nil_append]
theorem smp7 (nm : List UInt8) (ty : Ty) (tN eN : Nd) (a : Option Addr) (l cp : Nat) (b : Option Addr) (l2 cp2 : Nat) (m : Mem) (u : Nat) (acc : List Tk) (TX : List Tk)
  (hX : ∀ m' u acc, leM m m' → acc.length + TX.length ≤ cap → WrT 41 [.v (.agg ⟨eN.cs⟩)] m' u acc TX)
  (hb : acc.length + ([kw [116, 104, 114, 111, 119]] ++ TX).length ≤ cap) : WrT 185 [.v (.agg ⟨Sd.cs ⟨7, nm, ty, tN, eN, a, l, cp, b, l2, cp2⟩⟩)] m u acc ([kw [116, 104, 114, 111, 119]] ++ TX) := by
 simp only [Lla, Llc, Lln, cap] at hb
 refine enter cfW puW Tryz.func185 rfl rfl (by kernel_rfl) rfl ?_ ?_
 ·simp only [go_sem, ↓tfi, ↓fti, ↓reduceIte, Sd.cs, Nd.cs, Int.reduceEq, decide_true, decide_false]
 ·simp only [go_sem, ↓tfi, ↓fti, ↓reduceIte, Sd.cs, Nd.cs, Int.reduceEq, decide_true, decide_false]
  refine ⟨by kernel_rfl, fun a1 c1 w1 hw1 hc1 r1 => FnV_of ((word1 [116, 104, 114, 111, 119] a1 c1 w1 u (acc) r1 (by clear hX; first | omega | (simp only [room1, Lla, Llc, Lln, cap]; omega) | (simp only [cap]; omega))).mono ?_)⟩
  rintro r H' m1 hm1 ⟨l1, rfl, u1, hu1, rfl⟩
  simp only [go_sem, ↓tfi, ↓fti, ↓reduceIte, Sd.cs, Nd.cs, Int.reduceEq, decide_true, decide_false]
  refine ⟨hu1, ?_⟩
  refine cvl ((FnH_den (hX m1 u1 (acc ++ [kw [116, 104, 114, 111, 119]]) (leM_tr (leM_tr (.inl rfl : leM m m) (.inr hw1)) l1) (by clear hX; first | omega | (simp only [room1, Lla, Llc, Lln, cap]; omega) | (simp only [cap]; omega))) (fun V => rfl)).mono ?_)
  clear hX
  rintro r H' m2 hm2 ⟨l2, rfl, u2, hu2, rfl⟩
  simp only [go_sem, ↓tfi, ↓fti, ↓reduceIte, Sd.cs, Nd.cs, Int.reduceEq, decide_true, decide_false]
  refine ⟨hu2, (leM_tr (leM_tr (leM_tr (.inl rfl : leM m m) (.inr hw1)) l1) l2), u2, by omega, ?_⟩
  simp only [List.append_assoc, List.cons_append, List.nil_append]
theorem smp11 (nm : List UInt8) (ty : Ty) (tN eN : Nd) (a : Option Addr) (l cp : Nat) (b : Option Addr) (l2 cp2 : Nat) (m : Mem) (u : Nat) (acc : List Tk) (TL : List Tk)
  (hL : ∀ m' u acc, leM m m' → acc.length + TL.length ≤ cap → WrT 104 [.v (.slice eN.a eN.l eN.cp)] m' u acc TL)
  (hb : acc.length + ([kw [115, 117, 112, 101, 114]] ++ TL).length ≤ cap) : WrT 185 [.v (.agg ⟨Sd.cs ⟨11, nm, ty, tN, eN, a, l, cp, b, l2, cp2⟩⟩)] m u acc ([kw [115, 117, 112, 101, 114]] ++ TL) := by
 simp only [Lla, Llc, Lln, cap] at hb
 refine enter cfW puW Tryz.func185 rfl rfl (by kernel_rfl) rfl ?_ ?_
 ·simp only [go_sem, ↓tfi, ↓fti, ↓reduceIte, Sd.cs, Nd.cs, Int.reduceEq, decide_true, decide_false]
 ·simp only [go_sem, ↓tfi, ↓fti, ↓reduceIte, Sd.cs, Nd.cs, Int.reduceEq, decide_true, decide_false]
  refine ⟨by kernel_rfl, fun a1 c1 w1 hw1 hc1 r1 => FnV_of ((word1 [115, 117, 112, 101, 114] a1 c1 w1 u (acc) r1 (by clear hL; first | omega | (simp only [room1, Lla, Llc, Lln, cap]; omega) | (simp only [cap]; omega))).mono ?_)⟩
  rintro r H' m1 hm1 ⟨l1, rfl, u1, hu1, rfl⟩
  simp only [go_sem, ↓tfi, ↓fti, ↓reduceIte, Sd.cs, Nd.cs, Int.reduceEq, decide_true, decide_false]
  refine ⟨hu1, ?_⟩
  refine cvl (((hL m1 u1 (acc ++ [kw [115, 117, 112, 101, 114]]) (leM_tr (leM_tr (.inl rfl : leM m m) (.inr hw1)) l1) (by clear hL; first | omega | (simp only [room1, Lla, Llc, Lln, cap]; omega) | (simp only [cap]; omega)))).mono ?_)
  clear hL
  rintro r H' m2 hm2 ⟨l2, rfl, u2, hu2, rfl⟩
  simp only [go_sem, ↓tfi, ↓fti, ↓reduceIte, Sd.cs, Nd.cs, Int.reduceEq, decide_true, decide_false]
  refine ⟨hu2, (leM_tr (leM_tr (leM_tr (.inl rfl : leM m m) (.inr hw1)) l1) l2), u2, by omega, ?_⟩
  simp only [List.append_assoc, List.cons_append, List.nil_append]
theorem stm4a (nm : List UInt8) (ty : Ty) (tN eN : Nd) (a : Option Addr) (l cp : Nat) (b : Option Addr) (l2 cp2 : Nat) (m : Mem) (u : Nat) (acc : List Tk) (hc : ((0 : Int) < (l2 : Int)) = True) (TR TB TA : List Tk)
  (hR : ∀ m' u acc, leM m m' → acc.length + TR.length ≤ cap → WrT 168 [.v (.agg ⟨eN.cs⟩)] m' u acc TR)
  (hB : ∀ m' u acc, leM m m' → acc.length + TB.length ≤ cap → WrT 89 [.v (.slice a l cp)] m' u acc TB)
  (hA : ∀ m' u acc, leM m m' → acc.length + TA.length ≤ cap → WrT 89 [.v (.slice b l2 cp2)] m' u acc TA)
  (hb : acc.length + ([kw [105, 102]] ++ TR ++ TB ++ [kw [101, 108, 115, 101]] ++ TA).length ≤ cap) : WrT 159 [.v (.agg ⟨Sd.cs ⟨4, nm, ty, tN, eN, a, l, cp, b, l2, cp2⟩⟩)] m u acc ([kw [105, 102]] ++ TR ++ TB ++ [kw [101, 108, 115, 101]] ++ TA) := by
 simp only [Lla, Llc, Lln, cap] at hb
 refine enter cfW puW Tryz.func159 rfl rfl (by kernel_rfl) rfl ?_ ?_
 ·simp only [go_sem, ↓tfi, ↓fti, ↓reduceIte, Sd.cs, Nd.cs, Int.reduceEq, decide_true, decide_false, hc]
 ·simp only [go_sem, ↓tfi, ↓fti, ↓reduceIte, Sd.cs, Nd.cs, Int.reduceEq, decide_true, decide_false, hc]
  refine ⟨by kernel_rfl, fun a1 c1 w1 hw1 hc1 r1 => FnV_of ((word1 [105, 102] a1 c1 w1 u (acc) r1 (by clear hR hB hA; first | omega | (simp only [room1, Lla, Llc, Lln, cap]; omega) | (simp only [cap]; omega))).mono ?_)⟩
  rintro r H' m1 hm1 ⟨l1, rfl, u1, hu1, rfl⟩
  simp only [go_sem, ↓tfi, ↓fti, ↓reduceIte, Sd.cs, Nd.cs, Int.reduceEq, decide_true, decide_false, hc]
  refine ⟨hu1, ?_⟩
  refine cvl ((FnH_den (hR m1 u1 (acc ++ [kw [105, 102]]) (leM_tr (leM_tr (.inl rfl : leM m m) (.inr hw1)) l1) (by clear hR hB hA; first | omega | (simp only [room1, Lla, Llc, Lln, cap]; omega) | (simp only [cap]; omega))) (fun V => rfl)).mono ?_)
  clear hR
  rintro r H' m2 hm2 ⟨l2, rfl, u2, hu2, rfl⟩
  simp only [go_sem, ↓tfi, ↓fti, ↓reduceIte, Sd.cs, Nd.cs, Int.reduceEq, decide_true, decide_false, hc]
  refine ⟨hu2, ?_⟩
  refine cvl (((hB m2 u2 (acc ++ [kw [105, 102]] ++ TR) (leM_tr (leM_tr (leM_tr (.inl rfl : leM m m) (.inr hw1)) l1) l2) (by clear hB hA; first | omega | (simp only [room1, Lla, Llc, Lln, cap]; omega) | (simp only [cap]; omega)))).mono ?_)
  clear hB
  rintro r H' m3 hm3 ⟨l3, rfl, u3, hu3, rfl⟩
  simp only [go_sem, ↓tfi, ↓fti, ↓reduceIte, Sd.cs, Nd.cs, Int.reduceEq, decide_true, decide_false, hc]
  refine ⟨hu3, ?_⟩
  refine ⟨by kernel_rfl, fun a4 c4 w4 hw4 hc4 r4 => FnV_of ((word1 [101, 108, 115, 101] a4 c4 w4 u3 (acc ++ [kw [105, 102]] ++ TR ++ TB) r4 (by clear hA; first | omega | (simp only [room1, Lla, Llc, Lln, cap]; omega) | (simp only [cap]; omega))).mono ?_)⟩
  rintro r H' m4 hm4 ⟨l4, rfl, u4, hu4, rfl⟩
  simp only [go_sem, ↓tfi, ↓fti, ↓reduceIte, Sd.cs, Nd.cs, Int.reduceEq, decide_true, decide_false, hc]
  refine ⟨hu4, ?_⟩
  refine cvl (((hA m4 u4 (acc ++ [kw [105, 102]] ++ TR ++ TB ++ [kw [101, 108, 115, 101]]) (leM_tr (leM_tr (leM_tr (leM_tr (leM_tr (leM_tr (.inl rfl : leM m m) (.inr hw1)) l1) l2) l3) (.inr hw4)) l4) (by clear hA; first | omega | (simp only [room1, Lla, Llc, Lln, cap]; omega) | (simp only [cap]; omega)))).mono ?_)
  clear hA
  rintro r H' m5 hm5 ⟨l5, rfl, u5, hu5, rfl⟩
  simp only [go_sem, ↓tfi, ↓fti, ↓reduceIte, Sd.cs, Nd.cs, Int.reduceEq, decide_true, decide_false, hc]
  refine ⟨hu5, (leM_tr (leM_tr (leM_tr (leM_tr (leM_tr (leM_tr (leM_tr (.inl rfl : leM m m) (.inr hw1)) l1) l2) l3) (.inr hw4)) l4) l5), u5, by omega, ?_⟩
  simp only [List.append_assoc, List.cons_append, List.nil_append]
theorem stm4b (nm : List UInt8) (ty : Ty) (tN eN : Nd) (a : Option Addr) (l cp : Nat) (b : Option Addr) (l2 cp2 : Nat) (m : Mem) (u : Nat) (acc : List Tk) (hc : ((0 : Int) < (l2 : Int)) = False) (TR TB : List Tk)
  (hR : ∀ m' u acc, leM m m' → acc.length + TR.length ≤ cap → WrT 168 [.v (.agg ⟨eN.cs⟩)] m' u acc TR)
  (hB : ∀ m' u acc, leM m m' → acc.length + TB.length ≤ cap → WrT 89 [.v (.slice a l cp)] m' u acc TB)
  (hb : acc.length + ([kw [105, 102]] ++ TR ++ TB).length ≤ cap) : WrT 159 [.v (.agg ⟨Sd.cs ⟨4, nm, ty, tN, eN, a, l, cp, b, l2, cp2⟩⟩)] m u acc ([kw [105, 102]] ++ TR ++ TB) := by
 simp only [Lla, Llc, Lln, cap] at hb
 refine enter cfW puW Tryz.func159 rfl rfl (by kernel_rfl) rfl ?_ ?_
 ·simp only [go_sem, ↓tfi, ↓fti, ↓reduceIte, Sd.cs, Nd.cs, Int.reduceEq, decide_true, decide_false, hc]
 ·simp only [go_sem, ↓tfi, ↓fti, ↓reduceIte, Sd.cs, Nd.cs, Int.reduceEq, decide_true, decide_false, hc]
  refine ⟨by kernel_rfl, fun a1 c1 w1 hw1 hc1 r1 => FnV_of ((word1 [105, 102] a1 c1 w1 u (acc) r1 (by clear hR hB; first | omega | (simp only [room1, Lla, Llc, Lln, cap]; omega) | (simp only [cap]; omega))).mono ?_)⟩
  rintro r H' m1 hm1 ⟨l1, rfl, u1, hu1, rfl⟩
  simp only [go_sem, ↓tfi, ↓fti, ↓reduceIte, Sd.cs, Nd.cs, Int.reduceEq, decide_true, decide_false, hc]
  refine ⟨hu1, ?_⟩
  refine cvl ((FnH_den (hR m1 u1 (acc ++ [kw [105, 102]]) (leM_tr (leM_tr (.inl rfl : leM m m) (.inr hw1)) l1) (by clear hR hB; first | omega | (simp only [room1, Lla, Llc, Lln, cap]; omega) | (simp only [cap]; omega))) (fun V => rfl)).mono ?_)
  clear hR
  rintro r H' m2 hm2 ⟨l2, rfl, u2, hu2, rfl⟩
  simp only [go_sem, ↓tfi, ↓fti, ↓reduceIte, Sd.cs, Nd.cs, Int.reduceEq, decide_true, decide_false, hc]
  refine ⟨hu2, ?_⟩
  refine cvl (((hB m2 u2 (acc ++ [kw [105, 102]] ++ TR) (leM_tr (leM_tr (leM_tr (.inl rfl : leM m m) (.inr hw1)) l1) l2) (by clear hB; first | omega | (simp only [room1, Lla, Llc, Lln, cap]; omega) | (simp only [cap]; omega)))).mono ?_)
  clear hB
  rintro r H' m3 hm3 ⟨l3, rfl, u3, hu3, rfl⟩
  simp only [go_sem, ↓tfi, ↓fti, ↓reduceIte, Sd.cs, Nd.cs, Int.reduceEq, decide_true, decide_false, hc]
  refine ⟨hu3, (leM_tr (leM_tr (leM_tr (leM_tr (.inl rfl : leM m m) (.inr hw1)) l1) l2) l3), u3, by omega, ?_⟩
  simp only [List.append_assoc, List.cons_append, List.nil_append]
theorem stm5 (nm : List UInt8) (ty : Ty) (tN eN : Nd) (a : Option Addr) (l cp : Nat) (b : Option Addr) (l2 cp2 : Nat) (m : Mem) (u : Nat) (acc : List Tk) (TR TB : List Tk)
  (hR : ∀ m' u acc, leM m m' → acc.length + TR.length ≤ cap → WrT 168 [.v (.agg ⟨eN.cs⟩)] m' u acc TR)
  (hB : ∀ m' u acc, leM m m' → acc.length + TB.length ≤ cap → WrT 89 [.v (.slice a l cp)] m' u acc TB)
  (hb : acc.length + ([kw [119, 104, 105, 108, 101]] ++ TR ++ TB).length ≤ cap) : WrT 159 [.v (.agg ⟨Sd.cs ⟨5, nm, ty, tN, eN, a, l, cp, b, l2, cp2⟩⟩)] m u acc ([kw [119, 104, 105, 108, 101]] ++ TR ++ TB) := by
 simp only [Lla, Llc, Lln, cap] at hb
 refine enter cfW puW Tryz.func159 rfl rfl (by kernel_rfl) rfl ?_ ?_
 ·simp only [go_sem, ↓tfi, ↓fti, ↓reduceIte, Sd.cs, Nd.cs, Int.reduceEq, decide_true, decide_false]
 ·simp only [go_sem, ↓tfi, ↓fti, ↓reduceIte, Sd.cs, Nd.cs, Int.reduceEq, decide_true, decide_false]
  refine ⟨by kernel_rfl, fun a1 c1 w1 hw1 hc1 r1 => FnV_of ((word1 [119, 104, 105, 108, 101] a1 c1 w1 u (acc) r1 (by clear hR hB; first | omega | (simp only [room1, Lla, Llc, Lln, cap]; omega) | (simp only [cap]; omega))).mono ?_)⟩
  rintro r H' m1 hm1 ⟨l1, rfl, u1, hu1, rfl⟩
  simp only [go_sem, ↓tfi, ↓fti, ↓reduceIte, Sd.cs, Nd.cs, Int.reduceEq, decide_true, decide_false]
  refine ⟨hu1, ?_⟩
  refine cvl ((FnH_den (hR m1 u1 (acc ++ [kw [119, 104, 105, 108, 101]]) (leM_tr (leM_tr (.inl rfl : leM m m) (.inr hw1)) l1) (by clear hR hB; first | omega | (simp only [room1, Lla, Llc, Lln, cap]; omega) | (simp only [cap]; omega))) (fun V => rfl)).mono ?_)
  clear hR
  rintro r H' m2 hm2 ⟨l2, rfl, u2, hu2, rfl⟩
  simp only [go_sem, ↓tfi, ↓fti, ↓reduceIte, Sd.cs, Nd.cs, Int.reduceEq, decide_true, decide_false]
  refine ⟨hu2, ?_⟩
  refine cvl (((hB m2 u2 (acc ++ [kw [119, 104, 105, 108, 101]] ++ TR) (leM_tr (leM_tr (leM_tr (.inl rfl : leM m m) (.inr hw1)) l1) l2) (by clear hB; first | omega | (simp only [room1, Lla, Llc, Lln, cap]; omega) | (simp only [cap]; omega)))).mono ?_)
  clear hB
  rintro r H' m3 hm3 ⟨l3, rfl, u3, hu3, rfl⟩
  simp only [go_sem, ↓tfi, ↓fti, ↓reduceIte, Sd.cs, Nd.cs, Int.reduceEq, decide_true, decide_false]
  refine ⟨hu3, (leM_tr (leM_tr (leM_tr (leM_tr (.inl rfl : leM m m) (.inr hw1)) l1) l2) l3), u3, by omega, ?_⟩
  simp only [List.append_assoc, List.cons_append, List.nil_append]
theorem stm8 (nm : List UInt8) (ty : Ty) (tN eN : Nd) (a : Option Addr) (l cp : Nat) (b : Option Addr) (l2 cp2 : Nat) (m : Mem) (u : Nat) (acc : List Tk) (hty : ty.dim ≤ 1000) (TB TA : List Tk)
  (hB : ∀ m' u acc, leM m m' → acc.length + TB.length ≤ cap → WrT 89 [.v (.slice a l cp)] m' u acc TB)
  (hA : ∀ m' u acc, leM m m' → acc.length + TA.length ≤ cap → WrT 89 [.v (.slice b l2 cp2)] m' u acc TA)
  (hb : acc.length + ([kw [116, 114, 121]] ++ TB ++ [kw [99, 97, 116, 99, 104]] ++ [sg [40]] ++ typT ty.dim ty.base ty.name ++ [nm1 nm] ++ [sg [41]] ++ TA).length ≤ cap) : WrT 159 [.v (.agg ⟨Sd.cs ⟨8, nm, ty, tN, eN, a, l, cp, b, l2, cp2⟩⟩)] m u acc ([kw [116, 114, 121]] ++ TB ++ [kw [99, 97, 116, 99, 104]] ++ [sg [40]] ++ typT ty.dim ty.base ty.name ++ [nm1 nm] ++ [sg [41]] ++ TA) := by
 simp only [Lla, Llc, Lln, cap] at hb
 refine enter cfW puW Tryz.func159 rfl rfl (by kernel_rfl) rfl ?_ ?_
 ·simp only [go_sem, ↓tfi, ↓fti, ↓reduceIte, Sd.cs, Nd.cs, Int.reduceEq, decide_true, decide_false]
 ·simp only [go_sem, ↓tfi, ↓fti, ↓reduceIte, Sd.cs, Nd.cs, Int.reduceEq, decide_true, decide_false]
  refine ⟨by kernel_rfl, fun a1 c1 w1 hw1 hc1 r1 => FnV_of ((word1 [116, 114, 121] a1 c1 w1 u (acc) r1 (by clear hB hA; first | omega | (simp only [room1, Lla, Llc, Lln, cap]; omega) | (simp only [cap]; omega))).mono ?_)⟩
  rintro r H' m1 hm1 ⟨l1, rfl, u1, hu1, rfl⟩
  simp only [go_sem, ↓tfi, ↓fti, ↓reduceIte, Sd.cs, Nd.cs, Int.reduceEq, decide_true, decide_false]
  refine ⟨hu1, ?_⟩
  refine cvl (((hB m1 u1 (acc ++ [kw [116, 114, 121]]) (leM_tr (leM_tr (.inl rfl : leM m m) (.inr hw1)) l1) (by clear hB hA; first | omega | (simp only [room1, Lla, Llc, Lln, cap]; omega) | (simp only [cap]; omega)))).mono ?_)
  clear hB
  rintro r H' m2 hm2 ⟨l2, rfl, u2, hu2, rfl⟩
  simp only [go_sem, ↓tfi, ↓fti, ↓reduceIte, Sd.cs, Nd.cs, Int.reduceEq, decide_true, decide_false]
  refine ⟨hu2, ?_⟩
  refine ⟨by kernel_rfl, fun a3 c3 w3 hw3 hc3 r3 => FnV_of ((word1 [99, 97, 116, 99, 104] a3 c3 w3 u2 (acc ++ [kw [116, 114, 121]] ++ TB) r3 (by clear hA; first | omega | (simp only [room1, Lla, Llc, Lln, cap]; omega) | (simp only [cap]; omega))).mono ?_)⟩
  rintro r H' m3 hm3 ⟨l3, rfl, u3, hu3, rfl⟩
  simp only [go_sem, ↓tfi, ↓fti, ↓reduceIte, Sd.cs, Nd.cs, Int.reduceEq, decide_true, decide_false]
  refine ⟨hu3, ?_⟩
  refine ⟨by kernel_rfl, fun a4 c4 w4 hw4 hc4 r4 => FnV_of ((sign1 [40] a4 c4 w4 u3 (acc ++ [kw [116, 114, 121]] ++ TB ++ [kw [99, 97, 116, 99, 104]]) r4 (by clear hA; first | omega | (simp only [room1, Lla, Llc, Lln, cap]; omega) | (simp only [cap]; omega))).mono ?_)⟩
  rintro r H' m4 hm4 ⟨l4, rfl, u4, hu4, rfl⟩
  simp only [go_sem, ↓tfi, ↓fti, ↓reduceIte, Sd.cs, Nd.cs, Int.reduceEq, decide_true, decide_false]
  refine ⟨hu4, ?_⟩
  refine cvl ((FnH_den (typ_spec ty.dim ty.base ty.name m4 u4 (acc ++ [kw [116, 114, 121]] ++ TB ++ [kw [99, 97, 116, 99, 104]] ++ [sg [40]]) hty (by clear hA; first | omega | (simp only [room1, Lla, Llc, Lln, cap]; omega) | (simp only [cap]; omega))) (fun V => rfl)).mono ?_)
  rintro r H' m5 hm5 ⟨l5, rfl, u5, hu5, rfl⟩
  simp only [go_sem, ↓tfi, ↓fti, ↓reduceIte, Sd.cs, Nd.cs, Int.reduceEq, decide_true, decide_false]
  refine ⟨hu5, ?_⟩
  refine cvl ((name_spec nm m5 u5 (acc ++ [kw [116, 114, 121]] ++ TB ++ [kw [99, 97, 116, 99, 104]] ++ [sg [40]] ++ typT ty.dim ty.base ty.name) (by clear hA; first | omega | (simp only [room1, Lla, Llc, Lln, cap]; omega) | (simp only [cap]; omega))).mono ?_)
  rintro r H' m6 hm6 ⟨l6, rfl, u6, hu6, rfl⟩
  simp only [go_sem, ↓tfi, ↓fti, ↓reduceIte, Sd.cs, Nd.cs, Int.reduceEq, decide_true, decide_false]
  refine ⟨hu6, ?_⟩
  refine ⟨by kernel_rfl, fun a7 c7 w7 hw7 hc7 r7 => FnV_of ((sign1 [41] a7 c7 w7 u6 (acc ++ [kw [116, 114, 121]] ++ TB ++ [kw [99, 97, 116, 99, 104]] ++ [sg [40]] ++ typT ty.dim ty.base ty.name ++ [nm1 nm]) r7 (by clear hA; first | omega | (simp only [room1, Lla, Llc, Lln, cap]; omega) | (simp only [cap]; omega))).mono ?_)⟩
  rintro r H' m7 hm7 ⟨l7, rfl, u7, hu7, rfl⟩
  simp only [go_sem, ↓tfi, ↓fti, ↓reduceIte, Sd.cs, Nd.cs, Int.reduceEq, decide_true, decide_false]
  refine ⟨hu7, ?_⟩
  refine cvl (((hA m7 u7 (acc ++ [kw [116, 114, 121]] ++ TB ++ [kw [99, 97, 116, 99, 104]] ++ [sg [40]] ++ typT ty.dim ty.base ty.name ++ [nm1 nm] ++ [sg [41]]) (leM_tr (leM_tr (leM_tr (leM_tr (leM_tr (leM_tr (leM_tr (leM_tr (leM_tr (leM_tr (leM_tr (.inl rfl : leM m m) (.inr hw1)) l1) l2) (.inr hw3)) l3) (.inr hw4)) l4) l5) l6) (.inr hw7)) l7) (by clear hA; first | omega | (simp only [room1, Lla, Llc, Lln, cap]; omega) | (simp only [cap]; omega)))).mono ?_)
  clear hA
  rintro r H' m8 hm8 ⟨l8, rfl, u8, hu8, rfl⟩
  simp only [go_sem, ↓tfi, ↓fti, ↓reduceIte, Sd.cs, Nd.cs, Int.reduceEq, decide_true, decide_false]
  refine ⟨hu8, (leM_tr (leM_tr (leM_tr (leM_tr (leM_tr (leM_tr (leM_tr (leM_tr (leM_tr (leM_tr (leM_tr (leM_tr (.inl rfl : leM m m) (.inr hw1)) l1) l2) (.inr hw3)) l3) (.inr hw4)) l4) l5) l6) (.inr hw7)) l7) l8), u8, by omega, ?_⟩
  simp only [List.append_assoc, List.cons_append, List.nil_append]
theorem stm9 (nm : List UInt8) (ty : Ty) (tN eN : Nd) (a : Option Addr) (l cp : Nat) (b : Option Addr) (l2 cp2 : Nat) (m : Mem) (u : Nat) (acc : List Tk) (TR TB : List Tk)
  (hR : ∀ m' u acc, leM m m' → acc.length + TR.length ≤ cap → WrT 168 [.v (.agg ⟨eN.cs⟩)] m' u acc TR)
  (hB : ∀ m' u acc, leM m m' → acc.length + TB.length ≤ cap → WrT 89 [.v (.slice a l cp)] m' u acc TB)
  (hb : acc.length + ([kw [115, 121, 110, 99]] ++ TR ++ TB).length ≤ cap) : WrT 159 [.v (.agg ⟨Sd.cs ⟨9, nm, ty, tN, eN, a, l, cp, b, l2, cp2⟩⟩)] m u acc ([kw [115, 121, 110, 99]] ++ TR ++ TB) := by
 simp only [Lla, Llc, Lln, cap] at hb
 refine enter cfW puW Tryz.func159 rfl rfl (by kernel_rfl) rfl ?_ ?_
 ·simp only [go_sem, ↓tfi, ↓fti, ↓reduceIte, Sd.cs, Nd.cs, Int.reduceEq, decide_true, decide_false]
 ·simp only [go_sem, ↓tfi, ↓fti, ↓reduceIte, Sd.cs, Nd.cs, Int.reduceEq, decide_true, decide_false]
  refine ⟨by kernel_rfl, fun a1 c1 w1 hw1 hc1 r1 => FnV_of ((word1 [115, 121, 110, 99] a1 c1 w1 u (acc) r1 (by clear hR hB; first | omega | (simp only [room1, Lla, Llc, Lln, cap]; omega) | (simp only [cap]; omega))).mono ?_)⟩
  rintro r H' m1 hm1 ⟨l1, rfl, u1, hu1, rfl⟩
  simp only [go_sem, ↓tfi, ↓fti, ↓reduceIte, Sd.cs, Nd.cs, Int.reduceEq, decide_true, decide_false]
  refine ⟨hu1, ?_⟩
  refine cvl ((FnH_den (hR m1 u1 (acc ++ [kw [115, 121, 110, 99]]) (leM_tr (leM_tr (.inl rfl : leM m m) (.inr hw1)) l1) (by clear hR hB; first | omega | (simp only [room1, Lla, Llc, Lln, cap]; omega) | (simp only [cap]; omega))) (fun V => rfl)).mono ?_)
  clear hR
  rintro r H' m2 hm2 ⟨l2, rfl, u2, hu2, rfl⟩
  simp only [go_sem, ↓tfi, ↓fti, ↓reduceIte, Sd.cs, Nd.cs, Int.reduceEq, decide_true, decide_false]
  refine ⟨hu2, ?_⟩
  refine cvl (((hB m2 u2 (acc ++ [kw [115, 121, 110, 99]] ++ TR) (leM_tr (leM_tr (leM_tr (.inl rfl : leM m m) (.inr hw1)) l1) l2) (by clear hB; first | omega | (simp only [room1, Lla, Llc, Lln, cap]; omega) | (simp only [cap]; omega)))).mono ?_)
  clear hB
  rintro r H' m3 hm3 ⟨l3, rfl, u3, hu3, rfl⟩
  simp only [go_sem, ↓tfi, ↓fti, ↓reduceIte, Sd.cs, Nd.cs, Int.reduceEq, decide_true, decide_false]
  refine ⟨hu3, (leM_tr (leM_tr (leM_tr (leM_tr (.inl rfl : leM m m) (.inr hw1)) l1) l2) l3), u3, by omega, ?_⟩
  simp only [List.append_assoc, List.cons_append, List.nil_append]
theorem stm10 (nm : List UInt8) (ty : Ty) (tN eN : Nd) (a : Option Addr) (l cp : Nat) (b : Option Addr) (l2 cp2 : Nat) (m : Mem) (u : Nat) (acc : List Tk) (TB : List Tk)
  (hB : ∀ m' u acc, leM m m' → acc.length + TB.length ≤ cap → WrT 89 [.v (.slice a l cp)] m' u acc TB)
  (hb : acc.length + (TB).length ≤ cap) : WrT 159 [.v (.agg ⟨Sd.cs ⟨10, nm, ty, tN, eN, a, l, cp, b, l2, cp2⟩⟩)] m u acc (TB) := by
 simp only [Lla, Llc, Lln, cap] at hb
 refine enter cfW puW Tryz.func159 rfl rfl (by kernel_rfl) rfl ?_ ?_
 ·simp only [go_sem, ↓tfi, ↓fti, ↓reduceIte, Sd.cs, Nd.cs, Int.reduceEq, decide_true, decide_false]
 ·simp only [go_sem, ↓tfi, ↓fti, ↓reduceIte, Sd.cs, Nd.cs, Int.reduceEq, decide_true, decide_false]
  refine cvl (((hB m u (acc) (.inl rfl : leM m m) (by clear hB; first | omega | (simp only [room1, Lla, Llc, Lln, cap]; omega) | (simp only [cap]; omega)))).mono ?_)
  clear hB
  rintro r H' m1 hm1 ⟨l1, rfl, u1, hu1, rfl⟩
  simp only [go_sem, ↓tfi, ↓fti, ↓reduceIte, Sd.cs, Nd.cs, Int.reduceEq, decide_true, decide_false]
  refine ⟨hu1, (leM_tr (.inl rfl : leM m m) l1), u1, by omega, ?_⟩
  simp only [List.append_assoc, List.cons_append, List.nil_append]
theorem stmd (k : Int) (nm : List UInt8) (ty : Ty) (tN eN : Nd) (a : Option Addr) (l cp : Nat) (b : Option Addr) (l2 cp2 : Nat) (m : Mem) (u : Nat) (acc : List Tk) (hk : ∀ j : Int, j = 4 ∨ j = 5 ∨ j = 8 ∨ j = 9 ∨ j = 10 → (k = j) = False) (TZ : List Tk)
  (hZ : ∀ m' u acc, leM m m' → acc.length + TZ.length ≤ cap → WrT 185 [.v (.agg ⟨Sd.cs ⟨k, nm, ty, tN, eN, a, l, cp, b, l2, cp2⟩⟩)] m' u acc TZ)
  (hb : acc.length + (TZ ++ [sg [59]]).length ≤ cap) : WrT 159 [.v (.agg ⟨Sd.cs ⟨k, nm, ty, tN, eN, a, l, cp, b, l2, cp2⟩⟩)] m u acc (TZ ++ [sg [59]]) := by
 simp only [Lla, Llc, Lln, cap] at hb
 have e4 := hk 4 (by decide)
 have e5 := hk 5 (by decide)
 have e8 := hk 8 (by decide)
 have e9 := hk 9 (by decide)
 have e10 := hk 10 (by decide)
 refine enter cfW puW Tryz.func159 rfl rfl (by kernel_rfl) rfl ?_ ?_
 ·simp only [go_sem, ↓tfi, ↓fti, ↓reduceIte, Sd.cs, Nd.cs, Int.reduceEq, decide_true, decide_false, e4, e5, e8, e9, e10]
 ·simp only [go_sem, ↓tfi, ↓fti, ↓reduceIte, Sd.cs, Nd.cs, Int.reduceEq, decide_true, decide_false, e4, e5, e8, e9, e10]
  refine cvl ((FnH_den (hZ m u (acc) (.inl rfl : leM m m) (by clear hZ; first | omega | (simp only [room1, Lla, Llc, Lln, cap]; omega) | (simp only [cap]; omega))) (fun V => rfl)).mono ?_)
  clear hZ
  rintro r H' m1 hm1 ⟨l1, rfl, u1, hu1, rfl⟩
  simp only [go_sem, ↓tfi, ↓fti, ↓reduceIte, Sd.cs, Nd.cs, Int.reduceEq, decide_true, decide_false, e4, e5, e8, e9, e10]
  refine ⟨hu1, ?_⟩
  refine ⟨by kernel_rfl, fun a2 c2 w2 hw2 hc2 r2 => FnV_of ((sign1 [59] a2 c2 w2 u1 (acc ++ TZ) r2 (by first | omega | (simp only [room1, Lla, Llc, Lln, cap]; omega) | (simp only [cap]; omega))).mono ?_)⟩
  rintro r H' m2 hm2 ⟨l2, rfl, u2, hu2, rfl⟩
  simp only [go_sem, ↓tfi, ↓fti, ↓reduceIte, Sd.cs, Nd.cs, Int.reduceEq, decide_true, decide_false, e4, e5, e8, e9, e10]
  refine ⟨hu2, (leM_tr (leM_tr (leM_tr (.inl rfl : leM m m) l1) (.inr hw2)) l2), u2, by omega, ?_⟩
  simp only [List.append_assoc, List.cons_append, List.nil_append]
def StW (s : St) (m : Mem) : Prop := ∀ (cs : List Value) (m' : Mem) (u : Nat) (acc : List Tk), leM m m' → stRep m' s cs → acc.length + (stmtT s).length ≤ cap → WrT 159 [.v (.agg ⟨cs⟩)] m' u acc (stmtT s)
theorem stmtsT_map : ∀ (l : List St), stmtsT l = (l.map stmtT).flatten
 | [] => by simp [stmtsT]
 | s :: r => by simp [stmtsT, stmtsT_map r]
theorem blockW_spec (l : List St) (a : Option Addr) (n c : Nat) (xs : List Value) (m : Mem) (u : Nat) (acc : List Tk) (hl : l.length = n) (hn : n ≤ big) (hr : Rds m a n 23 xs) (hs : stsRep m l xs) (hS : ∀ e ∈ l, StW e m)
  (hb : acc.length + (brT (stmtsT l)).length ≤ cap) : WrT 89 [.v (.slice a n c)] m u acc (brT (stmtsT l)) := by
 rw [stmtsT_map] at hb ⊢
 have hb0 : acc.length + ((l.map stmtT).flatten).length + 2 ≤ cap := by
  simp only [brT, Llc, Lla, Lln] at hb; omega
 clear hb
 have hs0 := fun (a : Option Addr) (c : Nat) (m' : Mem) (hr : Rds m' a 1 1 (strs [[123]])) => sign1 [123] a c m' u acc hr (by simp only [cap] at hb0; omega)
 refine enter cfW puW Tryz.func89 rfl rfl (by kernel_rfl) rfl ?_ ?_
 ·simp only [go_sem, ↓tfi, ↓fti, ↓reduceIte]
 ·simp only [go_sem, ↓tfi, ↓fti, ↓reduceIte]
  refine ⟨by kernel_rfl, fun a0 c0 m1 hm1 hc hr1 => FnV_of ((hs0 a0 c0 m1 hr1).mono ?_)⟩
  clear hs0
  rintro r H' m2 hm2 ⟨hle2, rfl, u', hu, rfl⟩
  simp only [go_sem, ↓tfi, ↓fti, ↓reduceIte]
  refine ⟨hu, ?_⟩
  have hle0 : leM m m2 := leM_tr (.inr hm1) hle2
  refine WP_loop puW (fun x : Nat × Nat × List Tk × Mem => ⟨[⟨0, [], .box 0 0⟩, ⟨9, [], .v (.slice a n c)⟩, ⟨10, [], .v (.int .i64 n)⟩, ⟨11, [], .v (.int .i64 x.1)⟩], [], [⟨0, 64, [.vec 1 (u' + x.2.1)]⟩], [⟨1, u' + x.2.1, 79, 4, x.2.2.1.length, tkCells x.2.2.1⟩], 100, x.2.2.2⟩)
   (fun x => leM m2 x.2.2.2 ∧ x.1 ≤ n ∧ x.2.2.1 = acc ++ [sg [123]] ++ ((l.take x.1).map stmtT).flatten) (fun x => n - x.1) (0, 0, acc ++ [sg [123]], m2) (by kernel_rfl) (fun _ _ => nbl rfl) (fun x hx => hx.1) (fun _ => ?_) ?_ ?_ ?_
  ·simp only [go_sem, ↓tfi, ↓fti, ↓reduceIte]
  ·simp only [go_sem, ↓tfi, ↓fti, ↓reduceIte]
   exact ⟨rfl, rfl, rfl⟩
  ·exact ⟨.inl rfl, Nat.zero_le _, by simp⟩
  ·rintro ⟨k, v, acc', mm⟩ ⟨h1, h2, h3⟩
   simp only at h1 h2 h3
   have hal : acc'.length = acc.length + 1 + (((l.take k).map stmtT).flatten).length := by rw [h3]; simp only [Lla, List.length_singleton]
   have hcl := flat_le (f := stmtT) l k
   have hs2 := fun (a : Option Addr) (c : Nat) (m' : Mem) (hr : Rds m' a 1 1 (strs [[125]])) => sign1 [125] a c m' (u' + v) acc' hr (by simp only [cap] at hb0; omega)
   have hx : ∀ (hk : k < l.length), ∃ x : Sd, (Rd mm (ptrAt a (k * 23)) x.cs ∧ a ≠ none) ∧ WrT 159 [.v (.agg ⟨x.cs⟩)] mm (u' + v) acc' (stmtT l[k]) := fun hk => by
    have hrep := stRep_upM (leM_tr hle0 h1) (sts_at hs hk)
    obtain ⟨x, hx⟩ := stRep_sd hrep
    have hrd := Rds_cells (Rds_upM (leM_tr hle0 h1) hr) (by omega : k < n)
    rw [hx] at hrep hrd
    have hsz := flat_le (f := stmtT) l (k + 1)
    have hst := congrArg List.length (flat_takeT (f := stmtT) hk)
    rw [Lla] at hst
    exact ⟨x, hrd, hS _ (List.getElem_mem hk) x.cs mm _ acc' (leM_tr hle0 h1) hrep (by omega)⟩
   have hft := fun (hk : k < l.length) => flat_takeT (f := stmtT) hk
   clear hS
   simp only [go_sem, ↓tfi, ↓fti, ↓reduceIte]
   refine ⟨fun hlt => ?_, fun hge => ?_⟩
   ·clear hs2
    have hk : k < l.length := by clear hx; omega
    refine Exists.elim (hx hk) fun x hx' => ⟨⟨by clear hx hx'; omega, hlt, hx'.1.2⟩, x.cs, ⟨hx'.1.1, rfl⟩, ?_⟩
    clear hx
    have ha := hx'.2
    clear hx'
    have hft' := hft hk
    clear hft
    simp only [go_sem, ↓tfi, ↓fti, ↓reduceIte, Sd.cs]
    refine cvl ((FnH_den ha (fun V => rfl)).mono ?_)
    clear ha
    rintro r H' m4 hm4 ⟨hle4, rfl, w, hw, rfl⟩
    simp only [go_sem, ↓tfi, ↓fti, ↓reduceIte, Sd.cs]
    refine ⟨hw, by unfold I64; simp only [big] at hn; omega, (k + 1, w - u', acc' ++ stmtT l[k], m4), ⟨by simp, by rw [show u' + (w - u') = w by omega], ⟨by simp only; omega, rfl, rfl⟩, .inl rfl⟩, ⟨leM_tr h1 hle4, by simp only; omega, ?_⟩, by simp only; omega⟩
    simp only
    rw [hft', h3, List.append_assoc]
   ·clear hx hft
    refine ⟨by kernel_rfl, fun a1 c1 m3 hm3 hc3 hr3 => FnV_of ((hs2 a1 c1 m3 hr3).mono ?_)⟩
    clear hs2
    rintro r H' m4 hm4 ⟨hle4, rfl, w, hw, rfl⟩
    simp only [go_sem, ↓tfi, ↓fti, ↓reduceIte]
    refine ⟨hw, leM_tr hle0 (leM_tr h1 (leM_tr (.inr hm3) hle4)), w, by omega, ?_⟩
    have e : acc' ++ [sg [125]] = acc ++ brT ((l.map stmtT).flatten) := by
     rw [h3, List.take_of_length_le (by omega)]
     simp [brT]
    rw [e]
theorem validSs_mem : ∀ {sup : Bool} {l : List St}, validSs sup l = true → ∀ e ∈ l, validS e = true
 | _, [], _, e, he => by cases he
 | sup, x :: r, h, e, he => by
  simp only [validSs, Bbt] at h
  rcases List.mem_cons.1 he with rfl | he
  ·exact h.1.2
  ·exact validSs_mem h.2 e he
theorem okStm_kind {k : Int} {nm : List UInt8} {ty : Ty} {tg ex : Ex} {B : Bool} (h : okStm k nm ty tg ex B = true) : k = 1 ∨ k = 2 ∨ k = 3 ∨ k = 4 ∨ k = 5 ∨ k = 6 ∨ k = 7 ∨ k = 8 ∨ k = 9 ∨ k = 10 ∨ k = 11 := by
 by_cases hk : k = 1 ∨ k = 2 ∨ k = 3 ∨ k = 4 ∨ k = 5 ∨ k = 6 ∨ k = 7 ∨ k = 8 ∨ k = 9 ∨ k = 10 ∨ k = 11
 ·exact hk
 ·simp only [not_or] at hk
  simp only [okStm, hk, or_self, if_false] at h
  cases h
theorem value_dim {d b : Int} {nm : List UInt8} (h : valueTy d b nm = true) : d ≤ 8 := by
 simp only [valueTy, Bbt] at h
 have := h.1.1
 unfold validTy at this
 split at this
 ·cases this
 ·omega
theorem target_valid {e : Ex} (h : targetE e = true) : validE e = true := by
 simp only [targetE, Bbt] at h; exact h.2
theorem call_valid {e : Ex} (h : callE e = true) : validE e = true := by
 simp only [callE, Bbt] at h; exact h.2
theorem valid_k {e : Ex} (h : validE e = true) : e.k ≠ 0 := by
 cases e with
 | mk k n s c ty args =>
  simp only [validE, Bbt] at h
  obtain ⟨hk, _, _⟩ := node_kind h.1
  intro h0
  simp only [Ex.k] at h0
  subst h0
  cases hk
theorem empty_k {e : Ex} (h : emptyE e = true) : e.k = 0 := by
 cases e with
 | mk k n s c ty args =>
  simp only [emptyE, emptyL, Bbt, decide_eq_true_eq] at h
  exact h.1.1.1.1.2
theorem super_args {e : Ex} (h : superE e = true) : validEs e.args = true := by
 cases e with
 | mk k n s c ty args =>
  simp only [superE, Bbt] at h
  exact h.2
theorem exRep_args {m : Mem} {e : Ex} {x : Nd} (h : exRep m e x.cs) : x.k = e.k ∧ x.l = e.args.length ∧ x.l ≤ x.cp ∧ x.l ≤ big ∧ ∃ xs, Rds m x.a x.l 8 xs ∧ exsRep m e.args xs := by
 cases e with
 | mk k n s c ty args =>
  obtain ⟨y, hy, h1, h2, h3, h4, h5, h6, h7, h8, h9⟩ := ex_parts h
  rw [nd_inj hy]
  exact ⟨h1, h6, h7, h8, h9⟩
theorem dk {j : Int} (h : j = 1 ∨ j = 2 ∨ j = 3 ∨ j = 6 ∨ j = 7 ∨ j = 11) : ∀ i : Int, i = 4 ∨ i = 5 ∨ i = 8 ∨ i = 9 ∨ i = 10 → (j = i) = False := fun i hi => eq_false (by omega)
theorem stmtW_all : ∀ (h : Nat) (s : St) (m : Mem), depthS s ≤ h → validS s = true → StW s m
 | 0, .mk k nm ty tg ex body alt, m, hd, _ => by simp [depthS] at hd
 | h + 1, .mk k nm ty tg ex body alt, m, hd, hv => by
  intro cs m' u acc hle hrep hb
  obtain ⟨⟨k', nm', ty', tN, eN, a, l, cp, b, l2, cp2⟩, rfl, rfl, rfl, rfl, htg, hex, hl, hcp, hl2, hcp2, hok, xs, ys, r1, r2, s1, s2⟩ := st_parts hrep
  simp only at htg hex hl hcp hl2 hcp2 r1 r2 hv hb hok
  simp only [depthS] at hd
  simp only [validS, Bbt] at hv
  have hv1 := hv.1
  clear hv hrep
  have hB : ∀ {q : Bool}, (decide (body.length ≤ 32) && validSs false body && q) = true → ∀ m2 u acc, leM m' m2 → acc.length + (brT (stmtsT body)).length ≤ cap → WrT 89 [.v (.slice a l cp)] m2 u acc (brT (stmtsT body)) := fun hvb m2 u acc hle2 hb => by
   simp only [Bbt] at hvb
   exact blockW_spec body a l cp xs m2 u acc hl.symm (by rw [hl]; exact hok.l) (Rds_upM hle2 r1) (stsRep_upM hle2 s1) (fun e he => stmtW_all h e m2 (by have := depthSs_mem he; omega) (validSs_mem hvb.1.2 e he)) hb
  have hA : ∀ {q : Bool}, (q && (decide (alt.length ≤ 32) && validSs false alt)) = true → ∀ m2 u acc, leM m' m2 → acc.length + (brT (stmtsT alt)).length ≤ cap → WrT 89 [.v (.slice b l2 cp2)] m2 u acc (brT (stmtsT alt)) := fun hvb m2 u acc hle2 hb => by
   simp only [Bbt] at hvb
   exact blockW_spec alt b l2 cp2 ys m2 u acc hl2.symm (by rw [hl2]; exact hok.l2) (Rds_upM hle2 r2) (stsRep_upM hle2 s2) (fun e he => stmtW_all h e m2 (by have := depthSs_mem he; omega) (validSs_mem hvb.2.2 e he)) hb
  have hX : validE ex = true → ∀ m2 u acc, leM m' m2 → acc.length + (exprT ex).length ≤ cap → WrT 41 [.v (.agg ⟨eN.cs⟩)] m2 u acc (exprT ex) := fun hv m2 u acc hle2 hb => expr_all _ ex m2 (Nnr _) hv _ m2 u acc (.inl rfl) (exRep_upM hle2 hex) hb
  have hG : validE tg = true → ∀ m2 u acc, leM m' m2 → acc.length + (exprT tg).length ≤ cap → WrT 41 [.v (.agg ⟨tN.cs⟩)] m2 u acc (exprT tg) := fun hv m2 u acc hle2 hb => expr_all _ tg m2 (Nnr _) hv _ m2 u acc (.inl rfl) (exRep_upM hle2 htg) hb
  have hR : validE ex = true → ∀ m2 u acc, leM m' m2 → acc.length + (listT [exprT ex]).length ≤ cap → WrT 168 [.v (.agg ⟨eN.cs⟩)] m2 u acc (listT [exprT ex]) := fun hv m2 u acc hle2 hb => round_spec ex _ m2 u acc (exRep_upM hle2 hex) (expr_all _ ex m2 (Nnr _) hv) hb
  rcases okStm_kind hv1 with rfl | rfl | rfl | rfl | rfl | rfl | rfl | rfl | rfl | rfl | rfl
  ·have hv2 : (identL nm' && valueTy ty'.dim ty'.base ty'.name && validE ex) = true := hv1
   simp only [Bbt] at hv2
   have hT : stmtT (.mk 1 nm' ty' tg ex body alt) = (typT ty'.dim ty'.base ty'.name ++ [nm1 nm'] ++ [sg [61]] ++ exprT ex) ++ [sg [59]] := rfl
   rw [hT] at hb ⊢
   exact stmd 1 nm' ty' tN eN a l cp b l2 cp2 m' u acc (dk (by decide)) _ (fun m2 u2 acc2 h2 b2 => smp1 nm' ty' tN eN a l cp b l2 cp2 m2 u2 acc2 (by have := value_dim hv2.1.2; omega) _ (fun m3 u3 acc3 h3 b3 => hX hv2.2 m3 u3 acc3 (leM_tr h2 h3) b3) b2) hb
  ·have hv2 : (targetE tg && validE ex) = true := hv1
   simp only [Bbt] at hv2
   have hT : stmtT (.mk 2 nm' ty' tg ex body alt) = (exprT tg ++ [sg [61]] ++ exprT ex) ++ [sg [59]] := rfl
   rw [hT] at hb ⊢
   exact stmd 2 nm' ty' tN eN a l cp b l2 cp2 m' u acc (dk (by decide)) _ (fun m2 u2 acc2 h2 b2 => smp2 nm' ty' tN eN a l cp b l2 cp2 m2 u2 acc2 _ _ (fun m3 u3 acc3 h3 b3 => hX hv2.2 m3 u3 acc3 (leM_tr h2 h3) b3) (fun m3 u3 acc3 h3 b3 => hG (target_valid hv2.1) m3 u3 acc3 (leM_tr h2 h3) b3) b2) hb
  ·have hv2 : callE ex = true := hv1
   have hT : stmtT (.mk 3 nm' ty' tg ex body alt) = (exprT ex) ++ [sg [59]] := rfl
   rw [hT] at hb ⊢
   exact stmd 3 nm' ty' tN eN a l cp b l2 cp2 m' u acc (dk (by decide)) _ (fun m2 u2 acc2 h2 b2 => smp3 nm' ty' tN eN a l cp b l2 cp2 m2 u2 acc2 _ (fun m3 u3 acc3 h3 b3 => hX (call_valid hv2) m3 u3 acc3 (leM_tr h2 h3) b3) b2) hb
  ·have hv2 : ((decide (body.length ≤ 32) && validSs false body && (decide (alt.length ≤ 32) && validSs false alt)) && validE ex) = true := hv1
   rw [Bbt] at hv2
   by_cases ha : 0 < alt.length
   ·have hT : stmtT (.mk 4 nm' ty' tg ex body alt) = [kw [105, 102]] ++ listT [exprT ex] ++ brT (stmtsT body) ++ [kw [101, 108, 115, 101]] ++ brT (stmtsT alt) := by
     show [kw [105, 102]] ++ listT [exprT ex] ++ brT (stmtsT body) ++ (if 0 < alt.length then [kw [101, 108, 115, 101]] ++ brT (stmtsT alt) else []) = _
     rw [if_pos ha]
     simp only [List.append_assoc]
    rw [hT] at hb ⊢
    exact stm4a nm' ty' tN eN a l cp b l2 cp2 m' u acc (eq_true (by omega)) _ _ _ (fun m3 u3 acc3 h3 b3 => hR hv2.2 m3 u3 acc3 h3 b3) (fun m3 u3 acc3 h3 b3 => hB hv2.1 m3 u3 acc3 h3 b3) (fun m3 u3 acc3 h3 b3 => hA hv2.1 m3 u3 acc3 h3 b3) hb
   ·have hT : stmtT (.mk 4 nm' ty' tg ex body alt) = [kw [105, 102]] ++ listT [exprT ex] ++ brT (stmtsT body) := by
     show [kw [105, 102]] ++ listT [exprT ex] ++ brT (stmtsT body) ++ (if 0 < alt.length then [kw [101, 108, 115, 101]] ++ brT (stmtsT alt) else []) = _
     rw [if_neg ha, List.append_nil]
    rw [hT] at hb ⊢
    exact stm4b nm' ty' tN eN a l cp b l2 cp2 m' u acc (eq_false (by omega)) _ _ (fun m3 u3 acc3 h3 b3 => hR hv2.2 m3 u3 acc3 h3 b3) (fun m3 u3 acc3 h3 b3 => hB hv2.1 m3 u3 acc3 h3 b3) hb
  ·have hv2 : ((decide (body.length ≤ 32) && validSs false body && (decide (alt.length ≤ 32) && validSs false alt)) && validE ex) = true := hv1
   rw [Bbt] at hv2
   have hT : stmtT (.mk 5 nm' ty' tg ex body alt) = [kw [119, 104, 105, 108, 101]] ++ listT [exprT ex] ++ brT (stmtsT body) := rfl
   rw [hT] at hb ⊢
   exact stm5 nm' ty' tN eN a l cp b l2 cp2 m' u acc _ _ (fun m3 u3 acc3 h3 b3 => hR hv2.2 m3 u3 acc3 h3 b3) (fun m3 u3 acc3 h3 b3 => hB hv2.1 m3 u3 acc3 h3 b3) hb
  ·have hv2 : (emptyE ex || validE ex) = true := hv1
   have hkx := (exRep_args hex).1
   by_cases h0 : ex.k = 0
   ·have hT : stmtT (.mk 6 nm' ty' tg ex body alt) = ([kw [114, 101, 116, 117, 114, 110]]) ++ [sg [59]] := by
     show ([kw [114, 101, 116, 117, 114, 110]] ++ (if ex.k ≠ 0 then exprT ex else [])) ++ [sg [59]] = _
     rw [if_neg (by simpa using h0), List.append_nil]
    rw [hT] at hb ⊢
    exact stmd 6 nm' ty' tN eN a l cp b l2 cp2 m' u acc (dk (by decide)) _ (fun m2 u2 acc2 h2 b2 => smp6b nm' ty' tN eN a l cp b l2 cp2 m2 u2 acc2 (eq_true (by rw [hkx]; exact h0)) b2) hb
   ·have hT : stmtT (.mk 6 nm' ty' tg ex body alt) = ([kw [114, 101, 116, 117, 114, 110]] ++ exprT ex) ++ [sg [59]] := by
     show ([kw [114, 101, 116, 117, 114, 110]] ++ (if ex.k ≠ 0 then exprT ex else [])) ++ [sg [59]] = _
     rw [if_pos h0]
    have hv3 : validE ex = true := by
     rw [Bool.or_eq_true] at hv2
     rcases hv2 with g | g
     ·exact absurd (empty_k g) h0
     ·exact g
    rw [hT] at hb ⊢
    exact stmd 6 nm' ty' tN eN a l cp b l2 cp2 m' u acc (dk (by decide)) _ (fun m2 u2 acc2 h2 b2 => smp6a nm' ty' tN eN a l cp b l2 cp2 m2 u2 acc2 (eq_false (by rw [hkx]; exact h0)) _ (fun m3 u3 acc3 h3 b3 => hX hv3 m3 u3 acc3 (leM_tr h2 h3) b3) b2) hb
  ·have hv2 : validE ex = true := hv1
   have hT : stmtT (.mk 7 nm' ty' tg ex body alt) = ([kw [116, 104, 114, 111, 119]] ++ exprT ex) ++ [sg [59]] := rfl
   rw [hT] at hb ⊢
   exact stmd 7 nm' ty' tN eN a l cp b l2 cp2 m' u acc (dk (by decide)) _ (fun m2 u2 acc2 h2 b2 => smp7 nm' ty' tN eN a l cp b l2 cp2 m2 u2 acc2 _ (fun m3 u3 acc3 h3 b3 => hX hv2 m3 u3 acc3 (leM_tr h2 h3) b3) b2) hb
  ·have hv2 : ((decide (body.length ≤ 32) && validSs false body && (decide (alt.length ≤ 32) && validSs false alt)) && identL nm' && valueTy ty'.dim ty'.base ty'.name) = true := hv1
   rw [Bbt, Bbt] at hv2
   have hT : stmtT (.mk 8 nm' ty' tg ex body alt) = [kw [116, 114, 121]] ++ brT (stmtsT body) ++ [kw [99, 97, 116, 99, 104]] ++ [sg [40]] ++ typT ty'.dim ty'.base ty'.name ++ [nm1 nm'] ++ [sg [41]] ++ brT (stmtsT alt) := rfl
   rw [hT] at hb ⊢
   exact stm8 nm' ty' tN eN a l cp b l2 cp2 m' u acc (by have := value_dim hv2.2; omega) _ _ (fun m3 u3 acc3 h3 b3 => hB hv2.1.1 m3 u3 acc3 h3 b3) (fun m3 u3 acc3 h3 b3 => hA hv2.1.1 m3 u3 acc3 h3 b3) hb
  ·have hv2 : ((decide (body.length ≤ 32) && validSs false body && (decide (alt.length ≤ 32) && validSs false alt)) && validE ex) = true := hv1
   rw [Bbt] at hv2
   have hT : stmtT (.mk 9 nm' ty' tg ex body alt) = [kw [115, 121, 110, 99]] ++ listT [exprT ex] ++ brT (stmtsT body) := rfl
   rw [hT] at hb ⊢
   exact stm9 nm' ty' tN eN a l cp b l2 cp2 m' u acc _ _ (fun m3 u3 acc3 h3 b3 => hR hv2.2 m3 u3 acc3 h3 b3) (fun m3 u3 acc3 h3 b3 => hB hv2.1 m3 u3 acc3 h3 b3) hb
  ·have hv2 : (decide (body.length ≤ 32) && validSs false body && (decide (alt.length ≤ 32) && validSs false alt)) = true := hv1
   have hT : stmtT (.mk 10 nm' ty' tg ex body alt) = brT (stmtsT body) := rfl
   rw [hT] at hb ⊢
   exact stm10 nm' ty' tN eN a l cp b l2 cp2 m' u acc _ (fun m3 u3 acc3 h3 b3 => hB hv2 m3 u3 acc3 h3 b3) hb
  ·have hv2 : superE ex = true := hv1
   have hv3 := super_args hv2
   obtain ⟨_, q1, q2, q3, zs, q4, q5⟩ := exRep_args hex
   have hT : stmtT (.mk 11 nm' ty' tg ex body alt) = ([kw [115, 117, 112, 101, 114]] ++ listT (ex.args.map exprT)) ++ [sg [59]] := rfl
   rw [hT] at hb ⊢
   exact stmd 11 nm' ty' tN eN a l cp b l2 cp2 m' u acc (dk (by decide)) _ (fun m2 u2 acc2 h2 b2 => smp11 nm' ty' tN eN a l cp b l2 cp2 m2 u2 acc2 _ (fun m3 u3 acc3 h3 b3 => list_spec ex.args eN.a eN.l eN.cp zs m3 u3 acc3 q1.symm q3 (Rds_upM (leM_tr h2 h3) q4) (exsRep_upM (leM_tr h2 h3) q5) (fun e he => expr_all _ e m3 (Nnr _) (validEs_mem hv3 e he)) b3) b2) hb
end Go.Proofs.YtalalcpefggniaaGreatDoor.E

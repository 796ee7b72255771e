/- The engine, part B: what the symbolic state says of a frame and a world; calls; code. -/
import Derived.Test.YtmkifodpkcmgoaaDoorEngA
namespace Go.Proofs.YtmkifodpkcmgoaaDoor.E
open Go

/-- Where the own blocks lie, and the own slices' headers. -/
structure Hd where
  a : Option Addr
  n : Nat
  c : Nat
def Hd.val (h : Hd) : Value := .slice h.a h.n h.c
structure Vl where
  β : Nat → Nat
  γ : Nat → Nat → Hd
def denA (V : Vl) : SV → Value
  | .v x => x
  | .box k o => .pointer (some ⟨V.β k, o, none⟩)
  | .vec k u => (V.γ k u).val
  | .vp k u o => .pointer ((V.γ k u).a.map (·.add o))
  | _ => undef
def denB (V : Vl) : SV → Value
  | .agg cs => .agg ⟨cs.map (denA V)⟩
  | s => denA V s
def den (V : Vl) : SV → Value
  | .tup l => .tuple ⟨l.map (denB V)⟩
  | s => denB V s

def keepObj (d : Nat) (o o' : Option Obj) : Prop :=
  match o with
  | some (.cells c _ _) => ∃ c' t' f', o' = some (.cells c' t' f') ∧ ∀ j, j < d → c'[j]? = c[j]?
  | o => o' = o
def Mem.le (m m' : Mem) : Prop := ∀ b, m.D b ≤ m'.D b ∧ (0 < m.D b → b < m.w.heap.size ∧ keepObj (m.D b) m.w.heap[b]? m'.w.heap[b]?)

/-- The block of an own slice, if it has one. -/
def Hd.blk (h : Hd) : Option Nat := h.a.map (·.block)
def HBx (V : Vl) (D : Nat → Nat) (w : World) (b : Bx) : Prop :=
  w.heap[V.β b.id]? = some (.cells ⟨b.cs.map (denA V)⟩ b.ty (0, 0)) ∧ D (V.β b.id) = 0
def HVc (V : Vl) (D : Nat → Nat) (w : World) (b : Vc) : Prop :=
  w.ownsRow 0 b.el b.sz (V.γ b.id b.ver).val b.n b.xs ∧ (∀ g, (V.γ b.id b.ver).blk = some g → D g ≤ b.n * b.sz) ∧ 0 < b.sz ∧ ∀ u ∈ b.xs, u.oneCell' = true
def blks (V : Vl) (H : Hp) : List Nat := H.bx.map (fun b => V.β b.id) ++ H.vc.filterMap fun b => (V.γ b.id b.ver).blk
structure HSat (V : Vl) (D : Nat → Nat) (w : World) (H : Hp) : Prop where
  bx : ∀ b ∈ H.bx, HBx V D w b
  vc : ∀ b ∈ H.vc, HVc V D w b
  apart : (blks V H).Nodup
  uniq : (H.vc.map (·.id)).Nodup

/-- What a call may not touch: every block that was there and is none of 'F'. -/
structure Frm (F : Nat → Prop) (w : World) (D : Nat → Nat) (w' : World) (D' : Nat → Nat) : Prop where
  os : w'.os = w.os
  tape : w'.tape = w.tape
  output : w'.output = w.output
  size : w.heap.size ≤ w'.heap.size
  same : ∀ b, b < w.heap.size → ¬ F b → w'.heap[b]? = w.heap[b]? ∧ D' b = D b
def Wf (w : World) (D : Nat → Nat) : Prop := ∀ b, w.heap.size ≤ b → D b = 0

/-- A FUNCTION's CONTRACT. -/
def FnH (P : Program) (f : FuncId) (args : List SV) (H : Hp) (m : Mem) (R : SV → Hp → Mem → Prop) : Prop :=
  ∀ (V : Vl) (w : World) (D : Nat → Nat), Wf w D → m.le ⟨w, D⟩ → HSat V D w H →
    Calls P f ⟨args.map (den V)⟩ w fun e w' => ∃ (r : SV) (V' : Vl) (D' : Nat → Nat) (H' : Hp) (m' : Mem),
      e = .returned (den V' r) ∧ Wf w' D' ∧ HSat V' D' w' H' ∧ (∀ b ∈ H.bx, V'.β b.id = V.β b.id) ∧ (∀ b ∈ H.vc, ∀ u, u ≤ b.ver → V'.γ b.id u = V.γ b.id u) ∧
      Frm (· ∈ blks V H) w D w' D' ∧ (∀ b ∈ blks V' H', b ∈ blks V H ∨ w.heap.size ≤ b) ∧
      Mem.le ⟨w, D⟩ ⟨w', D'⟩ ∧ m.le m' ∧ m'.le ⟨w', D'⟩ ∧ R r H' m'

/-- What is fixed while a function runs: the world in which it began, and what it was handed. -/
structure Ctx where
  w0 : World
  D0 : Nat → Nat
  F : Nat → Prop
  H0 : Hp
  V0 : Vl
  m0 : Mem

/-- Every guard on the path is known. -/
def wfP (rho : List Gd) (p : Pth) : Prop := ∀ x ∈ p, ∃ g, lkG rho x.1 = some g
def verLe : List Vc → Nat → Nat → Prop
  | [], _, _ => True
  | ⟨k', u', _, _, _, _⟩ :: r, k, u => if k' = k then u ≤ u' else verLe r k u
/-- The own blocks that a value names were made already, and in no later state. -/
def okA (nid : Nat) (vc : List Vc) : SV → Prop
  | .v _ => True
  | .box k _ => k < nid
  | .vec k u => k < nid ∧ verLe vc k u
  | .vp k u _ => k < nid ∧ verLe vc k u
  | .agg _ => True
  | .tup _ => True
def okL (nid : Nat) (vc : List Vc) : List SV → Prop
  | [] => True
  | s :: r => okA nid vc s ∧ okL nid vc r
def okB (nid : Nat) (vc : List Vc) : SV → Prop
  | .agg cs => okL nid vc cs
  | s => okA nid vc s
def okT (nid : Nat) (vc : List Vc) : List SV → Prop
  | [] => True
  | s :: r => okB nid vc s ∧ okT nid vc r
def okS (nid : Nat) (vc : List Vc) : SV → Prop
  | .tup l => okT nid vc l
  | s => okB nid vc s
structure SatF (n : Nat) (env : List Ev) (rho : List Gd) (a : Act) (V : Vl) : Prop where
  defers : a.defers = []
  size : a.tmps.size = n
  pth : ∀ e ∈ env, wfP rho e.p
  env : ∀ t p s, wfP rho p → lkE env t p = some s → condP rho p = true → a.tmps[t]? = some (den V s)
  rho : ∀ g ∈ rho, lkG rho g.i = some g ∧ wfP rho g.p ∧ a.tmps[g.slot]? = some (if condP rho g.p = true then .bool g.b.val else undef)
structure SatW (C : Ctx) (bx : List Bx) (vc : List Vc) (nid : Nat) (m : Mem) (V : Vl) (D : Nat → Nat) (w : World) : Prop where
  heap : HSat V D w ⟨bx, vc⟩
  wf : Wf w D
  frm : Frm C.F C.w0 C.D0 w D
  own : ∀ b ∈ blks V ⟨bx, vc⟩, C.F b ∨ C.w0.heap.size ≤ b
  baseB : ∀ b ∈ C.H0.bx, V.β b.id = C.V0.β b.id ∧ b.id < nid
  baseV : ∀ b ∈ C.H0.vc, (∀ u, u ≤ b.ver → V.γ b.id u = C.V0.γ b.id u) ∧ b.id < nid ∧ verLe vc b.id b.ver
  ids : (∀ b ∈ bx, b.id < nid ∧ okL nid vc b.cs) ∧ ∀ b ∈ vc, b.id < nid
  le0 : Mem.le ⟨C.w0, C.D0⟩ ⟨w, D⟩
  m0 : C.m0.le m
  mle : m.le ⟨w, D⟩
structure Sat (C : Ctx) (n : Nat) (st : LS) (a : Act) (V : Vl) (D : Nat → Nat) (w : World) : Prop where
  f : SatF n st.env st.rho a V
  ids : ∀ e ∈ st.env, okS st.nid st.vc e.s
  w : SatW C st.bx st.vc st.nid st.m V D w
theorem Sat.env {C : Ctx} {n : Nat} {st : LS} {a : Act} {V : Vl} {D : Nat → Nat} {w : World} (h : Sat C n st a V D w) : ∀ t p s, wfP st.rho p → lkE st.env t p = some s → condP st.rho p = true → a.tmps[t]? = some (den V s) := h.f.env
theorem Sat.rho {C : Ctx} {n : Nat} {st : LS} {a : Act} {V : Vl} {D : Nat → Nat} {w : World} (h : Sat C n st a V D w) : ∀ g ∈ st.rho, lkG st.rho g.i = some g ∧ wfP st.rho g.p ∧ a.tmps[g.slot]? = some (if condP st.rho g.p = true then .bool g.b.val else undef) := h.f.rho
theorem Sat.heap {C : Ctx} {n : Nat} {st : LS} {a : Act} {V : Vl} {D : Nat → Nat} {w : World} (h : Sat C n st a V D w) : HSat V D w ⟨st.bx, st.vc⟩ := h.w.heap
theorem Sat.mle {C : Ctx} {n : Nat} {st : LS} {a : Act} {V : Vl} {D : Nat → Nat} {w : World} (h : Sat C n st a V D w) : st.m.le ⟨w, D⟩ := h.w.mle
def SatE (C : Ctx) (n : Nat) (st : LS) (a : Act) (w : World) : Prop := st.rho = [] ∧ ∃ V D, Sat C n st a V D w

/-- CODE: from the state 'st' on it ends so that 'Q' holds of the state there. -/
def WP (P : Program) (n : Nat) (c : Code) (Q : Exit → LS → Prop) (st : LS) : Prop :=
  ∀ (C : Ctx) (a : Act) (w : World), SatE C n st a w → c.wp P (fun e a' w' => ∃ st', SatE C n st' a' w' ∧ Q e st') a w
def WPv {P : Program} {n : Nat} {c : Code} {Q : Exit → LS → Prop} (x : A (P, n, c, Q) LS) : Prop := match x with | .mk st => WP P n c Q st
def FnV {P : Program} {f : FuncId} {R : SV → Hp → Mem → Prop} (x : A (P, f, R) (List SV × Hp × Mem)) : Prop := match x with | .mk (args, H, m) => FnH P f args H m R

/-! Operations that act. -/
def plain : SV → Option Value
  | .v x => some x
  | _ => none
def plains : List SV → Option (List Value)
  | [] => some []
  | s :: r => (plain s).bind fun x => (plains r).map (x :: ·)
def plainS : SV → Option Value
  | .v x => some x
  | .agg cs => (plains cs).map fun l => .agg ⟨l⟩
  | _ => none
def plainSs : List SV → Option (List Value)
  | [] => some []
  | s :: r => (plainS s).bind fun x => (plainSs r).map (x :: ·)
/-- Values of one cell each. -/
def okC : List SV → Bool
  | [] => true
  | .v x :: r => x.oneCell' && okC r
  | .box _ _ :: r => okC r
  | .vec _ _ :: r => okC r
  | .vp _ _ _ :: r => okC r
  | .agg _ :: _ => false
  | .tup _ :: _ => false
def updB : List Bx → Nat → List SV → List Bx
  | [], _, _ => []
  | ⟨k', t', cs'⟩ :: r, k, cs => if k' = k then ⟨k', t', cs⟩ :: r else ⟨k', t', cs'⟩ :: updB r k cs
def updV : List Vc → Nat → Vc → List Vc
  | [], _, _ => []
  | ⟨k', u', e', z', n', x'⟩ :: r, k, x => if k' = k then x :: r else ⟨k', u', e', z', n', x'⟩ :: updV r k x
def setV (xs : List Value) (off : Nat) : List Value → List Value
  | [] => xs
  | c :: r => setV (xs.set off c) (off + 1) r

/-- Own slices among values are shown as what they are to a reader. -/
def pubV {st : LS} {K : Value → LS → Prop} (x : A (st, K) Vc) : Prop :=
  match x with
  | .mk b => ∀ (a : Option Addr) (c : Nat) (m1 : Mem), st.m.le m1 → b.n ≤ c → Rds m1 a b.n b.sz b.xs → K (.slice a b.n c) ⟨st.env, st.rho, st.bx, st.vc, st.nid, m1⟩
def pubAx : List SV → (List SV → LS → Prop) → LS → Prop
  | [], K, st => K [] st
  | .vec k u :: r, K, st => withO (.mk (k := fun b : Vc => pubV (.mk (k := (st, fun v st' => pubAx r (fun r' st'' => K (.v v :: r') st'') st')) b)) (lkV st.vc k u))
  | .v x :: r, K, st => pubAx r (fun r' st' => K (.v x :: r') st') st
  | .box k o :: r, K, st => pubAx r (fun r' st' => K (.box k o :: r') st') st
  | .vp k u o :: r, K, st => pubAx r (fun r' st' => K (.vp k u o :: r') st') st
  | .agg cs :: r, K, st => pubAx r (fun r' st' => K (.agg cs :: r') st') st
  | .tup cs :: r, K, st => pubAx r (fun r' st' => K (.tup cs :: r') st') st
def pubA {K : List SV → LS → Prop} (x : A K (LS × List SV)) : Prop := match x with | .mk (st, l) => pubAx l K st
/-- The same for arguments: structs too. -/
def pubSx : List SV → (List SV → LS → Prop) → LS → Prop
  | [], K, st => K [] st
  | .agg cs :: r, K, st => pubAx cs (fun cs' st' => pubSx r (fun r' st'' => K (.agg cs' :: r') st'') st') st
  | s :: r, K, st => pubAx [s] (fun s' st' => pubSx r (fun r' st'' => K (s' ++ r') st'') st') st
def pubS {K : List SV → LS → Prop} (x : A K (LS × List SV)) : Prop := match x with | .mk (st, l) => pubSx l K st

/-- The own blocks that values reach, in the order in which they are met. -/
def addId (acc : List Nat) (k : Nat) : List Nat := if acc.contains k = true then acc else acc ++ [k]
def idsA (acc : List Nat) : List SV → List Nat
  | [] => acc
  | .box k _ :: r => idsA (addId acc k) r
  | .vec k _ :: r => idsA (addId acc k) r
  | .vp k _ _ :: r => idsA (addId acc k) r
  | .v _ :: r => idsA acc r
  | .agg _ :: r => idsA acc r
  | .tup _ :: r => idsA acc r
def cellsOf : Option Bx → List SV
  | some b => b.cs
  | none => []
def idsS (acc : List Nat) : List SV → List Nat
  | [] => acc
  | .agg cs :: r => idsS (idsA acc cs) r
  | s :: r => idsS (idsA acc [s]) r
/-- .. and what the boxes among them hold (two steps deep). -/
def idsB (bx : List Bx) : List Nat → List Nat → List Nat
  | acc, [] => acc
  | acc, k :: r => idsB bx (idsA acc (cellsOf (lkB bx k))) r
def closeIds (bx : List Bx) (l : List Nat) : List Nat := idsB bx (idsB bx l l) (idsB bx l l)
def idxOf : List Nat → Nat → Option Nat
  | [], _ => none
  | j :: r, i => if j = i then some 0 else (idxOf r i).map (· + 1)
def ren (L : List Nat) (base : Nat) (i : Nat) : Nat := ((idxOf L i).map fun j => j).getD (base + i)
def unren (L : List Nat) (base : Nat) (j : Nat) : Nat := (L[j]?).getD (base + j)
def renA (ρ : Nat → Nat) : SV → SV
  | .box k o => .box (ρ k) o
  | .vec k u => .vec (ρ k) u
  | .vp k u o => .vp (ρ k) u o
  | .v x => .v x
  | .agg cs => .agg cs
  | .tup cs => .tup cs
def renB (ρ : Nat → Nat) : SV → SV
  | .agg cs => .agg (cs.map (renA ρ))
  | s => renA ρ s
def renS (ρ : Nat → Nat) : SV → SV
  | .tup l => .tup (l.map (renB ρ))
  | s => renB ρ s
def renBx (ρ : Nat → Nat) : Bx → Bx | ⟨k, t, cs⟩ => ⟨ρ k, t, cs.map (renA ρ)⟩
def renVc (ρ : Nat → Nat) : Vc → Vc | ⟨k, u, e, z, n, xs⟩ => ⟨ρ k, u, e, z, n, xs⟩
def lkVi : List Vc → Nat → Option Vc
  | [], _ => none
  | ⟨k', u', e', z', n', x'⟩ :: r, i => if k' = i then some ⟨k', u', e', z', n', x'⟩ else lkVi r i
def pickBx (L : List Nat) : List Bx → List Bx
  | [] => []
  | ⟨k', t', cs'⟩ :: r => if L.contains k' = true then ⟨k', t', cs'⟩ :: pickBx L r else pickBx L r
def pickVc (L : List Nat) : List Vc → List Vc
  | [] => []
  | ⟨k', u', e', z', n', x'⟩ :: r => if L.contains k' = true then ⟨k', u', e', z', n', x'⟩ :: pickVc L r else pickVc L r
def dropBx (L : List Nat) : List Bx → List Bx
  | [] => []
  | ⟨k', t', cs'⟩ :: r => if L.contains k' = true then dropBx L r else ⟨k', t', cs'⟩ :: dropBx L r
def dropVc (L : List Nat) : List Vc → List Vc
  | [] => []
  | ⟨k', u', e', z', n', x'⟩ :: r => if L.contains k' = true then dropVc L r else ⟨k', u', e', z', n', x'⟩ :: dropVc L r
def topB : List Bx → Nat | [] => 0 | ⟨k, _, _⟩ :: r => max (k + 1) (topB r)
def topV : List Vc → Nat | [] => 0 | ⟨k, _, _, _, _, _⟩ :: r => max (k + 1) (topV r)

structure Cfg where
  own : FuncId → Bool
  pure : FuncId → Option (List Value → Option (Prop × Value))

/-- What the caller's state is behind a call that was handed the own blocks 'L'. -/
def backSt (st : LS) (L : List Nat) (H' : Hp) (m' : Mem) : LS :=
  ⟨st.env, st.rho, H'.bx.map (renBx (unren L st.nid)) ++ dropBx L st.bx, H'.vc.map (renVc (unren L st.nid)) ++ dropVc L st.vc, st.nid + max (topB H'.bx) (topV H'.vc), m'⟩
/-- What is asked of the own blocks that go into a call. -/
def ndL : List Nat → Prop
  | [] => True
  | k :: r => r.contains k = false ∧ ndL r
def ltL (n : Nat) : List Nat → Prop
  | [] => True
  | k :: r => k < n ∧ ltL n r
def inA (L : List Nat) : SV → Prop
  | .v _ => True
  | .box k _ => L.contains k = true
  | .vec k _ => L.contains k = true
  | .vp k _ _ => L.contains k = true
  | .agg _ => True
  | .tup _ => False
def inL (L : List Nat) : List SV → Prop
  | [] => True
  | s :: r => inA L s ∧ inL L r
def inB (L : List Nat) : SV → Prop
  | .agg cs => inL L cs
  | s => inA L s
def inBs (L : List Nat) : List SV → Prop
  | [] => True
  | s :: r => inB L s ∧ inBs L r
def inBx (L : List Nat) : List Bx → Prop
  | [] => True
  | ⟨_, _, cs⟩ :: r => inL L cs ∧ inBx L r
def okIn (st : LS) (L : List Nat) (args : List SV) : Prop := ndL L ∧ ltL st.nid L ∧ inBs L args ∧ inBx L (pickBx L st.bx)
/-- .. and of what comes back: the ids are known ones or new ones, and no own slice went back to an earlier state. -/
def bkA (nB nV : List Nat) (len : Nat) : SV → Prop
  | .v _ => True
  | .box j _ => if j < len then nB.contains j = true else True
  | .vec j _ => if j < len then nV.contains j = true else True
  | .vp j _ _ => if j < len then nV.contains j = true else True
  | .agg _ => True
  | .tup _ => True
def bkL (nB nV : List Nat) (len : Nat) : List SV → Prop
  | [] => True
  | s :: r => bkA nB nV len s ∧ bkL nB nV len r
def bkB (nB nV : List Nat) (len : Nat) : SV → Prop
  | .agg cs => bkL nB nV len cs
  | s => bkA nB nV len s
def bkT (nB nV : List Nat) (len : Nat) : List SV → Prop
  | [] => True
  | s :: r => bkB nB nV len s ∧ bkT nB nV len r
def bkS (nB nV : List Nat) (len : Nat) : SV → Prop
  | .tup l => bkT nB nV len l
  | s => bkB nB nV len s
def bkBx (nB nV : List Nat) (len : Nat) : List Bx → Prop
  | [] => True
  | ⟨k, _, cs⟩ :: r => (if k < len then nB.contains k = true else True) ∧ bkL nB nV len cs ∧ bkBx nB nV len r
def bkVc (nV : List Nat) (len : Nat) : List Vc → Prop
  | [] => True
  | ⟨k, _, _, _, _, _⟩ :: r => (if k < len then nV.contains k = true else True) ∧ bkVc nV len r
def okBxs (nid : Nat) (vc : List Vc) : List Bx → Prop
  | [] => True
  | ⟨_, _, cs⟩ :: r => okL nid vc cs ∧ okBxs nid vc r
def verBk (L : List Nat) (vc' : List Vc) : List Vc → Prop
  | [] => True
  | ⟨k, u, _, _, _, _⟩ :: r => (if L.contains k = true then verLe vc' k u else True) ∧ verBk L vc' r
def idsBx : List Bx → List Nat
  | [] => []
  | ⟨k, _, _⟩ :: r => k :: idsBx r
def idsVc : List Vc → List Nat
  | [] => []
  | ⟨k, _, _, _, _, _⟩ :: r => k :: idsVc r
def hpIn (st : LS) (L : List Nat) : Hp := ⟨(pickBx L st.bx).map (renBx (ren L 0)), (pickVc L st.vc).map (renVc (ren L 0))⟩
def okBack2 {L : List Nat} {r : SV} {H' : Hp} (x : A (L, r, H') (LS × LS × Hp)) : Prop :=
  match x with
  | .mk (st, st', Hi) => bkS (idsBx Hi.bx) (idsVc Hi.vc) L.length r ∧ bkBx (idsBx Hi.bx) (idsVc Hi.vc) L.length H'.bx ∧ bkVc (idsVc Hi.vc) L.length H'.vc ∧
      okS st'.nid st'.vc (renS (unren L st.nid) r) ∧ okBxs st'.nid st'.vc (H'.bx.map (renBx (unren L st.nid))) ∧ verBk L (H'.vc.map (renVc (unren L st.nid))) st.vc
def okBack (st : LS) (L : List Nat) (r : SV) (H' : Hp) (m' : Mem) : Prop := okBack2 (.mk (k := (L, r, H')) (st, backSt st L H' m', hpIn st L))
def callL {P : Program} {f : FuncId} {st : LS} {args : List SV} {K : SV → LS → Prop} (x : A (P, f, st, args, K) (List Nat)) : Prop :=
  match x with
  | .mk L => okIn st L args ∧ FnV (.mk (k := (P, f, fun r H' m' => okBack st L r H' m' ∧ K (renS (unren L st.nid) r) (backSt st L H' m')))
      (args.map (renS (ren L 0)), hpIn st L, st.m))
def callH {P : Program} {f : FuncId} {K : SV → LS → Prop} (x : A (P, f, K) (LS × List SV)) : Prop :=
  match x with
  | .mk (st, args) => callL (.mk (k := (P, f, st, args, K)) (closeIds st.bx (idsS [] args)))
def callO {P : Program} {f : FuncId} {st : LS} {args : List SV} {K : SV → LS → Prop} (x : A (P, f, st, args, K) Bool) : Prop :=
  match x with
  | .mk true => callH (.mk (k := (P, f, K)) (st, args))
  | .mk false => pubS (.mk (k := fun args' st' => callH (.mk (k := (P, f, K)) (st', args'))) (st, args))

def rdOs (st : LS) (p : Pth) : List Operand → Option (List SV)
  | [] => some []
  | x :: r => (rdO st p x).bind fun s => (rdOs st p r).map (s :: ·)
def partsC (sz : Nat) (st : LS) (p : Pth) : List (Nat × Operand) → List SV → Option (List SV)
  | [], cs => some cs
  | (i, x) :: r, cs => ((rdO st p x).bind svCells).bind fun l => if l.length = sz then (if i * sz + sz ≤ cs.length then partsC sz st p r (setC cs (i * sz) l) else none) else none

/-- The same where the parts come one behind the other, none left out. -/
def partsS (sz : Nat) (st : LS) (p : Pth) : Nat → List (Nat × Operand) → Option (List SV)
  | _, [] => some []
  | i, (j, x) :: r => if j = i then ((rdO st p x).bind svCells).bind fun l => if l.length = sz then (partsS sz st p (i + 1) r).map (l ++ ·) else none else none
def partsG (sz : Nat) (st : LS) (p : Pth) (parts : List (Nat × Operand)) (len : Nat) (z : List SV) : Option (List SV) → Option (List SV)
  | some cs => if cs.length = len * sz then some cs else partsC sz st p parts (List.replicate len z).flatten
  | none => partsC sz st p parts (List.replicate len z).flatten

def bumpV : Vc → Nat → List Value → Vc | ⟨k, u, e, z, _, _⟩, n, xs => ⟨k, u + 1, e, z, n, xs⟩
def room (n by_ : Nat) : Prop := n * by_ ≤ 140737488355328 ∧ n ≤ maxLen

/-- append's second argument: how many elements, and their cells. -/
def appSrc {P : Program} {tx : TypeId} {sz : Nat} {K : Nat → List Value → Prop} (x : A (P, tx, sz, K) (LS × SV)) : Prop :=
  match x with
  | .mk (st, .vec k u) => withO (.mk (k := fun _ : TypeId => withO (.mk (k := fun b : Vc => b.sz = sz ∧ K b.n b.xs) (lkV st.vc k u))) (elT P tx))
  | .mk (st, .v (.slice a n _)) => withO (.mk (k := fun _ : TypeId => ∃ xs, Rds st.m a n sz xs ∧ (∀ u ∈ xs, u.oneCell' = true) ∧ K n xs) (elT P tx))
  | .mk (_, .v (.string s)) => P.underlying tx = some .string ∧ sz = 1 ∧ K (tl s).length (u8s (tl s))
  | _ => False
def lApp {P : Program} {e tx : TypeId} {y : SV} {K : SV → LS → Prop} (x : A (P, e, tx, y, K) (LS × SV)) : Prop :=
  match x with
  | .mk (st, .vec k u) => withO (.mk (k := fun b : Vc => b.sz = szT P e ∧ b.el = e ∧ 0 < szT P e ∧ withO (.mk (k := fun z : List SV => z.length = szT P e ∧ appSrc (.mk (k := (P, tx, szT P e, fun n xs => room (b.n + n) (byT P e) ∧
      K (.vec k (u + 1)) ⟨st.env, st.rho, st.bx, updV st.vc k (bumpV b (b.n + n) (b.xs ++ xs)), st.nid, st.m⟩)) (st, y))) (zeroO P e))) (lkV st.vc k u))
  | .mk (st, .v (.slice none 0 0)) => 0 < szT P e ∧ withO (.mk (k := fun z : List SV => z.length = szT P e ∧ appSrc (.mk (k := (P, tx, szT P e, fun n xs => room n (byT P e) ∧
      K (.vec st.nid 0) ⟨st.env, st.rho, st.bx, ⟨st.nid, 0, e, szT P e, n, xs⟩ :: st.vc, st.nid + 1, st.m⟩)) (st, y))) (zeroO P e))
  | _ => False
def lSto {sz : Nat} {cs : List SV} {K : SV → LS → Prop} (x : A (sz, cs, K) (LS × SV)) : Prop :=
  match x with
  | .mk (st, .box k o) => withO (.mk (k := fun b : Bx => 0 < sz ∧ cs.length = sz ∧ okC cs = true ∧ okL st.nid st.vc cs ∧ o + cs.length ≤ b.cs.length ∧ K (.v undef) ⟨st.env, st.rho, updB st.bx k (setC b.cs o cs), st.vc, st.nid, st.m⟩) (lkB st.bx k))
  | _ => False
def lMk {P : Program} {e : TypeId} {z : List Value} {K : SV → LS → Prop} (x : A (P, e, z, K) (LS × SV × SV)) : Prop :=
  match x with
  | .mk (st, .v (.int _ l), .v (.int _ cp)) => 0 ≤ l ∧ l ≤ cp ∧ room cp.toNat (byT P e) ∧ z.length = szT P e ∧ 0 < szT P e ∧ okC (z.map .v) = true ∧
      K (.vec st.nid 0) ⟨st.env, st.rho, st.bx, ⟨st.nid, 0, e, szT P e, l.toNat, (List.replicate l.toNat z).flatten⟩ :: st.vc, st.nid + 1, st.m⟩
  | _ => False
/-- A function with a body of Go's (proved for each function that is called). -/
def fnOk (P : Program) (f : FuncId) : Bool :=
  match P.funcs[f]? with
  | some fn => !(fn.name == "runtime.NumGoroutine") && fn.body.isSome
  | none => false
def lCall {c : Cfg} {P : Program} {l : List SV} {K : SV → LS → Prop} (x : A (c, P, l, K) (LS × SV)) : Prop :=
  match x with
  | .mk (st, .v (.func (.func f) ⟨[]⟩ ⟨[]⟩)) => fnOk P f = true ∧ callO (.mk (k := (P, f, st, l, K)) (c.own f))
  | _ => False

def lOp {c : Cfg} {P : Program} {op : Op} {K : SV → LS → Prop} (x : A (c, P, op, K) (LS × Pth)) : Prop :=
  match op, x with
  | .alloc t, .mk (st, _) => withO (.mk (k := fun cs : List SV => okL st.nid st.vc cs ∧ K (.box st.nid 0) ⟨st.env, st.rho, ⟨st.nid, t, cs⟩ :: st.bx, st.vc, st.nid + 1, st.m⟩) (zeroO P t))
  | .box t x, .mk (st, p) => withO (.mk (k := fun cs : List SV => okL st.nid st.vc cs ∧ K (.box st.nid 0) ⟨st.env, st.rho, ⟨st.nid, t, cs⟩ :: st.bx, st.vc, st.nid + 1, st.m⟩) ((rdO st p x).bind svCells))
  | .store t a x, .mk (st, p) => withO (.mk (k := fun a : SV => withO (.mk (k := fun cs : List SV => lSto (.mk (k := (szT P t, cs, K)) (st, a))) ((rdO st p x).bind svCells))) (rdO st p a))
  | .buildSlice t len parts, .mk (st, p) => withO (.mk (k := fun e : TypeId => withO (.mk (k := fun z : List SV => z.length = szT P e ∧ 0 < szT P e ∧ len * szT P e ≤ 16777216 ∧
      withO (.mk (k := fun cs : List SV => pubA (.mk (k := fun cs' st' => withO (.mk (k := fun l : List Value => okC cs' = true ∧
        K (.vec st'.nid 0) ⟨st'.env, st'.rho, st'.bx, ⟨st'.nid, 0, e, szT P e, len, l⟩ :: st'.vc, st'.nid + 1, st'.m⟩) (plains cs'))) (st, cs)))
        (partsG (szT P e) st p parts.toList len z (partsS (szT P e) st p 0 parts.toList)))) (zeroO P e))) (elT P t))
  | .call { callee := .builtin .append, args := ⟨[s, x]⟩, argTypes := ⟨[t, tx]⟩ }, .mk (st, p) =>
      withO (.mk (k := fun s : SV => withO (.mk (k := fun y : SV => withO (.mk (k := fun e : TypeId => lApp (.mk (k := (P, e, tx, y, K)) (st, s))) (elT P t))) (rdO st p x))) (rdO st p s))
  | .makeSlice t l cp, .mk (st, p) => withO (.mk (k := fun l : SV => withO (.mk (k := fun cp : SV => withO (.mk (k := fun e : TypeId => withO (.mk (k := fun z : List Value => lMk (.mk (k := (P, e, z, K)) (st, l, cp))) ((zeroO P e).bind plains))) (elT P t))) (rdO st p cp))) (rdO st p l))
  | .call { callee := .value f, args, .. }, .mk (st, p) => withO (.mk (k := fun l : List SV => withO (.mk (k := fun f : SV => lCall (.mk (k := (c, P, l, K)) (st, f))) (rdO st p f))) (rdOs st p args.toList))
  | _, _ => False

/-- Quiet; a call of a function that is known to be one of values; an act. -/
inductive OpK where
  | qt
  | pu (F : List Value → Option (Prop × Value))
  | ac
def pk : Option (List Value → Option (Prop × Value)) → OpK
  | some F => .pu F
  | none => .ac
def opK (c : Cfg) : Op → OpK
  | .move _ | .assign _ | .pick .. | .nilCheck _ | .binOp .. | .unOp .. | .convert .. | .fieldAddr .. | .field .. | .indexAddr .. | .index .. | .slice .. | .load .. | .extract .. | .build .. => .qt
  | .call { callee := .builtin .len, .. } => .qt
  | .call { callee := .builtin .min, .. } => .qt
  | .call { callee := .value (.func f), .. } => pk (c.pure f)
  | _ => .ac
def callArgs : Op → List Operand
  | .call { args, .. } => args.toList
  | _ => []
def qCall {F : List Value → Option (Prop × Value)} {u : Prop → Prop} {K : SV → Prop} (x : A (F, u, K) (Option (List SV))) : Prop :=
  match x with
  | .mk l => withO (.mk (k := fun y : Prop × Value => u y.1 ∧ K (.v y.2)) ((l.bind plainSs).bind F))

/-! A region, in the order of the text. -/
def fixG : List Gd → Nat → Bool → List Gd
  | [], _, _ => []
  | ⟨i', t', p', b'⟩ :: r, j, x => if i' = j then ⟨i', t', p', .lit x⟩ :: fixG r j x else ⟨i', t', p', b'⟩ :: fixG r j x
/-- Decide the guard: each Bool on the path that is not known is split upon. -/
def forkG {j : Nat} {w : Bool} {dead live : LS → Prop} (x : A (j, w, dead, live) (LS × Gd)) : Prop :=
  match w, x with
  | true, .mk (st, ⟨_, t, q, .sym b⟩) =>
      (b = true → live ⟨⟨t, q, .v (.bool true)⟩ :: st.env, fixG st.rho j true, st.bx, st.vc, st.nid, st.m⟩) ∧
      (b = false → dead ⟨⟨t, q, .v (.bool false)⟩ :: st.env, fixG st.rho j false, st.bx, st.vc, st.nid, st.m⟩)
  | false, .mk (st, ⟨_, t, q, .sym b⟩) =>
      (b = false → live ⟨⟨t, q, .v (.bool false)⟩ :: st.env, fixG st.rho j false, st.bx, st.vc, st.nid, st.m⟩) ∧
      (b = true → dead ⟨⟨t, q, .v (.bool true)⟩ :: st.env, fixG st.rho j true, st.bx, st.vc, st.nid, st.m⟩)
  | true, .mk (st, ⟨_, _, _, .lit true⟩) => live st
  | false, .mk (st, ⟨_, _, _, .lit false⟩) => live st
  | true, .mk (st, ⟨_, _, _, .lit false⟩) => dead st
  | false, .mk (st, ⟨_, _, _, .lit true⟩) => dead st
def forkPx : Pth → (LS → Prop) → (LS → Prop) → LS → Prop
  | [], _, live, st => live st
  | (j, w) :: p, dead, live, st => forkPx p dead (fun st' => withO (.mk (k := fun g : Gd => forkG (.mk (k := (j, w, dead, live)) (st', g))) (lkG st'.rho j))) st
def forkP {dead live : LS → Prop} (x : A (dead, live) (LS × Pth)) : Prop := match x with | .mk (st, p) => forkPx p dead live st

def put (st : LS) (d : Option Nat) (p : Pth) (s : SV) : LS :=
  match d with
  | some d => ⟨⟨d, p, s⟩ :: st.env, st.rho, st.bx, st.vc, st.nid, st.m⟩
  | none => st
/-- A Bool that was moved may be a guard. -/
def noteG (st : LS) (i : Nat) (d : Option Nat) (p : Pth) (mv : Bool) (s : SV) : LS :=
  match mv, d, s with
  | true, some d, .v (.bool b) => ⟨st.env, ⟨i, d, p, .sym b⟩ :: st.rho, st.bx, st.vc, st.nid, st.m⟩
  | _, _, _ => st
def isMove : Op → Bool
  | .move _ => true
  | _ => false
def pathOf (st : LS) : Option (Nat × Bool) → Option Pth
  | none => some []
  | some (j, w) => (lkG st.rho j).map fun g => (j, w) :: g.p
def noteD (st : LS) (i : Nat) (d : Option Nat) (p : Pth) (mv : Bool) : LS :=
  match mv, d with
  | true, some d => ⟨st.env, ⟨i, d, p, .sym false⟩ :: st.rho, st.bx, st.vc, st.nid, st.m⟩
  | _, _ => st
def one3 {c : Cfg} {P : Program} {i : Nat} {o : Oper} {K : LS → Prop} {q : OpK} {dead : Bool} (x : A (c, P, i, o, K, q, dead) (LS × Pth)) : Prop :=
  match dead, q, x with
  | true, _, .mk (st, p) => K (noteD (put st o.dst p (.v undef)) i o.dst p (isMove o.op))
  | false, .qt, .mk (st, p) => qOp (.mk (k := (P, o.op, fun s => okS st.nid st.vc s ∧ K (noteG (put st o.dst p s) i o.dst p (isMove o.op) s))) (st, p))
  | false, .pu F, .mk (st, p) => qCall (.mk (k := (F, und st p, fun s => K (put st o.dst p s))) (rdOs st p (callArgs o.op)))
  | false, .ac, .mk (st, p) => forkP (.mk (k := (fun st' => K (put st' o.dst p (.v undef)), fun st' => lOp (.mk (k := (c, P, o.op, fun s st'' => okS st''.nid st''.vc s ∧ K (put st'' o.dst p s))) (st', p)))) (st, p))
/-- Is the slot that is written a guard's? -/
def hitG : List Gd → Option Nat → Bool
  | [], _ => false
  | _ :: _, none => false
  | ⟨_, t', _, _⟩ :: r, some d => if t' = d then true else hitG r (some d)
def one2 {c : Cfg} {P : Program} {i : Nat} {o : Oper} {K : LS → Prop} {st : LS} {p : Pth} (x : A (c, P, i, o, K, st, p) (OpK × Bool × Bool)) : Prop :=
  match x with
  | .mk (q, dead, false) => one3 (.mk (k := (c, P, i, o, K, q, dead)) (st, p))
  | .mk (_, _, true) => False
def one {c : Cfg} {P : Program} {i : Nat} {o : Oper} {K : LS → Prop} (x : A (c, P, i, o, K) (LS × Pth)) : Prop :=
  match x with
  | .mk (st, p) => one2 (.mk (k := (c, P, i, o, K, st, p)) (opK c o.op, deadP st.rho p, hitG st.rho o.dst))
/-- What is known behind a region: guarded temporaries are forgotten. -/
def memN : List Nat → Nat → Bool
  | [], _ => false
  | y :: r, x => if y = x then true else memN r x
def cleanE : List Nat → List Ev → List Ev
  | _, [] => []
  | dead, ⟨t, [], s⟩ :: r => if memN dead t = true then cleanE dead r else ⟨t, [], s⟩ :: cleanE dead r
  | dead, ⟨t, _ :: _, _⟩ :: r => cleanE (t :: dead) r
def clean (st : LS) : LS := ⟨cleanE [] st.env, [], st.bx, st.vc, st.nid, st.m⟩
def vcLx (c : Cfg) (P : Program) : List Oper → Nat → (LS → Prop) → LS → Prop
  | [], _, K, st => K (clean st)
  | o :: r, i, K, st => withO (.mk (k := fun p : Pth => one (.mk (k := (c, P, i, o, fun st' => vcLx c P r (i + 1) K st')) (st, p))) (pathOf st o.guard))
def vcL {c : Cfg} {P : Program} {i : Nat} {l : List Oper} {K : LS → Prop} (x : A (c, P, i, l, K) LS) : Prop := match x with | .mk st => vcLx c P l i K st

/-! Code. -/
def svBool : SV → Option Bool
  | .v (.bool b) => some b
  | _ => none
def mayN : Code → Bool
  | .ret | .exit _ | .goto _ | .loop _ => false
  | .seq a b => mayN a && mayN b
  | .cond _ a b => mayN a || mayN b
  | _ => true
def thenQ (K : LS → Prop) (Q : Exit → LS → Prop) : Exit → LS → Prop
  | .normal, st => K st
  | e, st => Q e st
def jumpQ (l : Nat) (J : LS → Prop) (Q : Exit → LS → Prop) : Exit → LS → Prop
  | .goto l', st => l' = l ∧ J st
  | e, st => Q e st
def blockQ (id : Nat) (Q : Exit → LS → Prop) : Exit → LS → Prop
  | .exit id', st => if id' = id then Q .normal st else Q (.exit id') st
  | e, st => Q e st
def vcCx (c : Cfg) (P : Program) (n : Nat) : Code → (Exit → LS → Prop) → LS → Prop
  | .skip, Q, st => Q .normal st
  | .region _ ⟨ops⟩ false, Q, st => vcL (.mk (k := (c, P, 0, ops, Q .normal)) st)
  | .seq (.cond x a b) rest, Q, st =>
    match mayN a && mayN b with
    | true => WPv (.mk (k := (P, n, .seq (.cond x a b) rest, Q)) st)
    | false => withO (.mk (k := fun t : Bool => (t = true → vcCx c P n a (thenQ (vcCx c P n rest Q) Q) st) ∧ (t = false → vcCx c P n b (thenQ (vcCx c P n rest Q) Q) st)) ((rdO st [] x).bind svBool))
  | .seq a b, Q, st => vcCx c P n a (thenQ (vcCx c P n b Q) Q) st
  | .cond x a b, Q, st => withO (.mk (k := fun t : Bool => (t = true → vcCx c P n a Q st) ∧ (t = false → vcCx c P n b Q st)) ((rdO st [] x).bind svBool))
  | .block id a, Q, st => vcCx c P n a (blockQ id Q) st
  | .exit id, Q, st => Q (.exit id) st
  | .ret, Q, st => Q .ret st
  | .label _, Q, st => Q .normal st
  | .goto l, Q, st => Q (.goto l) st
  | x, Q, st => WPv (.mk (k := (P, n, x, Q)) st)
def vcC {c : Cfg} {P : Program} {n : Nat} {x : Code} {Q : Exit → LS → Prop} (y : A (c, P, n, x, Q) LS) : Prop := match y with | .mk st => vcCx c P n x Q st
def vcJ {c : Cfg} {P : Program} {n : Nat} {t e : Code} {Q : Exit → LS → Prop} {st : LS} (y : A (c, P, n, t, e, Q, st) Bool) : Prop :=
  match y with
  | .mk b => (b = true → vcC (.mk (k := (c, P, n, t, Q)) st)) ∧ (b = false → vcC (.mk (k := (c, P, n, e, Q)) st))

/-! Results, loops, joins. -/
def ret1 : List SV → SV
  | [x] => x
  | l => .tup l
def retC (P : Program) (st : LS) (t : TypeId) : Option SV → Option SV
  | some (.box k o) => (lkB st.bx k).bind fun b => (aggN P t).bind fun ag => takeC b.cs o ag
  | _ => none
def retV (P : Program) (st : LS) : List ResultVar → Option (List SV)
  | [] => some []
  | .tmp t :: r => ((lkE st.env t []).bind noTup).bind fun s => (retV P st r).map (s :: ·)
  | .cell a t :: r => ((retC P st t (lkE st.env a [])).bind noTup).bind fun s => (retV P st r).map (s :: ·)
def endH {st : LS} {l : List SV} {R : SV → Hp → Mem → Prop} (x : A (st, l, R) (List Nat)) : Prop :=
  match x with
  | .mk L => R (ret1 l) ⟨pickBx L st.bx, pickVc L st.vc⟩ st.m
def endQ (P : Program) (res : List ResultVar) (keep : List Nat) (R : SV → Hp → Mem → Prop) : Exit → LS → Prop
  | .ret, st => withO (.mk (k := fun l : List SV => endH (.mk (k := (st, l, R)) (closeIds st.bx (idsS keep l)))) (retV P st res))
  | .normal, st => withO (.mk (k := fun l : List SV => endH (.mk (k := (st, l, R)) (closeIds st.bx (idsS keep l)))) (retV P st res))
  | _, _ => False
def env0 (i : Nat) : List SV → List Ev
  | [] => []
  | s :: r => ⟨i, [], s⟩ :: env0 (i + 1) r
def ids0 (H : Hp) : List Nat := H.bx.map (·.id) ++ H.vc.map (·.id)
def st0 (args : List SV) (H : Hp) (m : Mem) : LS := ⟨env0 0 args, [], H.bx, H.vc, max (topB H.bx) (topV H.vc), m⟩

/-! What a function starts from; the head of a loop. -/
def okSs (nid : Nat) (vc : List Vc) : List SV → Prop
  | [] => True
  | s :: r => okS nid vc s ∧ okSs nid vc r
def okArgs (args : List SV) (H : Hp) : Prop := okSs (max (topB H.bx) (topV H.vc)) H.vc args ∧ okBxs (max (topB H.bx) (topV H.vc)) H.vc H.bx
def okEs (nid : Nat) (vc : List Vc) : List Ev → Prop
  | [] => True
  | ⟨_, _, s⟩ :: r => okS nid vc s ∧ okEs nid vc r
def okHB (nid : Nat) (vc : List Vc) : List Bx → Prop
  | [] => True
  | ⟨k, _, cs⟩ :: r => k < nid ∧ okL nid vc cs ∧ okHB nid vc r
def okHV (nid : Nat) : List Vc → Prop
  | [] => True
  | ⟨k, _, _, _, _, _⟩ :: r => k < nid ∧ okHV nid r
def okHd (st : LS) : Prop := okEs st.nid st.vc st.env ∧ okHB st.nid st.vc st.bx ∧ okHV st.nid st.vc
def mEnv (st : LS) : List Ev → Prop
  | [] => True
  | ⟨t, p, s⟩ :: r => lkE st.env t [] = some s ∧ p = [] ∧ mEnv st r
def mBx (st : LS) : List Bx → Prop
  | [] => True
  | ⟨k, t, cs⟩ :: r => lkB st.bx k = some ⟨k, t, cs⟩ ∧ lkB r k = none ∧ mBx st r
def mVc (st : LS) : List Vc → Prop
  | [] => True
  | ⟨k, u, e, z, n, xs⟩ :: r => lkVi st.vc k = some ⟨k, u, e, z, n, xs⟩ ∧ lkVi r k = none ∧ mVc st r
def leM (m m' : Mem) : Prop := m = m' ∨ m.le m'
theorem leM_self (m : Mem) : leM m m = True := eq_true (.inl rfl)
/-- The first state is at least what the second says. -/
def Match (st st' : LS) : Prop := mEnv st st'.env ∧ st'.rho = [] ∧ mBx st st'.bx ∧ mVc st st'.vc ∧ leM st'.m st.m

section
variable {c : Cfg} {P : Program} {n i : Nat}
theorem vcL_nil {K : LS → Prop} {st : LS} : vcL (.mk (k := (c, P, i, [], K)) st) = K (clean st) := rfl
theorem vcL_cons {K : LS → Prop} {st : LS} {o : Oper} {r : List Oper} : vcL (.mk (k := (c, P, i, o :: r, K)) st) =
    withO (.mk (k := fun p : Pth => one (.mk (k := (c, P, i, o, fun st' => vcL (.mk (k := (c, P, i + 1, r, K)) st'))) (st, p))) (pathOf st o.guard)) := rfl
theorem pubA_nil {K : List SV → LS → Prop} {st : LS} : pubA (.mk (k := K) (st, [])) = K [] st := rfl
theorem pubA_vec {K : List SV → LS → Prop} {st : LS} {k u : Nat} {r : List SV} : pubA (.mk (k := K) (st, .vec k u :: r)) =
    withO (.mk (k := fun b : Vc => pubV (.mk (k := (st, fun v st' => pubA (.mk (k := fun r' st'' => K (.v v :: r') st'') (st', r)))) b)) (lkV st.vc k u)) := rfl
theorem pubA_v {K : List SV → LS → Prop} {st : LS} {x : Value} {r : List SV} : pubA (.mk (k := K) (st, .v x :: r)) = pubA (.mk (k := fun r' st' => K (.v x :: r') st') (st, r)) := rfl
theorem pubA_box {K : List SV → LS → Prop} {st : LS} {k u : Nat} {r : List SV} : pubA (.mk (k := K) (st, .box k u :: r)) = pubA (.mk (k := fun r' st' => K (.box k u :: r') st') (st, r)) := rfl
theorem pubA_vp {K : List SV → LS → Prop} {st : LS} {k u o : Nat} {r : List SV} : pubA (.mk (k := K) (st, .vp k u o :: r)) = pubA (.mk (k := fun r' st' => K (.vp k u o :: r') st') (st, r)) := rfl
theorem pubS_nil {K : List SV → LS → Prop} {st : LS} : pubS (.mk (k := K) (st, [])) = K [] st := rfl
theorem pubS_agg {K : List SV → LS → Prop} {st : LS} {cs r : List SV} : pubS (.mk (k := K) (st, .agg cs :: r)) =
    pubA (.mk (k := fun cs' st' => pubS (.mk (k := fun r' st'' => K (.agg cs' :: r') st'') (st', r))) (st, cs)) := rfl
theorem pubS_v {K : List SV → LS → Prop} {st : LS} {x : Value} {r : List SV} : pubS (.mk (k := K) (st, .v x :: r)) = pubS (.mk (k := fun r' st' => K (.v x :: r') st') (st, r)) := rfl
theorem pubS_box {K : List SV → LS → Prop} {st : LS} {k u : Nat} {r : List SV} : pubS (.mk (k := K) (st, .box k u :: r)) = pubS (.mk (k := fun r' st' => K (.box k u :: r') st') (st, r)) := rfl
theorem pubS_vec {K : List SV → LS → Prop} {st : LS} {k u : Nat} {r : List SV} : pubS (.mk (k := K) (st, .vec k u :: r)) =
    withO (.mk (k := fun b : Vc => pubV (.mk (k := (st, fun v st' => pubS (.mk (k := fun r' st'' => K (.v v :: r') st'') (st', r)))) b)) (lkV st.vc k u)) := rfl
theorem forkP_nil {dead live : LS → Prop} {st : LS} : forkP (.mk (k := (dead, live)) (st, [])) = live st := rfl
theorem forkP_cons {dead live : LS → Prop} {st : LS} {j : Nat} {w : Bool} {p : Pth} : forkP (.mk (k := (dead, live)) (st, (j, w) :: p)) =
    forkP (.mk (k := (dead, fun st' => withO (.mk (k := fun g : Gd => forkG (.mk (k := (j, w, dead, live)) (st', g))) (lkG st'.rho j)))) (st, p)) := rfl
variable {Q : Exit → LS → Prop} {st : LS}
theorem vcC_skip : vcC (.mk (k := (c, P, n, .skip, Q)) st) = Q .normal st := rfl
theorem vcC_region {id : Nat} {l : List Oper} : vcC (.mk (k := (c, P, n, .region id ⟨l⟩ false, Q)) st) = vcL (.mk (k := (c, P, 0, l, Q .normal)) st) := rfl
theorem vcC_draw {id : Nat} {l : Array Oper} : vcC (.mk (k := (c, P, n, .region id l true, Q)) st) = WPv (.mk (k := (P, n, .region id l true, Q)) st) := by cases l; rfl
theorem vcC_join {x : Operand} {t e rest : Code} (h : (mayN t && mayN e) = true) : vcC (.mk (k := (c, P, n, .seq (.cond x t e) rest, Q)) st) = WPv (.mk (k := (P, n, .seq (.cond x t e) rest, Q)) st) := by
  simp only [vcC, vcCx, h]
theorem vcC_if {x : Operand} {t e rest : Code} (h : (mayN t && mayN e) = false) : vcC (.mk (k := (c, P, n, .seq (.cond x t e) rest, Q)) st) =
    withO (.mk (k := fun b : Bool => vcJ (.mk (k := (c, P, n, t, e, thenQ (fun st' => vcC (.mk (k := (c, P, n, rest, Q)) st')) Q, st)) b)) ((rdO st [] x).bind svBool)) := by
  simp only [vcC, vcCx, h]; rfl
theorem vcC_seqR {id : Nat} {l : Array Oper} {d : Bool} {b : Code} : vcC (.mk (k := (c, P, n, .seq (.region id l d) b, Q)) st) = vcC (.mk (k := (c, P, n, .region id l d, thenQ (fun st' => vcC (.mk (k := (c, P, n, b, Q)) st')) Q)) st) := rfl
theorem vcC_seqB {id : Nat} {a b : Code} : vcC (.mk (k := (c, P, n, .seq (.block id a) b, Q)) st) = vcC (.mk (k := (c, P, n, .block id a, thenQ (fun st' => vcC (.mk (k := (c, P, n, b, Q)) st')) Q)) st) := rfl
theorem vcC_seqS {x y b : Code} : vcC (.mk (k := (c, P, n, .seq (.seq x y) b, Q)) st) = vcC (.mk (k := (c, P, n, .seq x y, thenQ (fun st' => vcC (.mk (k := (c, P, n, b, Q)) st')) Q)) st) := rfl
theorem vcC_seqL {x b : Code} : vcC (.mk (k := (c, P, n, .seq (.loop x) b, Q)) st) = WPv (.mk (k := (P, n, .loop x, thenQ (fun st' => vcC (.mk (k := (c, P, n, b, Q)) st')) Q)) st) := rfl
theorem vcC_seqO {x b : Code} : vcC (.mk (k := (c, P, n, .seq (.scope x) b, Q)) st) = WPv (.mk (k := (P, n, .scope x, thenQ (fun st' => vcC (.mk (k := (c, P, n, b, Q)) st')) Q)) st) := rfl
theorem vcC_seqN {b : Code} : vcC (.mk (k := (c, P, n, .seq .skip b, Q)) st) = vcC (.mk (k := (c, P, n, b, Q)) st) := rfl
theorem vcC_cond {x : Operand} {t e : Code} : vcC (.mk (k := (c, P, n, .cond x t e, Q)) st) =
    withO (.mk (k := fun b : Bool => vcJ (.mk (k := (c, P, n, t, e, Q, st)) b)) ((rdO st [] x).bind svBool)) := rfl
theorem vcC_block {id : Nat} {a : Code} : vcC (.mk (k := (c, P, n, .block id a, Q)) st) = vcC (.mk (k := (c, P, n, a, blockQ id Q)) st) := rfl
theorem vcC_loop {a : Code} : vcC (.mk (k := (c, P, n, .loop a, Q)) st) = WPv (.mk (k := (P, n, .loop a, Q)) st) := rfl
theorem vcC_scope {a : Code} : vcC (.mk (k := (c, P, n, .scope a, Q)) st) = WPv (.mk (k := (P, n, .scope a, Q)) st) := rfl
theorem vcC_exit {id : Nat} : vcC (.mk (k := (c, P, n, .exit id, Q)) st) = Q (.exit id) st := rfl
theorem vcC_label {l : Nat} : vcC (.mk (k := (c, P, n, .label l, Q)) st) = Q .normal st := rfl
theorem vcC_goto {l : Nat} : vcC (.mk (k := (c, P, n, .goto l, Q)) st) = Q (.goto l) st := rfl
theorem vcC_seqA {l : Nat} {b : Code} : vcC (.mk (k := (c, P, n, .seq (.label l) b, Q)) st) = vcC (.mk (k := (c, P, n, b, Q)) st) := rfl
theorem vcC_ret : vcC (.mk (k := (c, P, n, .ret, Q)) st) = Q .ret st := rfl
end
end Go.Proofs.YtmkifodpkcmgoaaDoor.E

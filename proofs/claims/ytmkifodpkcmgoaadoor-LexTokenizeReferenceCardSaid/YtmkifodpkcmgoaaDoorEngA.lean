/- The engine, part A: the symbolic state, and what one quiet operation yields. -/
import Derived.WalkKit
import Derived.Below
import Derived.Deep.Draws
import Derived.Maps.AppendAt
namespace Go.Proofs.YtmkifodpkcmgoaaDoor.E
open Go

/-- A value, and beside it (in its type) what simp is not to enter: what follows. -/
inductive A {γ : Type} (k : γ) (α : Type) where
  | mk (a : α)

/-- A value as the engine knows it: a plain value; a pointer to cell 'off' of the call's own box 'k'; the own slice 'k' in its state 'ver'; a pointer to cell 'off' of the own slice 'k'; a struct's cells; several results. -/
inductive SV where
  | v (x : Value)
  | box (k off : Nat)
  | vec (k ver : Nat)
  | vp (k ver off : Nat)
  | agg (cs : List SV)
  | tup (vs : List SV)

abbrev Pth := List (Nat × Bool)

/-- A block of the call's own, known whole. -/
structure Bx where
  id : Nat
  ty : TypeId
  cs : List SV
/-- A slice that the call owns: n elements of sz cells, all cells in xs. -/
structure Vc where
  id : Nat
  ver : Nat
  el : TypeId
  sz : Nat
  n : Nat
  xs : List Value
/-- Memory that is read and never written: of block b the first D b cells. -/
structure Mem where
  w : World
  D : Nat → Nat
structure Hp where
  bx : List Bx
  vc : List Vc

/-- What is known of the Bool that guards: it is just this one, or it is this term. -/
inductive GB where
  | lit (b : Bool)
  | sym (b : Bool)
structure Gd where
  i : Nat
  slot : Nat
  p : Pth
  b : GB
structure Ev where
  t : Nat
  p : Pth
  s : SV

structure LS where
  env : List Ev
  rho : List Gd
  bx : List Bx
  vc : List Vc
  nid : Nat
  m : Mem

def bs (l : List UInt8) : ByteArray := ⟨l.toArray⟩
def tl (s : ByteArray) : List UInt8 := s.data.toList
theorem tl_bs (l : List UInt8) : tl (bs l) = l := by simp [tl, bs]
theorem bs_tl (s : ByteArray) : bs (tl s) = s := by simp [tl, bs]
theorem mk_eq_bs (l : List UInt8) : ByteArray.mk l.toArray = bs l := rfl
theorem bs_inj {a b : List UInt8} (h : bs a = bs b) : a = b := by have := congrArg tl h; simpa [tl_bs] using this

def GB.val : GB → Bool | .lit b => b | .sym b => b

def pthEq : Pth → Pth → Bool
  | [], [] => true
  | (j, w) :: p, (k, u) :: q => if j = k then (if w = u then pthEq p q else false) else false
  | _, _ => false
/-- Is the first path an outer part of the second? -/
def sfx : Pth → Pth → Bool
  | p, [] => pthEq p []
  | p, x :: q => if pthEq p (x :: q) = true then true else sfx p q

def lkE : List Ev → Nat → Pth → Option SV
  | [], _, _ => none
  | ⟨t', p', s⟩ :: r, t, p => if t' = t then (if sfx p' p = true then some s else none) else lkE r t p
def lkG : List Gd → Nat → Option Gd
  | [], _ => none
  | ⟨i', t', p', b'⟩ :: r, i => if i' = i then some ⟨i', t', p', b'⟩ else lkG r i
def lkGs : List Gd → Nat → Option Gd
  | [], _ => none
  | ⟨i', t', p', b'⟩ :: r, i => if t' = i then some ⟨i', t', p', b'⟩ else lkGs r i
def lkB : List Bx → Nat → Option Bx
  | [], _ => none
  | ⟨k', t', cs'⟩ :: r, i => if k' = i then some ⟨k', t', cs'⟩ else lkB r i
def lkV : List Vc → Nat → Nat → Option Vc
  | [], _, _ => none
  | ⟨k', u', e', z', n', x'⟩ :: r, i, u => if k' = i then (if u' = u then some ⟨k', u', e', z', n', x'⟩ else none) else lkV r i u

def gval (rho : List Gd) (j : Nat) (w : Bool) : Bool := match lkG rho j with | some g => (if w = true then g.b.val else !g.b.val) | none => false
/-- Does the path hold? -/
def condP (rho : List Gd) : Pth → Bool
  | [] => true
  | (j, w) :: p => gval rho j w && condP rho p
def gdead : Option Gd → Bool → Bool
  | some ⟨_, _, _, .lit true⟩, false => true
  | some ⟨_, _, _, .lit false⟩, true => true
  | _, _ => false
/-- Is the path known not to hold? -/
def deadP (rho : List Gd) : Pth → Bool
  | [] => false
  | (j, w) :: p => if gdead (lkG rho j) w = true then true else deadP rho p

def und (st : LS) (p : Pth) (B : Prop) : Prop := condP st.rho p = true → B

def rdO (st : LS) (p : Pth) : Operand → Option SV
  | .tmp t => lkE st.env t p
  | .const x => some (.v x)
  | .func f => some (.v (.func (.func f) #[] #[]))
  | .global g => some (.v (.pointer (some ⟨g, 0, none⟩)))

def withO {α : Type} {K : α → Prop} (x : A K (Option α)) : Prop := match x with | .mk (some s) => K s | .mk none => False

/-! Types, as the program's tables have them. -/
def aggN (P : Program) (t : TypeId) : Option (Option Nat) :=
  match P.underlying t with
  | some (.struct _) | some (.array _ _) => (P.info? t).map fun i => some i.size
  | some _ => some none
  | none => none
def szT (P : Program) (t : TypeId) : Nat := ((P.info? t).map (·.size)).getD 0
def byT (P : Program) (t : TypeId) : Nat := ((P.info? t).map (·.bytes)).getD 0
def zeroO (P : Program) (t : TypeId) : Option (List SV) := ((P.info? t).bind (·.zero)).map fun z => z.cells.toList.map .v
/-- A field: where it begins, whether it is a struct (of so many cells), how many cells it has. -/
def fldO (P : Program) (s : TypeId) (f : Nat) : Option (Nat × Option Nat × Nat) :=
  match P.underlying s with
  | some (.struct fs) => (fs[f]?).bind fun x => if 0 < szT P x.type then (aggN P x.type).map fun g => (x.offset, g, szT P x.type) else none
  | _ => none
def elT (P : Program) (t : TypeId) : Option TypeId :=
  match P.underlying t with
  | some (.slice e) => some e
  | _ => none
inductive CvK where | int (k : IntKind) | same | b2s | no
def cvK (P : Program) (src dst : TypeId) : CvK :=
  match P.underlying src, P.underlying dst with
  | some (.int _), some (.int k) => .int k
  | some .string, some .string => .same
  | some (.slice e), some .string => (match P.underlying e with | some (.int .u8) => .b2s | _ => .no)
  | _, _ => .no

/-! Values. -/
def I64 (n : Int) : Prop := -9223372036854775808 ≤ n ∧ n ≤ 9223372036854775807
/-- int's sums owe their range; every other kind's wrap. -/
def arith {k : IntKind} {u : Prop → Prop} {K : SV → Prop} (x : A (k, u, K) Int) : Prop :=
  match k, x with
  | .i64, .mk n => u (I64 n) ∧ K (.v (.int .i64 n))
  | k, .mk n => K (.v (.int k (k.wrap n)))
def binI {op : BinOp} {k : IntKind} {u : Prop → Prop} {K : SV → Prop} (x : A (op, k, u, K) (Int × Int)) : Prop :=
  match op, x with
  | .add, .mk (a, b) => arith (.mk (k := (k, u, K)) (a + b))
  | .sub, .mk (a, b) => arith (.mk (k := (k, u, K)) (a - b))
  | .mul, .mk (a, b) => arith (.mk (k := (k, u, K)) (a * b))
  | .quo, .mk (a, b) => u (b ≠ 0) ∧ arith (.mk (k := (k, u, K)) (a.tdiv b))
  | .rem, .mk (a, b) => u (b ≠ 0) ∧ K (.v (.int k (a.tmod b)))
  | .and, .mk (a, b) => K (.v (.int k (bits .and k a b)))
  | .or, .mk (a, b) => K (.v (.int k (bits .or k a b)))
  | .xor, .mk (a, b) => K (.v (.int k (bits .xor k a b)))
  | .andNot, .mk (a, b) => K (.v (.int k (bits .andNot k a b)))
  | .eql, .mk (a, b) => K (.v (.bool (decide (a = b))))
  | .neq, .mk (a, b) => K (.v (.bool (!decide (a = b))))
  | .lss, .mk (a, b) => K (.v (.bool (decide (a < b))))
  | .leq, .mk (a, b) => K (.v (.bool (decide (a ≤ b))))
  | .gtr, .mk (a, b) => K (.v (.bool (decide (b < a))))
  | .geq, .mk (a, b) => K (.v (.bool (decide (b ≤ a))))
  | .shl, .mk (a, b) => u (0 ≤ b ∧ b ≤ k.bits) ∧ K (.v (.int k (k.wrap (a * 2 ^ b.toNat))))
  | .shr, .mk (a, b) => u (0 ≤ b ∧ b ≤ k.bits) ∧ K (.v (.int k (a / 2 ^ b.toNat)))
def binS {op : BinOp} {u : Prop → Prop} {K : SV → Prop} (x : A (op, u, K) (List UInt8 × List UInt8)) : Prop :=
  match op, x with
  | .add, .mk (a, b) => u (a.length + b.length ≤ 9223372036854775807) ∧ K (.v (.string (bs (a ++ b))))
  | .eql, .mk (a, b) => K (.v (.bool (decide (a = b))))
  | .neq, .mk (a, b) => K (.v (.bool (!decide (a = b))))
  | .lss, .mk (a, b) => K (.v (.bool (Op.bytesLess a b)))
  | .geq, .mk (a, b) => K (.v (.bool (!Op.bytesLess a b)))
  | _, _ => False
/-- '==' of two structs of type t is '==' cell by cell. -/
def cellEq : SV → SV → Option Bool
  | .v (.int k a), .v (.int k' b) => if k = k' then some (decide (a = b)) else none
  | .v (.string a), .v (.string b) => some (decide (tl a = tl b))
  | .v (.bool a), .v (.bool b) => some (a == b)
  | _, _ => none
def cellsEq : List SV → List SV → Option Bool
  | [], [] => some true
  | a :: x, b :: y => (cellEq a b).bind fun e => (cellsEq x y).map fun r => e && r
  | _, _ => none
def svCells : SV → Option (List SV)
  | .agg cs => some cs
  | .v (.agg ⟨l⟩) => some (l.map .v)
  | .tup _ => none
  | .v (.tuple _) => none
  | s => some [s]
/-- (proved for each type that is compared) -/
def aggCells : SV → Option (List SV)
  | .agg cs => some cs
  | .v (.agg ⟨l⟩) => some (l.map .v)
  | _ => none
/-- A cell of the kind that the zero value has there. -/
def fitC : SV → SV → Bool
  | .v (.int k _), .v (.int k' _) => decide (k = k')
  | .v (.string _), .v (.string _) => true
  | .v (.bool _), .v (.bool _) => true
  | _, _ => false
def fitL : List SV → List SV → Bool
  | [], [] => true
  | z :: zs, x :: xs => fitC z x && fitL zs xs
  | _, _ => false
def fitZ (z : Option (List SV)) (xs : List SV) : Bool :=
  match z with
  | some zs => fitL zs xs
  | none => false
def EqOk (P : Program) (t : TypeId) : Prop :=
  ∀ (xs ys : List Value) (b : Bool) (w : World) (o o' : Operand) (op : BinOp), cellsEq (xs.map .v) (ys.map .v) = some b → fitZ (zeroO P t) (xs.map .v) = true →
    (eqGuard op t o o' (.agg xs.toArray) (.agg ys.toArray)).run P w = .ok () w ∧ (Op.equal t (.agg xs.toArray) (.agg ys.toArray)).run P w = .ok b w
def binB {op : BinOp} {K : SV → Prop} (x : A (op, K) Bool) : Prop :=
  match op, x with
  | .eql, .mk b => K (.v (.bool b))
  | .neq, .mk b => K (.v (.bool (!b)))
  | _, _ => False
def binQ {P : Program} {op : BinOp} {t : TypeId} {u : Prop → Prop} {K : SV → Prop} (x : A (P, op, t, u, K) (SV × SV)) : Prop :=
  match x with
  | .mk (.v (.int k a), .v (.int k' b)) => (op = .shl ∨ op = .shr ∨ k = k') ∧ binI (.mk (k := (op, k, u, K)) (a, b))
  | .mk (.v (.string a), .v (.string b)) => binS (.mk (k := (op, u, K)) (tl a, tl b))
  | .mk (.v (.bool a), .v (.bool b)) => P.underlying t = some .bool ∧ binB (.mk (k := (op, K)) (a == b))
  | .mk (.agg xs, y) => EqOk P t ∧ fitZ (zeroO P t) xs = true ∧ withO (.mk (k := fun b => binB (.mk (k := (op, K)) b)) ((aggCells y).bind fun ys => cellsEq xs ys))
  | .mk (.v (.agg xs), y) => EqOk P t ∧ fitZ (zeroO P t) (xs.toList.map .v) = true ∧ withO (.mk (k := fun b => binB (.mk (k := (op, K)) b)) ((aggCells y).bind fun ys => cellsEq (xs.toList.map .v) ys))
  | _ => False

def ptrAt (a : Option Addr) (o : Nat) : Value := .pointer (a.map (·.add o))
def ptrAdd (x : Value) (o : Nat) : Value := match x with | .pointer a => ptrAt a o | x => x
def isPtr (x : Value) : Prop := ∃ a, x = .pointer (some a)
def nnil : Value → Bool
  | .pointer none | .nilIface | .nilFunc => false
  | .func (.func _) _ _ => true
  | .func _ _ _ => false
  | _ => true
/-- Cells that are read and never written. -/
def Rd (m : Mem) (x : Value) (cs : List Value) : Prop :=
  ∃ a, x = .pointer (some a) ∧ a.spot = none ∧ ∀ j, j < cs.length → m.w.cell? (a.add j) = cs[j]? ∧ a.off + j < m.D a.block
def IdxOk (a : Option Addr) (n : Nat) (i : Int) : Prop := 0 ≤ i ∧ i < n ∧ a ≠ none
/-- A slice that is read and never written: n elements of sz cells. -/
def Rds (m : Mem) (a : Option Addr) (n sz : Nat) (xs : List Value) : Prop :=
  xs.length = n * sz ∧ (0 < n → ∃ ad, a = some ad ∧ ad.spot = none ∧ ∀ j, j < n * sz → m.w.cell? (ad.add j) = xs[j]? ∧ ad.off + j < m.D ad.block)
def slv (a : Option Addr) (c l h sz : Nat) : Value := .slice (if c = l then a else a.map (·.add (l * sz))) (h - l) (c - l)
def u8s (l : List UInt8) : List Value := l.map fun b => .int .u8 b.toNat

def cell1 : SV → Option SV
  | .v x => some (.v x)
  | .box k o => some (.box k o)
  | .vec k u => some (.vec k u)
  | .vp k u o => some (.vp k u o)
  | .agg _ => none
  | .tup _ => none
def takeC (cs : List SV) (off : Nat) : Option Nat → Option SV
  | none => (cs[off]?).bind cell1
  | some n => if off + n ≤ cs.length then some (.agg ((cs.drop off).take n)) else none
def setC (cs : List SV) (off : Nat) : List SV → List SV
  | [] => cs
  | c :: r => setC (cs.set off c) (off + 1) r
inductive PM where | and | or | gen
def pickM : Operand → Operand → PM
  | _, .const (.bool false) => .and
  | .const (.bool true), _ => .or
  | _, _ => .gen
/-- 'if c then x else y' of two Bools. -/
def pickB {md : PM} {K : SV → Prop} (x : A (md, K) (Bool × SV × SV)) : Prop :=
  match md, x with
  | .and, .mk (c, .v (.bool a), .v (.bool false)) => K (.v (.bool (c && a)))
  | .or, .mk (c, .v (.bool true), .v (.bool b)) => K (.v (.bool (c || b)))
  | .gen, .mk (c, .v (.bool a), .v (.bool b)) => K (.v (.bool (bif c then a else b)))
  | _, _ => False
def sliceBd (o : Option SV) (d : Int) : Option Int :=
  match o with
  | none => some d
  | some (.v (.int _ n)) => some n
  | _ => none
def optO (st : LS) (p : Pth) (o : Option Operand) : Option (Option SV) :=
  match o with
  | none => some none
  | some x => (rdO st p x).map some
def buildC (P : Program) (t : TypeId) (st : LS) (p : Pth) : List (Nat × Operand) → List SV → Option (List SV)
  | [], cs => some cs
  | (i, x) :: r, cs => (fldO P t i).bind fun fo => ((rdO st p x).bind svCells).bind fun l =>
      if l.length = fo.2.2 then (if fo.1 + l.length ≤ cs.length then buildC P t st p r (setC cs fo.1 l) else none) else none
/-- Every field's type has its row (proved for each type that is built). -/
def bldOk (P : Program) (t : TypeId) : Bool :=
  match P.underlying t with
  | some (.struct fs) => fs.toList.all fun x => (P.info? x.type).isSome
  | _ => false

def qNil {u : Prop → Prop} {K : SV → Prop} (x : A (u, K) SV) : Prop :=
  match x with
  | .mk (.v x) => u (nnil x = true) ∧ K (.v x)
  | .mk (.box k o) => K (.box k o)
  | _ => False
def qUn {op : UnOp} {u : Prop → Prop} {K : SV → Prop} (x : A (op, u, K) SV) : Prop :=
  match op, x with
  | .not, .mk (.v (.bool b)) => K (.v (.bool (!b)))
  | .neg, .mk (.v (.int k n)) => arith (.mk (k := (k, u, K)) (0 - n))
  | _, _ => False
/-- An interface's value against nil. -/
def ifV (v : Value) : Prop := v = .nilIface ∨ ∃ t x, v = .iface t x
def isNilV : Value → Bool
  | .nilIface => true
  | _ => false
def isIfT (P : Program) (t : TypeId) : Bool :=
  match P.underlying t with
  | some (.interface _) => true
  | _ => false
def qNilI {P : Program} {op : BinOp} {t : TypeId} {u : Prop → Prop} {K : SV → Prop} (x : A (P, op, t, u, K) SV) : Prop :=
  match x with
  | .mk (.v v) => isIfT P t = true ∧ u (ifV v) ∧ binB (.mk (k := (op, K)) (isNilV v))
  | _ => False
def qConv {u : Prop → Prop} {K : SV → Prop} (x : A (u, K) (LS × CvK × SV)) : Prop :=
  match x with
  | .mk (_, .int k, .v (.int _ n)) => K (.v (.int k (k.wrap n)))
  | .mk (_, .same, .v (.string s)) => K (.v (.string s))
  | .mk (st, .b2s, .vec k v) => withO (.mk (k := fun b : Vc => ∃ l, u (b.sz = 1 ∧ b.xs = u8s l) ∧ K (.v (.string (bs l)))) (lkV st.vc k v))
  | .mk (st, .b2s, .v (.slice a n _)) => ∃ l, u (Rds st.m a n 1 (u8s l)) ∧ K (.v (.string (bs l)))
  | _ => False
def qFld {u : Prop → Prop} {K : SV → Prop} (x : A (u, K) (LS × SV × Nat)) : Prop :=
  match x with
  | .mk (_, .box k o, f) => K (.box k (o + f))
  | .mk (st, .vp k v o, f) => withO (.mk (k := fun b : Vc => u (o < b.xs.length) ∧ K (.vp k v (o + f))) (lkV st.vc k v))
  | .mk (_, .v x, f) => u (isPtr x) ∧ K (.v (ptrAdd x f))
  | _ => False
def qIxA {P : Program} {u : Prop → Prop} {K : SV → Prop} (x : A (P, u, K) (LS × TypeId × SV × SV)) : Prop :=
  match x with
  | .mk (_, e, .v (.slice a n _), .v (.int _ i)) => 0 < szT P e ∧ u (IdxOk a n i) ∧ K (.v (ptrAt a (i.toNat * szT P e)))
  | .mk (st, e, .vec k v, .v (.int _ i)) => withO (.mk (k := fun b : Vc => 0 < szT P e ∧ u (0 ≤ i ∧ i < b.n ∧ b.sz = szT P e) ∧ K (.vp k v (i.toNat * szT P e))) (lkV st.vc k v))
  | _ => False
def qIx {P : Program} {t : TypeId} {u : Prop → Prop} {K : SV → Prop} (x : A (P, t, u, K) (SV × SV)) : Prop :=
  match x with
  | .mk (.v (.string s), .v (.int _ i)) => P.underlying t = some .string ∧ u (0 ≤ i ∧ i < (tl s).length) ∧ K (.v (.int .u8 ((tl s).getD i.toNat 0).toNat))
  | _ => False
def qSlS {s : List UInt8} {u : Prop → Prop} {K : SV → Prop} (x : A (s, u, K) (Int × Int)) : Prop :=
  match x with
  | .mk (l, h) => u (0 ≤ l ∧ l ≤ h ∧ h ≤ s.length) ∧ K (.v (.string (bs ((s.take h.toNat).drop l.toNat))))
def qSl {P : Program} {t : TypeId} {u : Prop → Prop} {K : SV → Prop} (x : A (P, t, u, K) (SV × Option SV × Option SV)) : Prop :=
  match x with
  | .mk (.v (.string s), lo, hi) => P.underlying t = some .string ∧
      withO (.mk (k := fun l : Int => withO (.mk (k := fun h : Int => qSlS (.mk (k := (tl s, u, K)) (l, h))) (sliceBd hi (tl s).length))) (sliceBd lo 0))
  | .mk (.v (.slice a n c), lo, hi) => withO (.mk (k := fun l : Int => withO (.mk (k := fun h : Int => withO (.mk (k := fun e : TypeId =>
      0 < szT P e ∧ u (0 ≤ l ∧ l ≤ h ∧ h ≤ c) ∧ K (.v (slv a c l.toNat h.toNat (szT P e)))) (elT P t))) (sliceBd hi n))) (sliceBd lo 0))
  | _ => False
def qRd {m : Mem} {x : Value} {u : Prop → Prop} {K : SV → Prop} (ag : A (m, x, u, K) (Option Nat)) : Prop :=
  match ag with
  | .mk none => ∃ c, u (Rd m x [c]) ∧ K (.v c)
  | .mk (some n) => ∃ cs, u (Rd m x cs ∧ cs.length = n) ∧ K (.v (.agg ⟨cs⟩))
def qRdV {b : Vc} {o : Nat} {u : Prop → Prop} {K : SV → Prop} (ag : A (b, o, u, K) (Option Nat)) : Prop :=
  match ag with
  | .mk none => u (o < b.xs.length) ∧ K (.v (b.xs.getD o undef))
  | .mk (some n) => 0 < n ∧ u (o + n ≤ b.xs.length) ∧ K (.v (.agg ⟨(b.xs.drop o).take n⟩))
def qLoad {P : Program} {t : TypeId} {u : Prop → Prop} {K : SV → Prop} (x : A (P, t, u, K) (LS × SV)) : Prop :=
  match x with
  | .mk (st, .box k o) => withO (.mk (k := fun b : Bx => withO (.mk (k := fun ag : Option Nat => withO (.mk (k := K) (takeC b.cs o ag))) (aggN P t))) (lkB st.bx k))
  | .mk (st, .vp k v o) => withO (.mk (k := fun b : Vc => withO (.mk (k := fun ag : Option Nat => qRdV (.mk (k := (b, o, u, K)) ag)) (aggN P t))) (lkV st.vc k v))
  | .mk (st, .v x) => withO (.mk (k := fun ag : Option Nat => qRd (.mk (k := (st.m, x, u, K)) ag)) (aggN P t))
  | _ => False
def noTup : SV → Option SV
  | .v x => some (.v x)
  | .box k o => some (.box k o)
  | .vec k u => some (.vec k u)
  | .vp k u o => some (.vp k u o)
  | .agg cs => some (.agg cs)
  | .tup _ => none
def qExt {K : SV → Prop} (x : A K (SV × Nat)) : Prop :=
  match x with
  | .mk (.tup l, i) => withO (.mk (k := K) (l[i]?.bind noTup))
  | .mk (.v (.tuple ⟨l⟩), i) => withO (.mk (k := K) (l[i]?.map .v))
  | _ => False
def qLen {P : Program} {t : TypeId} {K : SV → Prop} (x : A (P, t, K) (LS × SV)) : Prop :=
  match x with
  | .mk (_, .v (.string s)) => P.underlying t = some .string ∧ K (.v (.int .i64 (tl s).length))
  | .mk (_, .v (.slice _ n _)) => withO (.mk (k := fun _ : TypeId => K (.v (.int .i64 n))) (elT P t))
  | .mk (st, .vec k v) => withO (.mk (k := fun _ : TypeId => withO (.mk (k := fun b : Vc => K (.v (.int .i64 b.n))) (lkV st.vc k v))) (elT P t))
  | _ => False
def qMin {K : SV → Prop} (x : A K (SV × SV)) : Prop :=
  match x with
  | .mk (.v (.int k a), .v (.int _ b)) => K (.v (.int k (if b < a then b else a)))
  | _ => False
def qPick {p : Pth} {a b : Operand} {st : LS} {g : Gd} {K : SV → Prop} (x : A (p, a, b, st, g, K) PM) : Prop :=
  match g, x with
  | ⟨i, _, q, .lit true⟩, _ => sfx q p = true ∧ withO (.mk (k := K) (rdO st ((i, true) :: q) a))
  | ⟨i, _, q, .lit false⟩, _ => sfx q p = true ∧ withO (.mk (k := K) (rdO st ((i, false) :: q) b))
  | ⟨i, _, q, .sym c⟩, .mk md => sfx q p = true ∧
      withO (.mk (k := fun x : SV => withO (.mk (k := fun y : SV => pickB (.mk (k := (md, K)) (c, x, y))) (rdO st ((i, false) :: q) b))) (rdO st ((i, true) :: q) a))

/-- A quiet operation: one that only computes or reads: what it yields. -/
def qOp {P : Program} {op : Op} {K : SV → Prop} (x : A (P, op, K) (LS × Pth)) : Prop :=
  match op, x with
  | .move x, .mk (st, p) | .assign x, .mk (st, p) => withO (.mk (k := K) (rdO st p x))
  | .pick (.tmp t) a b, .mk (st, p) => withO (.mk (k := fun g : Gd => qPick (.mk (k := (p, a, b, st, g, K)) (pickM a b))) (lkGs st.rho t))
  | .nilCheck x, .mk (st, p) => withO (.mk (k := fun s : SV => qNil (.mk (k := (und st p, K)) s)) (rdO st p x))
  | .binOp op t x (.const .nilIface) _, .mk (st, p) => withO (.mk (k := fun a : SV => qNilI (.mk (k := (P, op, t, und st p, K)) a)) (rdO st p x))
  | .binOp op t x y _, .mk (st, p) => withO (.mk (k := fun a : SV => withO (.mk (k := fun b : SV => binQ (.mk (k := (P, op, t, und st p, K)) (a, b))) (rdO st p y))) (rdO st p x))
  | .unOp op _ x, .mk (st, p) => withO (.mk (k := fun s : SV => qUn (.mk (k := (op, und st p, K)) s)) (rdO st p x))
  | .convert src dst x, .mk (st, p) => withO (.mk (k := fun s : SV => qConv (.mk (k := (und st p, K)) (st, cvK P src dst, s))) (rdO st p x))
  | .fieldAddr s x f, .mk (st, p) => withO (.mk (k := fun a : SV => withO (.mk (k := fun fo : Nat × Option Nat × Nat => qFld (.mk (k := (und st p, K)) (st, a, fo.1))) (fldO P s f))) (rdO st p x))
  | .field s x f, .mk (st, p) => withO (.mk (k := fun cs : List SV => withO (.mk (k := fun fo : Nat × Option Nat × Nat => withO (.mk (k := K) (takeC cs fo.1 fo.2.1))) (fldO P s f))) ((rdO st p x).bind aggCells))
  | .indexAddr t x i, .mk (st, p) => withO (.mk (k := fun a : SV => withO (.mk (k := fun i : SV => withO (.mk (k := fun e : TypeId => qIxA (.mk (k := (P, und st p, K)) (st, e, a, i))) (elT P t))) (rdO st p i))) (rdO st p x))
  | .index t x i, .mk (st, p) => withO (.mk (k := fun a : SV => withO (.mk (k := fun i : SV => qIx (.mk (k := (P, t, und st p, K)) (a, i))) (rdO st p i))) (rdO st p x))
  | .slice t x lo hi none, .mk (st, p) => withO (.mk (k := fun a : SV => withO (.mk (k := fun lo : Option SV => withO (.mk (k := fun hi : Option SV => qSl (.mk (k := (P, t, und st p, K)) (a, lo, hi))) (optO st p hi))) (optO st p lo))) (rdO st p x))
  | .load t a, .mk (st, p) => withO (.mk (k := fun a : SV => qLoad (.mk (k := (P, t, und st p, K)) (st, a))) (rdO st p a))
  | .extract x i, .mk (st, p) => withO (.mk (k := fun a : SV => qExt (.mk (k := K) (a, i))) (rdO st p x))
  | .build t parts, .mk (st, p) => bldOk P t = true ∧ withO (.mk (k := fun z : List SV => withO (.mk (k := fun cs : List SV => K (.agg cs)) (buildC P t st p parts.toList z))) (zeroO P t))
  | .call { callee := .builtin .len, args := ⟨[x]⟩, argTypes := ⟨[t]⟩ }, .mk (st, p) => withO (.mk (k := fun a : SV => qLen (.mk (k := (P, t, K)) (st, a))) (rdO st p x))
  | .call { callee := .builtin .min, args := ⟨[x, y]⟩, .. }, .mk (st, p) => withO (.mk (k := fun a : SV => withO (.mk (k := fun b : SV => qMin (.mk (k := K) (a, b))) (rdO st p y))) (rdO st p x))
  | _, _ => False
end Go.Proofs.YtmkifodpkcmgoaaDoor.E

/- Several texts in one: EngA, EngB, EngC, EngD, EngE, EngF, EngG, EngH, EngMp, EngI. -/
import Derived.WalkKit
import Derived.Below
import Derived.Deep.Draws
import Derived.Maps.AppendAt
import Derived.Laws.Strings
import Derived.Laws.StructEq
import Derived.Laws.Shifts
import Derived.Laws.Cover1
import Derived.Laws.Cells
import Derived.Laws.Slices
import Derived.Laws.DeepStrings4
import Derived.Laws.IdiomStrings
import Derived.Lib.Strings
import Derived.MapKept
/- The engine, part A: the symbolic state, and what one quiet operation yields. -/
set_option linter.unusedSimpArgs false
set_option linter.unusedVariables false
namespace Go.Proofs.YtalalcpefggniaaGreatDoor.E
open Go

/-- A value, and beside it (in its type) what simp is not to enter: what follows. -/
inductive A {γ : Type} (k : γ) (α : Type) where
  | mk (a : α)

/-- A value as the engine knows it: a plain value; a pointer to cell 'off' of the call's own box 'k'; the own slice 'k' in its state 'ver'; a pointer to cell 'off' of the own slice 'k'; a struct's cells; several results. -/
inductive SV where
  | v (x : Value)
  | box (k off : Nat)
  | vec (k ver : Nat)
  | vp (k ver off : Nat)
  | mp (k : Nat)
  | agg (cs : List SV)
  | tup (vs : List SV)

abbrev Pth := List (Nat × Bool)

/-- A block of the call's own, known whole. -/
structure Bx where
  id : Nat
  ty : TypeId
  cs : List SV
/-- The type tag of an own map: its cells are its entries, key and value in turn. -/
def mapTy : Nat := 1000000
/-- A slice that the call owns: n elements of sz cells, all cells in xs. -/
structure Vc where
  id : Nat
  ver : Nat
  el : TypeId
  sz : Nat
  n : Nat
  xs : List Value
/-- Memory that is read and never written: of block b the first D b cells. -/
structure Mem where
  w : World
  D : Nat → Nat
structure Hp where
  bx : List Bx
  vc : List Vc

/-- What is known of the Bool that guards: it is just this one, or it is this term. -/
inductive GB where
  | lit (b : Bool)
  | sym (b : Bool)
structure Gd where
  i : Nat
  slot : Nat
  p : Pth
  b : GB
structure Ev where
  t : Nat
  p : Pth
  s : SV

structure LS where
  env : List Ev
  rho : List Gd
  bx : List Bx
  vc : List Vc
  nid : Nat
  m : Mem

def bs (l : List UInt8) : ByteArray := ⟨l.toArray⟩
def tl (s : ByteArray) : List UInt8 := s.data.toList
theorem tl_bs (l : List UInt8) : tl (bs l) = l := by simp [tl, bs]
theorem bs_tl (s : ByteArray) : bs (tl s) = s := by simp [tl, bs]
theorem mk_eq_bs (l : List UInt8) : ByteArray.mk l.toArray = bs l := rfl
theorem bs_inj {a b : List UInt8} (h : bs a = bs b) : a = b := by have := congrArg tl h; simpa [tl_bs] using this

def GB.val : GB → Bool | .lit b => b | .sym b => b

def pthEq : Pth → Pth → Bool
  | [], [] => true
  | (j, w) :: p, (k, u) :: q => if j = k then (if w = u then pthEq p q else false) else false
  | _, _ => false
/-- Is the first path an outer part of the second? -/
def sfx : Pth → Pth → Bool
  | p, [] => pthEq p []
  | p, x :: q => if pthEq p (x :: q) = true then true else sfx p q

def lkE : List Ev → Nat → Pth → Option SV
  | [], _, _ => none
  | ⟨t', p', s⟩ :: r, t, p => if t' = t then (if sfx p' p = true then some s else none) else lkE r t p
def lkG : List Gd → Nat → Option Gd
  | [], _ => none
  | ⟨i', t', p', b'⟩ :: r, i => if i' = i then some ⟨i', t', p', b'⟩ else lkG r i
def lkGs : List Gd → Nat → Option Gd
  | [], _ => none
  | ⟨i', t', p', b'⟩ :: r, i => if t' = i then some ⟨i', t', p', b'⟩ else lkGs r i
def lkB : List Bx → Nat → Option Bx
  | [], _ => none
  | ⟨k', t', cs'⟩ :: r, i => if k' = i then some ⟨k', t', cs'⟩ else lkB r i
def lkV : List Vc → Nat → Nat → Option Vc
  | [], _, _ => none
  | ⟨k', u', e', z', n', x'⟩ :: r, i, u => if k' = i then (if u' = u then some ⟨k', u', e', z', n', x'⟩ else none) else lkV r i u

def gval (rho : List Gd) (j : Nat) (w : Bool) : Bool := match lkG rho j with | some g => (if w = true then g.b.val else !g.b.val) | none => false
/-- Does the path hold? -/
def condP (rho : List Gd) : Pth → Bool
  | [] => true
  | (j, w) :: p => gval rho j w && condP rho p
def gdead : Option Gd → Bool → Bool
  | some ⟨_, _, _, .lit true⟩, false => true
  | some ⟨_, _, _, .lit false⟩, true => true
  | _, _ => false
/-- Is the path known not to hold? -/
def deadP (rho : List Gd) : Pth → Bool
  | [] => false
  | (j, w) :: p => if gdead (lkG rho j) w = true then true else deadP rho p

def und (st : LS) (p : Pth) (B : Prop) : Prop := condP st.rho p = true → B

def rdO (st : LS) (p : Pth) : Operand → Option SV
  | .tmp t => lkE st.env t p
  | .const x => some (.v x)
  | .func f => some (.v (.func (.func f) #[] #[]))
  | .global g => some (.v (.pointer (some ⟨g, 0, none⟩)))

def withO {α : Type} {K : α → Prop} (x : A K (Option α)) : Prop := match x with | .mk (some s) => K s | .mk none => False

/-! Types, as the program's tables have them. -/
def aggN (P : Program) (t : TypeId) : Option (Option Nat) :=
  match P.underlying t with
  | some (.struct _) | some (.array _ _) => (P.info? t).map fun i => some i.size
  | some _ => some none
  | none => none
def szT (P : Program) (t : TypeId) : Nat := ((P.info? t).map (·.size)).getD 0
def byT (P : Program) (t : TypeId) : Nat := ((P.info? t).map (·.bytes)).getD 0
def zeroO (P : Program) (t : TypeId) : Option (List SV) := ((P.info? t).bind (·.zero)).map fun z => z.cells.toList.map .v
/-- A field: where it begins, whether it is a struct (of so many cells), how many cells it has. -/
def fldO (P : Program) (s : TypeId) (f : Nat) : Option (Nat × Option Nat × Nat) :=
  match P.underlying s with
  | some (.struct fs) => (fs[f]?).bind fun x => if 0 < szT P x.type then (aggN P x.type).map fun g => (x.offset, g, szT P x.type) else none
  | _ => none
def elT (P : Program) (t : TypeId) : Option TypeId :=
  match P.underlying t with
  | some (.slice e) => some e
  | _ => none
inductive CvK where | int (k : IntKind) | same | b2s | no
def cvK (P : Program) (src dst : TypeId) : CvK :=
  match P.underlying src, P.underlying dst with
  | some (.int _), some (.int k) => .int k
  | some .string, some .string => .same
  | some (.slice e), some .string => (match P.underlying e with | some (.int .u8) => .b2s | _ => .no)
  | _, _ => .no

/-! Values. -/
def I64 (n : Int) : Prop := -9223372036854775808 ≤ n ∧ n ≤ 9223372036854775807
/-- int's sums owe their range; every other kind's wrap. -/
def arith {k : IntKind} {u : Prop → Prop} {K : SV → Prop} (x : A (k, u, K) Int) : Prop :=
  match k, x with
  | .i64, .mk n => u (I64 n) ∧ K (.v (.int .i64 n))
  | k, .mk n => K (.v (.int k (k.wrap n)))
def binI {op : BinOp} {k : IntKind} {u : Prop → Prop} {K : SV → Prop} (x : A (op, k, u, K) (Int × Int)) : Prop :=
  match op, x with
  | .add, .mk (a, b) => arith (.mk (k := (k, u, K)) (a + b))
  | .sub, .mk (a, b) => arith (.mk (k := (k, u, K)) (a - b))
  | .mul, .mk (a, b) => arith (.mk (k := (k, u, K)) (a * b))
  | .quo, .mk (a, b) => u (b ≠ 0) ∧ arith (.mk (k := (k, u, K)) (a.tdiv b))
  | .rem, .mk (a, b) => u (b ≠ 0) ∧ K (.v (.int k (a.tmod b)))
  | .and, .mk (a, b) => K (.v (.int k (bits .and k a b)))
  | .or, .mk (a, b) => K (.v (.int k (bits .or k a b)))
  | .xor, .mk (a, b) => K (.v (.int k (bits .xor k a b)))
  | .andNot, .mk (a, b) => K (.v (.int k (bits .andNot k a b)))
  | .eql, .mk (a, b) => K (.v (.bool (decide (a = b))))
  | .neq, .mk (a, b) => K (.v (.bool (!decide (a = b))))
  | .lss, .mk (a, b) => K (.v (.bool (decide (a < b))))
  | .leq, .mk (a, b) => K (.v (.bool (decide (a ≤ b))))
  | .gtr, .mk (a, b) => K (.v (.bool (decide (b < a))))
  | .geq, .mk (a, b) => K (.v (.bool (decide (b ≤ a))))
  | .shl, .mk (a, b) => u (0 ≤ b ∧ b ≤ k.bits) ∧ K (.v (.int k (k.wrap (a * 2 ^ b.toNat))))
  | .shr, .mk (a, b) => u (0 ≤ b ∧ b ≤ k.bits) ∧ K (.v (.int k (a / 2 ^ b.toNat)))
def binS {op : BinOp} {u : Prop → Prop} {K : SV → Prop} (x : A (op, u, K) (List UInt8 × List UInt8)) : Prop :=
  match op, x with
  | .add, .mk (a, b) => u (a.length + b.length ≤ 9223372036854775807) ∧ K (.v (.string (bs (a ++ b))))
  | .eql, .mk (a, b) => K (.v (.bool (decide (a = b))))
  | .neq, .mk (a, b) => K (.v (.bool (!decide (a = b))))
  | .lss, .mk (a, b) => K (.v (.bool (Op.bytesLess a b)))
  | .geq, .mk (a, b) => K (.v (.bool (!Op.bytesLess a b)))
  | _, _ => False
/-- '==' of two structs of type t is '==' cell by cell. -/
def cellEq : SV → SV → Option Bool
  | .v (.int k a), .v (.int k' b) => if k = k' then some (decide (a = b)) else none
  | .v (.string a), .v (.string b) => some (decide (tl a = tl b))
  | .v (.bool a), .v (.bool b) => some (a == b)
  | _, _ => none
def cellsEq : List SV → List SV → Option Bool
  | [], [] => some true
  | a :: x, b :: y => (cellEq a b).bind fun e => (cellsEq x y).map fun r => e && r
  | _, _ => none
def svCells : SV → Option (List SV)
  | .agg cs => some cs
  | .v (.agg ⟨l⟩) => some (l.map .v)
  | .tup _ => none
  | .v (.tuple _) => none
  | s => some [s]
/-- (proved for each type that is compared) -/
def aggCells : SV → Option (List SV)
  | .agg cs => some cs
  | .v (.agg ⟨l⟩) => some (l.map .v)
  | _ => none
/-- A cell of the kind that the zero value has there. -/
def fitC : SV → SV → Bool
  | .v (.int k _), .v (.int k' _) => decide (k = k')
  | .v (.string _), .v (.string _) => true
  | .v (.bool _), .v (.bool _) => true
  | _, _ => false
def fitL : List SV → List SV → Bool
  | [], [] => true
  | z :: zs, x :: xs => fitC z x && fitL zs xs
  | _, _ => false
def fitZ (z : Option (List SV)) (xs : List SV) : Bool :=
  match z with
  | some zs => fitL zs xs
  | none => false
def EqOk (P : Program) (t : TypeId) : Prop :=
  ∀ (xs ys : List Value) (b : Bool) (w : World) (o o' : Operand) (op : BinOp), cellsEq (xs.map .v) (ys.map .v) = some b → fitZ (zeroO P t) (xs.map .v) = true →
    (eqGuard op t o o' (.agg xs.toArray) (.agg ys.toArray)).run P w = .ok () w ∧ (Op.equal t (.agg xs.toArray) (.agg ys.toArray)).run P w = .ok b w
def binB {op : BinOp} {K : SV → Prop} (x : A (op, K) Bool) : Prop :=
  match op, x with
  | .eql, .mk b => K (.v (.bool b))
  | .neq, .mk b => K (.v (.bool (!b)))
  | _, _ => False
def binQ {P : Program} {op : BinOp} {t : TypeId} {u : Prop → Prop} {K : SV → Prop} (x : A (P, op, t, u, K) (SV × SV)) : Prop :=
  match x with
  | .mk (.v (.int k a), .v (.int k' b)) => (op = .shl ∨ op = .shr ∨ k = k') ∧ binI (.mk (k := (op, k, u, K)) (a, b))
  | .mk (.v (.string a), .v (.string b)) => binS (.mk (k := (op, u, K)) (tl a, tl b))
  | .mk (.v (.bool a), .v (.bool b)) => P.underlying t = some .bool ∧ binB (.mk (k := (op, K)) (a == b))
  | .mk (.agg xs, y) => EqOk P t ∧ fitZ (zeroO P t) xs = true ∧ withO (.mk (k := fun b => binB (.mk (k := (op, K)) b)) ((aggCells y).bind fun ys => cellsEq xs ys))
  | .mk (.v (.agg xs), y) => EqOk P t ∧ fitZ (zeroO P t) (xs.toList.map .v) = true ∧ withO (.mk (k := fun b => binB (.mk (k := (op, K)) b)) ((aggCells y).bind fun ys => cellsEq (xs.toList.map .v) ys))
  | _ => False

def ptrAt (a : Option Addr) (o : Nat) : Value := .pointer (a.map (·.add o))
def ptrAdd (x : Value) (o : Nat) : Value := match x with | .pointer a => ptrAt a o | x => x
def isPtr (x : Value) : Prop := ∃ a, x = .pointer (some a)
def nnil : Value → Bool
  | .pointer none | .nilIface | .nilFunc => false
  | .func (.func _) _ _ => true
  | .func _ _ _ => false
  | _ => true
/-- Cells that are read and never written. -/
def Rd (m : Mem) (x : Value) (cs : List Value) : Prop :=
  ∃ a, x = .pointer (some a) ∧ a.spot = none ∧ ∀ j, j < cs.length → m.w.cell? (a.add j) = cs[j]? ∧ a.off + j < m.D a.block
def IdxOk (a : Option Addr) (n : Nat) (i : Int) : Prop := 0 ≤ i ∧ i < n ∧ a ≠ none
/-- A slice that is read and never written: n elements of sz cells. -/
def Rds (m : Mem) (a : Option Addr) (n sz : Nat) (xs : List Value) : Prop :=
  xs.length = n * sz ∧ (0 < n → ∃ ad, a = some ad ∧ ad.spot = none ∧ ∀ j, j < n * sz → m.w.cell? (ad.add j) = xs[j]? ∧ ad.off + j < m.D ad.block)
def slv (a : Option Addr) (c l h sz : Nat) : Value := .slice (if c = l then a else a.map (·.add (l * sz))) (h - l) (c - l)
def u8s (l : List UInt8) : List Value := l.map fun b => .int .u8 b.toNat

def cell1 : SV → Option SV
  | .v x => some (.v x)
  | .box k o => some (.box k o)
  | .vec k u => some (.vec k u)
  | .vp k u o => some (.vp k u o)
  | .mp k => some (.mp k)
  | .agg _ => none
  | .tup _ => none
def takeC (cs : List SV) (off : Nat) : Option Nat → Option SV
  | none => (cs[off]?).bind cell1
  | some n => if off + n ≤ cs.length then some (.agg ((cs.drop off).take n)) else none
def setC (cs : List SV) (off : Nat) : List SV → List SV
  | [] => cs
  | c :: r => setC (cs.set off c) (off + 1) r
inductive PM where | and | or | gen
def pickM : Operand → Operand → PM
  | _, .const (.bool false) => .and
  | .const (.bool true), _ => .or
  | _, _ => .gen
/-- 'if c then x else y' of two Bools. -/
def pickB {md : PM} {K : SV → Prop} (x : A (md, K) (Bool × SV × SV)) : Prop :=
  match md, x with
  | .and, .mk (c, .v (.bool a), .v (.bool false)) => K (.v (.bool (c && a)))
  | .or, .mk (c, .v (.bool true), .v (.bool b)) => K (.v (.bool (c || b)))
  | .gen, .mk (c, .v (.bool a), .v (.bool b)) => K (.v (.bool (bif c then a else b)))
  | _, _ => False
def sliceBd (o : Option SV) (d : Int) : Option Int :=
  match o with
  | none => some d
  | some (.v (.int _ n)) => some n
  | _ => none
def optO (st : LS) (p : Pth) (o : Option Operand) : Option (Option SV) :=
  match o with
  | none => some none
  | some x => (rdO st p x).map some
def buildC (P : Program) (t : TypeId) (st : LS) (p : Pth) : List (Nat × Operand) → List SV → Option (List SV)
  | [], cs => some cs
  | (i, x) :: r, cs => (fldO P t i).bind fun fo => ((rdO st p x).bind svCells).bind fun l =>
      if l.length = fo.2.2 then (if fo.1 + l.length ≤ cs.length then buildC P t st p r (setC cs fo.1 l) else none) else none
/-- Every field's type has its row (proved for each type that is built). -/
def bldOk (P : Program) (t : TypeId) : Bool :=
  match P.underlying t with
  | some (.struct fs) => fs.toList.all fun x => (P.info? x.type).isSome
  | _ => false

def qNil {u : Prop → Prop} {K : SV → Prop} (x : A (u, K) SV) : Prop :=
  match x with
  | .mk (.v x) => u (nnil x = true) ∧ K (.v x)
  | .mk (.box k o) => K (.box k o)
  | _ => False
def qUn {op : UnOp} {u : Prop → Prop} {K : SV → Prop} (x : A (op, u, K) SV) : Prop :=
  match op, x with
  | .not, .mk (.v (.bool b)) => K (.v (.bool (!b)))
  | .neg, .mk (.v (.int k n)) => arith (.mk (k := (k, u, K)) (0 - n))
  | _, _ => False
/-- An interface's value against nil. -/
def ifV (v : Value) : Prop := v = .nilIface ∨ ∃ t x, v = .iface t x
def isNilV : Value → Bool
  | .nilIface => true
  | _ => false
def isIfT (P : Program) (t : TypeId) : Bool :=
  match P.underlying t with
  | some (.interface _) => true
  | _ => false
def qNilI {P : Program} {op : BinOp} {t : TypeId} {u : Prop → Prop} {K : SV → Prop} (x : A (P, op, t, u, K) SV) : Prop :=
  match x with
  | .mk (.v v) => isIfT P t = true ∧ u (ifV v) ∧ binB (.mk (k := (op, K)) (isNilV v))
  | _ => False
def qConv {u : Prop → Prop} {K : SV → Prop} (x : A (u, K) (LS × CvK × SV)) : Prop :=
  match x with
  | .mk (_, .int k, .v (.int _ n)) => K (.v (.int k (k.wrap n)))
  | .mk (_, .same, .v (.string s)) => K (.v (.string s))
  | .mk (st, .b2s, .vec k v) => withO (.mk (k := fun b : Vc => ∃ l, u (b.sz = 1 ∧ b.xs = u8s l) ∧ K (.v (.string (bs l)))) (lkV st.vc k v))
  | .mk (st, .b2s, .v (.slice a n _)) => ∃ l, u (Rds st.m a n 1 (u8s l)) ∧ K (.v (.string (bs l)))
  | _ => False
def qFld {u : Prop → Prop} {K : SV → Prop} (x : A (u, K) (LS × SV × Nat)) : Prop :=
  match x with
  | .mk (_, .box k o, f) => K (.box k (o + f))
  | .mk (st, .vp k v o, f) => withO (.mk (k := fun b : Vc => u (o < b.xs.length) ∧ K (.vp k v (o + f))) (lkV st.vc k v))
  | .mk (_, .v x, f) => u (isPtr x) ∧ K (.v (ptrAdd x f))
  | _ => False
def qIxA {P : Program} {u : Prop → Prop} {K : SV → Prop} (x : A (P, u, K) (LS × TypeId × SV × SV)) : Prop :=
  match x with
  | .mk (_, e, .v (.slice a n _), .v (.int _ i)) => 0 < szT P e ∧ u (IdxOk a n i) ∧ K (.v (ptrAt a (i.toNat * szT P e)))
  | .mk (st, e, .vec k v, .v (.int _ i)) => withO (.mk (k := fun b : Vc => 0 < szT P e ∧ u (0 ≤ i ∧ i < b.n ∧ b.sz = szT P e) ∧ K (.vp k v (i.toNat * szT P e))) (lkV st.vc k v))
  | _ => False
def qIx {P : Program} {t : TypeId} {u : Prop → Prop} {K : SV → Prop} (x : A (P, t, u, K) (SV × SV)) : Prop :=
  match x with
  | .mk (.v (.string s), .v (.int _ i)) => P.underlying t = some .string ∧ u (0 ≤ i ∧ i < (tl s).length) ∧ K (.v (.int .u8 ((tl s).getD i.toNat 0).toNat))
  | _ => False
def qSlS {s : List UInt8} {u : Prop → Prop} {K : SV → Prop} (x : A (s, u, K) (Int × Int)) : Prop :=
  match x with
  | .mk (l, h) => u (0 ≤ l ∧ l ≤ h ∧ h ≤ s.length) ∧ K (.v (.string (bs ((s.take h.toNat).drop l.toNat))))
def qSl {P : Program} {t : TypeId} {u : Prop → Prop} {K : SV → Prop} (x : A (P, t, u, K) (SV × Option SV × Option SV)) : Prop :=
  match x with
  | .mk (.v (.string s), lo, hi) => P.underlying t = some .string ∧
      withO (.mk (k := fun l : Int => withO (.mk (k := fun h : Int => qSlS (.mk (k := (tl s, u, K)) (l, h))) (sliceBd hi (tl s).length))) (sliceBd lo 0))
  | .mk (.v (.slice a n c), lo, hi) => withO (.mk (k := fun l : Int => withO (.mk (k := fun h : Int => withO (.mk (k := fun e : TypeId =>
      0 < szT P e ∧ u (0 ≤ l ∧ l ≤ h ∧ h ≤ c) ∧ K (.v (slv a c l.toNat h.toNat (szT P e)))) (elT P t))) (sliceBd hi n))) (sliceBd lo 0))
  | _ => False
def qRd {m : Mem} {x : Value} {u : Prop → Prop} {K : SV → Prop} (ag : A (m, x, u, K) (Option Nat)) : Prop :=
  match ag with
  | .mk none => ∃ c, u (Rd m x [c]) ∧ K (.v c)
  | .mk (some n) => ∃ cs, u (Rd m x cs ∧ cs.length = n) ∧ K (.v (.agg ⟨cs⟩))
def qRdV {b : Vc} {o : Nat} {u : Prop → Prop} {K : SV → Prop} (ag : A (b, o, u, K) (Option Nat)) : Prop :=
  match ag with
  | .mk none => u (o < b.xs.length) ∧ K (.v (b.xs.getD o undef))
  | .mk (some n) => 0 < n ∧ u (o + n ≤ b.xs.length) ∧ K (.v (.agg ⟨(b.xs.drop o).take n⟩))
def qLoad {P : Program} {t : TypeId} {u : Prop → Prop} {K : SV → Prop} (x : A (P, t, u, K) (LS × SV)) : Prop :=
  match x with
  | .mk (st, .box k o) => withO (.mk (k := fun b : Bx => (b.ty == mapTy) = false ∧ withO (.mk (k := fun ag : Option Nat => withO (.mk (k := K) (takeC b.cs o ag))) (aggN P t))) (lkB st.bx k))
  | .mk (st, .vp k v o) => withO (.mk (k := fun b : Vc => withO (.mk (k := fun ag : Option Nat => qRdV (.mk (k := (b, o, u, K)) ag)) (aggN P t))) (lkV st.vc k v))
  | .mk (st, .v x) => withO (.mk (k := fun ag : Option Nat => qRd (.mk (k := (st.m, x, u, K)) ag)) (aggN P t))
  | _ => False
def noTup : SV → Option SV
  | .v x => some (.v x)
  | .box k o => some (.box k o)
  | .vec k u => some (.vec k u)
  | .vp k u o => some (.vp k u o)
  | .mp k => some (.mp k)
  | .agg cs => some (.agg cs)
  | .tup _ => none
def qExt {K : SV → Prop} (x : A K (SV × Nat)) : Prop :=
  match x with
  | .mk (.tup l, i) => withO (.mk (k := K) (l[i]?.bind noTup))
  | .mk (.v (.tuple ⟨l⟩), i) => withO (.mk (k := K) (l[i]?.map .v))
  | _ => False
def qLen {P : Program} {t : TypeId} {K : SV → Prop} (x : A (P, t, K) (LS × SV)) : Prop :=
  match x with
  | .mk (_, .v (.string s)) => P.underlying t = some .string ∧ K (.v (.int .i64 (tl s).length))
  | .mk (_, .v (.slice _ n _)) => withO (.mk (k := fun _ : TypeId => K (.v (.int .i64 n))) (elT P t))
  | .mk (st, .vec k v) => withO (.mk (k := fun _ : TypeId => withO (.mk (k := fun b : Vc => K (.v (.int .i64 b.n))) (lkV st.vc k v))) (elT P t))
  | _ => False
def qMin {K : SV → Prop} (x : A K (SV × SV)) : Prop :=
  match x with
  | .mk (.v (.int k a), .v (.int _ b)) => K (.v (.int k (if b < a then b else a)))
  | _ => False
def qMax {K : SV → Prop} (x : A K (SV × SV)) : Prop :=
  match x with
  | .mk (.v (.int k a), .v (.int _ b)) => K (.v (.int k (if a < b then b else a)))
  | _ => False
def mx (a b : Int) : Int := if a < b then b else a
def qMax4 {K : SV → Prop} (x : A K (SV × SV × SV × SV)) : Prop :=
  match x with
  | .mk (.v (.int k a), .v (.int _ b), .v (.int _ c), .v (.int _ d)) => K (.v (.int k (mx (mx (mx a b) c) d)))
  | _ => False
def qPick {p : Pth} {a b : Operand} {st : LS} {g : Gd} {K : SV → Prop} (x : A (p, a, b, st, g, K) PM) : Prop :=
  match g, x with
  | ⟨i, _, q, .lit true⟩, _ => sfx q p = true ∧ withO (.mk (k := K) (rdO st ((i, true) :: q) a))
  | ⟨i, _, q, .lit false⟩, _ => sfx q p = true ∧ withO (.mk (k := K) (rdO st ((i, false) :: q) b))
  | ⟨i, _, q, .sym c⟩, .mk md => sfx q p = true ∧
      withO (.mk (k := fun x : SV => withO (.mk (k := fun y : SV => pickB (.mk (k := (md, K)) (c, x, y))) (rdO st ((i, false) :: q) b))) (rdO st ((i, true) :: q) a))

/-- Entries of an own map from texts to truth values: the last word on a text. -/
def findV : List Value → List UInt8 → Bool
  | .string a :: .bool v :: r, s => if s = tl a then v else findV r s
  | _, _ => false
def putV : List Value → List UInt8 → Bool → List Value
  | .string a :: .bool v :: r, s, x => if s = tl a then .string a :: .bool x :: r else .string a :: .bool v :: putV r s x
  | _, s, x => [.string (bs s), .bool x]
/-- A map from texts to truth values (proved for each type that is one). -/
def strMap (P : Program) (t : TypeId) : Bool :=
  match P.underlying t with
  | some (.map k e) => (match P.underlying k, P.underlying e, P.info? e with | some .string, some .bool, some i => (match i.zero with | some (.bool false) => true | _ => false) | _, _, _ => false)
  | _ => false
def plain : SV → Option Value
  | .v x => some x
  | _ => none
def plains : List SV → Option (List Value)
  | [] => some []
  | s :: r => (plain s).bind fun x => (plains r).map (x :: ·)
def qLkp {P : Program} {t : TypeId} {K : SV → Prop} (x : A (P, t, K) (LS × SV × SV)) : Prop :=
  match x with
  | .mk (st, .mp k, .v (.string s)) => withO (.mk (k := fun b : Bx => (b.ty == mapTy) = true ∧ strMap P t = true ∧ withO (.mk (k := fun l : List Value => K (.v (.bool (findV l (tl s))))) (plains b.cs))) (lkB st.bx k))
  | _ => False
/-- A quiet operation: one that only computes or reads: what it yields. -/
def qOp {P : Program} {op : Op} {K : SV → Prop} (x : A (P, op, K) (LS × Pth)) : Prop :=
  match op, x with
  | .move x, .mk (st, p) | .assign x, .mk (st, p) => withO (.mk (k := K) (rdO st p x))
  | .pick (.tmp t) a b, .mk (st, p) => withO (.mk (k := fun g : Gd => qPick (.mk (k := (p, a, b, st, g, K)) (pickM a b))) (lkGs st.rho t))
  | .nilCheck x, .mk (st, p) => withO (.mk (k := fun s : SV => qNil (.mk (k := (und st p, K)) s)) (rdO st p x))
  | .binOp op t x (.const .nilIface) _, .mk (st, p) => withO (.mk (k := fun a : SV => qNilI (.mk (k := (P, op, t, und st p, K)) a)) (rdO st p x))
  | .binOp op t x y _, .mk (st, p) => withO (.mk (k := fun a : SV => withO (.mk (k := fun b : SV => binQ (.mk (k := (P, op, t, und st p, K)) (a, b))) (rdO st p y))) (rdO st p x))
  | .unOp op _ x, .mk (st, p) => withO (.mk (k := fun s : SV => qUn (.mk (k := (op, und st p, K)) s)) (rdO st p x))
  | .convert src dst x, .mk (st, p) => withO (.mk (k := fun s : SV => qConv (.mk (k := (und st p, K)) (st, cvK P src dst, s))) (rdO st p x))
  | .fieldAddr s x f, .mk (st, p) => withO (.mk (k := fun a : SV => withO (.mk (k := fun fo : Nat × Option Nat × Nat => qFld (.mk (k := (und st p, K)) (st, a, fo.1))) (fldO P s f))) (rdO st p x))
  | .field s x f, .mk (st, p) => withO (.mk (k := fun cs : List SV => withO (.mk (k := fun fo : Nat × Option Nat × Nat => withO (.mk (k := K) (takeC cs fo.1 fo.2.1))) (fldO P s f))) ((rdO st p x).bind aggCells))
  | .indexAddr t x i, .mk (st, p) => withO (.mk (k := fun a : SV => withO (.mk (k := fun i : SV => withO (.mk (k := fun e : TypeId => qIxA (.mk (k := (P, und st p, K)) (st, e, a, i))) (elT P t))) (rdO st p i))) (rdO st p x))
  | .index t x i, .mk (st, p) => withO (.mk (k := fun a : SV => withO (.mk (k := fun i : SV => qIx (.mk (k := (P, t, und st p, K)) (a, i))) (rdO st p i))) (rdO st p x))
  | .slice t x lo hi none, .mk (st, p) => withO (.mk (k := fun a : SV => withO (.mk (k := fun lo : Option SV => withO (.mk (k := fun hi : Option SV => qSl (.mk (k := (P, t, und st p, K)) (a, lo, hi))) (optO st p hi))) (optO st p lo))) (rdO st p x))
  | .load t a, .mk (st, p) => withO (.mk (k := fun a : SV => qLoad (.mk (k := (P, t, und st p, K)) (st, a))) (rdO st p a))
  | .extract x i, .mk (st, p) => withO (.mk (k := fun a : SV => qExt (.mk (k := K) (a, i))) (rdO st p x))
  | .build t parts, .mk (st, p) => bldOk P t = true ∧ withO (.mk (k := fun z : List SV => withO (.mk (k := fun cs : List SV => K (.agg cs)) (buildC P t st p parts.toList z))) (zeroO P t))
  | .call { callee := .builtin .len, args := ⟨[x]⟩, argTypes := ⟨[t]⟩ }, .mk (st, p) => withO (.mk (k := fun a : SV => qLen (.mk (k := (P, t, K)) (st, a))) (rdO st p x))
  | .call { callee := .builtin .min, args := ⟨[x, y]⟩, .. }, .mk (st, p) => withO (.mk (k := fun a : SV => withO (.mk (k := fun b : SV => qMin (.mk (k := K) (a, b))) (rdO st p y))) (rdO st p x))
  | .lookup t x i false, .mk (st, p) => withO (.mk (k := fun a : SV => withO (.mk (k := fun i : SV => qLkp (.mk (k := (P, t, K)) (st, a, i))) (rdO st p i))) (rdO st p x))
  | .call { callee := .builtin .max, args := ⟨[x, y]⟩, .. }, .mk (st, p) => withO (.mk (k := fun a : SV => withO (.mk (k := fun b : SV => qMax (.mk (k := K) (a, b))) (rdO st p y))) (rdO st p x))
  | .call { callee := .builtin .max, args := ⟨[x, y, z, u]⟩, .. }, .mk (st, p) => withO (.mk (k := fun a : SV => withO (.mk (k := fun b : SV => withO (.mk (k := fun c : SV => withO (.mk (k := fun d : SV => qMax4 (.mk (k := K) (a, b, c, d))) (rdO st p u))) (rdO st p z))) (rdO st p y))) (rdO st p x))
  | _, _ => False
end Go.Proofs.YtalalcpefggniaaGreatDoor.E

/- The engine, part B: what the symbolic state says of a frame and a world; calls; code. -/
set_option linter.unusedSimpArgs false
set_option linter.unusedVariables false
namespace Go.Proofs.YtalalcpefggniaaGreatDoor.E
open Go

/-- Where the own blocks lie, and the own slices' headers. -/
structure Hd where
  a : Option Addr
  n : Nat
  c : Nat
def Hd.val (h : Hd) : Value := .slice h.a h.n h.c
structure Vl where
  β : Nat → Nat
  γ : Nat → Nat → Hd
def denA (V : Vl) : SV → Value
  | .v x => x
  | .box k o => .pointer (some ⟨V.β k, o, none⟩)
  | .vec k u => (V.γ k u).val
  | .vp k u o => .pointer ((V.γ k u).a.map (·.add o))
  | .mp k => .map (some (V.β k))
  | _ => undef
def denB (V : Vl) : SV → Value
  | .agg cs => .agg ⟨cs.map (denA V)⟩
  | s => denA V s
def den (V : Vl) : SV → Value
  | .tup l => .tuple ⟨l.map (denB V)⟩
  | s => denB V s

def keepObj (d : Nat) (o o' : Option Obj) : Prop :=
  match o with
  | some (.cells c _ _) => ∃ c' t' f', o' = some (.cells c' t' f') ∧ ∀ j, j < d → c'[j]? = c[j]?
  | o => o' = o
def Mem.le (m m' : Mem) : Prop := ∀ b, m.D b ≤ m'.D b ∧ (0 < m.D b → b < m.w.heap.size ∧ keepObj (m.D b) m.w.heap[b]? m'.w.heap[b]?)

/-- The block of an own slice, if it has one. -/
def Hd.blk (h : Hd) : Option Nat := h.a.map (·.block)
/-- The entries of a map, as cells. -/
def entC (l : List (ByteArray × Bool)) : List Value := l.flatMap fun x => [.string x.1, .bool x.2]
/-- What lies in an own block: a row of cells, or a map. -/
def bxObj (ty : TypeId) (vs : List Value) (o : Obj) : Prop :=
  if ty = mapTy then ∃ es clk l, o = .map es clk ∧ vs = entC l ∧ es.toList.map (fun e => (e.key, e.val)) = l.map fun x => (Value.string x.1, Value.bool x.2)
  else o = .cells ⟨vs⟩ ty (0, 0)
def HBx (V : Vl) (D : Nat → Nat) (w : World) (b : Bx) : Prop :=
  (∃ o, w.heap[V.β b.id]? = some o ∧ bxObj b.ty (b.cs.map (denA V)) o) ∧ D (V.β b.id) = 0
def HVc (V : Vl) (D : Nat → Nat) (w : World) (b : Vc) : Prop :=
  w.ownsRow 0 b.el b.sz (V.γ b.id b.ver).val b.n b.xs ∧ (∀ g, (V.γ b.id b.ver).blk = some g → D g ≤ b.n * b.sz) ∧ 0 < b.sz ∧ ∀ u ∈ b.xs, u.oneCell' = true
def blks (V : Vl) (H : Hp) : List Nat := H.bx.map (fun b => V.β b.id) ++ H.vc.filterMap fun b => (V.γ b.id b.ver).blk
structure HSat (V : Vl) (D : Nat → Nat) (w : World) (H : Hp) : Prop where
  bx : ∀ b ∈ H.bx, HBx V D w b
  vc : ∀ b ∈ H.vc, HVc V D w b
  apart : (blks V H).Nodup
  uniq : (H.vc.map (·.id)).Nodup

/-- What a call may not touch: every block that was there and is none of 'F'. -/
structure Frm (F : Nat → Prop) (w : World) (D : Nat → Nat) (w' : World) (D' : Nat → Nat) : Prop where
  os : w'.os = w.os
  tape : w'.tape = w.tape
  output : w'.output = w.output
  size : w.heap.size ≤ w'.heap.size
  same : ∀ b, b < w.heap.size → ¬ F b → w'.heap[b]? = w.heap[b]? ∧ D' b = D b
def Wf (w : World) (D : Nat → Nat) : Prop := ∀ b, w.heap.size ≤ b → D b = 0

/-- A FUNCTION's CONTRACT. -/
def FnH (P : Program) (f : FuncId) (args : List SV) (H : Hp) (m : Mem) (R : SV → Hp → Mem → Prop) : Prop :=
  ∀ (V : Vl) (w : World) (D : Nat → Nat), Wf w D → m.le ⟨w, D⟩ → HSat V D w H →
    Calls P f ⟨args.map (den V)⟩ w fun e w' => ∃ (r : SV) (V' : Vl) (D' : Nat → Nat) (H' : Hp) (m' : Mem),
      e = .returned (den V' r) ∧ Wf w' D' ∧ HSat V' D' w' H' ∧ (∀ b ∈ H.bx, V'.β b.id = V.β b.id) ∧ (∀ b ∈ H.vc, ∀ u, u ≤ b.ver → V'.γ b.id u = V.γ b.id u) ∧
      Frm (· ∈ blks V H) w D w' D' ∧ (∀ b ∈ blks V' H', b ∈ blks V H ∨ w.heap.size ≤ b) ∧
      Mem.le ⟨w, D⟩ ⟨w', D'⟩ ∧ m.le m' ∧ m'.le ⟨w', D'⟩ ∧ R r H' m'

/-- What is fixed while a function runs: the world in which it began, and what it was handed. -/
structure Ctx where
  w0 : World
  D0 : Nat → Nat
  F : Nat → Prop
  H0 : Hp
  V0 : Vl
  m0 : Mem

/-- Every guard on the path is known. -/
def wfP (rho : List Gd) (p : Pth) : Prop := ∀ x ∈ p, ∃ g, lkG rho x.1 = some g
def verLe : List Vc → Nat → Nat → Prop
  | [], _, _ => True
  | ⟨k', u', _, _, _, _⟩ :: r, k, u => if k' = k then u ≤ u' else verLe r k u
/-- The own blocks that a value names were made already, and in no later state. -/
def okA (nid : Nat) (vc : List Vc) : SV → Prop
  | .v _ => True
  | .box k _ => k < nid
  | .vec k u => k < nid ∧ verLe vc k u
  | .vp k u _ => k < nid ∧ verLe vc k u
  | .mp k => k < nid
  | .agg _ => True
  | .tup _ => True
def okL (nid : Nat) (vc : List Vc) : List SV → Prop
  | [] => True
  | s :: r => okA nid vc s ∧ okL nid vc r
def okB (nid : Nat) (vc : List Vc) : SV → Prop
  | .agg cs => okL nid vc cs
  | s => okA nid vc s
def okT (nid : Nat) (vc : List Vc) : List SV → Prop
  | [] => True
  | s :: r => okB nid vc s ∧ okT nid vc r
def okS (nid : Nat) (vc : List Vc) : SV → Prop
  | .tup l => okT nid vc l
  | s => okB nid vc s
structure SatF (n : Nat) (env : List Ev) (rho : List Gd) (a : Act) (V : Vl) : Prop where
  defers : a.defers = []
  size : a.tmps.size = n
  pth : ∀ e ∈ env, wfP rho e.p
  env : ∀ t p s, wfP rho p → lkE env t p = some s → condP rho p = true → a.tmps[t]? = some (den V s)
  rho : ∀ g ∈ rho, lkG rho g.i = some g ∧ wfP rho g.p ∧ a.tmps[g.slot]? = some (if condP rho g.p = true then .bool g.b.val else undef)
structure SatW (C : Ctx) (bx : List Bx) (vc : List Vc) (nid : Nat) (m : Mem) (V : Vl) (D : Nat → Nat) (w : World) : Prop where
  heap : HSat V D w ⟨bx, vc⟩
  wf : Wf w D
  frm : Frm C.F C.w0 C.D0 w D
  own : ∀ b ∈ blks V ⟨bx, vc⟩, C.F b ∨ C.w0.heap.size ≤ b
  baseB : ∀ b ∈ C.H0.bx, V.β b.id = C.V0.β b.id ∧ b.id < nid
  baseV : ∀ b ∈ C.H0.vc, (∀ u, u ≤ b.ver → V.γ b.id u = C.V0.γ b.id u) ∧ b.id < nid ∧ verLe vc b.id b.ver
  ids : (∀ b ∈ bx, b.id < nid ∧ okL nid vc b.cs) ∧ ∀ b ∈ vc, b.id < nid
  le0 : Mem.le ⟨C.w0, C.D0⟩ ⟨w, D⟩
  m0 : C.m0.le m
  mle : m.le ⟨w, D⟩
structure Sat (C : Ctx) (n : Nat) (st : LS) (a : Act) (V : Vl) (D : Nat → Nat) (w : World) : Prop where
  f : SatF n st.env st.rho a V
  ids : ∀ e ∈ st.env, okS st.nid st.vc e.s
  w : SatW C st.bx st.vc st.nid st.m V D w
theorem Sat.env {C : Ctx} {n : Nat} {st : LS} {a : Act} {V : Vl} {D : Nat → Nat} {w : World} (h : Sat C n st a V D w) : ∀ t p s, wfP st.rho p → lkE st.env t p = some s → condP st.rho p = true → a.tmps[t]? = some (den V s) := h.f.env
theorem Sat.rho {C : Ctx} {n : Nat} {st : LS} {a : Act} {V : Vl} {D : Nat → Nat} {w : World} (h : Sat C n st a V D w) : ∀ g ∈ st.rho, lkG st.rho g.i = some g ∧ wfP st.rho g.p ∧ a.tmps[g.slot]? = some (if condP st.rho g.p = true then .bool g.b.val else undef) := h.f.rho
theorem Sat.heap {C : Ctx} {n : Nat} {st : LS} {a : Act} {V : Vl} {D : Nat → Nat} {w : World} (h : Sat C n st a V D w) : HSat V D w ⟨st.bx, st.vc⟩ := h.w.heap
theorem Sat.mle {C : Ctx} {n : Nat} {st : LS} {a : Act} {V : Vl} {D : Nat → Nat} {w : World} (h : Sat C n st a V D w) : st.m.le ⟨w, D⟩ := h.w.mle
def SatE (C : Ctx) (n : Nat) (st : LS) (a : Act) (w : World) : Prop := st.rho = [] ∧ ∃ V D, Sat C n st a V D w

/-- CODE: from the state 'st' on it ends so that 'Q' holds of the state there. -/
def WP (P : Program) (n : Nat) (c : Code) (Q : Exit → LS → Prop) (st : LS) : Prop :=
  ∀ (C : Ctx) (a : Act) (w : World), SatE C n st a w → c.wp P (fun e a' w' => ∃ st', SatE C n st' a' w' ∧ Q e st') a w
def WPv {P : Program} {n : Nat} {c : Code} {Q : Exit → LS → Prop} (x : A (P, n, c, Q) LS) : Prop := match x with | .mk st => WP P n c Q st
def FnV {P : Program} {f : FuncId} {R : SV → Hp → Mem → Prop} (x : A (P, f, R) (List SV × Hp × Mem)) : Prop := match x with | .mk (args, H, m) => FnH P f args H m R

/-! Operations that act. -/
def plainS : SV → Option Value
  | .v x => some x
  | .agg cs => (plains cs).map fun l => .agg ⟨l⟩
  | _ => none
def plainSs : List SV → Option (List Value)
  | [] => some []
  | s :: r => (plainS s).bind fun x => (plainSs r).map (x :: ·)
/-- Values of one cell each. -/
def okC : List SV → Bool
  | [] => true
  | .v x :: r => x.oneCell' && okC r
  | .box _ _ :: r => okC r
  | .vec _ _ :: r => okC r
  | .vp _ _ _ :: r => okC r
  | .mp _ :: r => okC r
  | .agg _ :: _ => false
  | .tup _ :: _ => false
def updB : List Bx → Nat → List SV → List Bx
  | [], _, _ => []
  | ⟨k', t', cs'⟩ :: r, k, cs => if k' = k then ⟨k', t', cs⟩ :: r else ⟨k', t', cs'⟩ :: updB r k cs
def updV : List Vc → Nat → Vc → List Vc
  | [], _, _ => []
  | ⟨k', u', e', z', n', x'⟩ :: r, k, x => if k' = k then x :: r else ⟨k', u', e', z', n', x'⟩ :: updV r k x
def setV (xs : List Value) (off : Nat) : List Value → List Value
  | [] => xs
  | c :: r => setV (xs.set off c) (off + 1) r

/-- Own slices among values are shown as what they are to a reader. -/
def pubV {st : LS} {K : Value → LS → Prop} (x : A (st, K) Vc) : Prop :=
  match x with
  | .mk b => ∀ (a : Option Addr) (c : Nat) (m1 : Mem), st.m.le m1 → b.n ≤ c → Rds m1 a b.n b.sz b.xs → K (.slice a b.n c) ⟨st.env, st.rho, st.bx, st.vc, st.nid, m1⟩
def pubAx : List SV → (List SV → LS → Prop) → LS → Prop
  | [], K, st => K [] st
  | .vec k u :: r, K, st => withO (.mk (k := fun b : Vc => pubV (.mk (k := (st, fun v st' => pubAx r (fun r' st'' => K (.v v :: r') st'') st')) b)) (lkV st.vc k u))
  | .v x :: r, K, st => pubAx r (fun r' st' => K (.v x :: r') st') st
  | .box k o :: r, K, st => pubAx r (fun r' st' => K (.box k o :: r') st') st
  | .vp k u o :: r, K, st => pubAx r (fun r' st' => K (.vp k u o :: r') st') st
  | .mp k :: r, K, st => pubAx r (fun r' st' => K (.mp k :: r') st') st
  | .agg cs :: r, K, st => pubAx r (fun r' st' => K (.agg cs :: r') st') st
  | .tup cs :: r, K, st => pubAx r (fun r' st' => K (.tup cs :: r') st') st
def pubA {K : List SV → LS → Prop} (x : A K (LS × List SV)) : Prop := match x with | .mk (st, l) => pubAx l K st
/-- The same for arguments: structs too. -/
def pubSx : List SV → (List SV → LS → Prop) → LS → Prop
  | [], K, st => K [] st
  | .agg cs :: r, K, st => pubAx cs (fun cs' st' => pubSx r (fun r' st'' => K (.agg cs' :: r') st'') st') st
  | s :: r, K, st => pubAx [s] (fun s' st' => pubSx r (fun r' st'' => K (s' ++ r') st'') st') st
def pubS {K : List SV → LS → Prop} (x : A K (LS × List SV)) : Prop := match x with | .mk (st, l) => pubSx l K st

/-- The own blocks that values reach, in the order in which they are met. -/
def addId (acc : List Nat) (k : Nat) : List Nat := if acc.contains k = true then acc else acc ++ [k]
def idsA (acc : List Nat) : List SV → List Nat
  | [] => acc
  | .box k _ :: r => idsA (addId acc k) r
  | .vec k _ :: r => idsA (addId acc k) r
  | .vp k _ _ :: r => idsA (addId acc k) r
  | .mp k :: r => idsA (addId acc k) r
  | .v _ :: r => idsA acc r
  | .agg _ :: r => idsA acc r
  | .tup _ :: r => idsA acc r
def cellsOf : Option Bx → List SV
  | some b => b.cs
  | none => []
def idsS (acc : List Nat) : List SV → List Nat
  | [] => acc
  | .agg cs :: r => idsS (idsA acc cs) r
  | s :: r => idsS (idsA acc [s]) r
/-- .. and what the boxes among them hold (two steps deep). -/
def idsB (bx : List Bx) : List Nat → List Nat → List Nat
  | acc, [] => acc
  | acc, k :: r => idsB bx (idsA acc (cellsOf (lkB bx k))) r
def closeIds (bx : List Bx) (l : List Nat) : List Nat := idsB bx (idsB bx l l) (idsB bx l l)
def idxOf : List Nat → Nat → Option Nat
  | [], _ => none
  | j :: r, i => if j = i then some 0 else (idxOf r i).map (· + 1)
def ren (L : List Nat) (base : Nat) (i : Nat) : Nat := ((idxOf L i).map fun j => j).getD (base + i)
def unren (L : List Nat) (base : Nat) (j : Nat) : Nat := (L[j]?).getD (base + j)
def renA (ρ : Nat → Nat) : SV → SV
  | .box k o => .box (ρ k) o
  | .vec k u => .vec (ρ k) u
  | .vp k u o => .vp (ρ k) u o
  | .mp k => .mp (ρ k)
  | .v x => .v x
  | .agg cs => .agg cs
  | .tup cs => .tup cs
def renB (ρ : Nat → Nat) : SV → SV
  | .agg cs => .agg (cs.map (renA ρ))
  | s => renA ρ s
def renS (ρ : Nat → Nat) : SV → SV
  | .tup l => .tup (l.map (renB ρ))
  | s => renB ρ s
def renBx (ρ : Nat → Nat) : Bx → Bx | ⟨k, t, cs⟩ => ⟨ρ k, t, cs.map (renA ρ)⟩
def renVc (ρ : Nat → Nat) : Vc → Vc | ⟨k, u, e, z, n, xs⟩ => ⟨ρ k, u, e, z, n, xs⟩
def lkVi : List Vc → Nat → Option Vc
  | [], _ => none
  | ⟨k', u', e', z', n', x'⟩ :: r, i => if k' = i then some ⟨k', u', e', z', n', x'⟩ else lkVi r i
def pickBx (L : List Nat) : List Bx → List Bx
  | [] => []
  | ⟨k', t', cs'⟩ :: r => if L.contains k' = true then ⟨k', t', cs'⟩ :: pickBx L r else pickBx L r
def pickVc (L : List Nat) : List Vc → List Vc
  | [] => []
  | ⟨k', u', e', z', n', x'⟩ :: r => if L.contains k' = true then ⟨k', u', e', z', n', x'⟩ :: pickVc L r else pickVc L r
def dropBx (L : List Nat) : List Bx → List Bx
  | [] => []
  | ⟨k', t', cs'⟩ :: r => if L.contains k' = true then dropBx L r else ⟨k', t', cs'⟩ :: dropBx L r
def dropVc (L : List Nat) : List Vc → List Vc
  | [] => []
  | ⟨k', u', e', z', n', x'⟩ :: r => if L.contains k' = true then dropVc L r else ⟨k', u', e', z', n', x'⟩ :: dropVc L r
def topB : List Bx → Nat | [] => 0 | ⟨k, _, _⟩ :: r => max (k + 1) (topB r)
def topV : List Vc → Nat | [] => 0 | ⟨k, _, _, _, _, _⟩ :: r => max (k + 1) (topV r)

structure Cfg where
  own : FuncId → Bool
  pure : FuncId → Option (List Value → Option (Prop × Value))

/-- What the caller's state is behind a call that was handed the own blocks 'L'. -/
def backSt (st : LS) (L : List Nat) (H' : Hp) (m' : Mem) : LS :=
  ⟨st.env, st.rho, H'.bx.map (renBx (unren L st.nid)) ++ dropBx L st.bx, H'.vc.map (renVc (unren L st.nid)) ++ dropVc L st.vc, st.nid + max (topB H'.bx) (topV H'.vc), m'⟩
/-- What is asked of the own blocks that go into a call. -/
def ndL : List Nat → Prop
  | [] => True
  | k :: r => r.contains k = false ∧ ndL r
def ltL (n : Nat) : List Nat → Prop
  | [] => True
  | k :: r => k < n ∧ ltL n r
def inA (L : List Nat) : SV → Prop
  | .v _ => True
  | .box k _ => L.contains k = true
  | .vec k _ => L.contains k = true
  | .vp k _ _ => L.contains k = true
  | .mp k => L.contains k = true
  | .agg _ => True
  | .tup _ => False
def inL (L : List Nat) : List SV → Prop
  | [] => True
  | s :: r => inA L s ∧ inL L r
def inB (L : List Nat) : SV → Prop
  | .agg cs => inL L cs
  | s => inA L s
def inBs (L : List Nat) : List SV → Prop
  | [] => True
  | s :: r => inB L s ∧ inBs L r
def inBx (L : List Nat) : List Bx → Prop
  | [] => True
  | ⟨_, _, cs⟩ :: r => inL L cs ∧ inBx L r
def okIn (st : LS) (L : List Nat) (args : List SV) : Prop := ndL L ∧ ltL st.nid L ∧ inBs L args ∧ inBx L (pickBx L st.bx)
/-- .. and of what comes back: the ids are known ones or new ones, and no own slice went back to an earlier state. -/
def bkA (nB nV : List Nat) (len : Nat) : SV → Prop
  | .v _ => True
  | .box j _ => if j < len then nB.contains j = true else True
  | .vec j _ => if j < len then nV.contains j = true else True
  | .vp j _ _ => if j < len then nV.contains j = true else True
  | .mp j => if j < len then nB.contains j = true else True
  | .agg _ => True
  | .tup _ => True
def bkL (nB nV : List Nat) (len : Nat) : List SV → Prop
  | [] => True
  | s :: r => bkA nB nV len s ∧ bkL nB nV len r
def bkB (nB nV : List Nat) (len : Nat) : SV → Prop
  | .agg cs => bkL nB nV len cs
  | s => bkA nB nV len s
def bkT (nB nV : List Nat) (len : Nat) : List SV → Prop
  | [] => True
  | s :: r => bkB nB nV len s ∧ bkT nB nV len r
def bkS (nB nV : List Nat) (len : Nat) : SV → Prop
  | .tup l => bkT nB nV len l
  | s => bkB nB nV len s
def bkBx (nB nV : List Nat) (len : Nat) : List Bx → Prop
  | [] => True
  | ⟨k, _, cs⟩ :: r => (if k < len then nB.contains k = true else True) ∧ bkL nB nV len cs ∧ bkBx nB nV len r
def bkVc (nV : List Nat) (len : Nat) : List Vc → Prop
  | [] => True
  | ⟨k, _, _, _, _, _⟩ :: r => (if k < len then nV.contains k = true else True) ∧ bkVc nV len r
def okBxs (nid : Nat) (vc : List Vc) : List Bx → Prop
  | [] => True
  | ⟨_, _, cs⟩ :: r => okL nid vc cs ∧ okBxs nid vc r
def verBk (L : List Nat) (vc' : List Vc) : List Vc → Prop
  | [] => True
  | ⟨k, u, _, _, _, _⟩ :: r => (if L.contains k = true then verLe vc' k u else True) ∧ verBk L vc' r
def idsBx : List Bx → List Nat
  | [] => []
  | ⟨k, _, _⟩ :: r => k :: idsBx r
def idsVc : List Vc → List Nat
  | [] => []
  | ⟨k, _, _, _, _, _⟩ :: r => k :: idsVc r
def hpIn (st : LS) (L : List Nat) : Hp := ⟨(pickBx L st.bx).map (renBx (ren L 0)), (pickVc L st.vc).map (renVc (ren L 0))⟩
def okBack2 {L : List Nat} {r : SV} {H' : Hp} (x : A (L, r, H') (LS × LS × Hp)) : Prop :=
  match x with
  | .mk (st, st', Hi) => bkS (idsBx Hi.bx) (idsVc Hi.vc) L.length r ∧ bkBx (idsBx Hi.bx) (idsVc Hi.vc) L.length H'.bx ∧ bkVc (idsVc Hi.vc) L.length H'.vc ∧
      okS st'.nid st'.vc (renS (unren L st.nid) r) ∧ okBxs st'.nid st'.vc (H'.bx.map (renBx (unren L st.nid))) ∧ verBk L (H'.vc.map (renVc (unren L st.nid))) st.vc
def okBack (st : LS) (L : List Nat) (r : SV) (H' : Hp) (m' : Mem) : Prop := okBack2 (.mk (k := (L, r, H')) (st, backSt st L H' m', hpIn st L))
def callL {P : Program} {f : FuncId} {st : LS} {args : List SV} {K : SV → LS → Prop} (x : A (P, f, st, args, K) (List Nat)) : Prop :=
  match x with
  | .mk L => okIn st L args ∧ FnV (.mk (k := (P, f, fun r H' m' => okBack st L r H' m' ∧ K (renS (unren L st.nid) r) (backSt st L H' m')))
      (args.map (renS (ren L 0)), hpIn st L, st.m))
def callH {P : Program} {f : FuncId} {K : SV → LS → Prop} (x : A (P, f, K) (LS × List SV)) : Prop :=
  match x with
  | .mk (st, args) => callL (.mk (k := (P, f, st, args, K)) (closeIds st.bx (idsS [] args)))
def callO {P : Program} {f : FuncId} {st : LS} {args : List SV} {K : SV → LS → Prop} (x : A (P, f, st, args, K) Bool) : Prop :=
  match x with
  | .mk true => callH (.mk (k := (P, f, K)) (st, args))
  | .mk false => pubS (.mk (k := fun args' st' => callH (.mk (k := (P, f, K)) (st', args'))) (st, args))

def rdOs (st : LS) (p : Pth) : List Operand → Option (List SV)
  | [] => some []
  | x :: r => (rdO st p x).bind fun s => (rdOs st p r).map (s :: ·)
def partsC (sz : Nat) (st : LS) (p : Pth) : List (Nat × Operand) → List SV → Option (List SV)
  | [], cs => some cs
  | (i, x) :: r, cs => ((rdO st p x).bind svCells).bind fun l => if l.length = sz then (if i * sz + sz ≤ cs.length then partsC sz st p r (setC cs (i * sz) l) else none) else none

/-- The same where the parts come one behind the other, none left out. -/
def partsS (sz : Nat) (st : LS) (p : Pth) : Nat → List (Nat × Operand) → Option (List SV)
  | _, [] => some []
  | i, (j, x) :: r => if j = i then ((rdO st p x).bind svCells).bind fun l => if l.length = sz then (partsS sz st p (i + 1) r).map (l ++ ·) else none else none
def partsG (sz : Nat) (st : LS) (p : Pth) (parts : List (Nat × Operand)) (len : Nat) (z : List SV) : Option (List SV) → Option (List SV)
  | some cs => if cs.length = len * sz then some cs else partsC sz st p parts (List.replicate len z).flatten
  | none => partsC sz st p parts (List.replicate len z).flatten

def bumpV : Vc → Nat → List Value → Vc | ⟨k, u, e, z, _, _⟩, n, xs => ⟨k, u + 1, e, z, n, xs⟩
def room (n by_ : Nat) : Prop := n * by_ ≤ 140737488355328 ∧ n ≤ maxLen

/-- append's second argument: how many elements, and their cells. -/
def appSrc {P : Program} {tx : TypeId} {sz : Nat} {K : Nat → List Value → Prop} (x : A (P, tx, sz, K) (LS × SV)) : Prop :=
  match x with
  | .mk (st, .vec k u) => withO (.mk (k := fun _ : TypeId => withO (.mk (k := fun b : Vc => b.sz = sz ∧ K b.n b.xs) (lkV st.vc k u))) (elT P tx))
  | .mk (st, .v (.slice a n _)) => withO (.mk (k := fun _ : TypeId => ∃ xs, Rds st.m a n sz xs ∧ (∀ u ∈ xs, u.oneCell' = true) ∧ K n xs) (elT P tx))
  | .mk (_, .v (.string s)) => P.underlying tx = some .string ∧ sz = 1 ∧ K (tl s).length (u8s (tl s))
  | _ => False
def lApp {P : Program} {e tx : TypeId} {y : SV} {K : SV → LS → Prop} (x : A (P, e, tx, y, K) (LS × SV)) : Prop :=
  match x with
  | .mk (st, .vec k u) => withO (.mk (k := fun b : Vc => b.sz = szT P e ∧ b.el = e ∧ 0 < szT P e ∧ withO (.mk (k := fun z : List SV => z.length = szT P e ∧ appSrc (.mk (k := (P, tx, szT P e, fun n xs => room (b.n + n) (byT P e) ∧
      K (.vec k (u + 1)) ⟨st.env, st.rho, st.bx, updV st.vc k (bumpV b (b.n + n) (b.xs ++ xs)), st.nid, st.m⟩)) (st, y))) (zeroO P e))) (lkV st.vc k u))
  | .mk (st, .v (.slice none 0 0)) => 0 < szT P e ∧ withO (.mk (k := fun z : List SV => z.length = szT P e ∧ appSrc (.mk (k := (P, tx, szT P e, fun n xs => room n (byT P e) ∧
      K (.vec st.nid 0) ⟨st.env, st.rho, st.bx, ⟨st.nid, 0, e, szT P e, n, xs⟩ :: st.vc, st.nid + 1, st.m⟩)) (st, y))) (zeroO P e))
  | _ => False
def lSto {sz : Nat} {cs : List SV} {K : SV → LS → Prop} (x : A (sz, cs, K) (LS × SV)) : Prop :=
  match x with
  | .mk (st, .box k o) => withO (.mk (k := fun b : Bx => (b.ty == mapTy) = false ∧ 0 < sz ∧ cs.length = sz ∧ okC cs = true ∧ okL st.nid st.vc cs ∧ o + cs.length ≤ b.cs.length ∧ K (.v undef) ⟨st.env, st.rho, updB st.bx k (setC b.cs o cs), st.vc, st.nid, st.m⟩) (lkB st.bx k))
  | _ => False
def lMk {P : Program} {e : TypeId} {z : List Value} {K : SV → LS → Prop} (x : A (P, e, z, K) (LS × SV × SV)) : Prop :=
  match x with
  | .mk (st, .v (.int _ l), .v (.int _ cp)) => 0 ≤ l ∧ l ≤ cp ∧ room cp.toNat (byT P e) ∧ z.length = szT P e ∧ 0 < szT P e ∧ okC (z.map .v) = true ∧
      K (.vec st.nid 0) ⟨st.env, st.rho, st.bx, ⟨st.nid, 0, e, szT P e, l.toNat, (List.replicate l.toNat z).flatten⟩ :: st.vc, st.nid + 1, st.m⟩
  | _ => False
/-- A function with a body of Go's (proved for each function that is called). -/
def fnOk (P : Program) (f : FuncId) : Bool :=
  match P.funcs[f]? with
  | some fn => !(fn.name == "runtime.NumGoroutine") && fn.body.isSome
  | none => false
def lCall {c : Cfg} {P : Program} {l : List SV} {K : SV → LS → Prop} (x : A (c, P, l, K) (LS × SV)) : Prop :=
  match x with
  | .mk (st, .v (.func (.func f) ⟨[]⟩ ⟨[]⟩)) => fnOk P f = true ∧ callO (.mk (k := (P, f, st, l, K)) (c.own f))
  | _ => False

def lMpu {P : Program} {t : TypeId} {K : SV → LS → Prop} (x : A (P, t, K) (LS × SV × SV × SV)) : Prop :=
  match x with
  | .mk (st, .mp k, .v (.string s), .v (.bool v)) => withO (.mk (k := fun b : Bx => (b.ty == mapTy) = true ∧ strMap P t = true ∧ withO (.mk (k := fun l : List Value => K (.v undef) ⟨st.env, st.rho, updB st.bx k ((putV l (tl s) v).map .v), st.vc, st.nid, st.m⟩) (plains b.cs))) (lkB st.bx k))
  | _ => False
def lOp {c : Cfg} {P : Program} {op : Op} {K : SV → LS → Prop} (x : A (c, P, op, K) (LS × Pth)) : Prop :=
  match op, x with
  | .alloc t, .mk (st, _) => withO (.mk (k := fun cs : List SV => (t == mapTy) = false ∧ okL st.nid st.vc cs ∧ K (.box st.nid 0) ⟨st.env, st.rho, ⟨st.nid, t, cs⟩ :: st.bx, st.vc, st.nid + 1, st.m⟩) (zeroO P t))
  | .box t x, .mk (st, p) => withO (.mk (k := fun cs : List SV => (t == mapTy) = false ∧ okL st.nid st.vc cs ∧ K (.box st.nid 0) ⟨st.env, st.rho, ⟨st.nid, t, cs⟩ :: st.bx, st.vc, st.nid + 1, st.m⟩) ((rdO st p x).bind svCells))
  | .store t a x, .mk (st, p) => withO (.mk (k := fun a : SV => withO (.mk (k := fun cs : List SV => lSto (.mk (k := (szT P t, cs, K)) (st, a))) ((rdO st p x).bind svCells))) (rdO st p a))
  | .buildSlice t len parts, .mk (st, p) => withO (.mk (k := fun e : TypeId => withO (.mk (k := fun z : List SV => z.length = szT P e ∧ 0 < szT P e ∧ len * szT P e ≤ 16777216 ∧
      withO (.mk (k := fun cs : List SV => pubA (.mk (k := fun cs' st' => withO (.mk (k := fun l : List Value => okC cs' = true ∧
        K (.vec st'.nid 0) ⟨st'.env, st'.rho, st'.bx, ⟨st'.nid, 0, e, szT P e, len, l⟩ :: st'.vc, st'.nid + 1, st'.m⟩) (plains cs'))) (st, cs)))
        (partsG (szT P e) st p parts.toList len z (partsS (szT P e) st p 0 parts.toList)))) (zeroO P e))) (elT P t))
  | .call { callee := .builtin .append, args := ⟨[s, x]⟩, argTypes := ⟨[t, tx]⟩ }, .mk (st, p) =>
      withO (.mk (k := fun s : SV => withO (.mk (k := fun y : SV => withO (.mk (k := fun e : TypeId => lApp (.mk (k := (P, e, tx, y, K)) (st, s))) (elT P t))) (rdO st p x))) (rdO st p s))
  | .makeSlice t l cp, .mk (st, p) => withO (.mk (k := fun l : SV => withO (.mk (k := fun cp : SV => withO (.mk (k := fun e : TypeId => withO (.mk (k := fun z : List Value => lMk (.mk (k := (P, e, z, K)) (st, l, cp))) ((zeroO P e).bind plains))) (elT P t))) (rdO st p cp))) (rdO st p l))
  | .makeMap _ none, .mk (st, _) => K (.mp st.nid) ⟨st.env, st.rho, ⟨st.nid, mapTy, []⟩ :: st.bx, st.vc, st.nid + 1, st.m⟩
  | .mapUpdate t m k x, .mk (st, p) => withO (.mk (k := fun a : SV => withO (.mk (k := fun i : SV => withO (.mk (k := fun y : SV => lMpu (.mk (k := (P, t, K)) (st, a, i, y))) (rdO st p x))) (rdO st p k))) (rdO st p m))
  | .call { callee := .value f, args, .. }, .mk (st, p) => withO (.mk (k := fun l : List SV => withO (.mk (k := fun f : SV => lCall (.mk (k := (c, P, l, K)) (st, f))) (rdO st p f))) (rdOs st p args.toList))
  | _, _ => False

/-- Quiet; a call of a function that is known to be one of values; an act. -/
inductive OpK where
  | qt
  | pu (F : List Value → Option (Prop × Value))
  | ac
def pk : Option (List Value → Option (Prop × Value)) → OpK
  | some F => .pu F
  | none => .ac
def opK (c : Cfg) : Op → OpK
  | .move _ | .assign _ | .pick .. | .nilCheck _ | .binOp .. | .unOp .. | .convert .. | .fieldAddr .. | .field .. | .indexAddr .. | .index .. | .slice .. | .load .. | .extract .. | .build .. | .lookup .. => .qt
  | .call { callee := .builtin .len, .. } => .qt
  | .call { callee := .builtin .min, .. } => .qt
  | .call { callee := .builtin .max, .. } => .qt
  | .call { callee := .value (.func f), .. } => pk (c.pure f)
  | _ => .ac
def callArgs : Op → List Operand
  | .call { args, .. } => args.toList
  | _ => []
def qCall {F : List Value → Option (Prop × Value)} {u : Prop → Prop} {K : SV → Prop} (x : A (F, u, K) (Option (List SV))) : Prop :=
  match x with
  | .mk l => withO (.mk (k := fun y : Prop × Value => u y.1 ∧ K (.v y.2)) ((l.bind plainSs).bind F))

/-! A region, in the order of the text. -/
def fixG : List Gd → Nat → Bool → List Gd
  | [], _, _ => []
  | ⟨i', t', p', b'⟩ :: r, j, x => if i' = j then ⟨i', t', p', .lit x⟩ :: fixG r j x else ⟨i', t', p', b'⟩ :: fixG r j x
/-- Decide the guard: each Bool on the path that is not known is split upon. -/
def forkG {j : Nat} {w : Bool} {dead live : LS → Prop} (x : A (j, w, dead, live) (LS × Gd)) : Prop :=
  match w, x with
  | true, .mk (st, ⟨_, t, q, .sym b⟩) =>
      (b = true → live ⟨⟨t, q, .v (.bool true)⟩ :: st.env, fixG st.rho j true, st.bx, st.vc, st.nid, st.m⟩) ∧
      (b = false → dead ⟨⟨t, q, .v (.bool false)⟩ :: st.env, fixG st.rho j false, st.bx, st.vc, st.nid, st.m⟩)
  | false, .mk (st, ⟨_, t, q, .sym b⟩) =>
      (b = false → live ⟨⟨t, q, .v (.bool false)⟩ :: st.env, fixG st.rho j false, st.bx, st.vc, st.nid, st.m⟩) ∧
      (b = true → dead ⟨⟨t, q, .v (.bool true)⟩ :: st.env, fixG st.rho j true, st.bx, st.vc, st.nid, st.m⟩)
  | true, .mk (st, ⟨_, _, _, .lit true⟩) => live st
  | false, .mk (st, ⟨_, _, _, .lit false⟩) => live st
  | true, .mk (st, ⟨_, _, _, .lit false⟩) => dead st
  | false, .mk (st, ⟨_, _, _, .lit true⟩) => dead st
def forkPx : Pth → (LS → Prop) → (LS → Prop) → LS → Prop
  | [], _, live, st => live st
  | (j, w) :: p, dead, live, st => forkPx p dead (fun st' => withO (.mk (k := fun g : Gd => forkG (.mk (k := (j, w, dead, live)) (st', g))) (lkG st'.rho j))) st
def forkP {dead live : LS → Prop} (x : A (dead, live) (LS × Pth)) : Prop := match x with | .mk (st, p) => forkPx p dead live st

def put (st : LS) (d : Option Nat) (p : Pth) (s : SV) : LS :=
  match d with
  | some d => ⟨⟨d, p, s⟩ :: st.env, st.rho, st.bx, st.vc, st.nid, st.m⟩
  | none => st
/-- A Bool that was moved may be a guard. -/
def noteG (st : LS) (i : Nat) (d : Option Nat) (p : Pth) (mv : Bool) (s : SV) : LS :=
  match mv, d, s with
  | true, some d, .v (.bool b) => ⟨st.env, ⟨i, d, p, .sym b⟩ :: st.rho, st.bx, st.vc, st.nid, st.m⟩
  | _, _, _ => st
def isMove : Op → Bool
  | .move _ => true
  | _ => false
def pathOf (st : LS) : Option (Nat × Bool) → Option Pth
  | none => some []
  | some (j, w) => (lkG st.rho j).map fun g => (j, w) :: g.p
def noteD (st : LS) (i : Nat) (d : Option Nat) (p : Pth) (mv : Bool) : LS :=
  match mv, d with
  | true, some d => ⟨st.env, ⟨i, d, p, .sym false⟩ :: st.rho, st.bx, st.vc, st.nid, st.m⟩
  | _, _ => st
def one3 {c : Cfg} {P : Program} {i : Nat} {o : Oper} {K : LS → Prop} {q : OpK} {dead : Bool} (x : A (c, P, i, o, K, q, dead) (LS × Pth)) : Prop :=
  match dead, q, x with
  | true, _, .mk (st, p) => K (noteD (put st o.dst p (.v undef)) i o.dst p (isMove o.op))
  | false, .qt, .mk (st, p) => qOp (.mk (k := (P, o.op, fun s => okS st.nid st.vc s ∧ K (noteG (put st o.dst p s) i o.dst p (isMove o.op) s))) (st, p))
  | false, .pu F, .mk (st, p) => qCall (.mk (k := (F, und st p, fun s => K (put st o.dst p s))) (rdOs st p (callArgs o.op)))
  | false, .ac, .mk (st, p) => forkP (.mk (k := (fun st' => K (put st' o.dst p (.v undef)), fun st' => lOp (.mk (k := (c, P, o.op, fun s st'' => okS st''.nid st''.vc s ∧ K (put st'' o.dst p s))) (st', p)))) (st, p))
/-- Is the slot that is written a guard's? -/
def hitG : List Gd → Option Nat → Bool
  | [], _ => false
  | _ :: _, none => false
  | ⟨_, t', _, _⟩ :: r, some d => if t' = d then true else hitG r (some d)
def one2 {c : Cfg} {P : Program} {i : Nat} {o : Oper} {K : LS → Prop} {st : LS} {p : Pth} (x : A (c, P, i, o, K, st, p) (OpK × Bool × Bool)) : Prop :=
  match x with
  | .mk (q, dead, false) => one3 (.mk (k := (c, P, i, o, K, q, dead)) (st, p))
  | .mk (_, _, true) => False
def one {c : Cfg} {P : Program} {i : Nat} {o : Oper} {K : LS → Prop} (x : A (c, P, i, o, K) (LS × Pth)) : Prop :=
  match x with
  | .mk (st, p) => one2 (.mk (k := (c, P, i, o, K, st, p)) (opK c o.op, deadP st.rho p, hitG st.rho o.dst))
/-- What is known behind a region: guarded temporaries are forgotten. -/
def memN : List Nat → Nat → Bool
  | [], _ => false
  | y :: r, x => if y = x then true else memN r x
def cleanE : List Nat → List Ev → List Ev
  | _, [] => []
  | dead, ⟨t, [], s⟩ :: r => if memN dead t = true then cleanE dead r else ⟨t, [], s⟩ :: cleanE dead r
  | dead, ⟨t, _ :: _, _⟩ :: r => cleanE (t :: dead) r
def clean (st : LS) : LS := ⟨cleanE [] st.env, [], st.bx, st.vc, st.nid, st.m⟩
def vcLx (c : Cfg) (P : Program) : List Oper → Nat → (LS → Prop) → LS → Prop
  | [], _, K, st => K (clean st)
  | o :: r, i, K, st => withO (.mk (k := fun p : Pth => one (.mk (k := (c, P, i, o, fun st' => vcLx c P r (i + 1) K st')) (st, p))) (pathOf st o.guard))
def vcL {c : Cfg} {P : Program} {i : Nat} {l : List Oper} {K : LS → Prop} (x : A (c, P, i, l, K) LS) : Prop := match x with | .mk st => vcLx c P l i K st

/-! Code. -/
def svBool : SV → Option Bool
  | .v (.bool b) => some b
  | _ => none
def mayN : Code → Bool
  | .ret | .exit _ | .goto _ | .loop _ => false
  | .seq a b => mayN a && mayN b
  | .cond _ a b => mayN a || mayN b
  | _ => true
def thenQ (K : LS → Prop) (Q : Exit → LS → Prop) : Exit → LS → Prop
  | .normal, st => K st
  | e, st => Q e st
def jumpQ (l : Nat) (J : LS → Prop) (Q : Exit → LS → Prop) : Exit → LS → Prop
  | .goto l', st => l' = l ∧ J st
  | e, st => Q e st
def blockQ (id : Nat) (Q : Exit → LS → Prop) : Exit → LS → Prop
  | .exit id', st => if id' = id then Q .normal st else Q (.exit id') st
  | e, st => Q e st
def vcCx (c : Cfg) (P : Program) (n : Nat) : Code → (Exit → LS → Prop) → LS → Prop
  | .skip, Q, st => Q .normal st
  | .region _ ⟨ops⟩ false, Q, st => vcL (.mk (k := (c, P, 0, ops, Q .normal)) st)
  | .seq (.cond x a b) rest, Q, st =>
    match mayN a && mayN b with
    | true => WPv (.mk (k := (P, n, .seq (.cond x a b) rest, Q)) st)
    | false => withO (.mk (k := fun t : Bool => (t = true → vcCx c P n a (thenQ (vcCx c P n rest Q) Q) st) ∧ (t = false → vcCx c P n b (thenQ (vcCx c P n rest Q) Q) st)) ((rdO st [] x).bind svBool))
  | .seq a b, Q, st => vcCx c P n a (thenQ (vcCx c P n b Q) Q) st
  | .cond x a b, Q, st => withO (.mk (k := fun t : Bool => (t = true → vcCx c P n a Q st) ∧ (t = false → vcCx c P n b Q st)) ((rdO st [] x).bind svBool))
  | .block id a, Q, st => vcCx c P n a (blockQ id Q) st
  | .exit id, Q, st => Q (.exit id) st
  | .ret, Q, st => Q .ret st
  | .label _, Q, st => Q .normal st
  | .goto l, Q, st => Q (.goto l) st
  | x, Q, st => WPv (.mk (k := (P, n, x, Q)) st)
def vcC {c : Cfg} {P : Program} {n : Nat} {x : Code} {Q : Exit → LS → Prop} (y : A (c, P, n, x, Q) LS) : Prop := match y with | .mk st => vcCx c P n x Q st
def vcJ {c : Cfg} {P : Program} {n : Nat} {t e : Code} {Q : Exit → LS → Prop} {st : LS} (y : A (c, P, n, t, e, Q, st) Bool) : Prop :=
  match y with
  | .mk b => (b = true → vcC (.mk (k := (c, P, n, t, Q)) st)) ∧ (b = false → vcC (.mk (k := (c, P, n, e, Q)) st))

/-! Results, loops, joins. -/
def ret1 : List SV → SV
  | [x] => x
  | l => .tup l
def retC (P : Program) (st : LS) (t : TypeId) : Option SV → Option SV
  | some (.box k o) => (lkB st.bx k).bind fun b => if (b.ty == mapTy) = true then none else (aggN P t).bind fun ag => takeC b.cs o ag
  | _ => none
def retV (P : Program) (st : LS) : List ResultVar → Option (List SV)
  | [] => some []
  | .tmp t :: r => ((lkE st.env t []).bind noTup).bind fun s => (retV P st r).map (s :: ·)
  | .cell a t :: r => ((retC P st t (lkE st.env a [])).bind noTup).bind fun s => (retV P st r).map (s :: ·)
def endH {st : LS} {l : List SV} {R : SV → Hp → Mem → Prop} (x : A (st, l, R) (List Nat)) : Prop :=
  match x with
  | .mk L => R (ret1 l) ⟨pickBx L st.bx, pickVc L st.vc⟩ st.m
def endQ (P : Program) (res : List ResultVar) (keep : List Nat) (R : SV → Hp → Mem → Prop) : Exit → LS → Prop
  | .ret, st => withO (.mk (k := fun l : List SV => endH (.mk (k := (st, l, R)) (closeIds st.bx (idsS keep l)))) (retV P st res))
  | .normal, st => withO (.mk (k := fun l : List SV => endH (.mk (k := (st, l, R)) (closeIds st.bx (idsS keep l)))) (retV P st res))
  | _, _ => False
def env0 (i : Nat) : List SV → List Ev
  | [] => []
  | s :: r => ⟨i, [], s⟩ :: env0 (i + 1) r
def ids0 (H : Hp) : List Nat := H.bx.map (·.id) ++ H.vc.map (·.id)
def st0 (args : List SV) (H : Hp) (m : Mem) : LS := ⟨env0 0 args, [], H.bx, H.vc, max (topB H.bx) (topV H.vc), m⟩

/-! What a function starts from; the head of a loop. -/
def okSs (nid : Nat) (vc : List Vc) : List SV → Prop
  | [] => True
  | s :: r => okS nid vc s ∧ okSs nid vc r
def okArgs (args : List SV) (H : Hp) : Prop := okSs (max (topB H.bx) (topV H.vc)) H.vc args ∧ okBxs (max (topB H.bx) (topV H.vc)) H.vc H.bx
def okEs (nid : Nat) (vc : List Vc) : List Ev → Prop
  | [] => True
  | ⟨_, _, s⟩ :: r => okS nid vc s ∧ okEs nid vc r
def okHB (nid : Nat) (vc : List Vc) : List Bx → Prop
  | [] => True
  | ⟨k, _, cs⟩ :: r => k < nid ∧ okL nid vc cs ∧ okHB nid vc r
def okHV (nid : Nat) : List Vc → Prop
  | [] => True
  | ⟨k, _, _, _, _, _⟩ :: r => k < nid ∧ okHV nid r
def okHd (st : LS) : Prop := okEs st.nid st.vc st.env ∧ okHB st.nid st.vc st.bx ∧ okHV st.nid st.vc
def mEnv (st : LS) : List Ev → Prop
  | [] => True
  | ⟨t, p, s⟩ :: r => lkE st.env t [] = some s ∧ p = [] ∧ mEnv st r
def mBx (st : LS) : List Bx → Prop
  | [] => True
  | ⟨k, t, cs⟩ :: r => lkB st.bx k = some ⟨k, t, cs⟩ ∧ lkB r k = none ∧ mBx st r
def mVc (st : LS) : List Vc → Prop
  | [] => True
  | ⟨k, u, e, z, n, xs⟩ :: r => lkVi st.vc k = some ⟨k, u, e, z, n, xs⟩ ∧ lkVi r k = none ∧ mVc st r
def leM (m m' : Mem) : Prop := m = m' ∨ m.le m'
theorem leM_self (m : Mem) : leM m m = True := eq_true (.inl rfl)
/-- The first state is at least what the second says. -/
def Match (st st' : LS) : Prop := mEnv st st'.env ∧ st'.rho = [] ∧ mBx st st'.bx ∧ mVc st st'.vc ∧ leM st'.m st.m

section
variable {c : Cfg} {P : Program} {n i : Nat}
theorem vcL_nil {K : LS → Prop} {st : LS} : vcL (.mk (k := (c, P, i, [], K)) st) = K (clean st) := rfl
theorem vcL_cons {K : LS → Prop} {st : LS} {o : Oper} {r : List Oper} : vcL (.mk (k := (c, P, i, o :: r, K)) st) =
    withO (.mk (k := fun p : Pth => one (.mk (k := (c, P, i, o, fun st' => vcL (.mk (k := (c, P, i + 1, r, K)) st'))) (st, p))) (pathOf st o.guard)) := rfl
theorem pubA_nil {K : List SV → LS → Prop} {st : LS} : pubA (.mk (k := K) (st, [])) = K [] st := rfl
theorem pubA_vec {K : List SV → LS → Prop} {st : LS} {k u : Nat} {r : List SV} : pubA (.mk (k := K) (st, .vec k u :: r)) =
    withO (.mk (k := fun b : Vc => pubV (.mk (k := (st, fun v st' => pubA (.mk (k := fun r' st'' => K (.v v :: r') st'') (st', r)))) b)) (lkV st.vc k u)) := rfl
theorem pubA_v {K : List SV → LS → Prop} {st : LS} {x : Value} {r : List SV} : pubA (.mk (k := K) (st, .v x :: r)) = pubA (.mk (k := fun r' st' => K (.v x :: r') st') (st, r)) := rfl
theorem pubA_box {K : List SV → LS → Prop} {st : LS} {k u : Nat} {r : List SV} : pubA (.mk (k := K) (st, .box k u :: r)) = pubA (.mk (k := fun r' st' => K (.box k u :: r') st') (st, r)) := rfl
theorem pubA_vp {K : List SV → LS → Prop} {st : LS} {k u o : Nat} {r : List SV} : pubA (.mk (k := K) (st, .vp k u o :: r)) = pubA (.mk (k := fun r' st' => K (.vp k u o :: r') st') (st, r)) := rfl
theorem pubA_mp {K : List SV → LS → Prop} {st : LS} {k : Nat} {r : List SV} : pubA (.mk (k := K) (st, .mp k :: r)) = pubA (.mk (k := fun r' st' => K (.mp k :: r') st') (st, r)) := rfl
theorem pubS_mp {K : List SV → LS → Prop} {st : LS} {k : Nat} {r : List SV} : pubS (.mk (k := K) (st, .mp k :: r)) = pubS (.mk (k := fun r' st' => K (.mp k :: r') st') (st, r)) := rfl
theorem pubS_nil {K : List SV → LS → Prop} {st : LS} : pubS (.mk (k := K) (st, [])) = K [] st := rfl
theorem pubS_agg {K : List SV → LS → Prop} {st : LS} {cs r : List SV} : pubS (.mk (k := K) (st, .agg cs :: r)) =
    pubA (.mk (k := fun cs' st' => pubS (.mk (k := fun r' st'' => K (.agg cs' :: r') st'') (st', r))) (st, cs)) := rfl
theorem pubS_v {K : List SV → LS → Prop} {st : LS} {x : Value} {r : List SV} : pubS (.mk (k := K) (st, .v x :: r)) = pubS (.mk (k := fun r' st' => K (.v x :: r') st') (st, r)) := rfl
theorem pubS_box {K : List SV → LS → Prop} {st : LS} {k u : Nat} {r : List SV} : pubS (.mk (k := K) (st, .box k u :: r)) = pubS (.mk (k := fun r' st' => K (.box k u :: r') st') (st, r)) := rfl
theorem pubS_vec {K : List SV → LS → Prop} {st : LS} {k u : Nat} {r : List SV} : pubS (.mk (k := K) (st, .vec k u :: r)) =
    withO (.mk (k := fun b : Vc => pubV (.mk (k := (st, fun v st' => pubS (.mk (k := fun r' st'' => K (.v v :: r') st'') (st', r)))) b)) (lkV st.vc k u)) := rfl
theorem forkP_nil {dead live : LS → Prop} {st : LS} : forkP (.mk (k := (dead, live)) (st, [])) = live st := rfl
theorem forkP_cons {dead live : LS → Prop} {st : LS} {j : Nat} {w : Bool} {p : Pth} : forkP (.mk (k := (dead, live)) (st, (j, w) :: p)) =
    forkP (.mk (k := (dead, fun st' => withO (.mk (k := fun g : Gd => forkG (.mk (k := (j, w, dead, live)) (st', g))) (lkG st'.rho j)))) (st, p)) := rfl
variable {Q : Exit → LS → Prop} {st : LS}
theorem vcC_skip : vcC (.mk (k := (c, P, n, .skip, Q)) st) = Q .normal st := rfl
theorem vcC_region {id : Nat} {l : List Oper} : vcC (.mk (k := (c, P, n, .region id ⟨l⟩ false, Q)) st) = vcL (.mk (k := (c, P, 0, l, Q .normal)) st) := rfl
theorem vcC_draw {id : Nat} {l : Array Oper} : vcC (.mk (k := (c, P, n, .region id l true, Q)) st) = WPv (.mk (k := (P, n, .region id l true, Q)) st) := by cases l; rfl
theorem vcC_join {x : Operand} {t e rest : Code} (h : (mayN t && mayN e) = true) : vcC (.mk (k := (c, P, n, .seq (.cond x t e) rest, Q)) st) = WPv (.mk (k := (P, n, .seq (.cond x t e) rest, Q)) st) := by
  simp only [vcC, vcCx, h]
theorem vcC_if {x : Operand} {t e rest : Code} (h : (mayN t && mayN e) = false) : vcC (.mk (k := (c, P, n, .seq (.cond x t e) rest, Q)) st) =
    withO (.mk (k := fun b : Bool => vcJ (.mk (k := (c, P, n, t, e, thenQ (fun st' => vcC (.mk (k := (c, P, n, rest, Q)) st')) Q, st)) b)) ((rdO st [] x).bind svBool)) := by
  simp only [vcC, vcCx, h]; rfl
theorem vcC_seqR {id : Nat} {l : Array Oper} {d : Bool} {b : Code} : vcC (.mk (k := (c, P, n, .seq (.region id l d) b, Q)) st) = vcC (.mk (k := (c, P, n, .region id l d, thenQ (fun st' => vcC (.mk (k := (c, P, n, b, Q)) st')) Q)) st) := rfl
theorem vcC_seqB {id : Nat} {a b : Code} : vcC (.mk (k := (c, P, n, .seq (.block id a) b, Q)) st) = vcC (.mk (k := (c, P, n, .block id a, thenQ (fun st' => vcC (.mk (k := (c, P, n, b, Q)) st')) Q)) st) := rfl
theorem vcC_seqS {x y b : Code} : vcC (.mk (k := (c, P, n, .seq (.seq x y) b, Q)) st) = vcC (.mk (k := (c, P, n, .seq x y, thenQ (fun st' => vcC (.mk (k := (c, P, n, b, Q)) st')) Q)) st) := rfl
theorem vcC_seqL {x b : Code} : vcC (.mk (k := (c, P, n, .seq (.loop x) b, Q)) st) = WPv (.mk (k := (P, n, .loop x, thenQ (fun st' => vcC (.mk (k := (c, P, n, b, Q)) st')) Q)) st) := rfl
theorem vcC_seqO {x b : Code} : vcC (.mk (k := (c, P, n, .seq (.scope x) b, Q)) st) = WPv (.mk (k := (P, n, .scope x, thenQ (fun st' => vcC (.mk (k := (c, P, n, b, Q)) st')) Q)) st) := rfl
theorem vcC_seqN {b : Code} : vcC (.mk (k := (c, P, n, .seq .skip b, Q)) st) = vcC (.mk (k := (c, P, n, b, Q)) st) := rfl
theorem vcC_cond {x : Operand} {t e : Code} : vcC (.mk (k := (c, P, n, .cond x t e, Q)) st) =
    withO (.mk (k := fun b : Bool => vcJ (.mk (k := (c, P, n, t, e, Q, st)) b)) ((rdO st [] x).bind svBool)) := rfl
theorem vcC_block {id : Nat} {a : Code} : vcC (.mk (k := (c, P, n, .block id a, Q)) st) = vcC (.mk (k := (c, P, n, a, blockQ id Q)) st) := rfl
theorem vcC_loop {a : Code} : vcC (.mk (k := (c, P, n, .loop a, Q)) st) = WPv (.mk (k := (P, n, .loop a, Q)) st) := rfl
theorem vcC_scope {a : Code} : vcC (.mk (k := (c, P, n, .scope a, Q)) st) = WPv (.mk (k := (P, n, .scope a, Q)) st) := rfl
theorem vcC_exit {id : Nat} : vcC (.mk (k := (c, P, n, .exit id, Q)) st) = Q (.exit id) st := rfl
theorem vcC_label {l : Nat} : vcC (.mk (k := (c, P, n, .label l, Q)) st) = Q .normal st := rfl
theorem vcC_goto {l : Nat} : vcC (.mk (k := (c, P, n, .goto l, Q)) st) = Q (.goto l) st := rfl
theorem vcC_seqA {l : Nat} {b : Code} : vcC (.mk (k := (c, P, n, .seq (.label l) b, Q)) st) = vcC (.mk (k := (c, P, n, b, Q)) st) := rfl
theorem vcC_ret : vcC (.mk (k := (c, P, n, .ret, Q)) st) = Q .ret st := rfl
end
end Go.Proofs.YtalalcpefggniaaGreatDoor.E

/- The engine, part C: what simp reckons it by. -/
set_option linter.unusedSimpArgs false
set_option linter.unusedVariables false
namespace Go.Proofs.YtalalcpefggniaaGreatDoor.E
open Go
attribute [go_sem] GB.val.eq_1 GB.val.eq_2 mapTy.eq_1 pthEq.eq_1 pthEq.eq_2 pthEq.eq_3 sfx.eq_1 sfx.eq_2 lkE.eq_1 lkE.eq_2 lkG.eq_1 lkG.eq_2 lkGs.eq_1 lkGs.eq_2 lkB.eq_1 lkB.eq_2 lkV.eq_1 lkV.eq_2 gval.eq_1 condP.eq_1 condP.eq_2 gdead.eq_1 gdead.eq_2 gdead.eq_3 deadP.eq_1 deadP.eq_2 und.eq_1 rdO.eq_1 rdO.eq_2 rdO.eq_3 rdO.eq_4 withO.eq_1 withO.eq_2 arith.eq_1 arith.eq_2 binI.eq_1 binI.eq_2 binI.eq_3 binI.eq_4 binI.eq_5 binI.eq_6 binI.eq_7 binI.eq_8 binI.eq_9 binI.eq_10 binI.eq_11 binI.eq_12 binI.eq_13 binI.eq_14 binI.eq_15 binI.eq_16 binI.eq_17 binS.eq_1 binS.eq_2 binS.eq_3 binS.eq_4 binS.eq_5 binS.eq_6 cellEq.eq_1 cellEq.eq_2 cellEq.eq_3 cellEq.eq_4 cellsEq.eq_1 cellsEq.eq_2 cellsEq.eq_3 fitC.eq_1 fitC.eq_2 fitC.eq_3 fitC.eq_4 fitL.eq_1 fitL.eq_2 fitL.eq_3 fitZ.eq_1 fitZ.eq_2 svCells.eq_1 svCells.eq_2 svCells.eq_3 svCells.eq_4 svCells.eq_5 aggCells.eq_1 aggCells.eq_2 aggCells.eq_3 binB.eq_1 binB.eq_2 binB.eq_3 binQ.eq_1 binQ.eq_2 binQ.eq_3 binQ.eq_4 binQ.eq_5 binQ.eq_6 ptrAdd.eq_1 ptrAdd.eq_2 nnil.eq_1 nnil.eq_2 nnil.eq_3 nnil.eq_4 nnil.eq_5 nnil.eq_6 cell1.eq_1 cell1.eq_2 cell1.eq_3 cell1.eq_4 cell1.eq_5 cell1.eq_6 cell1.eq_7 takeC.eq_1 takeC.eq_2 setC.eq_1 setC.eq_2 pickM.eq_1 pickM.eq_2 pickM.eq_3 pickB.eq_1 pickB.eq_2 pickB.eq_3 pickB.eq_4 sliceBd.eq_1 sliceBd.eq_2 sliceBd.eq_3 optO.eq_1 optO.eq_2 buildC.eq_1 buildC.eq_2 qNil.eq_1 qNil.eq_2 qNil.eq_3 qUn.eq_1 qUn.eq_2 qUn.eq_3 qNilI.eq_1 qNilI.eq_2 isNilV.eq_1 isNilV.eq_2 jumpQ.eq_1 jumpQ.eq_2 qConv.eq_1 qConv.eq_2 qConv.eq_3 qConv.eq_4 qConv.eq_5 qFld.eq_1 qFld.eq_2 qFld.eq_3 qFld.eq_4 qIxA.eq_1 qIxA.eq_2 qIxA.eq_3 qIx.eq_1 qIx.eq_2 qSlS.eq_1 qSl.eq_1 qSl.eq_2 qSl.eq_3 qRd.eq_1 qRd.eq_2 qRdV.eq_1 qRdV.eq_2 qLkp.eq_1 qLkp.eq_2 qLoad.eq_1 qLoad.eq_2 qLoad.eq_3 qLoad.eq_4 noTup.eq_1 noTup.eq_2 noTup.eq_3 noTup.eq_4 noTup.eq_5 noTup.eq_6 noTup.eq_7 qExt.eq_1 qExt.eq_2 qExt.eq_3 qLen.eq_1 qLen.eq_2 qLen.eq_3 qLen.eq_4 qMin.eq_1 qMin.eq_2 qMax.eq_1 qMax.eq_2 qMax4.eq_1 qMax4.eq_2 qPick.eq_1 qPick.eq_2 qPick.eq_3 qOp.eq_1 qOp.eq_2 qOp.eq_3 qOp.eq_4 qOp.eq_5 qOp.eq_6 qOp.eq_7 qOp.eq_8 qOp.eq_9 qOp.eq_10 qOp.eq_11 qOp.eq_12 qOp.eq_13 qOp.eq_14 qOp.eq_15 qOp.eq_16 qOp.eq_17 qOp.eq_18 qOp.eq_19 qOp.eq_20 qOp.eq_21 qOp.eq_22 plain.eq_1 plain.eq_2 plains.eq_1 plains.eq_2 plainS.eq_1 plainS.eq_2 plainS.eq_3 plainSs.eq_1 plainSs.eq_2 okC.eq_1 okC.eq_2 okC.eq_3 okC.eq_4 okC.eq_5 okC.eq_6 okC.eq_7 okC.eq_8 updB.eq_1 updB.eq_2 updV.eq_1 updV.eq_2 setV.eq_1 setV.eq_2 pubV.eq_1 addId.eq_1 idsA.eq_1 idsA.eq_2 idsA.eq_3 idsA.eq_4 idsA.eq_5 idsA.eq_6 idsA.eq_7 idsA.eq_8 cellsOf.eq_1 cellsOf.eq_2 idsS.eq_1 idsS.eq_2 idsS.eq_3 idsB.eq_1 idsB.eq_2 closeIds.eq_1 idxOf.eq_1 idxOf.eq_2 ren.eq_1 unren.eq_1 renA.eq_1 renA.eq_2 renA.eq_3 renA.eq_4 renA.eq_5 renA.eq_6 renA.eq_7 renB.eq_1 renB.eq_2 renS.eq_1 renS.eq_2 renBx.eq_1 renVc.eq_1 lkVi.eq_1 lkVi.eq_2 pickBx.eq_1 pickBx.eq_2 pickVc.eq_1 pickVc.eq_2 dropBx.eq_1 dropBx.eq_2 dropVc.eq_1 dropVc.eq_2 topB.eq_1 topB.eq_2 topV.eq_1 topV.eq_2 backSt.eq_1 ndL.eq_1 ndL.eq_2 ltL.eq_1 ltL.eq_2 inA.eq_1 inA.eq_2 inA.eq_3 inA.eq_4 inA.eq_5 inA.eq_6 inA.eq_7 inL.eq_1 inL.eq_2 inB.eq_1 inB.eq_2 inBs.eq_1 inBs.eq_2 inBx.eq_1 inBx.eq_2 okIn.eq_1 bkA.eq_1 bkA.eq_2 bkA.eq_3 bkA.eq_4 bkA.eq_5 bkA.eq_6 bkA.eq_7 bkL.eq_1 bkL.eq_2 bkB.eq_1 bkB.eq_2 bkT.eq_1 bkT.eq_2 bkS.eq_1 bkS.eq_2 bkBx.eq_1 bkBx.eq_2 bkVc.eq_1 bkVc.eq_2 okBxs.eq_1 okBxs.eq_2 verBk.eq_1 verBk.eq_2 idsBx.eq_1 idsBx.eq_2 idsVc.eq_1 idsVc.eq_2 hpIn.eq_1 okBack2.eq_1 okBack.eq_1 verLe.eq_1 verLe.eq_2 okA.eq_1 okA.eq_2 okA.eq_3 okA.eq_4 okA.eq_5 okA.eq_6 okA.eq_7 okL.eq_1 okL.eq_2 okB.eq_1 okB.eq_2 okT.eq_1 okT.eq_2 okS.eq_1 okS.eq_2 callL.eq_1 callH.eq_1 callO.eq_1 callO.eq_2 rdOs.eq_1 rdOs.eq_2 partsC.eq_1 partsC.eq_2 partsS.eq_1 partsS.eq_2 partsG.eq_1 partsG.eq_2 bumpV.eq_1 appSrc.eq_1 appSrc.eq_2 appSrc.eq_3 appSrc.eq_4 lApp.eq_1 lApp.eq_2 lApp.eq_3 lSto.eq_1 lSto.eq_2 lMk.eq_1 lMk.eq_2 lMpu.eq_1 lMpu.eq_2 lCall.eq_1 lCall.eq_2 lOp.eq_1 lOp.eq_2 lOp.eq_3 lOp.eq_4 lOp.eq_5 lOp.eq_6 lOp.eq_7 lOp.eq_8 lOp.eq_9 lOp.eq_10 pk.eq_1 pk.eq_2 opK.eq_1 opK.eq_2 opK.eq_3 opK.eq_4 opK.eq_5 opK.eq_6 opK.eq_7 opK.eq_8 opK.eq_9 opK.eq_10 opK.eq_11 opK.eq_12 opK.eq_13 opK.eq_14 opK.eq_15 opK.eq_16 opK.eq_17 opK.eq_18 opK.eq_19 opK.eq_20 opK.eq_21 callArgs.eq_1 callArgs.eq_2 qCall.eq_1 fixG.eq_1 fixG.eq_2 forkG.eq_1 forkG.eq_2 forkG.eq_3 forkG.eq_4 forkG.eq_5 forkG.eq_6 put.eq_1 put.eq_2 noteG.eq_1 noteG.eq_2 noteD.eq_1 noteD.eq_2 isMove.eq_1 isMove.eq_2 hitG.eq_1 hitG.eq_2 hitG.eq_3 pathOf.eq_1 pathOf.eq_2 one3.eq_1 one3.eq_2 one3.eq_3 one3.eq_4 one2.eq_1 one2.eq_2 one.eq_1 memN.eq_1 memN.eq_2 cleanE.eq_1 cleanE.eq_2 cleanE.eq_3 clean.eq_1 svBool.eq_1 svBool.eq_2 mayN.eq_1 mayN.eq_2 mayN.eq_3 mayN.eq_4 mayN.eq_5 mayN.eq_6 mayN.eq_7 thenQ.eq_1 thenQ.eq_2 blockQ.eq_1 blockQ.eq_2 vcJ.eq_1 ret1.eq_1 ret1.eq_2 retC.eq_1 retC.eq_2 retV.eq_1 retV.eq_2 retV.eq_3 endH.eq_1 endQ.eq_1 endQ.eq_2 endQ.eq_3 env0.eq_1 env0.eq_2 ids0.eq_1 st0.eq_1 okSs.eq_1 okSs.eq_2 okArgs.eq_1 okEs.eq_1 okEs.eq_2 okHB.eq_1 okHB.eq_2 okHV.eq_1 okHV.eq_2 okHd.eq_1 mEnv.eq_1 mEnv.eq_2 mBx.eq_1 mBx.eq_2 mVc.eq_1 mVc.eq_2 Match.eq_1 vcL_nil vcL_cons pubA_nil pubA_vec pubA_v pubA_box pubA_vp pubA_mp pubS_mp pubS_nil pubS_agg pubS_v pubS_box pubS_vec forkP_nil forkP_cons vcC_skip vcC_region vcC_draw vcC_join vcC_if vcC_seqR vcC_seqB vcC_seqS vcC_seqL vcC_seqO vcC_seqN vcC_cond vcC_block vcC_loop vcC_scope vcC_exit vcC_ret leM_self vcC_label vcC_goto vcC_seqA 
end Go.Proofs.YtalalcpefggniaaGreatDoor.E

/- The engine, part D: what a quiet operation yields is what the model's operation yields. -/
set_option linter.unusedSimpArgs false
set_option linter.unusedVariables false
namespace Go.Proofs.YtalalcpefggniaaGreatDoor.E
open Go

theorem denA_agg (V : Vl) (cs : List SV) : denA V (.agg cs) = undef := rfl
theorem den_v (V : Vl) (x : Value) : den V (.v x) = x := rfl
theorem den_box (V : Vl) (k o : Nat) : den V (.box k o) = .pointer (some ⟨V.β k, o, none⟩) := rfl
theorem den_agg (V : Vl) (cs : List SV) : den V (.agg cs) = .agg ⟨cs.map (denA V)⟩ := rfl
theorem den_tup (V : Vl) (cs : List SV) : den V (.tup cs) = .tuple ⟨cs.map (denB V)⟩ := rfl
theorem map_v (V : Vl) (l : List Value) : (l.map SV.v).map (denA V) = l := by
  induction l with
  | nil => rfl
  | cons x l ih => simp only [List.map_cons, ih]; rfl
theorem svCells_den {V : Vl} {s : SV} {cs : List SV} (h : svCells s = some cs) : (den V s).cells = ⟨cs.map (denA V)⟩ := by
  cases s with
  | agg l => simp only [svCells, Option.some.injEq] at h; subst h; rfl
  | tup l => simp [svCells] at h
  | v x =>
    cases x with
    | agg a => obtain ⟨l⟩ := a; simp only [svCells, Option.some.injEq] at h; subst h; simp only [map_v]; rfl
    | tuple a => simp [svCells] at h
    | _ => simp only [svCells, Option.some.injEq] at h; subst h; rfl
  | _ => simp only [svCells, Option.some.injEq] at h; subst h; rfl

/-! Paths. -/
theorem gval_of {rho : List Gd} {j : Nat} {w : Bool} {g : Gd} (h : lkG rho j = some g) : gval rho j w = (if w = true then g.b.val else !g.b.val) := by
  unfold gval; rw [h]
theorem lkG_i {rho : List Gd} {i : Nat} {g : Gd} (h : lkG rho i = some g) : g.i = i ∧ g ∈ rho := by
  induction rho with
  | nil => cases h
  | cons x r ih =>
    obtain ⟨i', t', p', b'⟩ := x
    simp only [lkG] at h
    split at h
    · rename_i e; cases h; exact ⟨e, List.mem_cons_self ..⟩
    · exact ⟨(ih h).1, List.mem_cons_of_mem _ (ih h).2⟩
theorem pthEq_eq : ∀ {p q : Pth}, pthEq p q = true → p = q
  | [], [], _ => rfl
  | (j, w) :: p, (k, u) :: q, h => by
    simp only [pthEq] at h
    split at h
    · split at h
      · rename_i e e'; subst e; subst e'; rw [pthEq_eq h]
      · cases h
    · cases h
  | [], _ :: _, h => by simp [pthEq] at h
  | _ :: _, [], h => by simp [pthEq] at h
theorem sfx_drop {p : Pth} : ∀ {q : Pth}, sfx p q = true → ∃ r, q = r ++ p
  | [], h => ⟨[], by simp only [sfx] at h; rw [pthEq_eq h]; rfl⟩
  | x :: q, h => by
    simp only [sfx] at h
    split at h
    · rename_i e; exact ⟨[], by rw [pthEq_eq e]; rfl⟩
    · obtain ⟨r, hr⟩ := sfx_drop h; exact ⟨x :: r, by rw [hr]; rfl⟩
theorem condP_app {rho : List Gd} : ∀ {p q : Pth}, condP rho (p ++ q) = (condP rho p && condP rho q)
  | [], q => by simp [condP]
  | (j, w) :: p, q => by simp [condP, condP_app (p := p), Bool.and_assoc]
theorem condP_sfx {rho : List Gd} {p q : Pth} (h : sfx p q = true) (hq : condP rho q = true) : condP rho p = true := by
  obtain ⟨r, rfl⟩ := sfx_drop h
  rw [condP_app, Bool.and_eq_true] at hq
  exact hq.2
theorem wfP_sfx {rho : List Gd} {p q : Pth} (h : sfx p q = true) (hq : wfP rho q) : wfP rho p := by
  obtain ⟨r, rfl⟩ := sfx_drop h
  exact fun x hx => hq x (List.mem_append_right _ hx)
theorem wfP_nil {rho : List Gd} : wfP rho [] := fun _ h => by cases h
theorem condP_nil {rho : List Gd} : condP rho [] = true := rfl
theorem deadP_not {rho : List Gd} : ∀ {p : Pth}, deadP rho p = true → condP rho p = false
  | [], h => by simp [deadP] at h
  | (j, w) :: p, h => by
    simp only [deadP] at h
    split at h
    · rename_i e
      simp only [condP, Bool.and_eq_false_iff]
      refine .inl ?_
      cases hg : lkG rho j with
      | none => rw [hg] at e; cases w <;> simp [gdead] at e
      | some g =>
        rw [hg] at e
        rw [gval_of hg]
        obtain ⟨i', t', p', b'⟩ := g
        cases b' with
        | lit b => cases b <;> cases w <;> simp_all [gdead, GB.val]
        | sym b => cases w <;> simp [gdead] at e
    · simp only [condP, Bool.and_eq_false_iff]; exact .inr (deadP_not h)

section
variable {C : Ctx} {n : Nat} {st : LS} {a : Act} {V : Vl} {D : Nat → Nat} {w : World} {P : Program}

theorem rdO_sound (hS : Sat C n st a V D w) {p : Pth} (hp : wfP st.rho p) (hc : condP st.rho p = true) {x : Operand} {s : SV} (h : rdO st p x = some s) : a.eval x = den V s := by
  cases x with
  | tmp t =>
    have := hS.env t p s hp h hc
    simp [Act.eval, this]
  | const v => simp only [rdO, Option.some.injEq] at h; subst h; rfl
  | func f => simp only [rdO, Option.some.injEq] at h; subst h; rfl
  | global g => simp only [rdO, Option.some.injEq] at h; subst h; rfl
theorem lkB_mem {l : List Bx} {k : Nat} {b : Bx} (h : lkB l k = some b) : b.id = k ∧ b ∈ l := by
  induction l with
  | nil => cases h
  | cons x r ih =>
    obtain ⟨i', t', p'⟩ := x
    simp only [lkB] at h
    split at h
    · rename_i e; cases h; exact ⟨e, List.mem_cons_self ..⟩
    · exact ⟨(ih h).1, List.mem_cons_of_mem _ (ih h).2⟩
theorem lkV_mem {l : List Vc} {k u : Nat} {b : Vc} (h : lkV l k u = some b) : b.id = k ∧ b.ver = u ∧ b ∈ l := by
  induction l with
  | nil => cases h
  | cons x r ih =>
    obtain ⟨i', u', e', z', n', x'⟩ := x
    simp only [lkV] at h
    split at h
    · rename_i e
      split at h
      · rename_i e'; cases h; exact ⟨e, e', List.mem_cons_self ..⟩
      · cases h
    · exact ⟨(ih h).1, (ih h).2.1, List.mem_cons_of_mem _ (ih h).2.2⟩
end

/-- What an operation is to yield, if it comes up at all. -/
def Yl (c : Bool) (P : Program) (x : Sem Value) (w : World) (v : Value) : Prop := c = true → x.run P w = .ok v w

section
variable {P : Program} {c : Bool} {w : World}
/-- The condition under which side conditions are owed. -/
abbrev U (c : Bool) : Prop → Prop := fun B => c = true → B

theorem arith_sound {k : IntKind} {V : Vl} {K : SV → Prop} {n : Int} (h : arith (.mk (k := (k, U c, K)) n)) :
    ∃ s, K s ∧ (c = true → den V s = .int k (k.wrap n)) := by
  cases k
  case i64 =>
    simp only [arith] at h
    refine ⟨_, h.2, fun hc => ?_⟩
    have hb := h.1 hc
    rw [den_v]
    have : IntKind.i64.wrap n = n := by
      rw [IntKind.wrap_i64]; unfold I64 at hb; omega
    rw [this]
  all_goals exact ⟨_, h, fun _ => rfl⟩

theorem binI_sound {op : BinOp} {k k' : IntKind} {x y : Int} {t : TypeId} {o o' : Operand} {V : Vl} {K : SV → Prop} (hk : op = .shl ∨ op = .shr ∨ k = k') (h : binI (.mk (k := (op, k, U c, K)) (x, y))) :
    ∃ s, K s ∧ Yl c P (do eqGuard op t o o' (.int k x) (.int k' y); binOp op t (.int k x) (.int k' y)) w (den V s) := by
  by_cases hs : op = .shl ∨ op = .shr
  · rcases hs with rfl | rfl
    · simp only [binI] at h
      refine ⟨_, h.2, fun hc => ?_⟩
      simp [go_sem, shift_shl _ _ _ _ (h.1 hc).1 (h.1 hc).2, den_v]
    · simp only [binI] at h
      refine ⟨_, h.2, fun hc => ?_⟩
      simp [go_sem, shift_shr _ _ _ _ (h.1 hc).1 (h.1 hc).2, den_v]
  · have hkk : k = k' := by
      rcases hk with h1 | h1 | h1
      · exact absurd (.inl h1) hs
      · exact absurd (.inr h1) hs
      · exact h1
    subst hkk
    cases op <;> simp only [binI] at h
    case shl => exact absurd (.inl rfl) hs
    case shr => exact absurd (.inr rfl) hs
    case add => obtain ⟨s, h1, h2⟩ := arith_sound (V := V) h; exact ⟨s, h1, fun hc => by rw [h2 hc]; simp [go_sem, Op.intArith]⟩
    case sub => obtain ⟨s, h1, h2⟩ := arith_sound (V := V) h; exact ⟨s, h1, fun hc => by rw [h2 hc]; simp [go_sem, Op.intArith]⟩
    case mul => obtain ⟨s, h1, h2⟩ := arith_sound (V := V) h; exact ⟨s, h1, fun hc => by rw [h2 hc]; simp [go_sem, Op.intArith]⟩
    case quo => obtain ⟨s, h1, h2⟩ := arith_sound (V := V) h.2; exact ⟨s, h1, fun hc => by rw [h2 hc]; simp [go_sem, Op.intDiv, h.1 hc]⟩
    case rem => exact ⟨_, h.2, fun hc => by simp [go_sem, Op.intDiv, h.1 hc, den_v]⟩
    case eql => exact ⟨_, h, fun _ => by simp [go_sem, den_v]; rfl⟩
    case neq => exact ⟨_, h, fun _ => by simp [go_sem, den_v, bne]; rfl⟩
    all_goals exact ⟨_, h, fun _ => by simp [go_sem, den_v]⟩
end
end Go.Proofs.YtalalcpefggniaaGreatDoor.E

/- The engine, part E: quiet operations, one by one. -/
set_option linter.unusedSimpArgs false
set_option linter.unusedVariables false
namespace Go.Proofs.YtalalcpefggniaaGreatDoor.E
open Go

theorem bs_append (x y : ByteArray) : x ++ y = bs (tl x ++ tl y) := by
  obtain ⟨a⟩ := x
  obtain ⟨b⟩ := y
  obtain ⟨a⟩ := a
  obtain ⟨b⟩ := b
  exact ByteArray.mk_append_mk a b
theorem toList_tl (x : ByteArray) : x.toList = tl x := ByteArray.toList_eq x
theorem tl_len (x : ByteArray) : (tl x).length = x.size := by unfold tl ByteArray.size; exact Array.length_toList
theorem beq_dec (x y : List UInt8) : (x == y) = decide (x = y) := by
  rw [Bool.eq_iff_iff]; simp only [beq_iff_eq, decide_eq_true_eq]
theorem withO_some {α : Type} {K : α → Prop} {x : Option α} (h : withO (.mk (k := K) x)) : ∃ s, x = some s ∧ K s := by
  cases x with
  | none => exact h.elim
  | some s => exact ⟨s, rfl, h⟩

section
variable {P : Program} {c : Bool} {w : World}
theorem binS_sound {op : BinOp} {x y : ByteArray} {t : TypeId} {o o' : Operand} {V : Vl} {K : SV → Prop} (h : binS (.mk (k := (op, U c, K)) (tl x, tl y))) :
    ∃ s, K s ∧ Yl c P (do eqGuard op t o o' (.string x) (.string y); binOp op t (.string x) (.string y)) w (den V s) := by
  cases op <;> simp only [binS] at h
  case add =>
    refine ⟨_, h.2, fun hc => ?_⟩
    have hl := h.1 hc
    rw [tl_len, tl_len] at hl
    have : ¬ ((x.size + y.size : Nat) : Int) > IntKind.i64.max := by rw [IntKind.max_i64]; omega
    simp only [go_sem, binOp, Op.stringOp, Sem.run_bind, Sem.run_pure, Result.andThen_ok]
    rw [if_neg this]
    rw [bs_append, den_v]
    rfl
  case eql => exact ⟨_, h, fun _ => by simp [go_sem, den_v, toList_tl, beq_dec]⟩
  case neq => exact ⟨_, h, fun _ => by simp [go_sem, den_v, toList_tl, beq_dec]⟩
  case lss => exact ⟨_, h, fun _ => by simp [go_sem, den_v, toList_tl]⟩
  case geq => exact ⟨_, h, fun _ => by simp [binOp, Op.stringOp, go_sem, den_v, toList_tl]⟩

theorem cellEq_den {V : Vl} {x y : SV} {b : Bool} (h : cellEq x y = some b) : cellEq (.v (denA V x)) (.v (denA V y)) = some b := by
  unfold cellEq at h
  split at h <;> first | exact h | cases h
theorem fitC_den {V : Vl} {z x : SV} (h : fitC z x = true) : fitC z (.v (denA V x)) = true := by
  unfold fitC at h
  split at h <;> first | exact h | cases h
theorem fitL_den {V : Vl} : ∀ {z x : List SV}, fitL z x = true → fitL z ((x.map (denA V)).map .v) = true
  | [], [], h => h
  | z :: zs, x :: xs, h => by
    simp only [fitL, Bool.and_eq_true] at h
    simp only [List.map_cons, fitL, fitC_den h.1, fitL_den h.2, Bool.and_self]
  | [], _ :: _, h => by simp [fitL] at h
  | _ :: _, [], h => by simp [fitL] at h
theorem fitZ_den {V : Vl} {z : Option (List SV)} {x : List SV} (h : fitZ z x = true) : fitZ z ((x.map (denA V)).map .v) = true := by
  cases z with
  | none => cases h
  | some z => exact fitL_den h
theorem cellsEq_den {V : Vl} : ∀ {x y : List SV} {b : Bool}, cellsEq x y = some b → cellsEq ((x.map (denA V)).map .v) ((y.map (denA V)).map .v) = some b
  | [], [], _, h => h
  | x :: xs, y :: ys, b, h => by
    simp only [cellsEq, Option.bind_eq_some_iff, Option.map_eq_some_iff] at h
    obtain ⟨e, he, r, hr, rfl⟩ := h
    simp only [List.map_cons, cellsEq, cellEq_den he, cellsEq_den hr, Option.bind_some, Option.map_some]
  | [], _ :: _, _, h => by simp [cellsEq] at h
  | _ :: _, [], _, h => by simp [cellsEq] at h
theorem cellsEq_len : ∀ {x y : List SV} {b : Bool}, cellsEq x y = some b → x.length = y.length
  | [], [], _, _ => rfl
  | x :: xs, y :: ys, b, h => by
    simp only [cellsEq, Option.bind_eq_some_iff, Option.map_eq_some_iff] at h
    obtain ⟨e, _, r, hr, _⟩ := h
    simp [cellsEq_len hr]
  | [], _ :: _, _, h => by simp [cellsEq] at h
  | _ :: _, [], _, h => by simp [cellsEq] at h

theorem binB_sound {op : BinOp} {b : Bool} {K : SV → Prop} {V : Vl} (h : binB (.mk (k := (op, K)) b)) :
    ∃ s, K s ∧ ((op = .eql ∧ den V s = .bool b) ∨ (op = .neq ∧ den V s = .bool (!b))) := by
  cases op <;> simp only [binB] at h
  case eql => exact ⟨_, h, .inl ⟨rfl, rfl⟩⟩
  case neq => exact ⟨_, h, .inr ⟨rfl, rfl⟩⟩

theorem aggCells_den {V : Vl} {y : SV} {ys : List SV} (h : aggCells y = some ys) : den V y = .agg ⟨ys.map (denA V)⟩ := by
  cases y with
  | agg l => simp only [aggCells, Option.some.injEq] at h; subst h; rfl
  | v x =>
    cases x with
    | agg a => obtain ⟨l⟩ := a; simp only [aggCells, Option.some.injEq] at h; subst h; rw [map_v]; rfl
    | _ => simp [aggCells] at h
  | _ => simp [aggCells] at h
/-- '==' of two structs, one written out cell by cell. -/
theorem eqAgg_sound {op : BinOp} {t : TypeId} {o o' : Operand} {V : Vl} {K : SV → Prop} {xs : List SV} {y : SV} {xv : Value} (hxv : xv = .agg ⟨xs.map (denA V)⟩) 
    (he : EqOk P t) (hl : fitZ (zeroO P t) xs = true) (h : withO (.mk (k := fun b => binB (.mk (k := (op, K)) b)) ((aggCells y).bind fun ys => cellsEq xs ys))) :
    ∃ s, K s ∧ Yl c P (do eqGuard op t o o' xv (den V y); binOp op t xv (den V y)) w (den V s) := by
  obtain ⟨b, hb, hK⟩ := withO_some h
  simp only [Option.bind_eq_some_iff] at hb
  obtain ⟨ys, hys, hb⟩ := hb
  have hyv : den V y = .agg ⟨ys.map (denA V)⟩ := aggCells_den hys
  have hE := fun op => he (xs.map (denA V)) (ys.map (denA V)) b w o o' op (cellsEq_den hb) (fitZ_den hl)
  obtain ⟨s, hs, hh⟩ := binB_sound (V := V) hK
  refine ⟨s, hs, fun hc => ?_⟩
  rw [hxv, hyv]
  rcases hh with ⟨rfl, hr⟩ | ⟨rfl, hr⟩
  · rw [hr]
    simp only [Sem.run_bind, (hE .eql).1, Result.andThen_ok, binOp, (hE .eql).2, Sem.run_pure]
  · rw [hr]
    simp only [Sem.run_bind, (hE .neq).1, Result.andThen_ok, binOp, (hE .neq).2, Sem.run_pure]

theorem run_equal_bool {t : TypeId} (x y : Bool) (h : P.underlying t = some .bool) : (Op.equal t (.bool x) (.bool y)).run P w = .ok (x == y) w := by
  have hd : ∀ d : Nat, (Op.equalIn (d + 1) t (.bool x) (.bool y)).run P w = .ok (x == y) w := fun d => by
    simp only [Op.equalIn, Sem.run_bind, run_underlying h, Result.andThen_ok, Sem.run_pure]
  exact hd 9999

theorem run_equal_nil {t : TypeId} {v : Value} (h : isIfT P t = true) (hv : ifV v) : (Op.equal t v .nilIface).run P w = .ok (isNilV v) w := by
  unfold isIfT at h
  split at h
  · rename_i ms hu
    have hd : ∀ d : Nat, (Op.equalIn (d + 1) t v .nilIface).run P w = .ok (isNilV v) w := fun d => by
      rcases hv with rfl | ⟨ty, x, rfl⟩ <;> simp only [Op.equalIn, Sem.run_bind, run_underlying hu, Result.andThen_ok, Sem.run_pure, isNilV]
    exact hd 9999
  · cases h
theorem qNilI_sound {op : BinOp} {x : SV} {t : TypeId} {o : Operand} {V : Vl} {K : SV → Prop} (h : qNilI (.mk (k := (P, op, t, U c, K)) x)) :
    ∃ s, K s ∧ Yl c P (do eqGuard op t o (.const .nilIface) (den V x) .nilIface; binOp op t (den V x) .nilIface) w (den V s) := by
  unfold qNilI at h
  split at h
  · rename_i v e
    cases e
    obtain ⟨h1, h2, h3⟩ := h
    obtain ⟨s, hs, hh⟩ := binB_sound (V := V) h3
    refine ⟨s, hs, fun hc => ?_⟩
    have hv := h2 hc
    have hg : ∀ op, (eqGuard op t o (.const .nilIface) v .nilIface).run P w = .ok () w := fun op => by
      unfold eqGuard
      rcases hv with rfl | ⟨ty, x, rfl⟩ <;> cases op <;> simp
    have hb1 : binOp .eql t v .nilIface = (do let b ← Op.equal t v .nilIface; pure (.bool b)) := by
      rcases hv with rfl | ⟨ty, x, rfl⟩ <;> rfl
    have hb2 : binOp .neq t v .nilIface = (do let b ← Op.equal t v .nilIface; pure (.bool (!b))) := by
      rcases hv with rfl | ⟨ty, x, rfl⟩ <;> rfl
    rcases hh with ⟨rfl, hr⟩ | ⟨rfl, hr⟩
    · rw [hr]
      simp only [Sem.run_bind, den_v, hg, Result.andThen_ok, hb1, run_equal_nil h1 hv, Sem.run_pure]
    · rw [hr]
      simp only [Sem.run_bind, den_v, hg, Result.andThen_ok, hb2, run_equal_nil h1 hv, Sem.run_pure]
  · cases h
theorem binQ_sound {op : BinOp} {x y : SV} {t : TypeId} {o o' : Operand} {V : Vl} {K : SV → Prop} (h : binQ (.mk (k := (P, op, t, U c, K)) (x, y))) :
    ∃ s, K s ∧ Yl c P (do eqGuard op t o o' (den V x) (den V y); binOp op t (den V x) (den V y)) w (den V s) := by
  unfold binQ at h
  split at h
  · rename_i k a k' b e
    cases e
    exact binI_sound h.1 h.2
  · rename_i a b e
    cases e
    exact binS_sound h
  · rename_i a b e
    cases e
    obtain ⟨s, hs, hh⟩ := binB_sound (V := V) h.2
    refine ⟨s, hs, fun hc => ?_⟩
    rcases hh with ⟨rfl, hr⟩ | ⟨rfl, hr⟩
    · rw [hr]
      simp only [Sem.run_bind, eqGuard_at_bool, den_v, Sem.run_pure, Result.andThen_ok, binOp, run_equal_bool a b h.1]
    · rw [hr]
      simp only [Sem.run_bind, eqGuard_at_bool, den_v, Sem.run_pure, Result.andThen_ok, binOp, run_equal_bool a b h.1]
  · rename_i xs y e
    cases e
    exact eqAgg_sound rfl h.1 h.2.1 h.2.2
  · rename_i xs y e
    cases e
    obtain ⟨l⟩ := xs
    refine eqAgg_sound (xs := l.map .v) (by rw [map_v]; rfl) h.1 h.2.1 h.2.2
  · cases h
end
end Go.Proofs.YtalalcpefggniaaGreatDoor.E

/- The engine, part F: every quiet operation. -/
set_option linter.unusedSimpArgs false
set_option linter.unusedVariables false
namespace Go.Proofs.YtalalcpefggniaaGreatDoor.E
open Go

section
variable {P : Program} {w : World}
theorem run_szT {t : TypeId} (h : 0 < szT P t) : (sizeOf t).run P w = .ok (szT P t) w := by
  unfold szT at h ⊢
  cases hi : P.info? t with
  | none => rw [hi] at h; simp at h
  | some i => simp [sizeOf, typeInfo, hi]
theorem run_agg_none {t : TypeId} (h : aggN P t = some none) : (isAgg t).run P w = .ok false w := by
  unfold aggN at h
  split at h
  · simp at h
  · simp at h
  · rename_i d h1 h2 hd
    simp only [isAgg, Sem.run_bind, run_underlying hd, Result.andThen_ok]
    rfl
  · cases h
theorem run_agg_some {t : TypeId} {n : Nat} (h : aggN P t = some (some n)) : (isAgg t).run P w = .ok true w ∧ (sizeOf t).run P w = .ok n w := by
  unfold aggN at h
  split at h
  · rename_i fs hd
    simp only [Option.map_eq_some_iff, Option.some.injEq] at h
    obtain ⟨i, hi, rfl⟩ := h
    exact ⟨by simp [isAgg, run_underlying hd], by simp [sizeOf, typeInfo, hi]⟩
  · rename_i fs k hd
    simp only [Option.map_eq_some_iff, Option.some.injEq] at h
    obtain ⟨i, hi, rfl⟩ := h
    exact ⟨by simp [isAgg, run_underlying hd], by simp [sizeOf, typeInfo, hi]⟩
  · cases h
  · cases h
theorem run_loadVar_ag {t : TypeId} {ad : Addr} {ag : Option Nat} {cs : List Value} {v : Value} (h : aggN P t = some ag) (hc : ∀ j u, cs[j]? = some u → w.cell? (ad.add j) = some u)
    (hv : match ag with | none => cs = [v] | some n => cs.length = n ∧ v = .agg ⟨cs⟩) : (loadVar t ad).run P w = .ok v w := by
  cases ag with
  | none =>
    subst hv
    have h0 := hc 0 v rfl
    rw [Addr.add_zero'] at h0
    simp only [loadVar, Sem.run_bind, run_agg_none h, Result.andThen_ok, Bool.false_eq_true, if_false]
    rw [run_load]
    simp [h0]
  | some n =>
    obtain ⟨hl, rfl⟩ := hv
    simp only [loadVar, Sem.run_bind, (run_agg_some h).1, (run_agg_some h).2, Result.andThen_ok, if_true]
    subst hl
    rw [run_loadCells_list w ad cs hc]
    rfl

theorem keep_cell {D : Nat} {o o' : Option Obj} {c : Array Value} {t : TypeId} {f : Nat × Nat} (h : keepObj D o o') (ho : o = some (.cells c t f)) : ∃ c' t' f', o' = some (.cells c' t' f') ∧ ∀ j, j < D → c'[j]? = c[j]? := by
  subst ho; exact h
theorem cell_of_le {m : Mem} {D : Nat → Nat} (hle : m.le ⟨w, D⟩) {ad : Addr} {v : Value} (hs : ad.spot = none) (hd : ad.off < m.D ad.block) (h : m.w.cell? ad = some v) : w.cell? ad = some v := by
  obtain ⟨_, hk⟩ := hle ad.block
  obtain ⟨_, hk⟩ := hk (by omega)
  unfold World.cell? at h ⊢
  split at h
  · rename_i c t f hc
    obtain ⟨c', t', f', ho, hj⟩ := keep_cell hk hc
    dsimp only at ho
    rw [ho]
    simp only [hs, Option.isSome_none, Bool.false_eq_true, if_false] at h ⊢
    rw [hj _ hd]; exact h
  · cases h
theorem add_parts (ad : Addr) (j : Nat) (h : ad.spot = none) : (ad.add j).block = ad.block ∧ (ad.add j).off = ad.off + j ∧ (ad.add j).spot = none := by
  unfold Addr.add
  split
  · rename_i e; subst e; exact ⟨rfl, rfl, h⟩
  · exact ⟨rfl, rfl, rfl⟩
theorem Rd_at {m : Mem} {D : Nat → Nat} (hle : m.le ⟨w, D⟩) {x : Value} {cs : List Value} (h : Rd m x cs) : ∃ ad, x = .pointer (some ad) ∧ ∀ j u, cs[j]? = some u → w.cell? (ad.add j) = some u := by
  obtain ⟨ad, hx, hs, hc⟩ := h
  refine ⟨ad, hx, fun j u hu => ?_⟩
  have hj : j < cs.length := (List.getElem?_eq_some_iff.1 hu).1
  obtain ⟨h1, h2⟩ := hc j hj
  obtain ⟨e1, e2, e3⟩ := add_parts ad j hs
  exact cell_of_le hle e3 (by rw [e1, e2]; exact h2) (h1.trans hu)
theorem Rds_at {m : Mem} {D : Nat → Nat} (hle : m.le ⟨w, D⟩) {x : Option Addr} {n sz : Nat} {cs : List Value} (h : Rds m x n sz cs) (hn : 0 < n) : ∃ ad, x = some ad ∧ ∀ j u, cs[j]? = some u → w.cell? (ad.add j) = some u := by
  obtain ⟨hl, h⟩ := h
  obtain ⟨ad, hx, hs, hc⟩ := h hn
  refine ⟨ad, hx, fun j u hu => ?_⟩
  have hj : j < cs.length := (List.getElem?_eq_some_iff.1 hu).1
  obtain ⟨h1, h2⟩ := hc j (by omega)
  obtain ⟨e1, e2, e3⟩ := add_parts ad j hs
  exact cell_of_le hle e3 (by rw [e1, e2]; exact h2) (h1.trans hu)
theorem exec_v {x : Sem Value} {v : Value} {w' : World} (h : x.run P w = .ok v w') : (do pure (Next.value (← x)) : Sem Next).run P w = .ok (.value v) w' := by
  simp [h]
theorem takeC_den {V : Vl} {cs : List SV} {off : Nat} {ag : Option Nat} {s : SV} (h : takeC cs off ag = some s) :
    match ag with | none => (cs.map (denA V))[off]? = some (den V s) | some n => den V s = .agg ⟨((cs.map (denA V)).drop off).take n⟩ ∧ off + n ≤ cs.length := by
  cases ag with
  | none =>
    obtain ⟨x, hx, hs⟩ := Option.bind_eq_some_iff.1 h
    dsimp only
    rw [List.getElem?_map, hx]
    cases x <;> simp only [cell1, Option.some.injEq] at hs <;> first | (subst hs; rfl) | cases hs
  | some n =>
    simp only [takeC] at h
    split at h
    · rename_i hl
      simp only [Option.some.injEq] at h
      subst h
      exact ⟨by rw [den_agg, List.map_take, List.map_drop], hl⟩
    · cases h
end
end Go.Proofs.YtalalcpefggniaaGreatDoor.E

/- The engine, part G: every quiet operation, together. -/
set_option linter.unusedSimpArgs false
set_option linter.unusedVariables false
namespace Go.Proofs.YtalalcpefggniaaGreatDoor.E
open Go

theorem lkGs_mem {rho : List Gd} {t : Nat} {g : Gd} (h : lkGs rho t = some g) : g.slot = t ∧ g ∈ rho := by
  induction rho with
  | nil => cases h
  | cons x r ih =>
    obtain ⟨i', t', p', b'⟩ := x
    simp only [lkGs] at h
    split at h
    · rename_i e; cases h; exact ⟨e, List.mem_cons_self ..⟩
    · exact ⟨(ih h).1, List.mem_cons_of_mem _ (ih h).2⟩
theorem bnd {α β : Type} {o : Option α} {f : α → Option β} {y : β} (h : o.bind f = some y) : ∃ x, o = some x ∧ f x = some y := Option.bind_eq_some_iff.1 h

/-- What is asked of an operation's run. -/
def Run (P : Program) (c : Bool) (x : Sem Next) (w : World) (v : Value) : Prop := c = true → x.run P w = .ok (.value v) w
theorem Yl.run {P : Program} {c : Bool} {x : Sem Value} {w : World} {v : Value} (h : Yl c P x w v) : Run P c (do pure (.value (← x))) w v := fun hc => exec_v (h hc)

section
variable {C : Ctx} {n : Nat} {st : LS} {a : Act} {V : Vl} {D : Nat → Nat} {w : World} {P : Program} {p : Pth} {K : SV → Prop} {c : Bool}

theorem qNil_sound {s : SV} (h : qNil (.mk (k := (U c, K)) s)) : ∃ r, K r ∧ den V r = den V s ∧ (c = true → nnil (den V s) = true) := by
  unfold qNil at h
  split at h
  · rename_i x e; cases e; exact ⟨_, h.2, rfl, fun hc => h.1 hc⟩
  · rename_i k o e; cases e; exact ⟨_, h, rfl, fun _ => rfl⟩
  · cases h
theorem exec_nil {o : Oper} {x : Operand} (ho : o.op = .nilCheck x) (h : nnil (a.eval x) = true) : (execOp a.eval o).run P w = .ok (.value (a.eval x)) w := by
  unfold execOp
  simp only [ho]
  revert h
  generalize a.eval x = v
  intro h
  cases v with
  | pointer q => cases q with
    | none => cases h
    | some q => rfl
  | nilIface => cases h
  | nilFunc => cases h
  | func f b d => cases f <;> first | rfl | cases h
  | _ => rfl
theorem qUn_sound {op : UnOp} {s : SV} (h : qUn (.mk (k := (op, U c, K)) s)) : ∃ r, K r ∧ Yl c P (Op.unary op (den V s)) w (den V r) := by
  unfold qUn at h
  split at h
  · rename_i b e; cases e; exact ⟨_, h, fun _ => rfl⟩
  · rename_i k m e; cases e
    obtain ⟨r, h1, h2⟩ := arith_sound (V := V) h
    exact ⟨r, h1, fun hc => by rw [h2 hc]; rfl⟩
  · cases h
theorem u8s_get {l : List UInt8} {j : Nat} {u : Value} (h : (u8s l)[j]? = some u) : ∃ b : UInt8, l[j]? = some b ∧ u = .int .u8 b.toNat := by
  simp only [u8s, List.getElem?_map, Option.map_eq_some_iff] at h
  obtain ⟨b, hb, rfl⟩ := h
  exact ⟨b, hb, rfl⟩

theorem cvK_int {P : Program} {src dst : TypeId} {k : IntKind} {m : Int} {k' : IntKind} (h : cvK P src dst = .int k) : (convert src dst (.int k' m)).run P w = .ok (.int k (k.wrap m)) w := by
  unfold cvK at h
  split at h
  · rename_i k1 k2 h1 h2; cases h; simp [convert, run_underlying h1, run_underlying h2, Conv.intToInt]
  · cases h
  · split at h <;> cases h
  · cases h
theorem cvK_same {P : Program} {src dst : TypeId} {s : ByteArray} (h : cvK P src dst = .same) : (convert src dst (.string s)).run P w = .ok (.string s) w := by
  unfold cvK at h
  split at h
  · cases h
  · rename_i h1 h2; simp [convert, run_underlying h1, run_underlying h2]
  · split at h <;> cases h
  · cases h
theorem cvK_b2s {P : Program} {src dst : TypeId} (h : cvK P src dst = .b2s) : ∃ e, P.underlying src = some (.slice e) ∧ P.underlying e = some (.int .u8) ∧ P.underlying dst = some .string := by
  unfold cvK at h
  split at h
  · cases h
  · cases h
  · rename_i e h1 h2
    split at h
    · rename_i h3; exact ⟨e, h1, h3, h2⟩
    · cases h
  · cases h
theorem run_b2s {P : Program} {src dst : TypeId} {l : List UInt8} {x : Option Addr} {n cp : Nat} (h : cvK P src dst = .b2s) (hn : l.length = n) (hx : 0 < n → ∃ ad, x = some ad ∧ ∀ j u, (u8s l)[j]? = some u → w.cell? (ad.add j) = some u) :
    (convert src dst (.slice x n cp)).run P w = .ok (.string (bs l)) w := by
  obtain ⟨e, h1, h2, h3⟩ := cvK_b2s h
  rcases Nat.eq_zero_or_pos n with h0 | h0
  · subst h0
    have : l = [] := List.eq_nil_of_length_eq_zero hn
    subst this
    cases x with
    | none => rw [run_convert_bytes_string w src dst e none _ cp h1 h2 h3]; simp [Conv.bytesToString]; rfl
    | some ad => exact run_convert_bytes_back w src dst e ad cp [] h1 h2 h3 (fun j hj => absurd hj (by simp))
  · obtain ⟨ad, rfl, hc⟩ := hx h0
    subst hn
    exact run_convert_bytes_back w src dst e ad cp l h1 h2 h3 (fun j hj => hc j _ (by simp [u8s, List.getElem?_eq_getElem hj]))

theorem own_at {e : TypeId} {sz : Nat} {h : Hd} {m : Nat} {xs : List Value} (ho : w.ownsRow 0 e sz h.val m xs) : h.n = m ∧ xs.length = m * sz ∧ (0 < m → ∃ g, h.a = some ⟨g, 0, none⟩ ∧ ∀ j u, xs[j]? = some u → w.cell? ⟨g, j, none⟩ = some u) := by
  obtain ⟨hl, hv⟩ := ho
  rcases hv with ⟨hv, rfl⟩ | ⟨g, cap, cur, hv, _, hh, hnc, _, hsz, htk⟩
  · simp only [Hd.val, Value.slice.injEq] at hv
    exact ⟨hv.2.1, hl, fun h0 => absurd h0 (by omega)⟩
  · simp only [Hd.val, Value.slice.injEq] at hv
    refine ⟨hv.2.1, hl, fun _ => ⟨g, hv.1, fun j u hu => ?_⟩⟩
    have hj : j < m * sz := by have := (List.getElem?_eq_some_iff.1 hu).1; omega
    rw [← htk, List.getElem?_take, if_pos hj] at hu
    simp only [World.cell?, hh, Option.isSome_none, Bool.false_eq_true, if_false]
    rw [← hu, Array.getElem?_toList]
theorem add_zero_off (g j : Nat) : (Addr.add ⟨g, 0, none⟩ j) = ⟨g, j, none⟩ := by
  unfold Addr.add; split
  · rename_i h; subst h; rfl
  · simp
theorem vc_of (hS : Sat C n st a V D w) {k u : Nat} {b : Vc} (h : lkV st.vc k u = some b) : HVc V D w b ∧ b.id = k ∧ b.ver = u :=
  ⟨hS.heap.vc b (lkV_mem h).2.2, (lkV_mem h).1, (lkV_mem h).2.1⟩

theorem qConv_sound (hS : Sat C n st a V D w) {src dst : TypeId} {s : SV} (h : qConv (.mk (k := (U c, K)) (st, cvK P src dst, s))) :
    ∃ r, K r ∧ Yl c P (convert src dst (den V s)) w (den V r) := by
  unfold qConv at h
  split at h
  · rename_i k k' m e
    simp only [A.mk.injEq, Prod.mk.injEq] at e
    obtain ⟨rfl, e2, rfl⟩ := e
    exact ⟨_, h, fun _ => cvK_int e2⟩
  · rename_i s' e
    simp only [A.mk.injEq, Prod.mk.injEq] at e
    obtain ⟨rfl, e2, rfl⟩ := e
    exact ⟨_, h, fun _ => cvK_same e2⟩
  · rename_i st' k v e
    simp only [A.mk.injEq, Prod.mk.injEq] at e
    obtain ⟨rfl, e2, rfl⟩ := e
    obtain ⟨b, hb, l, h1, h2⟩ := withO_some h
    refine ⟨_, h2, fun hc => ?_⟩
    obtain ⟨e1, e3⟩ := h1 hc
    obtain ⟨hv, rfl, rfl⟩ := vc_of hS hb
    obtain ⟨hn, hl, hx⟩ := own_at hv.1
    have hbn : l.length = b.n := by rw [e1, Nat.mul_one, e3] at hl; simpa [u8s] using hl
    refine run_b2s e2 (by rw [hbn, hn]) (fun h0 => ?_)
    obtain ⟨g, hg, hcell⟩ := hx (by omega)
    refine ⟨_, hg, fun j y hy => ?_⟩
    rw [add_zero_off]
    exact hcell j y (by rw [e3]; exact hy)
  · rename_i st' x m cp e
    simp only [A.mk.injEq, Prod.mk.injEq] at e
    obtain ⟨rfl, e2, rfl⟩ := e
    obtain ⟨l, h1, h2⟩ := h
    refine ⟨_, h2, fun hc => ?_⟩
    have hr := h1 hc
    refine run_b2s e2 (by have := hr.1; simpa [u8s] using this) (fun h0 => Rds_at hS.mle hr h0)
  · cases h

theorem fld_spec {P : Program} {s : TypeId} {f off sz : Nat} {ag : Option Nat} (h : fldO P s f = some (off, ag, sz)) : ∃ fs x, P.underlying s = some (.struct fs) ∧ fs[f]? = some x ∧ x.offset = off ∧ aggN P x.type = some ag ∧ 0 < szT P x.type ∧ szT P x.type = sz := by
  unfold fldO at h
  split at h
  · rename_i fs hs
    obtain ⟨x, hx, h⟩ := bnd h
    split at h
    · rename_i h0
      simp only [Option.map_eq_some_iff, Prod.mk.injEq] at h
      obtain ⟨g, hg, rfl, rfl, rfl⟩ := h
      exact ⟨fs, x, hs, hx, rfl, hg, h0, rfl⟩
    · cases h
  · cases h
theorem run_fieldAt {P : Program} {s : TypeId} {f off sz : Nat} {ag : Option Nat} {ad : Addr} (h : fldO P s f = some (off, ag, sz)) : (Instr.fieldAt s (.pointer (some ad)) f).run P w = .ok (.pointer (some (ad.add off))) w := by
  obtain ⟨fs, x, hs, hx, rfl, _, h0, _⟩ := fld_spec h
  have : szT P x.type ≠ 0 := by omega
  simp [Instr.fieldAt, run_underlying hs, hx, Instr.sureAddr, fieldPlace, run_szT h0, this]
theorem add_off (b o f : Nat) : (Addr.add ⟨b, o, none⟩ f) = ⟨b, o + f, none⟩ := by
  unfold Addr.add; split
  · rename_i h; subst h; rfl
  · rfl
theorem map_add_add (x : Option Addr) (o f : Nat) (hx : ∀ ad, x = some ad → ad.spot = none) : (x.map (·.add o)).map (·.add f) = x.map (·.add (o + f)) := by
  cases x with
  | none => rfl
  | some ad =>
    obtain ⟨b, q, sp⟩ := ad
    have := hx _ rfl
    dsimp only at this
    subst this
    simp only [Option.map_some, add_off, Nat.add_assoc]
theorem qFld_sound (hS : Sat C n st a V D w) {s : TypeId} {x : SV} {f off sz : Nat} {ag : Option Nat} (hf : fldO P s f = some (off, ag, sz))
    (h : qFld (.mk (k := (U c, K)) (st, x, off))) : ∃ r, K r ∧ Yl c P (Instr.fieldAt s (den V x) f) w (den V r) := by
  unfold qFld at h
  split at h
  · rename_i st' k o f' e
    simp only [A.mk.injEq, Prod.mk.injEq] at e
    obtain ⟨rfl, rfl, rfl⟩ := e
    exact ⟨_, h, fun _ => by rw [den_box, run_fieldAt hf, add_off]; rfl⟩
  · rename_i st' k v o f' e
    simp only [A.mk.injEq, Prod.mk.injEq] at e
    obtain ⟨rfl, rfl, rfl⟩ := e
    obtain ⟨b, hb, h1, h2⟩ := withO_some h
    refine ⟨_, h2, fun hc => ?_⟩
    obtain ⟨hv, rfl, rfl⟩ := vc_of hS hb
    obtain ⟨_, hl, hx⟩ := own_at hv.1
    have ho := h1 hc
    have hn : 0 < b.n := by
      rcases Nat.eq_zero_or_pos b.n with h0 | h0
      · rw [h0, Nat.zero_mul] at hl; omega
      · exact h0
    obtain ⟨g, hg, _⟩ := hx hn
    show (Instr.fieldAt s (.pointer ((V.γ b.id b.ver).a.map (·.add o))) f).run P w = .ok (.pointer ((V.γ b.id b.ver).a.map (·.add (o + off)))) w
    rw [hg]
    simp only [Option.map_some, add_off, run_fieldAt hf, Nat.zero_add]
  · rename_i st' y f' e
    simp only [A.mk.injEq, Prod.mk.injEq] at e
    obtain ⟨rfl, rfl, rfl⟩ := e
    refine ⟨_, h.2, fun hc => ?_⟩
    obtain ⟨ad, rfl⟩ := h.1 hc
    exact run_fieldAt hf
  · cases h
theorem run_part {P : Program} {t : TypeId} {ag : Option Nat} {cs : List Value} {off : Nat} {v : Value} (h : aggN P t = some ag)
    (hv : match ag with | none => cs[off]? = some v | some k => v = .agg ⟨(cs.drop off).take k⟩ ∧ off + k ≤ cs.length) : (part t ⟨cs⟩ off).run P w = .ok v w := by
  cases ag with
  | none =>
    simp only [part, Sem.run_bind, run_agg_none h, Result.andThen_ok, Bool.false_eq_true, if_false]
    dsimp only at hv
    have : (⟨cs⟩ : Array Value)[off]? = some v := by rw [← hv, ← Array.getElem?_toList]
    rw [this]
    rfl
  | some k =>
    obtain ⟨rfl, hl⟩ := hv
    simp only [part, Sem.run_bind, (run_agg_some h).1, (run_agg_some h).2, Result.andThen_ok, if_true, Sem.run_pure]
    have : (Array.mk cs).extract off (off + k) = ⟨(cs.drop off).take k⟩ := by
      apply Array.ext'
      simp [List.extract, Nat.add_sub_cancel_left]
    rw [this]
theorem qField_sound {s : TypeId} {x : SV} {f off sz : Nat} {ag : Option Nat} {cs : List SV} {r : SV} (hf : fldO P s f = some (off, ag, sz)) (hx : aggCells x = some cs) (h : takeC cs off ag = some r) :
    (Instr.field s (den V x) f).run P w = .ok (den V r) w := by
  obtain ⟨fs, y, hs, hy, rfl, hg, _, _⟩ := fld_spec hf
  have hd : den V x = .agg ⟨cs.map (denA V)⟩ := aggCells_den hx
  simp only [Instr.field, Sem.run_bind, run_underlying hs, Result.andThen_ok, hy, hd, asAgg, Sem.run_pure]
  refine run_part hg ?_
  have ht := takeC_den (V := V) h
  cases ag with
  | none =>
    exact ht
  | some k => exact ⟨ht.1, by rw [List.length_map]; exact ht.2⟩
end
end Go.Proofs.YtalalcpefggniaaGreatDoor.E

/- The engine, part H: indexes, cuts, loads; and every quiet operation, together. -/
set_option linter.unusedSimpArgs false
set_option linter.unusedVariables false
namespace Go.Proofs.YtalalcpefggniaaGreatDoor.E
open Go

section
variable {C : Ctx} {n : Nat} {st : LS} {a : Act} {V : Vl} {D : Nat → Nat} {w : World} {P : Program} {p : Pth} {K : SV → Prop} {c : Bool}

theorem elT_spec {t e : TypeId} (h : elT P t = some e) : P.underlying t = some (.slice e) := by
  unfold elT at h
  split at h
  · rename_i e' h'; cases h; exact h'
  · cases h
theorem run_indexAt {t e : TypeId} {ad : Addr} {len cp : Nat} {k : IntKind} {i : Int} (h : elT P t = some e) (h0 : 0 < szT P e) (hi : 0 ≤ i) (hl : i < len) :
    (Instr.indexAt t (.slice (some ad) len cp) (.int k i)).run P w = .ok (.pointer (some (ad.add (i.toNat * szT P e)))) w := by
  simp [Instr.indexAt, asIntOf, run_underlying (elT_spec h), hi, hl, run_szT h0]
theorem qIxA_sound (hS : Sat C n st a V D w) {t e : TypeId} {x i : SV} (he : elT P t = some e) (h : qIxA (.mk (k := (P, U c, K)) (st, e, x, i))) :
    ∃ r, K r ∧ Yl c P (Instr.indexAt t (den V x) (den V i)) w (den V r) := by
  unfold qIxA at h
  split at h
  · rename_i st' e' x m cp k j q
    simp only [A.mk.injEq, Prod.mk.injEq] at q
    obtain ⟨rfl, rfl, rfl, rfl⟩ := q
    refine ⟨_, h.2.2, fun hc => ?_⟩
    obtain ⟨h1, h2, h3⟩ := h.2.1 hc
    cases x with
    | none => exact absurd rfl h3
    | some ad => exact run_indexAt he h.1 h1 h2
  · rename_i st' e' k v kk j q
    simp only [A.mk.injEq, Prod.mk.injEq] at q
    obtain ⟨rfl, rfl, rfl, rfl⟩ := q
    obtain ⟨b, hb, h0, h1, h2⟩ := withO_some h
    refine ⟨_, h2, fun hc => ?_⟩
    obtain ⟨hv, rfl, rfl⟩ := vc_of hS hb
    obtain ⟨i0, i1, _⟩ := h1 hc
    obtain ⟨hn, hl, hx⟩ := own_at hv.1
    obtain ⟨g, hg, _⟩ := hx (by omega)
    show (Instr.indexAt t (V.γ b.id b.ver).val (.int kk j)).run P w = .ok (.pointer ((V.γ b.id b.ver).a.map (·.add (j.toNat * szT P e)))) w
    unfold Hd.val
    rw [hg, hn]
    exact run_indexAt he h0 i0 i1
  · cases h
theorem byte_at (s : ByteArray) (i : Nat) (h : i < (tl s).length) : s[i]? = some ((tl s).getD i 0) := by
  have hs : i < s.size := by rw [← tl_len]; exact h
  have e1 : s[i]? = some s[i] := getElem?_pos s i hs
  rw [e1]
  rw [List.getD_eq_getElem?_getD, List.getElem?_eq_getElem h]
  rfl
theorem qIx_sound {t : TypeId} {x i : SV} (h : qIx (.mk (k := (P, t, U c, K)) (x, i))) : ∃ r, K r ∧ Yl c P (Instr.index t (den V x) (den V i)) w (den V r) := by
  unfold qIx at h
  split at h
  · rename_i s k j q
    simp only [A.mk.injEq, Prod.mk.injEq] at q
    obtain ⟨rfl, rfl⟩ := q
    refine ⟨_, h.2.2, fun hc => ?_⟩
    obtain ⟨h1, h2⟩ := h.2.1 hc
    have hb := byte_at s j.toNat (by omega)
    simp only [den_v, Instr.index, asIntOf, Sem.run_bind, Sem.run_pure, Result.andThen_ok, run_underlying h.1, if_pos h1, hb]
  · cases h
theorem sliceBd_spec {o : Option SV} {d l : Int} (h : sliceBd o d = some l) : (o = none ∧ l = d) ∨ ∃ k, o = some (.v (.int k l)) := by
  unfold sliceBd at h
  split at h
  · cases h; exact .inl ⟨rfl, rfl⟩
  · cases h; exact .inr ⟨_, rfl⟩
  · cases h
theorem run_bd {k : IntKind} {i : Int} {y : Nat} {code : BoundsCode} (h0 : 0 ≤ i) (h1 : i ≤ y) : (Instr.sliceBound (.int k i) y code).run P w = .ok i.toNat w := by
  simp [Instr.sliceBound, asIntOf, h0, h1]
theorem run_bds {isS : Bool} {len cp : Nat} {lo hi : Option SV} {l h : Int} (hl : sliceBd lo 0 = some l) (hh : sliceBd hi len = some h) (h0 : 0 ≤ l) (h1 : l ≤ h) (h2 : h ≤ cp) :
    (Instr.sliceBounds isS len cp (lo.map (den V)) (hi.map (den V)) none).run P w = .ok (l.toNat, h.toNat, cp) w := by
  have eh : (h.toNat : Int) = h := Int.toNat_of_nonneg (by omega)
  rcases sliceBd_spec hl with ⟨rfl, rfl⟩ | ⟨k, rfl⟩ <;> rcases sliceBd_spec hh with ⟨rfl, rfl⟩ | ⟨k', rfl⟩
  · simp [Instr.sliceBounds]
  · simp only [Instr.sliceBounds, Option.map_none, Option.map_some, Sem.run_bind, Sem.run_pure, Result.andThen_ok, den_v]
    rw [run_bd (by omega) h2]
    rfl
  · simp only [Instr.sliceBounds, Option.map_none, Option.map_some, Sem.run_bind, Sem.run_pure, Result.andThen_ok, den_v]
    rw [run_bd h0 h1]
    simp
  · simp only [Instr.sliceBounds, Option.map_none, Option.map_some, Sem.run_bind, Sem.run_pure, Result.andThen_ok, den_v]
    rw [run_bd (by omega) h2]
    simp only [Result.andThen_ok]
    rw [run_bd h0 (by omega)]
    rfl
theorem extract_bs (s : ByteArray) (l h : Nat) : s.extract l h = bs (((tl s).take h).drop l) := by
  rw [← bs_tl (s.extract l h)]
  congr 1
  show (s.extract l h).data.toList = _
  rw [Lib.extract_data, List.drop_take]
  rfl
theorem qSl_sound {t : TypeId} {x : SV} {lo hi : Option SV} (h : qSl (.mk (k := (P, t, U c, K)) (x, lo, hi))) :
    ∃ r, K r ∧ Yl c P (Instr.sliceAt t (den V x) (lo.map (den V)) (hi.map (den V)) none) w (den V r) := by
  unfold qSl at h
  split at h
  · rename_i s lo hi q
    simp only [A.mk.injEq, Prod.mk.injEq] at q
    obtain ⟨rfl, rfl, rfl⟩ := q
    obtain ⟨ht, h⟩ := h
    obtain ⟨l, hl, h⟩ := withO_some h
    obtain ⟨r, hr, h⟩ := withO_some h
    simp only [qSlS] at h
    refine ⟨_, h.2, fun hc => ?_⟩
    obtain ⟨h0, h1, h2⟩ := h.1 hc
    rw [tl_len] at hr h2
    rw [den_v, run_sliceAt_string (h := ht)]
    simp only [Instr.slice, Sem.run_bind, run_underlying ht, Result.andThen_ok, Option.isSome_none, Bool.false_eq_true, if_false, Sem.run_pure]
    rw [run_bds hl hr h0 h1 h2]
    simp only [Result.andThen_ok, extract_bs]
    rfl
  · rename_i x m cp lo hi q
    simp only [A.mk.injEq, Prod.mk.injEq] at q
    obtain ⟨rfl, rfl, rfl⟩ := q
    obtain ⟨l, hl, h⟩ := withO_some h
    obtain ⟨r, hr, h⟩ := withO_some h
    obtain ⟨e, he, hz, h⟩ := withO_some h
    refine ⟨_, h.2, fun hc => ?_⟩
    obtain ⟨h0, h1, h2⟩ := h.1 hc
    have hu := elT_spec he
    have hu' : P.underlying t = some (.slice (P.elem t)) := by
      rw [hu]; unfold Program.elem; rw [hu]
    rw [den_v, run_sliceAt_slice (h := hu')]
    simp only [Instr.slice, Sem.run_bind, run_underlying hu, Result.andThen_ok]
    rw [run_bds hl hr h0 h1 h2]
    simp only [Result.andThen_ok, run_szT hz, Sem.run_pure]
    rfl
  · cases h
theorem loadAt_of {t : TypeId} {ad : Addr} {v : Value} (h : (loadVar t ad).run P w = .ok v w) : (Instr.loadAt t (.pointer (some ad))).run P w = .ok v w := by
  simp [Instr.loadAt, Instr.sureAddr, h]
theorem bx_cell (hS : Sat C n st a V D w) {k : Nat} {b : Bx} (h : lkB st.bx k = some b) (hty : (b.ty == mapTy) = false) (j : Nat) : w.cell? ⟨V.β k, j, none⟩ = (b.cs.map (denA V))[j]? := by
  obtain ⟨rfl, hm⟩ := lkB_mem h
  obtain ⟨o, this, ho⟩ := (hS.heap.bx b hm).1
  unfold bxObj at ho
  rw [if_neg (by simpa using hty)] at ho
  subst ho
  simp only [World.cell?, this, Option.isSome_none, Bool.false_eq_true, if_false]
  rw [← Array.getElem?_toList]
theorem qLoad_sound (hS : Sat C n st a V D w) {t : TypeId} {x : SV} (h : qLoad (.mk (k := (P, t, U c, K)) (st, x))) : ∃ r, K r ∧ Yl c P (Instr.loadAt t (den V x)) w (den V r) := by
  unfold qLoad at h
  split at h
  · rename_i st' k o q
    simp only [A.mk.injEq, Prod.mk.injEq] at q
    obtain ⟨rfl, rfl⟩ := q
    obtain ⟨b, hb, hty, h⟩ := withO_some h
    obtain ⟨ag, hag, h⟩ := withO_some h
    obtain ⟨r, hr, h⟩ := withO_some h
    refine ⟨r, h, fun _ => loadAt_of ?_⟩
    have ht := takeC_den (V := V) hr
    cases ag with
    | none =>
      refine run_loadVar_ag (cs := [den V r]) hag (fun j u hu => ?_) rfl
      cases j with
      | zero => rw [add_off, bx_cell hS hb hty]; simp only [List.getElem?_cons_zero] at hu; rw [← hu]; exact ht
      | succ j => simp at hu
    | some k' =>
      refine run_loadVar_ag (cs := ((b.cs.map (denA V)).drop o).take k') hag (fun j u hu => ?_) ⟨?_, ht.1⟩
      · rw [add_off, bx_cell hS hb hty]
        rw [List.getElem?_take] at hu
        split at hu
        · rw [List.getElem?_drop] at hu; exact hu
        · cases hu
      · have := ht.2
        simp only [List.length_take, List.length_drop, List.length_map]
        omega
  · rename_i st' k v o q
    simp only [A.mk.injEq, Prod.mk.injEq] at q
    obtain ⟨rfl, rfl⟩ := q
    obtain ⟨b, hb, h⟩ := withO_some h
    obtain ⟨ag, hag, h⟩ := withO_some h
    obtain ⟨hv, rfl, rfl⟩ := vc_of hS hb
    obtain ⟨_, hl, hx⟩ := own_at hv.1
    have key : o < b.xs.length → ∃ g, den V (.vp b.id b.ver o) = .pointer (some ⟨g, o, none⟩) ∧ ∀ j u, b.xs[j]? = some u → w.cell? ⟨g, j, none⟩ = some u := by
      intro ho
      have hn : 0 < b.n := by
        rcases Nat.eq_zero_or_pos b.n with h0 | h0
        · rw [h0, Nat.zero_mul] at hl; omega
        · exact h0
      obtain ⟨g, hg, hc⟩ := hx hn
      refine ⟨g, ?_, hc⟩
      show Value.pointer ((V.γ b.id b.ver).a.map (·.add o)) = _
      rw [hg]
      simp only [Option.map_some, add_zero_off]
    cases ag with
    | none =>
      simp only [qRdV] at h
      refine ⟨_, h.2, fun hc => ?_⟩
      have ho := h.1 hc
      obtain ⟨g, hg, hcell⟩ := key ho
      rw [hg, den_v]
      refine loadAt_of (run_loadVar_ag (cs := [b.xs.getD o undef]) hag (fun j u hu => ?_) rfl)
      cases j with
      | zero =>
        simp only [List.getElem?_cons_zero, Option.some.injEq] at hu
        rw [add_off]
        refine hcell _ _ ?_
        rw [← hu, Nat.add_zero, List.getD_eq_getElem?_getD, List.getElem?_eq_getElem ho]
        rfl
      | succ j => simp at hu
    | some k' =>
      simp only [qRdV] at h
      obtain ⟨hk, h⟩ := h
      refine ⟨_, h.2, fun hc => ?_⟩
      have ho := h.1 hc
      obtain ⟨g, hg, hcell⟩ := key (by omega)
      rw [hg, den_v]
      refine loadAt_of (run_loadVar_ag (cs := (b.xs.drop o).take k') hag (fun j u hu => ?_) ⟨by simp only [List.length_take, List.length_drop]; omega, rfl⟩)
      rw [add_off]
      refine hcell _ _ ?_
      rw [List.getElem?_take] at hu
      split at hu
      · rw [List.getElem?_drop] at hu; exact hu
      · cases hu
  · rename_i st' x q
    simp only [A.mk.injEq, Prod.mk.injEq] at q
    obtain ⟨rfl, rfl⟩ := q
    obtain ⟨ag, hag, h⟩ := withO_some h
    cases ag with
    | none =>
      simp only [qRd] at h
      obtain ⟨v, h1, h2⟩ := h
      refine ⟨_, h2, fun hc => ?_⟩
      obtain ⟨ad, rfl, hcell⟩ := Rd_at hS.mle (h1 hc)
      exact loadAt_of (run_loadVar_ag hag hcell rfl)
    | some k' =>
      simp only [qRd] at h
      obtain ⟨cs, h1, h2⟩ := h
      refine ⟨_, h2, fun hc => ?_⟩
      obtain ⟨hr, hlen⟩ := h1 hc
      obtain ⟨ad, rfl, hcell⟩ := Rd_at hS.mle hr
      exact loadAt_of (run_loadVar_ag hag hcell ⟨hlen, rfl⟩)
  · cases h
end
end Go.Proofs.YtalalcpefggniaaGreatDoor.E

/- The engine, maps: own maps from texts to truth values. -/
set_option linter.unusedSimpArgs false
set_option linter.unusedVariables false
namespace Go.Proofs.YtalalcpefggniaaGreatDoor.E
open Go

def ixS : List (ByteArray × Bool) → ByteArray → Option (Nat × Bool)
  | [], _ => none
  | (a, v) :: r, s => if s = a then some (0, v) else (ixS r s).map fun x => (x.1 + 1, x.2)
def putS : List (ByteArray × Bool) → ByteArray → Bool → List (ByteArray × Bool)
  | [], s, x => [(s, x)]
  | (a, v) :: r, s, x => if s = a then (a, x) :: r else (a, v) :: putS r s x
theorem tl_iff {a b : ByteArray} : tl a = tl b ↔ a = b := ⟨fun h => by have := congrArg bs h; rwa [bs_tl, bs_tl] at this, fun h => by rw [h]⟩
theorem entC_cons (a : ByteArray) (v : Bool) (l : List (ByteArray × Bool)) : entC ((a, v) :: l) = .string a :: .bool v :: entC l := rfl
theorem findV_ent (s : ByteArray) : ∀ (l : List (ByteArray × Bool)), findV (entC l) (tl s) = match ixS l s with | some x => x.2 | none => false
  | [] => rfl
  | (a, v) :: l => by
    rw [entC_cons, findV, ixS]
    by_cases h : s = a
    · rw [if_pos h, if_pos (tl_iff.2 h)]
    · rw [if_neg h, if_neg (fun e => h (tl_iff.1 e)), findV_ent s l]
      cases ixS l s <;> rfl
theorem putV_ent (s : ByteArray) (x : Bool) : ∀ (l : List (ByteArray × Bool)), putV (entC l) (tl s) x = entC (putS l s x)
  | [] => by simp [entC, putV, putS, bs_tl]
  | (a, v) :: l => by
    rw [entC_cons, putV, putS]
    by_cases h : s = a
    · rw [if_pos h, if_pos (tl_iff.2 h)]; rfl
    · rw [if_neg h, if_neg (fun e => h (tl_iff.1 e)), putV_ent s x l]; rfl
theorem find_ent (s : ByteArray) : ∀ (l : List (ByteArray × Bool)) (es : List MapEntry) (i : Nat), es.map (fun e => (e.key, e.val)) = l.map (fun x => (Value.string x.1, Value.bool x.2)) →
    Instr.findNow .string (.string s) es i = some ((ixS l s).map fun x => (i + x.1, Value.bool x.2))
  | [], es, i, h => by
    have : es = [] := List.map_eq_nil_iff.1 h
    subst this; rfl
  | (a, v) :: l, [], i, h => by cases h
  | (a, v) :: l, e :: es, i, h => by
    simp only [List.map_cons, List.cons.injEq, Prod.mk.injEq] at h
    obtain ⟨⟨h1, h2⟩, h3⟩ := h
    have ih := find_ent s l es (i + 1) h3
    simp only [Instr.findNow, h1, h2, Instr.sameNow, ixS]
    by_cases hs : s = a
    · have : (s == a) = true := (MapKept.bytes_beq s a).2 hs
      rw [this, if_pos hs]; rfl
    · have : (s == a) = false := by
        cases hb : (s == a) with
        | false => rfl
        | true => exact absurd ((MapKept.bytes_beq s a).1 hb) hs
      rw [this, if_neg hs]
      simp only [ih]
      cases ixS l s with
      | none => rfl
      | some x => simp only [Option.map_some]; rw [show i + 1 + x.1 = i + (x.1 + 1) by omega]
theorem strMap_spec {P : Program} {t : TypeId} (h : strMap P t = true) : ∃ k e, P.underlying t = some (.map k e) ∧ P.underlying k = some .string ∧ P.underlying e = some .bool ∧ ∃ i, P.info? e = some i ∧ i.zero = some (.bool false) := by
  unfold strMap at h
  split at h
  · rename_i k e ht
    split at h
    · rename_i i hk he hi
      split at h
      · rename_i hz
        exact ⟨k, e, ht, hk, he, i, hi, hz⟩
      · cases h
    · cases h
  · cases h
theorem isKey_str (s : ByteArray) : MapKept.IsKey .string (.string s) := by simp [MapKept.IsKey]
theorem lookup_run {P : Program} {w : World} {t : TypeId} {r clk : Nat} {es : Array MapEntry} {l : List (ByteArray × Bool)} (ht : strMap P t = true) (hb : w.heap[r]? = some (.map es clk))
    (hes : es.toList.map (fun e => (e.key, e.val)) = l.map fun x => (Value.string x.1, Value.bool x.2)) (s : ByteArray) :
    (Instr.lookup t (.map (some r)) (.string s) false).run P w = .ok (.bool (findV (entC l) (tl s))) w := by
  obtain ⟨k, e, h1, h2, h3, i, h4, h5⟩ := strMap_spec ht
  have hf := find_ent s l es.toList 0 hes
  rw [findV_ent]
  have hc := MapKept.run_checkKey (P := P) (w := w) (kt := k) h2 (isKey_str s) es.isEmpty 9999
  have hk := MapKept.run_findKey (P := P) (w := w) (kt := k) h2 hf
  have hz : (zeroValue e).run P w = .ok (.bool false) w := by simp [zeroValue, typeInfo, h4, h5]
  cases hx : ixS l s with
  | none =>
    rw [hx] at hk
    simp [Instr.lookup, run_underlying h1, MapKept.run_getObj_map hb, hc, hk, hz, Result.andThen]
  | some x =>
    rw [hx] at hk
    simp [Instr.lookup, run_underlying h1, MapKept.run_getObj_map hb, hc, hk, Result.andThen]
theorem put_none {s : ByteArray} {x : Bool} : ∀ {l : List (ByteArray × Bool)}, ixS l s = none → putS l s x = l ++ [(s, x)]
  | [], _ => rfl
  | (a, v) :: l, h => by
    simp only [ixS] at h
    split at h
    · cases h
    · rename_i hs
      rw [putS, if_neg hs, put_none (Option.map_eq_none_iff.1 h)]; rfl
theorem put_some {s : ByteArray} {x : Bool} : ∀ {l : List (ByteArray × Bool)} {y : Nat × Bool}, ixS l s = some y → ∃ h : y.1 < l.length, l[y.1].1 = s ∧ putS l s x = l.set y.1 (s, x)
  | [], _, h => by cases h
  | (a, v) :: l, y, h => by
    simp only [ixS] at h
    split at h
    · rename_i hs
      cases h
      exact ⟨Nat.zero_lt_succ _, hs.symm, by rw [putS, if_pos hs, hs]; rfl⟩
    · rename_i hs
      obtain ⟨y', h', rfl⟩ := Option.map_eq_some_iff.1 h
      obtain ⟨h1, h2, h3⟩ := put_some (x := x) h'
      exact ⟨Nat.succ_lt_succ h1, h2, by rw [putS, if_neg hs, h3]; rfl⟩
theorem update_run {P : Program} {w : World} {t : TypeId} {r clk : Nat} {es : Array MapEntry} {l : List (ByteArray × Bool)} (ht : strMap P t = true) (hb : w.heap[r]? = some (.map es clk))
    (hes : es.toList.map (fun e => (e.key, e.val)) = l.map fun x => (Value.string x.1, Value.bool x.2)) (s : ByteArray) (v : Bool) :
    ∃ es' clk', (Instr.mapUpdate t (.map (some r)) (.string s) (.bool v)).run P w = .ok () { w with heap := w.heap.setIfInBounds r (.map es' clk') } ∧
      es'.toList.map (fun e => (e.key, e.val)) = (putS l s v).map fun x => (Value.string x.1, Value.bool x.2) := by
  obtain ⟨k, e, h1, h2, h3, i, h4, h5⟩ := strMap_spec ht
  have hf := find_ent s l es.toList 0 hes
  have hc := MapKept.run_checkKey (P := P) (w := w) (kt := k) h2 (isKey_str s) false 9999
  have hk := MapKept.run_findKey (P := P) (w := w) (kt := k) h2 hf
  cases hx : ixS l s with
  | none =>
    rw [hx] at hk
    refine ⟨es.push { key := .string s, val := .bool v, born := clk }, clk + 1, ?_, ?_⟩
    · simp [Instr.mapUpdate, run_underlying h1, MapKept.run_getObj_map hb, hc, hk, MapKept.run_setObj_map _ hb, Result.andThen]
    · rw [put_none hx, Array.toList_push, List.map_append, hes, List.map_append]; rfl
  | some y =>
    rw [hx] at hk
    obtain ⟨hy, hky, hput⟩ := put_some (x := v) hx
    have hlen : es.toList.length = l.length := by have := congrArg List.length hes; simpa using this
    have hj : y.1 < es.size := by rw [← Array.length_toList, hlen]; exact hy
    have hkey : (es[y.1]).key = .string s := by
      have := congrArg (·[y.1]?) hes
      simp only [List.getElem?_map, Array.getElem?_toList, Array.getElem?_eq_getElem hj, List.getElem?_eq_getElem hy, Option.map_some, Option.some.injEq, Prod.mk.injEq] at this
      rw [this.1, hky]
    refine ⟨es.modify y.1 fun e => { e with key := .string s, val := .bool v }, clk, ?_, ?_⟩
    · simp [Instr.mapUpdate, run_underlying h1, MapKept.run_getObj_map hb, hc, hk, MapKept.run_setObj_map _ hb, Result.andThen, hj, hkey, MapKept.run_keyThatStays (isKey_str s)]
    · rw [hput]
      apply List.ext_getElem?
      intro q
      have hq := congrArg (·[q]?) hes
      simp only [List.getElem?_map, Array.getElem?_toList] at hq ⊢
      rw [List.getElem?_set, Array.getElem?_modify]
      by_cases e : y.1 = q
      · subst e
        simp [hj, hy]
      · simp only [if_neg e]; exact hq
section
variable {P : Program} {C : Ctx} {n : Nat} {st : LS} {a : Act} {V : Vl} {D : Nat → Nat} {w : World} {K : SV → Prop}
theorem plains_sv {V : Vl} : ∀ {cs : List SV} {l : List Value}, plains cs = some l → cs.map (denA V) = l
  | [], l, h => by simp only [plains, Option.some.injEq] at h; subst h; rfl
  | s :: r, l, h => by
    simp only [plains, Option.bind_eq_some_iff, Option.map_eq_some_iff] at h
    obtain ⟨x, hx, l', hl, rfl⟩ := h
    simp only [List.map_cons]
    rw [plains_sv hl]
    cases s <;> simp only [plain, Option.some.injEq] at hx <;> first | (subst hx; rfl) | cases hx
theorem mp_obj (hS : Sat C n st a V D w) {k : Nat} {b : Bx} (hb : lkB st.bx k = some b) (hty : (b.ty == mapTy) = true) :
    ∃ es clk l, w.heap[V.β k]? = some (.map es clk) ∧ b.cs.map (denA V) = entC l ∧ es.toList.map (fun e => (e.key, e.val)) = l.map fun x => (Value.string x.1, Value.bool x.2) := by
  obtain ⟨rfl, hm⟩ := lkB_mem hb
  obtain ⟨o, ho, hob⟩ := (hS.heap.bx b hm).1
  unfold bxObj at hob
  rw [if_pos (beq_iff_eq.1 hty)] at hob
  obtain ⟨es, clk, l, rfl, h1, h2⟩ := hob
  exact ⟨es, clk, l, ho, h1, h2⟩
theorem qLkp_sound (hS : Sat C n st a V D w) {t : TypeId} {x i : SV} (h : qLkp (.mk (k := (P, t, K)) (st, x, i))) : ∃ r, K r ∧ (Instr.lookup t (den V x) (den V i) false).run P w = .ok (den V r) w := by
  unfold qLkp at h
  split at h
  · rename_i st' k s q
    simp only [A.mk.injEq, Prod.mk.injEq] at q
    obtain ⟨rfl, rfl, rfl⟩ := q
    obtain ⟨b, hb, hty, ht, h⟩ := withO_some h
    obtain ⟨l, hl, hK⟩ := withO_some h
    obtain ⟨es, clk, l', h1, h2, h3⟩ := mp_obj hS hb hty
    rw [plains_sv hl] at h2
    subst h2
    exact ⟨_, hK, lookup_run ht h1 h3 s⟩
  · cases h
end
end Go.Proofs.YtalalcpefggniaaGreatDoor.E

/- The engine, part I: every quiet operation. -/
set_option linter.unusedSimpArgs false
set_option linter.unusedVariables false
namespace Go.Proofs.YtalalcpefggniaaGreatDoor.E
open Go

section
variable {C : Ctx} {n : Nat} {st : LS} {a : Act} {V : Vl} {D : Nat → Nat} {w : World} {P : Program} {p : Pth} {K : SV → Prop} {c : Bool}

theorem setC_len : ∀ (l cs : List SV) (off : Nat), (setC cs off l).length = cs.length
  | [], _, _ => rfl
  | c :: r, cs, off => by simp only [setC]; rw [setC_len r]; simp
theorem fold_set {V : Vl} : ∀ (l : List SV) (cs : List SV) (off k : Nat),
    (List.zipIdx (l.map (denA V)) k).foldl (fun (cs : Array Value) (x : Value × Nat) => cs.setIfInBounds (off + x.2) x.1) ⟨cs.map (denA V)⟩ = ⟨(setC cs (off + k) l).map (denA V)⟩
  | [], _, _, _ => rfl
  | c :: r, cs, off, k => by
    simp only [List.map_cons, List.zipIdx_cons, List.foldl_cons, setC]
    have : (⟨cs.map (denA V)⟩ : Array Value).setIfInBounds (off + k) (denA V c) = ⟨(cs.set (off + k) c).map (denA V)⟩ := by
      apply Array.ext'
      simp
    rw [this, fold_set r (cs.set (off + k) c) off (k + 1)]
    rfl
theorem run_mapM {α β : Type} (f : α → Sem β) (g : α → β) : ∀ (l : List α), (∀ x ∈ l, ∀ w, (f x).run P w = .ok (g x) w) → ∀ w, (l.mapM f).run P w = .ok (l.map g) w
  | [], _, w => by simp
  | x :: r, h, w => by
    simp only [List.mapM_cons, Sem.run_bind, h x (List.mem_cons_self ..), Result.andThen_ok, run_mapM f g r (fun y hy => h y (List.mem_cons_of_mem _ hy)), Sem.run_pure, List.map_cons]
theorem run_mapA {α β : Type} (f : α → Sem β) (g : α → β) (l : Array α) (h : ∀ x ∈ l.toList, ∀ w, (f x).run P w = .ok (g x) w) : (l.mapM f).run P w = .ok (l.map g) w := by
  obtain ⟨l⟩ := l
  simp only [List.mapM_toArray, Sem.run_map, run_mapM f g l h, Result.andThen_ok]
  simp
theorem zeroO_spec {t : TypeId} {cs : List SV} (h : zeroO P t = some cs) : ∃ z, (zeroValue t).run P w = .ok z w ∧ z.cells = ⟨cs.map (denA V)⟩ := by
  unfold zeroO at h
  simp only [Option.map_eq_some_iff, Option.bind_eq_some_iff] at h
  obtain ⟨z, ⟨i, hi, hz⟩, rfl⟩ := h
  refine ⟨z, by simp [zeroValue, typeInfo, hi, hz], ?_⟩
  rw [map_v]
theorem buildC_sound (hS : Sat C n st a V D w) (hp : wfP st.rho p) (hc : condP st.rho p = true) {t : TypeId} {fs : Array Field} (hf : P.underlying t = some (.struct fs)) :
    ∀ (parts : List (Nat × Operand)) (cs cs' : List SV), buildC P t st p parts cs = some cs' →
      Instr.fill (fun i => (fs.map fun f => (f.offset, szT P f.type))[i]?) ⟨cs.map (denA V)⟩ (parts.map fun x => (x.1, a.eval x.2)) = some ⟨cs'.map (denA V)⟩
  | [], cs, cs', h => by simp only [buildC, Option.some.injEq] at h; subst h; rfl
  | (i, x) :: r, cs, cs', h => by
    simp only [buildC, Option.bind_eq_some_iff] at h
    obtain ⟨⟨off, ag, sz⟩, hfo, l, ⟨s, hs, hl⟩, h⟩ := h
    split at h
    · rename_i hsz
      split at h
      · rename_i hfit
        dsimp only at hsz hfit h
        obtain ⟨fs', y, hs', hy, rfl, _, _, rfl⟩ := fld_spec hfo
        rw [hf] at hs'
        cases hs'
        have hev := rdO_sound hS hp hc hs
        have hcl := svCells_den (V := V) hl
        have hsize : (a.eval x).cells.size = l.length := by rw [hev, hcl]; simp
        have hpl : (fs.map fun f => (f.offset, szT P f.type))[i]? = some (y.offset, szT P y.type) := by
          simp [Array.getElem?_map, hy]
        simp only [List.map_cons, Instr.fill, hpl]
        rw [if_neg (by
          simp only [hsize, List.size_toArray, List.length_map, Bool.or_eq_true, decide_eq_true_eq, not_or, Decidable.not_not]
          exact ⟨by simpa using hsz, by omega⟩)]
        have hfold : ((a.eval x).cells.zipIdx.foldl (fun (cs : Array Value) (x : Value × Nat) => cs.setIfInBounds (y.offset + x.2) x.1) ⟨cs.map (denA V)⟩) = ⟨(setC cs y.offset l).map (denA V)⟩ := by
          rw [hev, hcl, ← Array.foldl_toList]
          have := fold_set (V := V) l cs y.offset 0
          simp only [Nat.add_zero] at this
          rw [← this]
          simp [Array.toList_zipIdx]
        have ih := buildC_sound hS hp hc hf r _ cs' h
        rw [← ih, ← hfold]
      · cases h
    · cases h

theorem run_sizes {fs : Array Field} (h : (fs.toList.all fun x => (P.info? x.type).isSome) = true) :
    (fs.mapM (m := Sem) fun (f : Field) => do pure (f.offset, ← sizeOf f.type)).run P w = .ok (fs.map fun f => (f.offset, szT P f.type)) w := by
  refine run_mapA _ _ fs (fun x hx w => ?_)
  have := List.all_eq_true.1 h x hx
  obtain ⟨i, hi⟩ := Option.isSome_iff_exists.1 this
  simp [sizeOf, typeInfo, hi, szT]
theorem build_sound (hS : Sat C n st a V D w) (hp : wfP st.rho p) (hc : condP st.rho p = true) {t : TypeId} {parts : Array (Nat × Operand)} {z cs : List SV}
    (hb : bldOk P t = true) (hz : zeroO P t = some z) (h : buildC P t st p parts.toList z = some cs) :
    (Instr.build t (parts.map fun x => (x.1, a.eval x.2))).run P w = .ok (.agg ⟨cs.map (denA V)⟩) w := by
  unfold bldOk at hb
  split at hb
  · rename_i fs hf
    obtain ⟨zv, hzv, hzc⟩ := zeroO_spec (V := V) (w := w) hz
    have hfill := buildC_sound hS hp hc hf parts.toList z cs h
    simp only [Instr.build, Sem.run_bind, hzv, Result.andThen_ok, run_underlying hf, run_sizes hb, hzc]
    have : (parts.map fun x => (x.1, a.eval x.2)).toList = parts.toList.map fun x => (x.1, a.eval x.2) := by simp
    rw [this, hfill]
    simp
  · cases hb

theorem rdO_opt (hS : Sat C n st a V D w) (hp : wfP st.rho p) (hc : condP st.rho p = true) {x : Option Operand} {s : Option SV} (h : optO st p x = some s) : x.map a.eval = s.map (den V) := by
  cases x with
  | none => simp only [optO, Option.some.injEq] at h; subst h; rfl
  | some x =>
    simp only [optO, Option.map_eq_some_iff] at h
    obtain ⟨s, hs, rfl⟩ := h
    simp only [Option.map_some, rdO_sound hS hp hc hs]
theorem noTup_den {s r : SV} (h : noTup s = some r) : den V r = denB V s := by
  cases s <;> simp only [noTup, Option.some.injEq] at h <;> first | (subst h; rfl) | cases h
theorem qExt_sound {x : SV} {i : Nat} (h : qExt (.mk (k := K) (x, i))) : ∃ r, K r ∧ (Instr.extract (den V x) i).run P w = .ok (den V r) w := by
  unfold qExt at h
  split at h
  · rename_i l i' q
    simp only [A.mk.injEq, Prod.mk.injEq] at q
    obtain ⟨rfl, rfl⟩ := q
    obtain ⟨r, hr, hK⟩ := withO_some h
    obtain ⟨s, hs, hr⟩ := bnd hr
    refine ⟨r, hK, ?_⟩
    have : (⟨l.map (denB V)⟩ : Array Value)[i]? = some (den V r) := by
      rw [← Array.getElem?_toList]
      simp only [List.getElem?_map, hs, Option.map_some, noTup_den hr]
    rw [den_tup]
    simp only [Instr.extract, this, Sem.run_pure]
  · rename_i l i' q
    simp only [A.mk.injEq, Prod.mk.injEq] at q
    obtain ⟨rfl, rfl⟩ := q
    obtain ⟨r, hr, hK⟩ := withO_some h
    simp only [Option.map_eq_some_iff] at hr
    obtain ⟨v, hv, rfl⟩ := hr
    refine ⟨_, hK, ?_⟩
    have : (⟨l⟩ : Array Value)[i]? = some v := by rw [← Array.getElem?_toList]; exact hv
    simp only [den_v, Instr.extract, this, Sem.run_pure]
  · cases h
theorem qLen_sound (hS : Sat C n st a V D w) {t ty : TypeId} {x : SV} (h : qLen (.mk (k := (P, t, K)) (st, x))) : ∃ r, K r ∧ (Builtin.len_ #[t] ty #[den V x]).run P w = .ok (den V r) w := by
  unfold qLen at h
  split at h
  · rename_i st' s q
    simp only [A.mk.injEq, Prod.mk.injEq] at q
    obtain ⟨rfl, rfl⟩ := q
    refine ⟨_, h.2, ?_⟩
    simp [Builtin.len_, run_underlying h.1, den_v, goInt, tl_len]
  · rename_i st' x m cp q
    simp only [A.mk.injEq, Prod.mk.injEq] at q
    obtain ⟨rfl, rfl⟩ := q
    obtain ⟨e, he, hK⟩ := withO_some h
    refine ⟨_, hK, ?_⟩
    simp [Builtin.len_, run_underlying (elT_spec he), den_v, goInt]
  · rename_i st' k v q
    simp only [A.mk.injEq, Prod.mk.injEq] at q
    obtain ⟨rfl, rfl⟩ := q
    obtain ⟨e, he, h⟩ := withO_some h
    obtain ⟨b, hb, hK⟩ := withO_some h
    obtain ⟨hv, rfl, rfl⟩ := vc_of hS hb
    obtain ⟨hn, _, _⟩ := own_at hv.1
    refine ⟨_, hK, ?_⟩
    show (Builtin.len_ #[t] ty #[(V.γ b.id b.ver).val]).run P w = _
    unfold Hd.val
    simp [Builtin.len_, run_underlying (elT_spec he), den_v, goInt, hn]
  · cases h
theorem qMin_sound {ts : Array TypeId} {ty : TypeId} {x y : SV} (h : qMin (.mk (k := K) (x, y))) : ∃ r, K r ∧ (Builtin.min_ ts ty #[den V x, den V y]).run P w = .ok (den V r) w := by
  unfold qMin at h
  split at h
  · rename_i k i k' j q
    simp only [A.mk.injEq, Prod.mk.injEq] at q
    obtain ⟨rfl, rfl⟩ := q
    exact ⟨_, h, by simp [Builtin.min_, Builtin.min2, den_v]⟩
  · cases h
theorem qMax_sound {ts : Array TypeId} {ty : TypeId} {x y : SV} (h : qMax (.mk (k := K) (x, y))) : ∃ r, K r ∧ (Builtin.max_ ts ty #[den V x, den V y]).run P w = .ok (den V r) w := by
  unfold qMax at h
  split at h
  · rename_i k i k' j q
    simp only [A.mk.injEq, Prod.mk.injEq] at q
    obtain ⟨rfl, rfl⟩ := q
    exact ⟨_, h, by simp [Builtin.max_, Builtin.max2, den_v]⟩
  · cases h
theorem qMax4_sound {ts : Array TypeId} {ty : TypeId} {x y z u : SV} (h : qMax4 (.mk (k := K) (x, y, z, u))) : ∃ r, K r ∧ (Builtin.max_ ts ty #[den V x, den V y, den V z, den V u]).run P w = .ok (den V r) w := by
  unfold qMax4 at h
  split at h
  · rename_i k a k' b k2 c k3 d q
    simp only [A.mk.injEq, Prod.mk.injEq] at q
    obtain ⟨rfl, rfl, rfl, rfl⟩ := q
    exact ⟨_, h, by simp [Builtin.max_, Builtin.max2, den_v, mx] <;> rfl⟩
  · cases h

theorem qPick_sound (hS : Sat C n st a V D w) (hp : wfP st.rho p) {g : Gd} {x y : Operand} (hg : g ∈ st.rho) (h : qPick (.mk (k := (p, x, y, st, g, K)) (pickM x y))) :
    ∃ r, K r ∧ (condP st.rho p = true → a.tmps.getD g.slot undef = .bool g.b.val ∧ (if g.b.val = true then a.eval x else a.eval y) = den V r) := by
  obtain ⟨hlk, hwf, hslot⟩ := hS.rho g hg
  have hcell : condP st.rho p = true → sfx g.p p = true → a.tmps.getD g.slot undef = .bool g.b.val ∧ condP st.rho g.p = true := fun hc hs => by
    have := condP_sfx hs hc
    rw [this, if_pos rfl] at hslot
    exact ⟨by simp [hslot], this⟩
  have side : ∀ b, g.b.val = b → condP st.rho g.p = true → condP st.rho ((g.i, b) :: g.p) = true := fun b hb hc => by
    simp only [condP, gval_of hlk, hb, hc, Bool.and_true]
    cases b <;> simp
  have wf2 : ∀ b, wfP st.rho ((g.i, b) :: g.p) := fun b x hx => by
    rcases List.mem_cons.1 hx with rfl | hx
    · exact ⟨g, hlk⟩
    · exact hwf x hx
  unfold qPick at h
  split at h
  · rename_i i s q _
    obtain ⟨hs, h⟩ := h
    obtain ⟨r, hr, hK⟩ := withO_some h
    refine ⟨r, hK, fun hc => ?_⟩
    obtain ⟨h1, h2⟩ := hcell hc hs
    exact ⟨h1, by simp only [GB.val, if_true]; exact rdO_sound hS (wf2 true) (side true rfl h2) hr⟩
  · rename_i i s q _
    obtain ⟨hs, h⟩ := h
    obtain ⟨r, hr, hK⟩ := withO_some h
    refine ⟨r, hK, fun hc => ?_⟩
    obtain ⟨h1, h2⟩ := hcell hc hs
    exact ⟨h1, by simp only [GB.val, Bool.false_eq_true, if_false]; exact rdO_sound hS (wf2 false) (side false rfl h2) hr⟩
  · rename_i i s q b md heq
    obtain ⟨hs, h⟩ := h
    obtain ⟨sx, hx, h⟩ := withO_some h
    obtain ⟨sy, hy, h⟩ := withO_some h
    have evx : condP st.rho p = true → b = true → a.eval x = den V sx := fun hc hb => rdO_sound hS (wf2 true) (side true hb (hcell hc hs).2) hx
    have evy : condP st.rho p = true → b = false → a.eval y = den V sy := fun hc hb => rdO_sound hS (wf2 false) (side false hb (hcell hc hs).2) hy
    unfold pickB at h
    split at h
    · rename_i b' a1 q'
      simp only [A.mk.injEq, Prod.mk.injEq] at q'
      obtain ⟨rfl, rfl, rfl⟩ := q'
      refine ⟨_, h, fun hc => ⟨(hcell hc hs).1, ?_⟩⟩
      cases b with
      | true => simp only [GB.val, if_true, evx hc rfl, den_v, Bool.true_and]
      | false => simp only [GB.val, Bool.false_eq_true, if_false, evy hc rfl, den_v, Bool.false_and]
    · rename_i b' a1 q'
      simp only [A.mk.injEq, Prod.mk.injEq] at q'
      obtain ⟨rfl, rfl, rfl⟩ := q'
      refine ⟨_, h, fun hc => ⟨(hcell hc hs).1, ?_⟩⟩
      cases b with
      | true => simp only [GB.val, if_true, evx hc rfl, den_v, Bool.true_or]
      | false => simp only [GB.val, Bool.false_eq_true, if_false, evy hc rfl, den_v, Bool.false_or]
    · rename_i b' a1 a2 q'
      simp only [A.mk.injEq, Prod.mk.injEq] at q'
      obtain ⟨rfl, rfl, rfl⟩ := q'
      refine ⟨_, h, fun hc => ⟨(hcell hc hs).1, ?_⟩⟩
      cases b with
      | true => simp only [GB.val, if_true, evx hc rfl, den_v, cond_true]
      | false => simp only [GB.val, Bool.false_eq_true, if_false, evy hc rfl, den_v, cond_false]
    · cases h

/-- EVERY QUIET OPERATION. -/
theorem qOp_sound (hS : Sat C n st a V D w) (hp : wfP st.rho p) {o : Oper} {op : Op} (ho : o.op = op) (h : qOp (.mk (k := (P, op, K)) (st, p))) :
    ∃ s, K s ∧ (condP st.rho p = true → (execOp a.eval o).run P w = .ok (.value (den V s)) w) := by
  unfold qOp at h
  split at h
  · rename_i x st' p' q
    cases q
    obtain ⟨s, hs, hK⟩ := withO_some h
    exact ⟨s, hK, fun hc => by simp only [execOp, ho, Sem.run_pure, rdO_sound hS hp hc hs]⟩
  · rename_i x st' p' q
    cases q
    obtain ⟨s, hs, hK⟩ := withO_some h
    exact ⟨s, hK, fun hc => by simp only [execOp, ho, Sem.run_pure, rdO_sound hS hp hc hs]⟩
  · rename_i t x y st' p' q
    cases q
    obtain ⟨g, hg, h'⟩ := withO_some h
    obtain ⟨hsl, hm⟩ := lkGs_mem hg
    obtain ⟨r, hK, hr⟩ := qPick_sound hS hp hm h'
    refine ⟨r, hK, fun hc => ?_⟩
    obtain ⟨h1, h2⟩ := hr hc
    have he : a.eval (.tmp t) = .bool g.b.val := by rw [← hsl]; exact h1
    simp only [execOp, ho, he, asBool, Sem.run_bind, Sem.run_pure, Result.andThen_ok, h2]
  · rename_i x st' p' q
    cases q
    obtain ⟨s, hs, h⟩ := withO_some h
    obtain ⟨r, hK, e, hn⟩ := qNil_sound (V := V) h
    refine ⟨r, hK, fun hc => ?_⟩
    have hev := rdO_sound hS hp hc hs
    rw [e, ← hev]
    exact exec_nil ho (by rw [hev]; exact hn hc)
  · rename_i bop t x t' st' p' q
    cases q
    obtain ⟨sx, hx, h⟩ := withO_some h
    obtain ⟨r, hK, hr⟩ := qNilI_sound (V := V) (w := w) (o := x) h
    refine ⟨r, hK, fun hc => ?_⟩
    have := exec_v (hr hc)
    rw [← rdO_sound hS hp hc hx] at this
    simp only [execOp, ho]
    exact this
  · rename_i bop t x y t' st' p' _ q
    cases q
    obtain ⟨sx, hx, h⟩ := withO_some h
    obtain ⟨sy, hy, h⟩ := withO_some h
    obtain ⟨r, hK, hr⟩ := binQ_sound (V := V) (w := w) (o := x) (o' := y) h
    refine ⟨r, hK, fun hc => ?_⟩
    have := exec_v (hr hc)
    rw [← rdO_sound hS hp hc hx, ← rdO_sound hS hp hc hy] at this
    simp only [execOp, ho]
    exact this
  · rename_i uop t x st' p' q
    cases q
    obtain ⟨sx, hx, h⟩ := withO_some h
    obtain ⟨r, hK, hr⟩ := qUn_sound (V := V) (w := w) (P := P) h
    refine ⟨r, hK, fun hc => ?_⟩
    have := exec_v (hr hc)
    rw [← rdO_sound hS hp hc hx] at this
    simp only [execOp, ho]
    exact this
  · rename_i src dst x st' p' q
    cases q
    obtain ⟨sx, hx, h⟩ := withO_some h
    obtain ⟨r, hK, hr⟩ := qConv_sound hS h
    refine ⟨r, hK, fun hc => ?_⟩
    have := exec_v (hr hc)
    rw [← rdO_sound hS hp hc hx] at this
    simp only [execOp, ho]
    exact this
  · rename_i s x f st' p' q
    cases q
    obtain ⟨sx, hx, h⟩ := withO_some h
    obtain ⟨⟨off, ag, sz⟩, hf, h⟩ := withO_some h
    obtain ⟨r, hK, hr⟩ := qFld_sound hS hf h
    refine ⟨r, hK, fun hc => ?_⟩
    have := exec_v (hr hc)
    rw [← rdO_sound hS hp hc hx] at this
    simp only [execOp, ho]
    exact this
  · rename_i s x f st' p' q
    cases q
    obtain ⟨cs, hcs, h⟩ := withO_some h
    obtain ⟨sx, hx, hcs⟩ := bnd hcs
    obtain ⟨⟨off, ag, sz⟩, hf, h⟩ := withO_some h
    obtain ⟨r, hr, hK⟩ := withO_some h
    refine ⟨r, hK, fun hc => ?_⟩
    have := exec_v (qField_sound (V := V) (w := w) hf hcs hr)
    rw [← rdO_sound hS hp hc hx] at this
    simp only [execOp, ho]
    exact this
  · rename_i t x i st' p' q
    cases q
    obtain ⟨sx, hx, h⟩ := withO_some h
    obtain ⟨si, hi, h⟩ := withO_some h
    obtain ⟨e, he, h⟩ := withO_some h
    obtain ⟨r, hK, hr⟩ := qIxA_sound hS he h
    refine ⟨r, hK, fun hc => ?_⟩
    have := exec_v (hr hc)
    rw [← rdO_sound hS hp hc hx, ← rdO_sound hS hp hc hi] at this
    simp only [execOp, ho]
    exact this
  · rename_i t x i st' p' q
    cases q
    obtain ⟨sx, hx, h⟩ := withO_some h
    obtain ⟨si, hi, h⟩ := withO_some h
    obtain ⟨r, hK, hr⟩ := qIx_sound (V := V) (w := w) h
    refine ⟨r, hK, fun hc => ?_⟩
    have := exec_v (hr hc)
    rw [← rdO_sound hS hp hc hx, ← rdO_sound hS hp hc hi] at this
    simp only [execOp, ho]
    exact this
  · rename_i t x lo hi st' p' q
    cases q
    obtain ⟨sx, hx, h⟩ := withO_some h
    obtain ⟨sl, hl, h⟩ := withO_some h
    obtain ⟨sh, hh, h⟩ := withO_some h
    obtain ⟨r, hK, hr⟩ := qSl_sound (V := V) (w := w) h
    refine ⟨r, hK, fun hc => ?_⟩
    have := exec_v (hr hc)
    rw [← rdO_sound hS hp hc hx, ← rdO_opt hS hp hc hl, ← rdO_opt hS hp hc hh] at this
    simp only [execOp, ho]
    exact this
  · rename_i t x st' p' q
    cases q
    obtain ⟨sx, hx, h⟩ := withO_some h
    obtain ⟨r, hK, hr⟩ := qLoad_sound hS h
    refine ⟨r, hK, fun hc => ?_⟩
    have := exec_v (hr hc)
    rw [← rdO_sound hS hp hc hx] at this
    simp only [execOp, ho]
    exact this
  · rename_i x i st' p' q
    cases q
    obtain ⟨sx, hx, h⟩ := withO_some h
    obtain ⟨r, hK, hr⟩ := qExt_sound (V := V) (P := P) (w := w) h
    refine ⟨r, hK, fun hc => ?_⟩
    have := exec_v hr
    rw [← rdO_sound hS hp hc hx] at this
    simp only [execOp, ho]
    exact this
  · rename_i t parts st' p' q
    cases q
    obtain ⟨hb, h⟩ := h
    obtain ⟨z, hz, h⟩ := withO_some h
    obtain ⟨cs, hcs, hK⟩ := withO_some h
    refine ⟨_, hK, fun hc => ?_⟩
    simp only [execOp, ho]
    exact exec_v (build_sound hS hp hc hb hz hcs)
  · rename_i x t st' p' q
    cases q
    obtain ⟨sx, hx, h⟩ := withO_some h
    obtain ⟨r, hK, hr⟩ := qLen_sound (ty := o.type) hS h
    refine ⟨r, hK, fun hc => ?_⟩
    rw [← rdO_sound hS hp hc hx] at hr
    simp only [execOp, ho, resolve, Sem.run_bind, Sem.run_pure, Result.andThen_ok, invoke, builtin]
    simp only [List.map_toArray, List.map_cons, List.map_nil, hr, Result.andThen_ok]
  · rename_i x y ts st' p' q
    cases q
    obtain ⟨sx, hx, h⟩ := withO_some h
    obtain ⟨sy, hy, h⟩ := withO_some h
    obtain ⟨r, hK, hr⟩ := qMin_sound (V := V) (P := P) (w := w) (ts := ts) (ty := o.type) h
    refine ⟨r, hK, fun hc => ?_⟩
    rw [← rdO_sound hS hp hc hx, ← rdO_sound hS hp hc hy] at hr
    simp only [execOp, ho, resolve, Sem.run_bind, Sem.run_pure, Result.andThen_ok, invoke, builtin]
    simp only [List.map_toArray, List.map_cons, List.map_nil, hr, Result.andThen_ok]
  · rename_i t x i st' p' q
    cases q
    obtain ⟨sx, hx, h⟩ := withO_some h
    obtain ⟨si, hi, h⟩ := withO_some h
    obtain ⟨r, hK, hr⟩ := qLkp_sound hS h
    refine ⟨r, hK, fun hc => ?_⟩
    have := exec_v hr
    rw [← rdO_sound hS hp hc hx, ← rdO_sound hS hp hc hi] at this
    simp only [execOp, ho]
    exact this
  · rename_i x y ts st' p' q
    cases q
    obtain ⟨sx, hx, h⟩ := withO_some h
    obtain ⟨sy, hy, h⟩ := withO_some h
    obtain ⟨r, hK, hr⟩ := qMax_sound (V := V) (P := P) (w := w) (ts := ts) (ty := o.type) h
    refine ⟨r, hK, fun hc => ?_⟩
    rw [← rdO_sound hS hp hc hx, ← rdO_sound hS hp hc hy] at hr
    simp only [execOp, ho, resolve, Sem.run_bind, Sem.run_pure, Result.andThen_ok, invoke, builtin]
    simp only [List.map_toArray, List.map_cons, List.map_nil, hr, Result.andThen_ok]
  · rename_i x y z u ts st' p' q
    cases q
    obtain ⟨sx, hx, h⟩ := withO_some h
    obtain ⟨sy, hy, h⟩ := withO_some h
    obtain ⟨sz, hz, h⟩ := withO_some h
    obtain ⟨su, hu, h⟩ := withO_some h
    obtain ⟨r, hK, hr⟩ := qMax4_sound (V := V) (P := P) (w := w) (ts := ts) (ty := o.type) h
    refine ⟨r, hK, fun hc => ?_⟩
    rw [← rdO_sound hS hp hc hx, ← rdO_sound hS hp hc hy, ← rdO_sound hS hp hc hz, ← rdO_sound hS hp hc hu] at hr
    simp only [execOp, ho, resolve, Sem.run_bind, Sem.run_pure, Result.andThen_ok, invoke, builtin]
    simp only [List.map_toArray, List.map_cons, List.map_nil, hr, Result.andThen_ok]
  · cases h
end
end Go.Proofs.YtalalcpefggniaaGreatDoor.E

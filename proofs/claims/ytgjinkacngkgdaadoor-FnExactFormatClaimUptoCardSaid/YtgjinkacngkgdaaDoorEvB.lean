/- The evaluator, first part: plain values, the state of a function that runs, and what the single operations make of it. -/
import Derived.Test.YtgjinkacngkgdaaDoorEvA
namespace Go.Ev
set_option linter.unusedVariables false

/-- one thing behind another, if it comes to an end -/
def bnd {α β : Type} (x : Option α) (k : α → Option β) : Option β := x.bind k
theorem bnd_some {α β : Type} (a : α) (k : α → Option β) : bnd (some a) k = k a := rfl
theorem bnd_none {α β : Type} (k : α → Option β) : bnd none k = none := rfl
theorem bnd_congr {α β : Type} {x y : Option α} {k : α → Option β} (h : x = y) : bnd x k = bnd y k := by rw [h]
theorem bnd_eq {α β : Type} {x : Option α} {k : α → Option β} {b : β} (h : bnd x k = some b) : ∃ a, x = some a ∧ k a = some b := by
  cases x with
  | none => cases h
  | some a => exact ⟨a, rfl, h⟩

/-- a choice -/
def ifB {α : Type} (b : Bool) (x y : α) : α := match b with
  | true => x
  | false => y
theorem ifB_true {α : Type} (x y : α) : ifB true x y = x := rfl
theorem ifB_false {α : Type} (x y : α) : ifB false x y = y := rfl
theorem ifB_congr {α : Type} {b c : Bool} {x y : α} (h : b = c) : ifB b x y = ifB c x y := by rw [h]
theorem ifB_ctx {α : Type} {b c : Bool} {x x' y y' : α} (h : b = c) (h1 : c = true → x = x') (h2 : c = false → y = y') : ifB b x y = ifB c x' y' := by
  subst h
  cases b with
  | true => exact h1 rfl
  | false => exact h2 rfl
theorem ifB_some {α : Type} {b : Bool} {x : Option α} {a : α} (h : ifB b x none = some a) : b = true ∧ x = some a := by
  cases b with
  | true => exact ⟨rfl, h⟩
  | false => cases h

/-- where p holds, so does q -/
def impB (p q : Bool) : Bool := !p || q
theorem impB_self (p : Bool) : impB p p = true := by cases p <;> rfl
theorem impB_true (p : Bool) : impB p true = true := by cases p <;> rfl
theorem impB_false (p : Bool) : impB false p = true := rfl
theorem impB_and (p q r : Bool) : impB p (q && r) = (impB p q && impB p r) := by cases p <;> rfl
theorem impB_left (p q : Bool) : impB (p && q) p = true := by cases p <;> cases q <;> rfl
theorem impB_right (p q : Bool) : impB (p && q) q = true := by cases p <;> cases q <;> rfl
theorem impB_elim {p q : Bool} (h : impB p q = true) (hp : p = true) : q = true := by subst hp; simpa [impB] using h

structure Val where
  k : Kd
  x : k.T

inductive Cell where
  | dead
  | val (tv : Bool) (k : Kd) (x : k.T)
  | xsl (tv : Bool) (e : Kd) (l : List e.T)
  | dptr (tv : Bool) (k : Kd) (x : k.T)
  | hdr (k : Kd) (L off len : Nat)
  | bref (B off : Nat)
  | eref (k : Kd) (L i fo : Nat)
  | clo (f : FuncId) (caps : List Nat)

inductive SV where
  | bad
  | one (c : Cell)
  | agg (cs : List Cell)
  | tup (vs : List (Bool × List Cell))
  | gd (b : Bool) (c : Cell)

structure SObj where
  k : Kd
  l : List k.T

structure St where
  n : Nat
  t : List (Nat × SV)
  s : List (Nat × SObj)
  b : List (Nat × (Bool × List Cell))

def aget {α : Type} : List (Nat × α) → Nat → Option α
  | [], _ => none
  | p :: l, i => ifB (p.1 == i) (some p.2) (aget l i)

def aset {α : Type} : List (Nat × α) → Nat → α → List (Nat × α)
  | [], i, x => [(i, x)]
  | p :: l, i, x => ifB (decide (i < p.1)) ((i, x) :: p :: l) (ifB (p.1 == i) ((i, x) :: l) (p :: aset l i x))

def adel {α : Type} : List (Nat × α) → Nat → List (Nat × α)
  | [], _ => []
  | p :: l, i => ifB (p.1 == i) (adel l i) (p :: adel l i)

def amap {α : Type} (f : α → α) : List (Nat × α) → List (Nat × α)
  | [] => []
  | p :: l => (p.1, f p.2) :: amap f l

def akeep {α : Type} (q : Nat → Bool) : List (Nat × α) → List (Nat × α)
  | [] => []
  | p :: l => ifB (q p.1) (p :: akeep q l) (akeep q l)

def nth {α : Type} : List α → Nat → Option α
  | [], _ => none
  | x :: _, 0 => some x
  | _ :: l, n + 1 => nth l n

/-- what the evaluator knows of a type -/
structure TyE where
  form : Nat := 0
  size : Nat := 1
  agg : Bool := false
  hint : Kd := .self
  zero : List Cell := []
  ek : Kd := .unit
  en : Nat := 0
  eb : Nat := 0
  n : Nat := 0
  flds : List (Nat × Nat × Bool) := []
  ok : Bool := false
  zok : Bool := false

/-- modes of parameters -/
inductive PMode where
  | ro | mut | mov
  deriving DecidableEq

inductive RMode where
  | own | deep | tv
  deriving DecidableEq

structure Res where
  vals : List (Val × RMode)
  upd : List (Option Val)

structure Env where
  P : Program
  md : List (FuncId × List PMode)

/-- some value of each kind -/
def dft : (k : Kd) → k.T
  | .int _ => (0 : Int)
  | .bool => false
  | .str => ([] : List UInt8)
  | .unit => ()
  | .pair a b => (dft a, dft b)
  | .sl e => ([] : List e.T)
  | .nl => ()
  | .ptr e => dft e
  | .clo _ c => dft c
  | .self => ()

def getK (k : Kd) (l : List k.T) (i : Nat) : k.T := (l[i]?).getD (dft k)
theorem getK_some {k : Kd} {l : List k.T} {i : Nat} (h : i < l.length) : l[i]? = some (getK k l i) := by simp [getK, h]
theorem getK_int {k : IntKind} (l : List Int) (i : Nat) : getK (.int k) l i = l[i]! := by rw [List.getElem!_eq_getElem?_getD]; rfl
theorem getK_bool (l : List Bool) (i : Nat) : getK .bool l i = l[i]! := by rw [List.getElem!_eq_getElem?_getD]; rfl
theorem getK_str (l : List (List UInt8)) (i : Nat) : getK .str l i = l[i]! := by rw [List.getElem!_eq_getElem?_getD]; rfl
theorem getK_sl {e : Kd} (l : List (List e.T)) (i : Nat) : getK (.sl e) l i = l[i]! := by rw [List.getElem!_eq_getElem?_getD]; rfl

def castV {a b : Kd} (h : a = b) (x : a.T) : b.T := h ▸ x
def castL {a b : Kd} (h : a = b) (l : List a.T) : List b.T := h ▸ l
theorem castL_rfl {a : Kd} (h : a = a) (l : List a.T) : castL h l = l := rfl
theorem castV_rfl {a : Kd} (h : a = a) (x : a.T) : castV h x = x := rfl

/-- a list of elements of one kind as one of another, if they are the same -/
def asL (a b : Kd) (l : List a.T) : Option (List b.T) := if h : a = b then some (castL h l) else none
theorem asL_same (a : Kd) (l : List a.T) : asL a a l = some l := by simp [asL, castL]
def asV (a b : Kd) (x : a.T) : Option b.T := if h : a = b then some (castV h x) else none
theorem asV_same (a : Kd) (x : a.T) : asV a a x = some x := by simp [asV, castV]

def Kd.isAgg : Kd → Bool
  | .pair _ _ => true
  | .unit => true
  | _ => false

def explode (tv : Bool) : (k : Kd) → k.T → List Cell
  | .unit, _ => []
  | .pair a b, x => explode tv a x.1 ++ explode tv b x.2
  | .int k, x => [.val tv (.int k) x]
  | .bool, x => [.val tv .bool x]
  | .str, x => [.val tv .str x]
  | .sl e, x => [.val tv (.sl e) x]
  | .nl, x => [.val tv .nl x]
  | .ptr e, x => [.val tv (.ptr e) x]
  | .clo f c, x => [.val tv (.clo f c) x]
  | .self, x => [.dead]

def mkSV (ag : Bool) : List Cell → SV
  | [c] => ifB ag (.agg [c]) (.one c)
  | cs => ifB ag (.agg cs) .bad

/-- numbers, bools and strings hang on no memory -/
def untv : Cell → Cell
  | .val _ (.int k) x => .val false (.int k) x
  | .val _ .bool x => .val false .bool x
  | .val _ .str x => .val false .str x
  | c => c

def svOf (tv : Bool) (v : Val) : SV := mkSV v.k.isAgg ((explode tv v.k v.x).map untv)

def SV.cells : SV → List Cell
  | .one c => [c]
  | .agg cs => cs
  | _ => []

def mapTup (f : Cell → Cell) : List (Bool × List Cell) → List (Bool × List Cell)
  | [] => []
  | p :: l => (p.1, p.2.map f) :: mapTup f l

def SV.mapC (f : Cell → Cell) : SV → SV
  | .bad => .bad
  | .one c => .one (f c)
  | .agg cs => .agg (cs.map f)
  | .tup vs => .tup (mapTup f vs)
  | .gd b c => .gd b (f c)

def mapBox (f : Cell → Cell) (x : Bool × List Cell) : Bool × List Cell := (x.1, x.2.map f)

def St.mapC (f : Cell → Cell) (st : St) : St := ⟨st.n, amap (SV.mapC f) st.t, st.s, amap (mapBox f) st.b⟩

def Cell.labels : Cell → List Nat
  | .hdr _ L _ _ => [L]
  | .eref _ L _ _ => [L]
  | _ => []

def killL (L : Nat) : Cell → Cell
  | .hdr k l off len => ifB (l == L) .dead (.hdr k l off len)
  | .eref k l i fo => ifB (l == L) .dead (.eref k l i fo)
  | c => c

def killBC (B : Nat) : Cell → Cell
  | .bref b o => ifB (b == B) .dead (.bref b o)
  | .clo f caps => ifB (caps.contains B) .dead (.clo f caps)
  | c => c

/-- the labels from here on are those of parameters that the callee may write -/
def PL : Nat := 100000000

def renL (L L' : Nat) : Cell → Cell
  | .hdr k l off len => .hdr k (ifB (l == L) L' l) off len
  | .eref k l i fo => .eref k (ifB (l == L) L' l) i fo
  | c => c

def St.setS (st : St) (s : List (Nat × SObj)) : St := ⟨st.n, st.t, s, st.b⟩
def St.setB (st : St) (b : List (Nat × (Bool × List Cell))) : St := ⟨st.n, st.t, st.s, b⟩

/-- the object L is given up -/
def St.kill (L : Nat) (st : St) : St := (st.mapC (killL L)).setS (adel st.s L)

/-- the box B is given up -/
def St.killB (B : Nat) (st : St) : St := (st.mapC (killBC B)).setB (adel (st.mapC (killBC B)).b B)

def relab (L L' : Nat) (st : St) : Option SObj → St
  | none => st
  | some o => ((st.kill L').mapC (renL L L')).setS (aset (adel (adel st.s L) L') L' o)

/-- the object L gets the label L' (what bore it is given up) -/
def St.relabel (L L' : Nat) (st : St) : St := ifB (L == L' || decide (PL ≤ L) || decide (PL ≤ L')) st (relab L L' st (aget st.s L))

def seg {α : Type} (l : List α) (off len : Nat) : List α := (l.drop off).take len

def frzH (k : Kd) (off len : Nat) : Option (List k.T) → Cell
  | some l => .val false (.sl k) (seg l off len)
  | none => .dead

def frzC (L : Nat) (o : SObj) : Cell → Cell
  | .hdr k l off len => ifB (l == L) (frzH k off len (asL o.k k o.l)) (.hdr k l off len)
  | .eref k l i fo => ifB (l == L) .dead (.eref k l i fo)
  | c => c

def frz (L : Nat) (st : St) : Option SObj → St
  | none => st
  | some o => (st.mapC (frzC L o)).setS (adel st.s L)

/-- nobody writes the object L any more -/
def St.freeze (L : Nat) (st : St) : St := ifB (decide (PL ≤ L)) (st.kill L) (frz L st (aget st.s L))

def St.setT (st : St) (v : SV) : Option Nat → Option St
  | some d => ifB (decide (d < st.n)) (some ⟨st.n, aset st.t d v, st.s, st.b⟩) none
  | none => some st

def relabC (L : Nat) (st : St) : Cell → St
  | .hdr _ l _ _ => st.relabel l L
  | _ => st

def relabels (base : Nat) : List Cell → St → St
  | [], st => st
  | c :: cs, st => relabels (base + 1) cs (relabC base st c)

/-- an assignment to a slot: its objects get labels of the slot's own -/
def St.assign (st : St) (v : SV) : Option Nat → Option St
  | some d => ifB (decide (d < st.n)) (some (relabels (d * 1000) v.cells ⟨st.n, aset st.t d v, st.s, st.b⟩)) none
  | none => some st

/-! constants -/
def cellOf : Value → Cell
  | .int k n => .val false (.int k) n
  | .bool b => .val false .bool b
  | .string s => .val false .str s.data.toList
  | .slice none 0 0 => .val false .nl ()
  | _ => .dead

/-- a value of one cell? -/
def plainV : Value → Bool
  | .agg _ => false
  | .tuple _ => false
  | _ => true

def allPlain : List Value → Bool
  | [] => true
  | v :: r => ifB (plainV v) (allPlain r) false

def compOf : Value → Bool × List Cell
  | .agg cs => (true, cs.toList.map cellOf)
  | v => (false, [cellOf v])

def okComp : Value → Bool
  | .agg cs => allPlain cs.toList
  | .tuple _ => false
  | _ => true

def okComps : List Value → Bool
  | [] => true
  | v :: r => ifB (okComp v) (okComps r) false

def constSV : Value → SV
  | .agg cs => ifB (allPlain cs.toList) (.agg (cs.toList.map cellOf)) .bad
  | .tuple vs => ifB (okComps vs.toList) (.tup (vs.toList.map compOf)) .bad
  | v => .one (cellOf v)

/-! types -/
def prodK : List Kd → Kd
  | [] => .unit
  | k :: r => .pair k (prodK r)

def kOf (ag : Bool) (ks : List Kd) : Kd := ifB ag (prodK ks) (ks.headD .self)

def aggT (P : Program) (t : TypeId) : Bool := match P.underlying t with
  | some (.struct _) => true
  | some (.array _ _) => true
  | _ => false

def kinds (P : Program) : Nat → TypeId → List Kd
  | 0, _ => []
  | n + 1, t => match P.underlying t with
    | some (.int k) => [.int k]
    | some .bool => [.bool]
    | some .string => [.str]
    | some (.slice e) => [.sl (kOf (aggT P e) (kinds P n e))]
    | some (.struct fs) => fs.toList.flatMap fun f => kinds P n f.type
    | some (.array m e) => (List.replicate m (kinds P n e)).flatten
    | some _ => [.self]
    | none => []

def kindT (P : Program) (t : TypeId) : Kd := kOf (aggT P t) (kinds P 6 t)

/-- the cells of a kind's zero value -/
def zeroVals : Kd → Option (List Value)
  | .int k => some [.int k 0]
  | .bool => some [.bool false]
  | .str => some [.string ⟨#[]⟩]
  | .unit => some []
  | .pair a b => bnd (zeroVals a) fun x => bnd (zeroVals b) fun y => some (x ++ y)
  | .sl _ => some [.slice none 0 0]
  | _ => none

def vEq : Value → Value → Bool
  | .int k n, .int k' n' => k == k' && n == n'
  | .bool a, .bool b => a == b
  | .string a, .string b => a.data.size == 0 && b.data.size == 0
  | .slice none a b, .slice none c d => a == c && b == d
  | _, _ => false

def vsEq : List Value → List Value → Bool
  | [], [] => true
  | a :: r, b :: r' => vEq a b && vsEq r r'
  | _, _ => false

def zOk (k : Kd) (z : Option Value) : Bool :=
  match zeroVals k, z with
  | some l, some v => vsEq l v.cells.toList
  | _, _ => false

def zeroOk (i : TypeInfo) : Bool := match i.zero with
  | some v => okComp v && v.cells.size == i.size
  | none => false

def zeroC (i : TypeInfo) : List Cell := match i.zero with
  | some v => v.cells.toList.map cellOf
  | none => []

def baseT (P : Program) (t : TypeId) (i : TypeInfo) : TyE := { ok := true, zok := zeroOk i, size := i.size, agg := aggT P t, hint := kindT P t, zero := zeroC i }

def sliceT (P : Program) (base : TyE) (e : TypeId) : Option TypeInfo → TyE
  | some ie => if ((kindT P e).size == ie.size && decide (0 < ie.size) && zOk (kindT P e) ie.zero) = true then { base with form := 1, ek := kindT P e, en := ie.size, eb := ie.bytes } else base
  | none => base

def arrayT (base : TyE) (n m : Nat) : Option TypeInfo → TyE
  | some ie => if (decide (0 < ie.size) && decide (2 ≤ n)) = true then { base with form := 2, n := n, en := ie.size, eb := m } else base
  | none => base

def fieldOk (P : Program) (f : Field) : Bool := match P.info? f.type with
  | some fi => decide (0 < fi.size) && (P.underlying f.type).isSome
  | none => false

def fieldE (P : Program) (f : Field) : Nat × Nat × Bool := (f.offset, ((P.info? f.type).map (·.size)).getD 0, aggT P f.type)

def structT (P : Program) (base : TyE) (fs : List Field) : TyE := if (fs.all (fieldOk P)) = true then { base with form := 3, flds := fs.map (fieldE P) } else base

def formT (P : Program) (base : TyE) : TypeDesc → TyE
  | .slice e => sliceT P base e (P.info? e)
  | .array n e => arrayT base n (ifB (aggT P e || (P.underlying e).isNone) 1 0) (P.info? e)
  | .struct fs => structT P base fs.toList
  | .string => { base with form := 4 }
  | .int _ => { base with form := 5 }
  | .bool => { base with form := 6 }
  | _ => base

def tyOf2 (P : Program) (t : TypeId) : Option TypeInfo → Option TypeDesc → TyE
  | some i, some d => formT P (baseT P t i) d
  | _, _ => {}

def tyOf (P : Program) (t : TypeId) : TyE := tyOf2 P t (P.info? t) (P.underlying t)

def Env.ty (env : Env) (t : TypeId) : TyE := tyOf env.P t

def orBad : Option SV → SV
  | some v => v
  | none => .bad

def St.ev (st : St) : Operand → SV
  | .tmp t => orBad (aget st.t t)
  | .const v => constSV v
  | .global _ => .one .dead
  | .func f => .one (.clo f [])

/-! numbers -/
def bitsV (op : BinOp) (k : IntKind) (x y : Int) : Int :=
  match op with
  | .and => k.wrap (BitVec.ofInt k.bits x &&& BitVec.ofInt k.bits y).toNat
  | .or => k.wrap (BitVec.ofInt k.bits x ||| BitVec.ofInt k.bits y).toNat
  | .xor => k.wrap (BitVec.ofInt k.bits x ^^^ BitVec.ofInt k.bits y).toNat
  | _ => k.wrap (BitVec.ofInt k.bits x &&& ~~~(BitVec.ofInt k.bits y)).toNat

def shlV (k : IntKind) (x y : Int) : Int := k.wrap (x * 2 ^ (min y.toNat k.bits))
def shrV (k : IntKind) (x y : Int) : Int := x.fdiv (2 ^ (min y.toNat k.bits))

def tI (k : IntKind) (n : Int) : Option SV := some (.one (.val false (.int k) n))
def tB (b : Bool) : Option SV := some (.one (.val false .bool b))

def intOp (k : IntKind) (a b : Int) : BinOp → Option SV
  | .add => tI k (k.wrap (a + b))
  | .sub => tI k (k.wrap (a - b))
  | .mul => tI k (k.wrap (a * b))
  | .quo => ifB (b == 0) none (tI k (k.wrap (a.tdiv b)))
  | .rem => ifB (b == 0) none (tI k (a.tmod b))
  | .and => tI k (bitsV .and k a b)
  | .or => tI k (bitsV .or k a b)
  | .xor => tI k (bitsV .xor k a b)
  | .andNot => tI k (bitsV .andNot k a b)
  | .eql => tB (a == b)
  | .neq => tB (a != b)
  | .lss => tB (decide (a < b))
  | .leq => tB (decide (a ≤ b))
  | .gtr => tB (decide (b < a))
  | .geq => tB (decide (b ≤ a))
  | .shl => ifB (decide (b < 0)) none (tI k (shlV k a b))
  | .shr => ifB (decide (b < 0)) none (tI k (shrV k a b))

def strOp (a b : List UInt8) : BinOp → Option SV
  | .add => ifB (decide (a.length + b.length ≤ 9223372036854775807)) (some (.one (.val false .str (a ++ b)))) none
  | .eql => tB (a == b)
  | .neq => tB (!(a == b))
  | _ => none

def eqOp (r : Option Bool) : BinOp → Option SV
  | .eql => bnd r tB
  | .neq => bnd r fun b => tB (!b)
  | _ => none

def listNil {α : Type} : List α → Option Bool
  | [] => none
  | _ :: _ => some false

/-- is a slice nil? -/
def isNil : Cell → Option Bool
  | .val _ .nl _ => some true
  | .val _ (.sl e) l => listNil (α := e.T) l
  | .hdr _ _ _ len => ifB (len == 0) none (some false)
  | _ => none

def andO (b : Bool) (r : Option Bool) : Option Bool := bnd r fun z => some (b && z)

def eqCells : List Cell → List Cell → Option Bool
  | [], [] => some true
  | .val _ (.int k) a :: r, .val _ (.int k') b :: r' => ifB (decide (k = k')) (andO ((a : Int) == b) (eqCells r r')) none
  | .val _ .bool a :: r, .val _ .bool b :: r' => andO ((a : Bool) == b) (eqCells r r')
  | .val _ .str a :: r, .val _ .str b :: r' => andO ((a : List UInt8) == b) (eqCells r r')
  | _, _ => none

def evBin (ty : TyE) (op : BinOp) : SV → SV → Option SV
  | .one (.val _ (.int k) a), .one (.val _ (.int k') b) => ifB (decide (k = k') || decide (op = .shl) || decide (op = .shr)) (intOp k a b op) none
  | .one (.val _ .str a), .one (.val _ .str b) => strOp a b op
  | .one (.val _ .bool a), .one (.val _ .bool b) => ifB (ty.form == 6) (eqOp (some ((a : Bool) == b)) op) none
  | .one c, .one (.val _ .nl _) => ifB (ty.form == 1) (eqOp (isNil c) op) none
  | _, _ => none

def evUn : UnOp → SV → Option SV
  | .not, .one (.val _ .bool b) => tB (!b)
  | .neg, .one (.val _ (.int k) n) => tI k (k.wrap (0 - n))
  | .xor, .one (.val _ (.int k) n) => tI k (bitsV .xor k (ifB k.signed (-1) k.max) n)
  | _, _ => none

/-! sealing: what a callee, or an element, sees of a value -/
def toSl (e : Kd) : Val → Option (List e.T)
  | ⟨.nl, _⟩ => some []
  | ⟨.sl e', l⟩ => asL e' e l
  | _ => none

def asK : (k : Kd) → Val → Option k.T
  | .sl e, v => toSl e v
  | .int i, v => asV v.k (.int i) v.x
  | .bool, v => asV v.k .bool v.x
  | .str, v => asV v.k .str v.x
  | .pair a b, v => asV v.k (.pair a b) v.x
  | .unit, v => asV v.k .unit v.x
  | _, _ => none

/-- the nil slice as a slice of the wanted kind -/
def coe1 : Kd → Val → Val
  | .sl e, ⟨.nl, _⟩ => ⟨.sl e, []⟩
  | _, v => v

def pairV (v w : Val) : Val := ⟨.pair v.k w.k, (v.x, w.x)⟩

def coeP : Kd → Val → Val
  | .pair a b, ⟨.pair c d, x⟩ => pairV (coe1 a ⟨c, x.1⟩) (coeP b ⟨d, x.2⟩)
  | _, v => v

def sealH (k : Kd) (off len : Nat) : Option SObj → Option Val
  | some o => bnd (asL o.k k o.l) fun l => some ⟨.sl k, seg l off len⟩
  | none => none

def cloV (f : FuncId) (v : Val) : Val := ⟨.clo f v.k, v.x⟩

def ptrV (v : Val) : Val := ⟨.ptr v.k, v.x⟩

/-- is the box just the closure itself? -/
def selfBox (f : FuncId) (caps : List Nat) : Bool × List Cell → Bool
  | (false, [.clo g caps']) => g == f && caps' == caps
  | _ => false

mutual
def sealC (st : St) : Nat → Cell → Option Val
  | _, .val _ k x => some ⟨k, x⟩
  | _, .xsl _ e l => some ⟨.sl e, l⟩
  | _, .hdr k L off len => sealH k off len (aget st.s L)
  | n + 1, .clo f caps => bnd (sealCaps st n f caps caps) fun v => some (cloV f v)
  | n + 1, .bref B o => ifB (o == 0) (bnd (aget st.b B) fun x => bnd (sealBox st n x) fun v => some (ptrV v)) none
  | _, _ => none
def sealCaps (st : St) : Nat → FuncId → List Nat → List Nat → Option Val
  | _, _, _, [] => some ⟨.unit, ()⟩
  | n + 1, f, all, B :: r =>
    bnd (aget st.b B) fun x =>
      bnd (ifB (selfBox f all x) (some ⟨.self, ()⟩) (sealBox st n x)) fun v =>
        bnd (sealCaps st n f all r) fun w => some (pairV v w)
  | _, _, _, _ => none
def sealBox (st : St) : Nat → Bool × List Cell → Option Val
  | n + 1, (true, cs) => sealCs st n cs
  | n + 1, (false, [c]) => sealC st n c
  | _, _ => none
def sealCs (st : St) : Nat → List Cell → Option Val
  | _, [] => some ⟨.unit, ()⟩
  | n + 1, c :: cs => bnd (sealC st n c) fun v => bnd (sealCs st n cs) fun w => some (pairV v w)
  | _, _ => none
end

def fuelS : Nat := 60

def sealSV (st : St) (hint : Kd) : SV → Option Val
  | .one c => bnd (sealC st fuelS c) fun v => some (coe1 hint v)
  | .agg cs => bnd (sealCs st fuelS cs) fun v => some (coeP hint v)
  | _ => none

/-- values without a pointer -/
def Kd.flat : Kd → Bool
  | .int _ => true
  | .bool => true
  | .str => true
  | .unit => true
  | .nl => true
  | .pair a b => a.flat && b.flat
  | _ => false

/-- what may be stored where nobody writes any more -/
def sealDC (st : St) : Cell → Option Val
  | .val tv k x => ifB (!tv || k.flat) (some ⟨k, x⟩) none
  | .xsl tv e l => ifB (!tv) (some ⟨.sl e, l⟩) none
  | .hdr k L off len => ifB (decide (L < PL)) (sealH k off len (aget st.s L)) none
  | _ => none

/-- what a function hands back -/
def sealRC (st : St) : Cell → Option Val
  | .val tv k x => some ⟨k, x⟩
  | .xsl tv e l => some ⟨.sl e, l⟩
  | .hdr k L off len => ifB (decide (L < PL)) (sealH k off len (aget st.s L)) none
  | _ => none

/-- what a callee may write -/
def sealOC (st : St) : Cell → Option Val
  | .val tv k x => some ⟨k, x⟩
  | .hdr k L off len => sealH k off len (aget st.s L)
  | _ => none

def sealW (f : Cell → Option Val) : List Cell → Option Val
  | [] => some ⟨.unit, ()⟩
  | c :: cs => bnd (f c) fun v => bnd (sealW f cs) fun w => some (pairV v w)

def sealX (f : Cell → Option Val) (hint : Kd) : SV → Option Val
  | .one c => bnd (f c) fun v => some (coe1 hint v)
  | .agg cs => bnd (sealW f cs) fun v => some (coeP hint v)
  | _ => none

def labelsOf : List Cell → List Nat
  | [] => []
  | c :: cs => c.labels ++ labelsOf cs

def freezes : List Nat → St → St
  | [], st => st
  | L :: r, st => freezes r (st.freeze L)

/-! memory -/
def oneAt : List Cell → Nat → Option SV
  | [], _ => none
  | c :: _, 0 => some (.one c)
  | _ :: cs, n + 1 => oneAt cs n

def ofCells (ag : Bool) (n off : Nat) (cs : List Cell) : Option SV :=
  ifB ag (ifB (decide ((off + n) ≤ cs.length)) (some (.agg (seg cs off n))) none) (oneAt cs off)

def loadE (ty : TyE) (k : Kd) (i fo : Nat) : Option SObj → Option SV
  | some o => bnd (asL o.k k o.l) fun l => bnd l[i]? fun x => ofCells ty.agg ty.size fo (explode false k x)
  | none => none

def evLoad1 (ty : TyE) (st : St) : SV → Option SV
  | .one (.bref B off) => bnd (aget st.b B) fun b => ofCells ty.agg ty.size off b.2
  | .one (.eref k L i fo) => loadE ty k i fo (aget st.s L)
  | .one (.val tv (.ptr k) x) => ofCells ty.agg ty.size 0 (explode tv k x)
  | .one (.dptr _ k x) => ofCells ty.agg ty.size 0 (explode false k x)
  | _ => none

def evLoad (ty : TyE) (st : St) (v : SV) : Option SV := ifB ty.ok (evLoad1 ty st v) none

/-- the rest of a row of cells -/
def dropK : (n : Nat) → (k : Kd) → k.T → Option Val
  | 0, k, x => some ⟨k, x⟩
  | n + 1, .pair a b, x => ifB (a.size == 1) (dropK n b x.2) none
  | _, _, _ => none

def setCells (cs : List Cell) (off : Nat) : List Cell → List Cell
  | [] => cs
  | c :: r => setCells (cs.set off c) (off + 1) r

/-- cell number fo of a value gets another content -/
def putK : (fo : Nat) → (k : Kd) → k.T → Val → Option k.T
  | 0, .pair a b, x, v => bnd (asK a v) fun y => some (y, x.2)
  | n + 1, .pair a b, x, v => ifB (a.size == 1) (bnd (putK n b x.2 v) fun z => some (x.1, z)) none
  | 0, .int k, _, v => asK (.int k) v
  | 0, .bool, _, v => asK .bool v
  | 0, .str, _, v => asK .str v
  | 0, .sl e, _, v => asK (.sl e) v
  | _, _, _, _ => none

/-- the new content of an element -/
def putE (ag : Bool) (k : Kd) (fo : Nat) (x : k.T) (w : Val) : Option k.T := ifB ag (ifB (fo == 0) (asK k w) none) (putK fo k x w)

def setObj (L : Nat) (o : SObj) (st : St) : St := st.setS (aset st.s L o)

def storeE (ty : TyE) (st : St) (k : Kd) (L i fo : Nat) (v : SV) : Option SObj → Option St
  | some o => bnd (sealX (sealDC st) ty.hint v) fun w => bnd (asL o.k k o.l) fun l => bnd l[i]? fun x => bnd (putE ty.agg k fo x w) fun y =>
      some (setObj L ⟨k, l.set i y⟩ (freezes (labelsOf v.cells) st))
  | none => none

def evStore (ty : TyE) (st : St) : SV → SV → Option St
  | .one (.bref B off), v => bnd (aget st.b B) fun x =>
      ifB (ty.ok && v.cells.length == ty.size && decide (0 < ty.size) && decide ((off + ty.size) ≤ x.2.length))
        (some (relabels (B * 1000 + 500 + off) v.cells (st.setB (aset st.b B (x.1, setCells x.2 off v.cells))))) none
  | .one (.eref k L i fo), v => ifB (!ty.ok || !(v.cells.length == ty.size) || (labelsOf v.cells).contains L) none (storeE ty st k L i fo v (aget st.s L))
  | _, _ => none

def zeroK : (k : Kd) → Option k.T
  | .int _ => some (0 : Int)
  | .bool => some false
  | .str => some ([] : List UInt8)
  | .unit => some ()
  | .pair a b => bnd (zeroK a) fun x => bnd (zeroK b) fun y => some (x, y)
  | .sl e => some ([] : List e.T)
  | _ => none

/-- an index into a row -/
def inIx (i : Int) (n : Nat) : Option Nat := ifB (decide (0 ≤ i) && decide (i < (n : Int))) (some i.toNat) none

def elemP (tv : Bool) (e : Kd) (l : List e.T) (i : Int) : Option SV :=
  bnd (inIx i l.length) fun j => bnd l[j]? fun x => some (.one (.dptr tv e x))

def evIndexAddr (ty : TyE) : SV → SV → Option SV
  | .one (.hdr k L off len), .one (.val _ (.int ik) i) => ifB (ty.form == 1 && decide (ty.ek = k)) (bnd (inIx i len) fun j => some (.one (.eref k L (off + j) 0))) none
  | .one (.val tv (.sl e) l), .one (.val _ (.int ik) i) => ifB (ty.form == 1 && decide (ty.ek = e)) (elemP tv e l i) none
  | .one (.xsl tv e l), .one (.val _ (.int ik) i) => ifB (ty.form == 1 && decide (ty.ek = e)) (elemP tv e l i) none
  | .one (.bref B off), .one (.val _ (.int ik) i) => ifB (ty.form == 2) (bnd (inIx i ty.n) fun j => some (.one (.bref B (off + j * ty.en)))) none
  | _, _ => none

def evIndex (ty : TyE) : SV → SV → Option SV
  | .agg cs, .one (.val _ (.int ik) i) => ifB (ty.form == 2 && ty.en == 1 && ty.eb == 0 && cs.length == ty.n) (bnd (inIx i ty.n) fun j => oneAt cs j) none
  | .one (.val _ .str s), .one (.val _ (.int ik) i) => ifB (ty.form == 4) (bnd (inIx i (List.length s)) fun j => bnd (s : List UInt8)[j]? fun b => tI .u8 (b.toNat : Int)) none
  | _, _ => none

def fldAt (ty : TyE) (f : Nat) : Option (Nat × Nat × Bool) := ifB (ty.form == 3) (nth ty.flds f) none

def evFieldAddr (ty : TyE) (f : Nat) : SV → Option SV
  | .one (.bref B off) => bnd (fldAt ty f) fun q => some (.one (.bref B (off + q.1)))
  | .one (.eref k L i fo) => bnd (fldAt ty f) fun q => some (.one (.eref k L i (fo + q.1)))
  | .one (.val tv (.ptr k) x) => bnd (fldAt ty f) fun q => bnd (dropK q.1 k x) fun v => some (.one (.val tv (.ptr v.k) v.x))
  | .one (.dptr tv k x) => bnd (fldAt ty f) fun q => bnd (dropK q.1 k x) fun v => some (.one (.dptr tv v.k v.x))
  | _ => none

def evField (ty : TyE) (f : Nat) : SV → Option SV
  | .agg cs => bnd (fldAt ty f) fun q => ofCells q.2.2 q.2.1 q.1 cs
  | _ => none

/-- bounds of a slice expression -/
def numOr (d : Int) : Option SV → Option Int
  | none => some d
  | some (.one (.val _ (.int _) i)) => some i
  | _ => none

def cut (n : Nat) (lo hi : Option SV) : Option (Nat × Nat) :=
  bnd (numOr 0 lo) fun l => bnd (numOr (n : Int) hi) fun h =>
    ifB (decide (0 ≤ l) && decide (l ≤ h) && decide (h ≤ (n : Int))) (some (l.toNat, h.toNat)) none

def evSlice2 (ty : TyE) (lo hi : Option SV) : SV → Option SV
  | .one (.val _ .str s) => ifB (ty.form == 4) (bnd (cut (List.length s) lo hi) fun p => some (.one (.val false .str (seg (α := UInt8) s p.1 (p.2 - p.1))))) none
  | .one (.val tv (.sl e) l) => ifB (ty.form == 1 && decide (ty.ek = e)) (bnd (cut (List.length l) lo hi) fun p => some (.one (.val tv (.sl e) (seg (α := e.T) l p.1 (p.2 - p.1))))) none
  | .one (.xsl tv e l) => ifB (ty.form == 1 && decide (ty.ek = e)) (bnd (cut l.length lo hi) fun p => some (.one (.val tv (.sl e) (seg (α := e.T) l p.1 (p.2 - p.1))))) none
  | .one (.val _ .nl _) => ifB (ty.form == 1) (bnd (cut 0 lo hi) fun _ => some (.one (.val false .nl ()))) none
  | .one (.hdr k L off len) => ifB (ty.form == 1 && decide (ty.ek = k)) (bnd (cut len lo hi) fun p => some (.one (.hdr k L (off + p.1) (p.2 - p.1)))) none
  | _ => none

/-- 'x[lo:hi:hi]' -/
def evSlice3 (ty : TyE) (lo hi mx : Option SV) : SV → Option SV
  | .one (.val tv (.sl e) l) => ifB (ty.form == 1 && decide (ty.ek = e)) (bnd (cut (List.length l) lo hi) fun p => bnd (cut (List.length l) none mx) fun q =>
      ifB (q.2 == p.2) (some (.one (.xsl tv e (seg (α := e.T) l p.1 (p.2 - p.1))))) none) none
  | .one (.val _ .nl _) => ifB (ty.form == 1) (bnd (cut 0 lo hi) fun p => bnd (cut 0 none mx) fun _ => some (.one (.val false .nl ()))) none
  | _ => none

def evSlice (ty : TyE) (x : SV) (lo hi : Option SV) : Option SV → Option SV
  | none => evSlice2 ty lo hi x
  | some m => ifB hi.isSome (evSlice3 ty lo hi (some m) x) none

/-! lists of elements -/
def elemsH (k : Kd) (e : Kd) (off len : Nat) : Option SObj → Option (List k.T)
  | some o => ifB (decide (e = k)) (bnd (asL o.k k o.l) fun l => some (seg l off len)) none
  | none => none

def natsOf : List UInt8 → List Int
  | [] => []
  | b :: r => (b.toNat : Int) :: natsOf r

def bytesOf : List Int → List UInt8
  | [] => []
  | n :: r => UInt8.ofNat n.toNat :: bytesOf r

def elemsOf (st : St) (k : Kd) : SV → Option (List k.T)
  | .one (.val _ (.sl e) l) => asL e k l
  | .one (.xsl _ e l) => asL e k l
  | .one (.val _ .nl _) => some []
  | .one (.hdr e L off len) => elemsH k e off len (aget st.s L)
  | .one (.val _ .str s) => asL (.int .u8) k (natsOf s)
  | _ => none

/-- a new object, at a label of the slot's own -/
def St.newObj (st : St) (L : Nat) (o : SObj) : St := (st.kill L).setS (aset (adel st.s L) L o)

def roomy (n eb : Nat) : Bool := decide (n * eb ≤ 140737488355328) && decide (n ≤ 9223372036854775807)

def appH (ty : TyE) (st : St) (k : Kd) (L off len : Nat) (b : SV) (d : Nat) : Option SObj → Option St
  | some o => bnd (elemsOf st k b) fun xs => bnd (asL o.k k o.l) fun l =>
      ifB (off + len == l.length && decide (ty.ek = k) && decide (L < PL) && roomy (len + xs.length) ty.eb)
        (((st.kill L).setS (aset (adel st.s L) L ⟨k, seg l off len ++ xs⟩)).setT (.one (.hdr k L 0 (len + xs.length))) (some d)) none
  | none => none

def appX (ty : TyE) (st : St) (k : Kd) (l : List k.T) (d : Nat) : List k.T → Option St
  | [] => none
  | x :: xs => ifB (decide (ty.ek = k) && roomy (l.length + (xs.length + 1)) ty.eb)
      ((st.newObj (d * 1000) ⟨k, l ++ x :: xs⟩).setT (.one (.hdr k (d * 1000) 0 (l.length + (xs.length + 1)))) (some d)) none

def evAppend1 (ty : TyE) (st : St) (d : Nat) (b : SV) : SV → Option St
  | .one (.hdr k L off len) => appH ty st k L off len b d (aget st.s L)
  | .one (.val _ .nl _) => bnd (elemsOf st ty.ek b) fun xs => ifB (roomy xs.length ty.eb) ((st.newObj (d * 1000) ⟨ty.ek, xs⟩).setT (.one (.hdr ty.ek (d * 1000) 0 xs.length)) (some d)) none
  | .one (.xsl _ k l) => bnd (elemsOf st k b) fun xs => appX ty st k l d xs
  | _ => none

def evAppend (ty : TyE) (st : St) (a b : SV) : Option Nat → Option St
  | some d => ifB (ty.form == 1) (evAppend1 ty st d b a) none
  | none => none

def partsTo (st : St) (k : Kd) : List (Nat × SV) → List k.T → Option (List k.T)
  | [], l => some l
  | p :: r, l => bnd (sealX (sealDC st) k p.2) fun w => bnd (asK k w) fun x => ifB (decide (p.1 < l.length)) (partsTo st k r (l.set p.1 x)) none

def partLabels : List (Nat × SV) → List Nat
  | [] => []
  | p :: r => labelsOf p.2.cells ++ partLabels r

def evBuildSlice (ty : TyE) (st : St) (len : Nat) (parts : List (Nat × SV)) : Option Nat → Option St
  | some d => ifB (ty.form == 1 && decide ((len * ty.en) ≤ 16777216)) (bnd (zeroK ty.ek) fun z => bnd (partsTo st ty.ek parts (List.replicate len z)) fun l =>
      ((freezes (partLabels parts) st).newObj (d * 1000) ⟨ty.ek, l⟩).setT (.one (.hdr ty.ek (d * 1000) 0 len)) (some d)) none
  | none => none

def evMakeSlice (ty : TyE) (st : St) (d : Option Nat) : SV → SV → Option St
  | .one (.val _ (.int .i64) l), .one (.val _ (.int .i64) c) => match d with
    | some d => ifB (ty.form == 1 && decide (0 ≤ l) && decide (l ≤ c) && roomy (Int.toNat c) ty.eb) (bnd (zeroK ty.ek) fun z =>
        (st.newObj (d * 1000) ⟨ty.ek, List.replicate (Int.toNat l) z⟩).setT (.one (.hdr ty.ek (d * 1000) 0 (Int.toNat l))) (some d)) none
    | none => none
  | _, _ => none

/-- struct and array values out of parts -/
def fillC (place : Nat → Option (Nat × Nat)) : List (Nat × SV) → List Cell → Option (List Cell)
  | [], cs => some cs
  | p :: r, cs => bnd (place p.1) fun q => ifB (p.2.cells.length == q.2 && decide (0 < q.2) && decide ((q.1 + q.2) ≤ cs.length)) (fillC place r (setCells cs q.1 p.2.cells)) none

def placeF (ty : TyE) (i : Nat) : Option (Nat × Nat) := bnd (nth ty.flds i) fun q => some (q.1, q.2.1)
def placeA (ty : TyE) (i : Nat) : Option (Nat × Nat) := some (i * ty.en, ty.en)
def aggO (cs : List Cell) : Option SV := some (.agg cs)

def evBuild (ty : TyE) (parts : List (Nat × SV)) : Option SV :=
  ifB (ty.zok && ty.form == 3) (bnd (fillC (placeF ty) parts ty.zero) aggO) (ifB (ty.zok && ty.form == 2) (bnd (fillC (placeA ty) parts ty.zero) aggO) none)

def evLen (ty : TyE) : SV → Option Nat
  | .one (.val _ .str s) => ifB (ty.form == 4) (some (List.length s)) none
  | .one (.val _ (.sl e) l) => ifB (ty.form == 1) (some (List.length l)) none
  | .one (.xsl _ e l) => ifB (ty.form == 1) (some l.length) none
  | .one (.val _ .nl _) => ifB (ty.form == 1) (some 0) none
  | .one (.hdr _ _ _ len) => ifB (ty.form == 1) (some len) none
  | _ => none

def maxV : SV → SV → Option SV
  | .one (.val _ (.int k) x), .one (.val _ (.int k') y) => ifB (decide (k = k')) (tI k (max x y)) none
  | _, _ => none
def minV : SV → SV → Option SV
  | .one (.val _ (.int k) x), .one (.val _ (.int k') y) => ifB (decide (k = k')) (tI k (min x y)) none
  | _, _ => none
def foldV (f : SV → SV → Option SV) : List SV → SV → Option SV
  | [], a => some a
  | b :: r, a => bnd (f a b) (foldV f r)

def strV (l : List Int) : Option SV := some (.one (.val false .str (bytesOf l)))

def intTo (n : Int) : Kd → Option SV
  | .int k => tI k (k.wrap n)
  | _ => none

def evConvert (s d : TyE) (st : St) : SV → Option SV
  | .one (.val _ (.int _) n) => ifB (s.ok && d.form == 5) (intTo n d.hint) none
  | .one (.val _ .str x) => ifB (s.form == 4 && d.form == 4) (some (.one (.val false .str x))) none
  | x => ifB (s.form == 1 && decide (s.ek = .int .u8) && d.form == 4) (bnd (elemsOf st (.int .u8) x) strV) none

end Go.Ev

/- The evaluator, second part: calls, regions, code, functions. -/
import Derived.Test.YtgjinkacngkgdaaDoorEvB
namespace Go.Ev
set_option linter.unusedVariables false

/-- what a closure hands its code: pointers to what it captured -/
def unpack (cl : Val) : (k : Kd) → k.T → List Val
  | .pair a r, x => ifB (decide (a = .self)) ⟨.ptr cl.k, cl.x⟩ ⟨.ptr a, x.1⟩ :: unpack cl r x.2
  | _, _ => []

def noLabel : List Cell → Bool
  | [] => true
  | .val _ _ _ :: cs => noLabel cs
  | _ => false

def sealPtr (st : St) : Option (Bool × List Cell) → Option Val
  | some b => ifB (noLabel b.2) (bnd (sealX (sealDC st) .self (mkSV b.1 b.2)) fun v => some (ptrV v)) none
  | none => none

def sealM (st : St) (hint : Kd) : SV → Option Val
  | .one (.bref B 0) => sealPtr st (aget st.b B)
  | v => sealX (sealOC st) hint v

def sealArg (st : St) (hint : Kd) (v : SV) : PMode → Option Val
  | .ro => sealSV st hint v
  | .mut => sealM st hint v
  | .mov => sealX (sealOC st) hint v

def addL (a b : List Nat × List Nat) : List Nat × List Nat := (a.1 ++ b.1, a.2 ++ b.2)

mutual
/-- the objects that a value reaches, and the boxes -/
def reach (st : St) : Nat → Cell → List Nat × List Nat
  | _, .hdr _ L _ _ => ([L], [])
  | _, .eref _ L _ _ => ([L], [])
  | n + 1, .bref B _ => reachX1 st n B (aget st.b B)
  | n + 1, .clo f caps => reachB st n f caps caps
  | _, _ => ([], [])
def reachB (st : St) : Nat → FuncId → List Nat → List Nat → List Nat × List Nat
  | n + 1, f, all, B :: r => addL (reachX st n f all B (aget st.b B)) (reachB st n f all r)
  | _, _, _, _ => ([], [])
def reachX (st : St) : Nat → FuncId → List Nat → Nat → Option (Bool × List Cell) → List Nat × List Nat
  | n + 1, f, all, B, some x => ifB (selfBox f all x) ([], [B]) (addL ([], [B]) (reachCs st n x.2))
  | _, _, _, B, _ => ([], [B])
def reachX1 (st : St) : Nat → Nat → Option (Bool × List Cell) → List Nat × List Nat
  | n + 1, B, some x => addL ([], [B]) (reachCs st n x.2)
  | _, B, _ => ([], [B])
def reachCs (st : St) : Nat → List Cell → List Nat × List Nat
  | n + 1, c :: cs => addL (reach st n c) (reachCs st n cs)
  | _, _ => ([], [])
end

def reachAll (st : St) : List SV → List Nat × List Nat
  | [] => ([], [])
  | v :: vs => addL (reachCs st fuelS v.cells) (reachAll st vs)

def nodup : List Nat → Bool
  | [] => true
  | a :: l => ifB (l.contains a) false (nodup l)

def disj : List Nat → List Nat → Bool
  | [], _ => true
  | a :: l, r => ifB (r.contains a) false (disj l r)

def allLt : List Nat → Bool
  | [] => true
  | a :: l => ifB (decide (a < PL)) (allLt l) false

/-- the values of the parameters of some mode -/
def pickM (m : PMode) : List PMode → List SV → List SV
  | a :: ms, v :: vs => ifB (decide (a = m)) (v :: pickM m ms vs) (pickM m ms vs)
  | _, _ => []

def backH (k : Kd) (L off len : Nat) (e : Kd) (l : List e.T) (st : St) : Option SObj → Option St
  | some o => bnd (asL o.k k o.l) fun old => bnd (asL e k l) fun new =>
      ifB (new.length == len && decide ((off + len) ≤ old.length)) (some (st.setS (aset st.s L ⟨k, old.take off ++ new ++ old.drop (off + len)⟩))) none
  | none => none

/-- objects and boxes out of a callee's hands -/
def backC : List Cell → List Cell → St → Option St
  | [], [], st => some st
  | .hdr k L off len :: cs, .val _ (.sl e) l :: ns, st => bnd (backH k L off len e l st (aget st.s L)) (backC cs ns)
  | .val _ _ _ :: cs, _ :: ns, st => backC cs ns st
  | _, _, _ => none

def backB (st : St) (B : Nat) (k : Kd) (x : k.T) : Option (Bool × List Cell) → Option St
  | some b => ifB ((explode false k x).length == b.2.length) (some (st.setB (aset st.b B (b.1, explode false k x)))) none
  | none => none

def kills : List Nat → St → St
  | [], st => st
  | L :: r, st => kills r (st.kill L)

def backM (st : St) : SV → Val → Option St
  | .one (.bref B 0), ⟨.ptr k, x⟩ => backB st B k x (aget st.b B)
  | v, w => backC v.cells (explode true w.k w.x) st

def back (st : St) (v : SV) : PMode → Option Val → Option St
  | .ro, none => some st
  | .mov, none => some (kills (labelsOf v.cells) st)
  | .mut, some w => backM st v w
  | _, _ => none

def backs : List PMode → List SV → List (Option Val) → St → Option St
  | m :: ms, v :: vs, u :: us, st => bnd (back st v m u) (backs ms vs us)
  | [], [], [], st => some st
  | _, _, _, _ => none

def ownify (base : Nat) : List Cell → List Cell
  | [] => []
  | .val _ (.sl e) l :: cs => .hdr e base 0 (List.length l) :: ownify (base + 1) cs
  | c :: cs => c :: ownify (base + 1) cs

def ownObjs (base : Nat) : List Cell → St → St
  | [], st => st
  | .val _ (.sl e) l :: cs, st => ownObjs (base + 1) cs (st.newObj base ⟨e, l⟩)
  | _ :: cs, st => ownObjs (base + 1) cs st

def resC (base : Nat) (v : Val) : RMode → List Cell
  | .own => ownify base (explode false v.k v.x)
  | .deep => explode false v.k v.x
  | .tv => explode true v.k v.x

def resO (base : Nat) (v : Val) (st : St) : RMode → St
  | .own => ownObjs base (explode false v.k v.x) st
  | _ => st

def resComps (base : Nat) : List (Val × RMode) → List (Bool × List Cell)
  | [] => []
  | p :: r => (p.1.k.isAgg, resC base p.1 p.2) :: resComps (base + 100) r

def resObjs (base : Nat) : List (Val × RMode) → St → St
  | [], st => st
  | p :: r, st => resObjs (base + 100) r (resO base p.1 st p.2)

def resSV : List (Bool × List Cell) → SV
  | [p] => mkSV p.1 p.2
  | l => .tup l

def hasTv : List (Val × RMode) → Bool
  | [] => false
  | p :: r => ifB (decide (p.2 = .tv)) true (hasTv r)

abbrev Sems := FuncId → List Val → Option Res

def orNilM : Option (List PMode) → List PMode
  | some l => l
  | none => []

def padRo {α : Type} : List PMode → List α → List PMode
  | m :: ms, _ :: r => m :: padRo ms r
  | [], _ :: r => .ro :: padRo [] r
  | _, [] => []

def mds {α : Type} (env : Env) (g : FuncId) (args : List α) : List PMode := padRo (orNilM (aget env.md g)) args

def sealArgs (st : St) : List PMode → List Kd → List SV → Option (List Val)
  | m :: ms, h :: hs, v :: vs => bnd (sealArg st h v m) fun x => bnd (sealArgs st ms hs vs) fun xs => some (x :: xs)
  | [], _, [] => some []
  | _, _, _ => none

/-- may the callee have what it asks for? -/
def apart (m mv r : List Nat × List Nat) : Bool :=
  nodup (m.1 ++ mv.1) && nodup (m.2 ++ mv.2) && disj (m.1 ++ mv.1) r.1 && disj (m.2 ++ mv.2) r.2 && allLt mv.1

def takeU : List PMode → List (Option Val) → List (Option Val)
  | _ :: ms, u :: us => u :: takeU ms us
  | _, _ => []

def okSizes : List (Val × RMode) → Bool
  | [] => true
  | p :: r => decide (p.1.k.size ≤ 100) && okSizes r

def noVals : List Val → Bool
  | [] => true
  | _ => false

/-- no pointers, no functions that captured something -/
def plainCs : List Cell → Bool
  | [] => true
  | .val _ _ _ :: cs => plainCs cs
  | .xsl _ _ _ :: cs => plainCs cs
  | .hdr _ _ _ _ :: cs => plainCs cs
  | .clo _ [] :: cs => plainCs cs
  | _ => false

def plainArgs : List SV → Bool
  | [] => true
  | v :: vs => plainCs v.cells && plainArgs vs

def argLabels : List SV → List Nat
  | [] => []
  | v :: vs => labelsOf v.cells ++ argLabels vs

def setRes (st : St) (vals : List (Val × RMode)) : Option Nat → Option St
  | some d => ifB (okSizes vals && decide (vals.length ≤ 9)) ((resObjs (d * 1000) vals st).setT (resSV (resComps (d * 1000) vals)) (some d)) none
  | none => some st

def evCallF (env : Env) (F : Sems) (st : St) (d : Option Nat) (g : FuncId) (ms : List PMode) (hs : List Kd) (args : List SV) (caps : List Val) : Option St :=
  ifB (apart (reachAll st (pickM .mut ms args)) (reachAll st (pickM .mov ms args)) (reachAll st (pickM .ro ms args)))
    (bnd (sealArgs st ms hs args) fun vs => bnd (F g (vs ++ caps)) fun r => bnd (backs ms args (takeU ms r.upd) st) fun st1 =>
      ifB (!hasTv r.vals || (plainArgs args && noVals caps)) (setRes (ifB (hasTv r.vals) (freezes (argLabels args) st1) st1) r.vals d) none) none

def hints (env : Env) (ts : List TypeId) : List Kd := ts.map fun t => (env.ty t).hint

def noModes : Option (List PMode) → Bool
  | some _ => false
  | none => true

def evCallV (env : Env) (F : Sems) (st : St) (d : Option Nat) (ts : List TypeId) (args : List SV) : SV → Option St
  | .one (.clo g []) => evCallF env F st d g (mds env g args) (hints env ts) args []
  | .one (.clo g (B :: r)) => ifB (noModes (aget env.md g)) (bnd (sealCaps st fuelS g (B :: r) (B :: r)) fun v => evCallF env F st d g (mds env g args) (hints env ts) args (unpack (cloV g v) v.k v.x)) none
  | .one (.val _ (.clo g ks) x) => ifB (noModes (aget env.md g)) (evCallF env F st d g (mds env g args) (hints env ts) args (unpack ⟨.clo g ks, x⟩ ks x)) none
  | _ => none

def setInt (st : St) (d : Option Nat) (n : Nat) : Option St := st.setT (.one (.val false (.int .i64) (n : Int))) d
def St.setV (st : St) (d : Option Nat) (v : SV) : Option St := st.setT v d

def tyH (env : Env) : List TypeId → Option TyE
  | [] => none
  | t :: _ => some (env.ty t)

/-- the second argument of an append is no length -/
def appOk (env : Env) : List TypeId → Bool
  | _ :: t :: _ => (env.ty t).ok && !((env.ty t).form == 5)
  | _ => true

def evBuiltin (env : Env) (st : St) (d : Option Nat) (ts : List TypeId) : Builtin → List SV → Option St
  | .len, [v] => bnd (tyH env ts) fun t => bnd (evLen t v) (setInt st d)
  | .append, [a, b] => bnd (tyH env ts) fun t => ifB (appOk env ts) (evAppend t st a b d) none
  | .max, a :: r => bnd (foldV maxV r a) (st.setV d)
  | .min, a :: r => bnd (foldV minV r a) (st.setV d)
  | _, _ => none

def evs (st : St) : List Operand → List SV
  | [] => []
  | x :: r => st.ev x :: evs st r

def evCall (env : Env) (F : Sems) (st : St) (d : Option Nat) (args : List Operand) (ts : List TypeId) : Callee → Option St
  | .value f => evCallV env F st d ts (evs st args) (st.ev f)
  | .builtin b => evBuiltin env st d ts b (evs st args)
  | .invoke _ _ => none

def compAt : List (Bool × List Cell) → Nat → Option SV
  | [], _ => none
  | p :: _, 0 => some (mkSV p.1 p.2)
  | _ :: r, n + 1 => compAt r n

def evExtract (i : Nat) : SV → Option SV
  | .tup l => compAt l i
  | _ => none

def evParts (st : St) : List (Nat × Operand) → List (Nat × SV)
  | [] => []
  | p :: r => (p.1, st.ev p.2) :: evParts st r

def evMaybe (st : St) : Option Operand → Option SV
  | some x => some (st.ev x)
  | none => none

def boxesOf.boxOf : SV → Option Nat
  | .one (.bref B 0) => some B
  | _ => none

def boxesOf (st : St) : List Operand → Option (List Nat)
  | [] => some []
  | x :: r => bnd (boxesOf.boxOf (st.ev x)) fun B => bnd (boxesOf st r) fun Bs => some (B :: Bs)

def evMakeFunc (st : St) (d : Option Nat) (cap : List Operand) : Fn → List Operand → Option St
  | .func f, [] => bnd (boxesOf st cap) fun Bs => st.setT (.one (.clo f Bs)) d
  | _, _ => none

def evNil (st : St) (d : Option Nat) : SV → Option St
  | .one (.bref B o) => st.setT (.one (.bref B o)) d
  | .one (.val tv (.ptr k) x) => st.setT (.one (.val tv (.ptr k) x)) d
  | _ => none

def allocK (ty : TyE) (d : Nat) (st : St) : Option St := (st.setB (aset st.b d (ty.agg, ty.zero))).setT (.one (.bref d 0)) (some d)

def okZero (ty : TyE) : Bool := ty.zok && ty.zero.length == ty.size && decide (0 < ty.size) && (ty.agg || ty.size == 1)

def evAlloc (ty : TyE) (st : St) : Option Nat → Option St
  | some d => ifB (okZero ty) (allocK ty d (st.killB d)) none
  | none => none

def boxK (ty : TyE) (d : Nat) (v : SV) (st : St) : Option St :=
  (relabels (d * 1000 + 500) v.cells (st.setB (aset st.b d (ty.agg, v.cells)))).setT (.one (.bref d 0)) (some d)

def evBox (ty : TyE) (st : St) (v : SV) : Option Nat → Option St
  | some d => ifB (ty.ok && v.cells.length == ty.size && decide (0 < ty.size) && (ty.agg || ty.size == 1))
      (boxK ty d (v.mapC (killBC d)) (st.killB d)) none
  | none => none

/-- a value that is good where a condition holds -/
def unw : SV → Option (Bool × Cell)
  | .one c => some (true, c)
  | .gd b c => some (b, c)
  | _ => none

/-- 'a && b', 'a || b': where it is good, and what it is -/
def pickC : Bool × Cell → Bool × Cell → Bool × Cell → Option (Bool × Bool)
  | (gc, .val _ .bool t), (ga, .val _ .bool x), (gb, .val _ .bool y) => some (gc && (impB t ga && impB (!t) gb), (t && x) || (!t && y))
  | _, _, _ => none

def pickV (c a b : SV) : Option (Bool × Bool) :=
  bnd (unw c) fun c => bnd (unw a) fun a => bnd (unw b) fun b => pickC c a b

/-- an operation without a guard -/
def evOp1 (env : Env) (F : Sems) (st : St) (d : Option Nat) : Op → Option St
  | .move x => st.setT (st.ev x) d
  | .assign x => st.assign (st.ev x) d
  | .pick c a b => bnd (pickV (st.ev c) (st.ev a) (st.ev b)) fun r => ifB r.1 (st.setT (.one (.val false .bool r.2)) d) none
  | .alloc t => evAlloc (env.ty t) st d
  | .box t x => evBox (env.ty t) st (st.ev x) d
  | .build t ps => bnd (evBuild (env.ty t) (evParts st ps.toList)) (st.setV d)
  | .buildSlice t n ps => evBuildSlice (env.ty t) st n (evParts st ps.toList) d
  | .load t a => bnd (evLoad (env.ty t) st (st.ev a)) (st.setV d)
  | .store t a v => bnd (evStore (env.ty t) st (st.ev a) (st.ev v)) fun s => s.setT .bad d
  | .nilCheck x => evNil st d (st.ev x)
  | .binOp op t x y _ => bnd (evBin (env.ty t) op (st.ev x) (st.ev y)) (st.setV d)
  | .unOp op _ x => bnd (evUn op (st.ev x)) (st.setV d)
  | .convert s t x => bnd (evConvert (env.ty s) (env.ty t) st (st.ev x)) (st.setV d)
  | .makeFunc fn first cap => evMakeFunc st d cap.toList fn first.toList
  | .makeSlice t l c => evMakeSlice (env.ty t) st d (st.ev l) (st.ev c)
  | .slice t x lo hi mx => bnd (evSlice (env.ty t) (st.ev x) (evMaybe st lo) (evMaybe st hi) (evMaybe st mx)) (st.setV d)
  | .fieldAddr t x f => bnd (evFieldAddr (env.ty t) f (st.ev x)) (st.setV d)
  | .field t x f => bnd (evField (env.ty t) f (st.ev x)) (st.setV d)
  | .indexAddr t x i => bnd (evIndexAddr (env.ty t) (st.ev x) (st.ev i)) (st.setV d)
  | .index t x i => bnd (evIndex (env.ty t) (st.ev x) (st.ev i)) (st.setV d)
  | .extract x i => bnd (evExtract i (st.ev x)) (st.setV d)
  | .call c => evCall env F st d c.args.toList c.argTypes.toList c.callee
  | _ => none

/-- where is the operation wanted? -/
def wantB (c : Bool) : Bool → Bool
  | true => c
  | false => !c

def gcond (want : Bool) : SV → Option Bool
  | .one (.val _ .bool c) => some (wantB c want)
  | .gd g (.val _ .bool c) => some (g && wantB c want)
  | _ => none

def oneC : SV → Option Cell
  | .one c => some c
  | _ => none

def lift1 (g : Bool) (x : SV) (f : SV → Option SV) : Option Cell :=
  bnd (unw x) fun p => ifB (impB g p.1) (bnd (f (.one p.2)) oneC) none

def lift2 (g : Bool) (x y : SV) (f : SV → SV → Option SV) : Option Cell :=
  bnd (unw x) fun p => bnd (unw y) fun q => ifB (impB g p.1 && impB g q.1) (bnd (f (.one p.2) (.one q.2)) oneC) none

def lenV (t : TyE) (v : SV) : Option SV := bnd (evLen t v) fun n => tI .i64 (n : Int)

def mild : BinOp → Bool
  | .quo => false
  | .rem => false
  | .shl => false
  | .shr => false
  | _ => true

/-- shifts and divisions: what they ask for is asked where they are wanted -/
def liftBin (g : Bool) (op : BinOp) : Bool × Cell → Bool × Cell → Option Cell
  | (gx, .val _ (.int k) a), (gy, .val _ (.int k') b) => match op with
    | .shl => ifB (impB g (gx && (gy && !decide (b < 0)))) (some (.val false (.int k) (shlV k a b))) none
    | .shr => ifB (impB g (gx && (gy && !decide (b < 0)))) (some (.val false (.int k) (shrV k a b))) none
    | .quo => ifB (decide (k = k') && impB g (gx && (gy && !((b : Int) == 0)))) (some (.val false (.int k) (k.wrap (Int.tdiv a b)))) none
    | .rem => ifB (decide (k = k') && impB g (gx && (gy && !((b : Int) == 0)))) (some (.val false (.int k) (Int.tmod a b))) none
    | _ => none
  | _, _ => none

def inB (i : Int) (n : Nat) : Bool := decide (0 ≤ i) && decide (i < (n : Int))

/-- a place in a row -/
def liftIx (g : Bool) (ty : TyE) : Bool × Cell → Bool × Cell → Option Cell
  | (gx, .val tv (.sl e) l), (gy, .val _ (.int ik) i) => ifB (ty.form == 1 && decide (ty.ek = e) && impB g (gx && (gy && inB i (List.length l)))) (some (.dptr tv e (getK e l (Int.toNat i)))) none
  | (gx, .xsl tv e l), (gy, .val _ (.int ik) i) => ifB (ty.form == 1 && decide (ty.ek = e) && impB g (gx && (gy && inB i l.length))) (some (.dptr tv e (getK e l (Int.toNat i)))) none
  | (gx, .hdr k L off len), (gy, .val _ (.int ik) i) => ifB (ty.form == 1 && decide (ty.ek = k) && impB g (gx && (gy && inB i len))) (some (.eref k L (off + Int.toNat i) 0)) none
  | (gx, .bref B off), (gy, .val _ (.int ik) i) => ifB (ty.form == 2 && impB g (gx && (gy && inB i ty.n))) (some (.bref B (off + Int.toNat i * ty.en))) none
  | _, _ => none

/-- a byte of a string -/
def liftSx (g : Bool) : Bool × Cell → Bool × Cell → Option Cell
  | (gx, .val _ .str s), (gy, .val _ (.int ik) i) => ifB (impB g (gx && (gy && inB i (List.length s)))) (some (.val false (.int .u8) (((s : List UInt8)[Int.toNat i]!).toNat : Int))) none
  | _, _ => none

def liftE (g gx : Bool) (ty : TyE) (k : Kd) (i fo : Nat) : Option SObj → Option Cell
  | some o => bnd (asL o.k k o.l) fun l => ifB (impB g (gx && decide (i < l.length))) (bnd (ofCells ty.agg ty.size fo (explode false k (getK k l i))) oneC) none
  | none => none

def liftLd (g : Bool) (ty : TyE) (st : St) : Bool × Cell → Option Cell
  | (gx, .eref k L i fo) => ifB ty.ok (liftE g gx ty k i fo (aget st.s L)) none
  | (gx, c) => ifB (impB g gx) (bnd (evLoad ty st (.one c)) oneC) none

/-- operations that come to an end whether they are wanted or not -/
def evLift (env : Env) (st : St) (g : Bool) : Op → Option (Option Cell)
  | .move x => some (lift1 g (st.ev x) some)
  | .binOp op t x y _ => some (ifB (mild op) (lift2 g (st.ev x) (st.ev y) (evBin (env.ty t) op)) (bnd (unw (st.ev x)) fun p => bnd (unw (st.ev y)) fun q => liftBin g op p q))
  | .unOp op _ x => some (lift1 g (st.ev x) (evUn op))
  | .pick c a b => some (bnd (pickV (st.ev c) (st.ev a) (st.ev b)) fun r => ifB (impB g r.1) (some (.val false .bool r.2)) none)
  | .fieldAddr t x f => some (lift1 g (st.ev x) (evFieldAddr (env.ty t) f))
  | .load t a => ifB (env.ty t).agg none (some (bnd (unw (st.ev a)) fun p => liftLd g (env.ty t) st p))
  | .indexAddr t x i => some (bnd (unw (st.ev x)) fun p => bnd (unw (st.ev i)) fun q => liftIx g (env.ty t) p q)
  | .index t x i => ifB ((env.ty t).form == 4) (some (bnd (unw (st.ev x)) fun p => bnd (unw (st.ev i)) fun q => liftSx g p q)) none
  | .call ⟨.builtin .len, ⟨[x]⟩, ⟨t :: _⟩⟩ => some (lift1 g (st.ev x) (lenV (env.ty t)))
  | _ => none

def underV (g : Bool) : SV → SV
  | .gd b c => ifB (impB g b) (.one c) (.gd b c)
  | v => v

/-- the state in which what is good where g holds is taken as good -/
def St.under (g : Bool) (st : St) : St := ⟨st.n, amap (underV g) st.t, st.s, st.b⟩

/-- where the operation is not wanted -/
def offV : SV := .gd false (.val false .bool false)

def evGuard (env : Env) (F : Sems) (st : St) (d : Option Nat) (op : Op) (g : Bool) : Option (Option Cell) → Option St
  | some r => bnd r fun c => st.setT (.gd g c) d
  | none => ifB g (evOp1 env F (st.under g) d op) (st.setT offV d)

def evG (env : Env) (F : Sems) (st : St) (o : Oper) (want : Bool) : Option Nat → Option St
  | some d => bnd (gcond want (st.ev (.tmp d))) fun g => evGuard env F st o.dst o.op g (evLift env st g o.op)
  | none => none

def dstAt : List Oper → Nat → Option Nat
  | [], _ => none
  | o :: _, 0 => o.dst
  | _ :: r, n + 1 => dstAt r n

def evOp (env : Env) (F : Sems) (ops : List Oper) (st : St) (o : Oper) : Option (Nat × Bool) → Option St
  | none => evOp1 env F st o.dst o.op
  | some p => evG env F st o p.2 (dstAt ops p.1)

def evOps (env : Env) (F : Sems) (ops : List Oper) : List Oper → St → Option St
  | [], st => some st
  | o :: r, st => bnd (evOp env F ops st o o.guard) (evOps env F ops r)

inductive Ex where
  | normal
  | exit (id : Nat)
  | ret

/-! what a loop's round writes before it reads -/
def tmpsOf : List Operand → List Nat
  | [] => []
  | .tmp t :: r => t :: tmpsOf r
  | _ :: r => tmpsOf r

def ueOps : List Oper → List Nat → List Nat
  | [], w => []
  | o :: r, w => ((tmpsOf o.op.operands.toList).filter fun t => !w.contains t) ++ ueOps r (match o.dst with | some d => d :: w | none => w)

def dstsOf (ops : List Oper) : List Nat := ops.filterMap (·.dst)

def tmpsDst (ops : List Oper) : List Nat := ops.filterMap fun o => match o.op with | .assign _ => none | _ => o.dst

/-- all that may be read in the code where a slot outside of w is meant -/
def ue : Code → List Nat → List Nat × List Nat
  | .region _ ops _, w => (ueOps ops.toList w, dstsOf ops.toList ++ w)
  | .seq a b, w => let x := ue a w; let y := ue b x.2; (x.1 ++ y.1, y.2)
  | .cond c a b, w => ((match c with | .tmp t => if w.contains t then [] else [t] | _ => []) ++ (ue a w).1 ++ (ue b w).1, w)
  | .block _ c, w => ((ue c w).1, w)
  | .loop c, w => ((ue c w).1, w)
  | _, w => ([], w)

def tdst : Code → List Nat
  | .region _ ops _ => tmpsDst ops.toList
  | .seq a b => tdst a ++ tdst b
  | .cond _ a b => tdst a ++ tdst b
  | .block _ c => tdst c
  | .loop c => tdst c
  | _ => []

/-- a set of numbers below n as intervals -/
def ivs (p : Nat → Bool) : Nat → List (Nat × Nat) → List (Nat × Nat)
  | 0, acc => acc
  | n + 1, acc => ivs p n (match p n, acc with
    | true, (a, b) :: r => if a = n + 1 then (n, b) :: r else (n, n) :: (a, b) :: r
    | true, [] => [(n, n)]
    | false, acc => acc)

/-- all slots that are read -/
def rds : Code → List Nat
  | .region _ ops _ => ops.toList.flatMap fun o => tmpsOf o.op.operands.toList
  | .seq a b => rds a ++ rds b
  | .cond c a b => (match c with | .tmp t => [t] | _ => []) ++ rds a ++ rds b
  | .block _ c => rds c
  | .loop c => rds c
  | _ => []

/-- all slots that are assigned -/
def asgs : Code → List Nat
  | .region _ ops _ => ops.toList.filterMap fun o => match o.op with | .assign _ => o.dst | _ => none
  | .seq a b => asgs a ++ asgs b
  | .cond _ a b => asgs a ++ asgs b
  | .block _ c => asgs c
  | .loop c => asgs c
  | _ => []

/-- the slots that are forgotten at a loop's head -/
def lossOf (nt : Nat) (all : List Nat) (c : Code) : List (Nat × Nat) :=
  let u := (ue c []).1; let d := tdst c; let e := asgs c; let r := rds c
  ivs (fun t => (d.contains t || (e.contains t && (r.count t == all.count t))) && !u.contains t) nt []

def keyX : Nat := 200000

/-- the slots that are forgotten behind a loop: those that nobody else reads -/
def exitOf (nt : Nat) (all out : List Nat) (c : Code) : List (Nat × Nat) :=
  let r := rds c
  ivs (fun t => r.count t == all.count t && !out.contains t) nt []

/-- the same for each loop, by the block that it stands in -/
def lossesC (nt : Nat) (all out : List Nat) : Code → Nat → List (Nat × List (Nat × Nat))
  | .seq a b, n => lossesC nt all out a n ++ lossesC nt all out b n
  | .cond _ a b, n => lossesC nt all out a n ++ lossesC nt all out b n
  | .block id c, _ => lossesC nt all out c id
  | .loop c, n => (n, lossOf nt all c) :: (n + keyX, exitOf nt all out c) :: lossesC nt all ((ue c []).1 ++ out) c n
  | _, _ => []

def resReads (fn : Func) : List Nat := fn.results.toList.map fun | .tmp t => t | .cell a _ => a

def orNil : Option (List (Nat × Nat)) → List (Nat × Nat)
  | some l => l
  | none => []

/-- slots that are read behind a write in the same region -/
def lreads : List Oper → List Nat → List Nat
  | [], _ => []
  | o :: r, w => ((tmpsOf o.op.operands.toList).filter fun t => w.contains t) ++ lreads r (match o.dst with | some d => d :: w | none => w)

def lrds : Code → List Nat
  | .region _ ops _ => lreads ops.toList []
  | .seq a b => lrds a ++ lrds b
  | .cond _ a b => lrds a ++ lrds b
  | .block _ c => lrds c
  | .loop c => lrds c
  | _ => []

def crds : Code → List Nat
  | .seq a b => crds a ++ crds b
  | .cond c a b => (match c with | .tmp t => [t] | _ => []) ++ crds a ++ crds b
  | .block _ c => crds c
  | .loop c => crds c
  | _ => []

def keyR : Nat := 100000
def keyC : Nat := 100001

def losses (fn : Func) : List (Nat × List (Nat × Nat)) := match fn.body with
  | some c =>
    let all := rds c ++ resReads fn; let lr := lrds c; let cr := crds c
    (keyR, ivs (fun t => all.count t == lr.count t) fn.ntmps []) :: (keyC, ivs (fun t => all.count t == 1 && cr.contains t) fn.ntmps []) :: lossesC fn.ntmps all [] c 0
  | none => []

def compLabels : List (Bool × List Cell) → List Nat
  | [] => []
  | p :: r => labelsOf p.2 ++ compLabels r

def SV.labels : SV → List Nat
  | .bad => []
  | .gd _ c => c.labels
  | .one c => c.labels
  | .agg cs => labelsOf cs
  | .tup vs => compLabels vs

def tLabels : List (Nat × SV) → List Nat
  | [] => []
  | p :: r => p.2.labels ++ tLabels r

def bLabels : List (Nat × (Bool × List Cell)) → List Nat
  | [] => []
  | p :: r => labelsOf p.2.2 ++ bLabels r

def notIn : List (Nat × Nat) → Nat → Bool
  | [], _ => true
  | p :: l, i => ifB (decide (p.1 ≤ i) && decide (i ≤ p.2)) false (notIn l i)

def inOrPL (l : List Nat) (i : Nat) : Bool := l.contains i || decide (PL ≤ i)

def lose2 (n : Nat) (t : List (Nat × SV)) (s : List (Nat × SObj)) (b : List (Nat × (Bool × List Cell))) : St :=
  ⟨n, t, akeep (inOrPL (tLabels t ++ bLabels b)) s, b⟩

def St.lose (l : List (Nat × Nat)) (st : St) : St := lose2 st.n (akeep (notIn l) st.t) st.s (akeep (notIn l) st.b)

open Classical in
/-- the limit of ever longer runs of a loop -/
noncomputable def limit {α : Type} (f : Nat → Option α) : Option α :=
  if h : ∃ n a, f n = some a then some h.choose_spec.choose else none

def iterK (rec : St → Option (Ex × St)) : Ex × St → Option (Ex × St)
  | (.normal, s) => rec s
  | (.exit i, s) => some (.exit i, s)
  | (.ret, s) => some (.ret, s)

def nrmK (nrm : St → St) (rec : St → Option (Ex × St)) (s : St) : Option (Ex × St) := rec (nrm s)

def iter (step : St → Option (Ex × St)) (nrm : St → St) : Nat → St → Option (Ex × St)
  | 0, _ => none
  | n + 1, st => bnd (step st) (iterK (nrmK nrm (iter step nrm n)))

noncomputable def loopG (step : St → Option (Ex × St)) (nrm : St → St) (st : St) : Option (Ex × St) :=
  limit fun n => iter step nrm n st

noncomputable def loopD (step : St → Option (Ex × St)) (nrm : St → St) (st : St) : Option (Ex × St) := loopG step nrm (nrm st)

def blockK (id : Nat) : Ex × St → Option (Ex × St)
  | (.exit i, s) => ifB (i == id) (some (.normal, s)) (some (.exit i, s))
  | (.normal, s) => some (.normal, s)
  | (.ret, s) => some (.ret, s)

def condB (f g : St → Option (Ex × St)) (st : St) : SV → Option (Ex × St)
  | .one (.val _ .bool t) => ifB t (f st) (g st)
  | _ => none

def St.loseT (l : List (Nat × Nat)) (st : St) : St := ⟨st.n, akeep (notIn l) st.t, st.s, st.b⟩
def regK (l : List (Nat × Nat)) (s : St) : Option (Ex × St) := some (.normal, s.loseT l)
def exitK (l : List (Nat × Nat)) (r : Ex × St) : Option (Ex × St) := some (r.1, r.2.loseT l)
def dropC (l : List (Nat × Nat)) (st : St) : Operand → St
  | .tmp t => ifB (notIn l t) st (st.loseT [(t, t)])
  | _ => st

/-! regions whose order the machine draws: first operations that commute, then operations that stand behind all before them -/
def flatMode : Val × RMode → Bool
  | (v, .own) => v.k.flat
  | (_, .deep) => true
  | (_, .tv) => false

def flatRes : List (Val × RMode) → Bool
  | [] => true
  | p :: r => flatMode p && flatRes r

def noUpd : List SV → List (Option Val) → Bool
  | [], [] => true
  | _ :: a, none :: r => noUpd a r
  | _, _ => false

/-- what a call hands back, as what nobody writes any more -/
def deepRes : List (Val × RMode) → List (Val × RMode)
  | [] => []
  | p :: r => (p.1, .deep) :: deepRes r

/-- a call that leaves no object of its own -/
def evCallS (env : Env) (F : Sems) (st : St) (g : FuncId) (hs : List Kd) (args : List SV) : Option SV :=
  bnd (sealArgs st (mds env g args) hs args) fun vs => bnd (F g vs) fun r => ifB (!hasTv r.vals && noUpd args (takeU (mds env g args) r.upd) && okSizes r.vals && decide (r.vals.length ≤ 9)) (some (resSV (resComps 0 (deepRes r.vals)))) none

/-- the value of an operation that writes no memory of ours -/
def evOpV (env : Env) (F : Sems) (st : St) : Op → Option SV
  | .move x => some (st.ev x)
  | .pick c a b => bnd (pickV (st.ev c) (st.ev a) (st.ev b)) fun r => ifB r.1 (some (.one (.val false .bool r.2))) none
  | .load t a => evLoad (env.ty t) st (st.ev a)
  | .binOp op t x y _ => evBin (env.ty t) op (st.ev x) (st.ev y)
  | .unOp op _ x => evUn op (st.ev x)
  | .fieldAddr t x f => evFieldAddr (env.ty t) f (st.ev x)
  | .field t x f => evField (env.ty t) f (st.ev x)
  | .indexAddr t x i => evIndexAddr (env.ty t) (st.ev x) (st.ev i)
  | .index t x i => evIndex (env.ty t) (st.ev x) (st.ev i)
  | .extract x i => evExtract i (st.ev x)
  | .slice t x lo hi mx => evSlice (env.ty t) (st.ev x) (evMaybe st lo) (evMaybe st hi) (evMaybe st mx)
  | .call ⟨.builtin .len, ⟨[x]⟩, ⟨ts⟩⟩ => bnd (tyH env ts) fun t => bnd (evLen t (st.ev x)) fun n => tI .i64 (n : Int)
  | .call ⟨.value (.func g), args, ts⟩ => evCallS env F st g (hints env ts.toList) (evs st args.toList)
  | _ => none

def evGV (env : Env) (F : Sems) (st : St) (op : Op) (g : Bool) : Option (Option Cell) → Option SV
  | some r => bnd r fun c => some (.gd g c)
  | none => ifB g (evOpV env F (st.under g) op) (some offV)

def evGD (env : Env) (F : Sems) (st : St) (op : Op) (want : Bool) : Option Nat → Option SV
  | some d => bnd (gcond want (st.ev (.tmp d))) fun g => evGV env F st op g (evLift env st g op)
  | none => none

def evOpD (env : Env) (F : Sems) (ops : List Oper) (st : St) (o : Oper) : Option (Nat × Bool) → Option SV
  | none => evOpV env F st o.op
  | some p => evGD env F st o.op p.2 (dstAt ops p.1)

def evOpsD (env : Env) (F : Sems) (ops : List Oper) : List Oper → St → Option St
  | [], st => some st
  | o :: r, st => bnd (evOpD env F ops st o o.guard) fun v => bnd (st.setT v o.dst) (evOpsD env F ops r)

/-- the slots that an operation looks at -/
def looks (ops : List Oper) (o : Oper) : List Nat := tmpsOf o.op.operands.toList ++ (match o.guard with | some p => (match dstAt ops p.1 with | some d => [d] | none => []) | none => [])

def onList (o : Oper) : List Nat := o.after.toList.map (·.on)

/-- no edge is only the text's or only the compiler's -/
def plainEdges (o : Oper) : Bool := o.after.toList.all fun e => match e.ground with | .textOnly _ => false | .gcOnly _ => false | _ => true

/-- all that stands before an operation, also through others: the lists of the operations before it are given -/
def predsOf (acc : List (List Nat)) (o : Oper) : List Nat := (onList o) ++ (onList o).flatMap fun j => (acc[j]?).getD []

def predsL : List (List Nat) → List Oper → List (List Nat)
  | acc, [] => acc
  | acc, o :: r => predsL (acc ++ [predsOf acc o]) r

/-- an operation among the first m: what it looks at is ordered before it, or written by none of them -/
def drawOp (ops : List Oper) (m i : Nat) (o : Oper) (pr : List Nat) : Bool :=
  plainEdges o && (onList o).all (fun j => decide (j < i)) &&
    (if i < m then (looks ops o).all (fun t => (List.range m).all fun k => k == i || !(dstAt ops k == some t) || pr.contains k) &&
        (List.range m).all (fun k => k == i || o.dst == none || !(dstAt ops k == o.dst))
      else (List.range i).all fun j => pr.contains j)

def drawAll (all : List Oper) (m : Nat) : Nat → List Oper → List (List Nat) → Bool
  | _, [], _ => true
  | i, o :: r, pr :: prs => drawOp all m i o pr && drawAll all m (i + 1) r prs
  | _, _ :: _, [] => false

def simpleOp : Op → Bool
  | .move _ => true
  | .pick _ _ _ => true
  | .load _ _ => true
  | .binOp _ _ _ _ _ => true
  | .unOp _ _ _ => true
  | .fieldAddr _ _ _ => true
  | .field _ _ _ => true
  | .indexAddr _ _ _ => true
  | .index _ _ _ => true
  | .extract _ _ => true
  | .slice _ _ _ _ _ => true
  | .call ⟨.builtin .len, _, _⟩ => true
  | .call ⟨.value (.func _), _, _⟩ => true
  | _ => false

def simples : List Oper → Nat
  | [] => 0
  | o :: r => if simpleOp o.op then simples r + 1 else 0

/-- how many of the region's operations may be taken in any order -/
def drawM (ops : List Oper) : Option Nat := if drawAll ops (simples ops) 0 ops (predsL [] ops) then some (simples ops) else none

def drawsC : Code → List (Nat × Nat)
  | .region id ops true => (match drawM ops.toList with | some m => [(id, m)] | none => [])
  | .seq a b => drawsC a ++ drawsC b
  | .cond _ a b => drawsC a ++ drawsC b
  | .block _ c => drawsC c
  | .loop c => drawsC c
  | _ => []

def regD (env : Env) (F : Sems) (ops : List Oper) (st : St) : Option Nat → Option St
  | some m => bnd (evOpsD env F ops (ops.take m) st) (evOps env F ops (ops.drop m))
  | none => none

noncomputable def evD (env : Env) (F : Sems) (ls : List (Nat × List (Nat × Nat))) (ds : List (Nat × Nat)) : Code → Nat → St → Option (Ex × St)
  | .skip, _, st => some (.normal, st)
  | .region id ops draw, _, st => ifB draw (bnd (regD env F ops.toList st (aget ds id)) (regK (orNil (aget ls keyR)))) (bnd (evOps env F ops.toList ops.toList st) (regK (orNil (aget ls keyR))))
  | .seq a b, n, st => bnd (evD env F ls ds a n st) (iterK (evD env F ls ds b n))
  | .cond c a b, n, st => condB (evD env F ls ds a n) (evD env F ls ds b n) (dropC (orNil (aget ls keyC)) st c) (st.ev c)
  | .block id c, _, st => bnd (evD env F ls ds c id st) (blockK id)
  | .loop c, n, st => bnd (loopD (evD env F ls ds c n) (St.lose (orNil (aget ls n))) st) (exitK (orNil (aget ls (n + keyX))))
  | .exit id, _, st => some (.exit id, st)
  | .ret, _, st => some (.ret, st)
  | _, _, _ => none

/-- what is said of the drawn regions holds -/
def drawsOk (ds : List (Nat × Nat)) : Code → Bool
  | .region id ops true => (match aget ds id with | some m => drawM ops.toList == some m | none => true)
  | .seq a b => drawsOk ds a && drawsOk ds b
  | .cond _ a b => drawsOk ds a && drawsOk ds b
  | .block _ c => drawsOk ds c
  | .loop c => drawsOk ds c
  | _ => true

def draws (fn : Func) : List (Nat × Nat) := match fn.body with
  | some c => (if drawsOk (drawsC c) c then drawsC c else [])
  | none => []

/-! functions -/
def hdrObjs (base : Nat) : List Cell → List (Nat × SObj) → List (Nat × SObj)
  | [], s => s
  | .val _ (.sl e) l :: cs, s => hdrObjs (base + 1) cs (aset s base ⟨e, l⟩)
  | _ :: cs, s => hdrObjs (base + 1) cs s

def own0 (base j : Nat) (v : Val) (st : St) : St :=
  ⟨st.n, aset st.t j (mkSV v.k.isAgg (ownify base (explode true v.k v.x))), hdrObjs base (explode true v.k v.x) st.s, st.b⟩

def initM (j : Nat) (st : St) : Val → St
  | ⟨.ptr k, x⟩ => ⟨st.n, aset st.t j (.one (.bref (PL + j) 0)), st.s, aset st.b (PL + j) (k.isAgg, explode false k x)⟩
  | v => own0 (PL + j * 1000) j v st

def initP (j : Nat) (v : Val) (st : St) : PMode → St
  | .ro => ⟨st.n, aset st.t j (svOf true v), st.s, st.b⟩
  | .mut => initM j st v
  | .mov => own0 (j * 1000) j v st

def initPs : Nat → List PMode → List Val → St → St
  | j, m :: ms, v :: vs, st => initPs (j + 1) ms vs (initP j v st m)
  | _, _, _, st => st

def updS (e : Kd) (l : List e.T) : Option SObj → Option (List e.T)
  | some o => bnd (asL o.k e o.l) fun l' => ifB (l'.length == l.length) (some l') none
  | none => none

def updCs (st : St) (base : Nat) : (k : Kd) → k.T → Option k.T
  | .pair a b, x => bnd (updCs st base a x.1) fun y => bnd (updCs st (base + 1) b x.2) fun z => some (y, z)
  | .sl e, l => updS e l (aget st.s base)
  | k, x => some x

def updB (st : St) (k : Kd) : Option (Bool × List Cell) → Option (Option Val)
  | some b => ifB (noLabel b.2) (bnd (sealX (sealDC st) .self (mkSV b.1 b.2)) fun w => bnd (asV w.k k w.x) fun x => some (some ⟨.ptr k, x⟩)) none
  | none => none

def updM (st : St) (j : Nat) : Val → Option (Option Val)
  | ⟨.ptr k, x⟩ => updB st k (aget st.b (PL + j))
  | v => bnd (updCs st (PL + j * 1000) v.k v.x) fun x => some (some ⟨v.k, x⟩)

def updP (st : St) (j : Nat) (v : Val) : PMode → Option (Option Val)
  | .mut => updM st j v
  | _ => some none

def updPs (st : St) : Nat → List PMode → List Val → Option (List (Option Val))
  | j, m :: ms, v :: vs => bnd (updP st j v m) fun u => bnd (updPs st (j + 1) ms vs) fun us => some (u :: us)
  | _, _, _ => some []

/-- how a result hangs on memory: of its own; what nobody writes any more; perhaps the arguments' -/
def tvMode (tv : Bool) : RMode := ifB tv .tv .deep

def cellMode : Cell → RMode
  | .val tv (.sl _) _ => tvMode tv
  | .val tv (.ptr _) _ => tvMode tv
  | .val tv (.clo _ _) _ => tvMode tv
  | .xsl tv _ _ => tvMode tv
  | _ => .own

def joinMode : RMode → RMode → RMode
  | .own, m => m
  | .deep, .tv => .tv
  | .deep, _ => .deep
  | .tv, _ => .tv

def modeOf : List Cell → RMode
  | [] => .own
  | c :: cs => joinMode (cellMode c) (modeOf cs)

def retSVs (env : Env) (st : St) : List ResultVar → Option (List SV)
  | [] => some []
  | .tmp t :: r => bnd (retSVs env st r) fun l => some (st.ev (.tmp t) :: l)
  | .cell a t :: r => bnd (evLoad (env.ty t) st (st.ev (.tmp a))) fun v => bnd (retSVs env st r) fun l => some (v :: l)

def retHint (t : TyE) : Kd := ifB t.agg t.hint .self

def retVals (env : Env) (st : St) : List TypeId → List SV → Option (List (Val × RMode))
  | t :: ts, v :: vs => bnd (sealX (sealRC st) (retHint (env.ty t)) v) fun w => bnd (retVals env st ts vs) fun r => some ((w, modeOf v.cells) :: r)
  | [], [] => some []
  | _, _ => none

def allCells : List SV → List Cell
  | [] => []
  | v :: vs => v.cells ++ allCells vs

def okRet (vs : List SV) : Bool := nodup (labelsOf (allCells vs))

def fin (env : Env) (rs : List ResultVar) (ts : List TypeId) (ms : List PMode) (args : List Val) (st : St) : Option Res :=
  bnd (retSVs env st rs) fun vs => ifB (okRet vs) (bnd (retVals env st ts vs) fun r => bnd (updPs st 0 ms args) fun u => some ⟨r, u⟩) none

def finK (env : Env) (rs : List ResultVar) (ts : List TypeId) (ms : List PMode) (args : List Val) : Ex × St → Option Res
  | (.exit _, _) => none
  | (.normal, st) => fin env rs ts ms args st
  | (.ret, st) => fin env rs ts ms args st

def st0 (n : Nat) : St := ⟨n, [], [], []⟩

/-- the arguments that are written have few cells -/
def okArgs : List PMode → List Val → Bool
  | .ro :: ms, _ :: vs => okArgs ms vs
  | _ :: ms, v :: vs => decide (v.k.size ≤ 100) && okArgs ms vs
  | _, _ => true

noncomputable def evBody (env : Env) (F : Sems) (fn : Func) (ms : List PMode) (args : List Val) : Option Code → Option Res
  | some c => ifB (okArgs ms args && decide (args.length ≤ 1000) && decide (fn.ntmps ≤ 100000)) (bnd (evD env F (losses fn) (draws fn) c 0 (initPs 0 ms args (st0 (args.length + (fn.ntmps - args.length))))) (finK env fn.results.toList fn.resultTypes.toList ms args)) none
  | none => none

noncomputable def evFn (env : Env) (F : Sems) (f : FuncId) (fn : Func) (args : List Val) : Option Res :=
  evBody env F fn (mds env f args) args fn.body

end Go.Ev

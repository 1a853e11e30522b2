/- The abstract machine: values, heap, operations, code and calls as functions that the kernel can run. -/
import GoSem.Step
set_option autoImplicit false
set_option linter.unusedVariables false
noncomputable section
namespace Go.Ab

/-! The recursors are taken by name: so the kernel runs them fast. -/
def _root_.Option.ob {α β : Type} (o : Option α) (f : α → Option β) : Option β := Option.rec (motive := fun _ => Option β) none f o
def cb {α : Type} (b : Bool) (x y : α) : α := Bool.rec (motive := fun _ => α) y x b
@[simp] theorem ob_none {α β : Type} (f : α → Option β) : (none : Option α).ob f = none := rfl
@[simp] theorem ob_some {α β : Type} (a : α) (f : α → Option β) : (some a).ob f = f a := rfl
@[simp] theorem cb_true {α : Type} (x y : α) : cb true x y = x := rfl
@[simp] theorem cb_false {α : Type} (x y : α) : cb false x y = y := rfl
theorem ob_eq {α β : Type} {o : Option α} {f : α → Option β} {b : β} (h : o.ob f = some b) : ∃ a, o = some a ∧ f a = some b := by
  cases o with
  | none => cases h
  | some a => exact ⟨a, rfl, h⟩
theorem cb_eq {α : Type} (b : Bool) (x y : α) : cb b x y = if b then x else y := by cases b <;> rfl

/-- Abstract values: addresses name abstract blocks; a slice's capacity may be unknown. -/
inductive AV where
  | undef
  | int (k : IntKind) (n : Int)
  | bool (b : Bool)
  | str (s : List UInt8)
  | ptr (p : Option (Nat × Nat))
  | slice (p : Option (Nat × Nat)) (len : Nat) (cap : Option Nat)
  | map (r : Option Nat)
  | func (f : FuncId) (first captured : List AV)
  | yield (l : Nat)
  | nilFunc
  | iface (t : TypeId) (v : AV)
  | nilIface
  | agg (cs : List AV)
  | tuple (vs : List AV)
  | fsl (nl : Bool) (len : Nat) (cs : List AV)
  | fptr (cs : List AV)
  | any
  deriving Inhabited

mutual
def AV.beq : AV → AV → Bool
  | .undef, .undef => true
  | .int k n, .int j m => decide (k = j) && decide (n = m)
  | .bool a, .bool b => a == b
  | .str a, .str b => decide (a = b)
  | .ptr a, .ptr b => decide (a = b)
  | .slice a l c, .slice b m d => decide (a = b) && decide (l = m) && decide (c = d)
  | .map a, .map b => decide (a = b)
  | .func f x y, .func g z w => decide (f = g) && AV.beqL x z && AV.beqL y w
  | .yield a, .yield b => decide (a = b)
  | .nilFunc, .nilFunc => true
  | .iface t v, .iface u w => decide (t = u) && AV.beq v w
  | .nilIface, .nilIface => true
  | .agg a, .agg b => AV.beqL a b
  | .tuple a, .tuple b => AV.beqL a b
  | .fsl n l a, .fsl m k b => (n == m) && decide (l = k) && AV.beqL a b
  | .fptr a, .fptr b => AV.beqL a b
  | .any, .any => true
  | _, _ => false
def AV.beqL : List AV → List AV → Bool
  | [], [] => true
  | a :: as, b :: bs => AV.beq a b && AV.beqL as bs
  | _, _ => false
end

/-- A trie over natural numbers. -/
inductive T (α : Type) where
  | nil
  | node (v : α) (l r : T α)

def T.get {α : Type} (d : α) (t : T α) : Nat → α :=
  T.rec (motive := fun _ => Nat → α) (fun _ => d) (fun v _ _ gl gr n => cb (Nat.beq n 0) v (cb (Nat.beq (Nat.mod n 2) 1) (gl (Nat.div n 2)) (gr (Nat.pred (Nat.div n 2))))) t

def T.path {α : Type} (d x : α) (f : Nat) : Nat → T α :=
  Nat.rec (motive := fun _ => Nat → T α) (fun _ => .nil) (fun _ g n => cb (Nat.beq n 0) (.node x .nil .nil) (cb (Nat.beq (Nat.mod n 2) 1) (.node d (g (Nat.div n 2)) .nil) (.node d .nil (g (Nat.pred (Nat.div n 2)))))) f

def T.put {α : Type} (d x : α) (t : T α) : Nat → Nat → T α :=
  T.rec (motive := fun _ => Nat → Nat → T α) (fun f n => T.path d x f n)
    (fun v l r gl gr f n => cb (Nat.beq n 0) (.node x l r) (cb (Nat.beq (Nat.mod n 2) 1) (.node v (gl (Nat.pred f) (Nat.div n 2)) r) (.node v l (gr (Nat.pred f) (Nat.pred (Nat.div n 2)))))) t

def T.set {α : Type} (d : α) (t : T α) (n : Nat) (x : α) : T α := T.put d x t (Nat.succ n) n

abbrev Fr := T AV

/-- How a loop over a function stands: its rounds may go on; a round runs; it is left by a jump. -/
inductive LS where
  | ready
  | busy
  | done (jump : Code)

/-- A block: gone; a row of cells of an element type, its own or read only; a map; a loop's record; the block of its deferred calls. -/
inductive Blk where
  | dead
  | cells (own : Bool) (e : TypeId) (len : Nat) (cs : List AV)
  | entries (es : List (AV × AV))
  | loop (fn : FuncId) (n : Nat) (fr : Fr) (params : List Tmp) (assign body : Code) (d : Nat) (st : LS)
  | dfr

structure Heap where
  next : Nat
  m : T Blk

def Heap.get (H : Heap) (b : Nat) : Blk := H.m.get .dead b
def Heap.put (H : Heap) (b : Nat) (x : Blk) : Heap := { H with m := T.set .dead H.m b x }
def Heap.new (H : Heap) (x : Blk) : Heap := { next := H.next + 1, m := T.set .dead H.m H.next x }

def Fr.get (fr : Fr) (t : Nat) : AV := T.get .undef fr t
def Fr.put (n : Nat) (fr : Fr) (dst : Option Tmp) (v : AV) : Option Fr :=
  match dst with
  | none => some fr
  | some d => cb (Nat.ble (Nat.succ d) n) (some (T.set .undef fr d v)) none

/-- What the machine asks of types. -/
inductive AD where
  | bool | int (k : IntKind) | string
  | ptr (e : TypeId) | slice (e : TypeId) | array (n : Nat) (e : TypeId) | map (k e : TypeId)
  | struct (fs : List (Nat × TypeId))
  | func | iface (bare : Bool)

structure ATy where
  desc : AD
  size : Nat
  bytes : Nat
  zero : AV
  eqs : Bool      -- may be held against each other field by field

inductive AX where
  | normal
  | exit (id : Nat)
  | ret

structure St where
  fr : Fr
  ds : List Nat     -- the blocks of the deferred calls of loops over functions
  H : Heap

/-- What is known of a block of code: the code; where it ends, of where it begins. -/
structure LSum where
  code : Code
  run : Nat → St → Option (AX × St)

structure Cx where
  ty : TypeId → Option ATy
  fn : FuncId → Option Func
  sum : FuncId → List AV → Heap → Option (AV × Heap)
  loop : FuncId → Nat → Option LSum := fun _ _ => none

def ofConst : Value → Option AV
  | .int k n => some (.int k n)
  | .bool b => some (.bool b)
  | .string s => some (.str s.data.toList)
  | .pointer none => some (.ptr none)
  | .slice none 0 0 => some (.slice none 0 (some 0))
  | .map none => some (.map none)
  | .nilFunc => some .nilFunc
  | .nilIface => some .nilIface
  | _ => none

abbrev Env := Tmp → AV

/-- what is unknown isn't looked at. -/
def known (v : AV) : Option AV :=
  match v with
  | .any => none
  | v => some v

def ev (g : Env) : Operand → Option AV
  | .tmp t => known (g t)
  | .const v => ofConst v
  | .func f => some (.func f [] [])
  | .global _ => none

def evs (g : Env) (l : List Operand) : Option (List AV) :=
  List.rec (motive := fun _ => Option (List AV)) (some []) (fun x _ r => (ev g x).ob fun v => r.ob fun vs => some (v :: vs)) l
@[simp] theorem evs_nil (g : Env) : evs g [] = some [] := rfl
@[simp] theorem evs_cons (g : Env) (x : Operand) (r : List Operand) : evs g (x :: r) = (ev g x).ob fun v => (evs g r).ob fun vs => some (v :: vs) := rfl

def evParts (fr : Env) : List (Nat × Operand) → Option (List (Nat × AV))
  | [] => some []
  | (i, x) :: r => (ev fr x).ob fun v => (evParts fr r).ob fun vs => some ((i, v) :: vs)

def AV.cells : AV → List AV
  | .agg cs => cs
  | v => [v]

def isAggB : AD → Bool
  | .struct _ | .array _ _ => true
  | _ => false

def listAt {α : Type} (l : List α) : Nat → Option α :=
  List.rec (motive := fun _ => Nat → Option α) (fun _ => none) (fun a _ g n => cb (Nat.beq n 0) (some a) (g (Nat.pred n))) l

/-- n cells of a row from an offset on. -/
def rowCut (cs : List AV) (off n : Nat) : List AV := List.take n (List.drop off cs)

/-- a row with cells from an offset on. -/
def rowSet : List AV → Nat → List AV → List AV
  | cs, 0, vs => over vs cs
  | [], _ + 1, _ => []
  | c :: cs, off + 1, vs => c :: rowSet cs off vs
where
  over : List AV → List AV → List AV
  | [], cs => cs
  | v :: vs, _ :: cs => v :: over vs cs
  | _ :: _, [] => []

def mkCells (own : Bool) (e : TypeId) (vs : List AV) : Blk := .cells own e vs.length vs

/-- n cells of a block from an offset on. -/
def cellsAt (H : Heap) (p : Nat × Nat) (n : Nat) : Option (List AV) :=
  match H.get p.1 with
  | .cells _ _ len cs => if p.2 + n ≤ len then some (rowCut cs p.2 n) else none
  | _ => none

def AV.isCell : AV → Bool
  | .agg _ | .tuple _ | .undef | .any => false
  | _ => true

def storeAt (H : Heap) (p : Nat × Nat) (vs : List AV) : Option Heap :=
  match H.get p.1 with
  | .cells true e len cs => if vs.all AV.isCell = true ∧ p.2 + vs.length ≤ len then some (H.put p.1 (.cells true e len (rowSet cs p.2 vs))) else none
  | _ => none

def aLoad0 (cx : Cx) (t : TypeId) (H : Heap) (x : AV) : Option AV :=
  match cx.ty t, x with
  | some ty, .ptr (some p) =>
    if isAggB ty.desc then (cellsAt H p ty.size).ob fun cs => some (.agg cs)
    else match H.get p.1 with
      | .cells _ _ len cs => if p.2 < len then listAt cs p.2 else none
      | _ => none
  | _, _ => none

/-- a frozen row's first cells. -/
def fLoad (cx : Cx) (t : TypeId) (cs : List AV) : Option AV :=
  (cx.ty t).ob fun ty => cb (isAggB ty.desc) (cb (Nat.ble ty.size cs.length) (some (.agg (rowCut cs 0 ty.size))) none) (listAt cs 0)
def aLoad (cx : Cx) (t : TypeId) (H : Heap) (x : AV) : Option AV :=
  match x with
  | .fptr cs => fLoad cx t cs
  | x => aLoad0 cx t H x

def aStore (cx : Cx) (t : TypeId) (H : Heap) (x v : AV) : Option Heap :=
  match cx.ty t, x with
  | some ty, .ptr (some p) => if v.cells.length = ty.size then storeAt H p v.cells else none
  | _, _ => none

def aPart (cx : Cx) (t : TypeId) (cs : List AV) (off : Nat) : Option AV :=
  match cx.ty t with
  | some ty => if isAggB ty.desc then (if off + ty.size ≤ cs.length then some (.agg (rowCut cs off ty.size)) else none) else listAt cs off
  | none => none

def fillParts (place : Nat → Option (Nat × Nat)) (cells : List AV) : List (Nat × AV) → Option (List AV)
  | [] => some cells
  | (i, v) :: rest =>
    match place i with
    | none => none
    | some (off, size) => if v.cells.length = size ∧ off + size ≤ cells.length then fillParts place (rowSet cells off v.cells) rest else none

def reps {α : Type} : Nat → List α → List α
  | 0, _ => []
  | n + 1, l => l ++ reps n l

def aBuild (cx : Cx) (t : TypeId) (parts : List (Nat × AV)) : Option AV :=
  match cx.ty t with
  | some ty =>
    match ty.desc with
    | .struct fs => (fillParts (fun i => (listAt fs i).ob fun f => (cx.ty f.2).ob fun ft => some (f.1, ft.size)) ty.zero.cells parts).ob fun cs => some (.agg cs)
    | .array _ e => match cx.ty e with
      | some et => (fillParts (fun i => some (i * et.size, et.size)) ty.zero.cells parts).ob fun cs => some (.agg cs)
      | none => none
    | _ => none
  | none => none

/-- What an allocation makes: its value, of the new block's number; the block. -/
abbrev Made := (Nat → AV) × Blk

def mkPtr (e : TypeId) (cs : List AV) : Made := (fun b => .ptr (some (b, 0)), mkCells true e cs)

def aBuildSlice (cx : Cx) (t : TypeId) (len : Nat) (parts : List (Nat × AV)) : Option Made :=
  match cx.ty t with
  | some { desc := .slice e, .. } =>
    match cx.ty e with
    | some et => if len * et.size ≤ 16777216 then
        (fillParts (fun i => some (i * et.size, et.size)) (reps len et.zero.cells) parts).ob fun cs =>
          some (fun b => .slice (some (b, 0)) len (some len), mkCells true e cs)
      else none
    | none => none
  | _ => none

def aMakeSlice (cx : Cx) (t : TypeId) (l c : AV) : Option Made :=
  match cx.ty t, l, c with
  | some { desc := .slice e, .. }, .int _ len, .int _ cap =>
    match cx.ty e with
    | some et => if 0 ≤ len ∧ len ≤ cap ∧ cap < 9223372036854775808 ∧ et.bytes * cap ≤ 281474976710656 then
        some (fun b => .slice (some (b, 0)) len.toNat (some cap.toNat), mkCells true e (reps cap.toNat et.zero.cells))
      else none
    | none => none
  | _, _, _ => none

/-! Numbers, in a form that the kernel reckons fast. -/
def iltB : Int → Int → Bool
  | .ofNat a, .ofNat b => Nat.ble (Nat.succ a) b
  | .negSucc _, .ofNat _ => true
  | .ofNat _, .negSucc _ => false
  | .negSucc a, .negSucc b => Nat.ble (Nat.succ b) a
def ieqB : Int → Int → Bool
  | .ofNat a, .ofNat b => Nat.beq a b
  | .negSucc _, .ofNat _ => false
  | .ofNat _, .negSucc _ => false
  | .negSucc a, .negSucc b => Nat.beq b a
def ileB (a b : Int) : Bool := !(iltB b a)

def wrapN (k : IntKind) (m : Nat) : Int :=
  match k with
  | .u8 => .ofNat (Nat.mod m 256)
  | .u16 => .ofNat (Nat.mod m 65536)
  | .u32 => .ofNat (Nat.mod m 4294967296)
  | .u64 => .ofNat (Nat.mod m 18446744073709551616)
  | .i64 => cb (Nat.ble m 9223372036854775807) (.ofNat m) (IntKind.wrap .i64 (.ofNat m))
  | k => k.wrap (.ofNat m)

def wrapS (k : IntKind) (m : Nat) : Int :=
  match k with
  | .i64 => cb (Nat.ble m 9223372036854775807) (.negSucc m) (IntKind.wrap .i64 (.negSucc m))
  | k => k.wrap (.negSucc m)

def wrapA (k : IntKind) (n : Int) : Int :=
  match n with
  | .ofNat m => wrapN k m
  | .negSucc m => wrapS k m

/-- below it nothing wraps. -/
def topK : IntKind → Nat
  | .i8 => 128
  | .u8 => 256
  | .i16 => 32768
  | .u16 => 65536
  | .i32 => 2147483648
  | .u32 => 4294967296
  | .i64 => 9223372036854775808
  | .u64 => 18446744073709551616

def fastB (k : IntKind) (f : Nat → Nat → Nat) (a b slow : Int) : Int :=
  match a with
  | .ofNat x => match b with
    | .ofNat y => cb (Nat.ble (Nat.succ x) (topK k) && Nat.ble (Nat.succ y) (topK k)) (.ofNat (f x y)) slow
    | .negSucc _ => slow
  | .negSucc _ => slow

def andN (k : IntKind) (a b : Int) : Int := fastB k Nat.land a b (k.wrap (BitVec.ofInt k.bits a &&& BitVec.ofInt k.bits b).toNat)
def iAnd (k : IntKind) (a b : Int) : AV := .int k (andN k a b)
def orN (k : IntKind) (a b : Int) : Int := fastB k Nat.lor a b (k.wrap (BitVec.ofInt k.bits a ||| BitVec.ofInt k.bits b).toNat)
def iOr (k : IntKind) (a b : Int) : AV := .int k (orN k a b)
def xorN (k : IntKind) (a b : Int) : Int := fastB k Nat.xor a b (k.wrap (BitVec.ofInt k.bits a ^^^ BitVec.ofInt k.bits b).toNat)
def iXor (k : IntKind) (a b : Int) : AV := .int k (xorN k a b)
def andNotN (k : IntKind) (a b : Int) : Int := k.wrap (BitVec.ofInt k.bits a &&& ~~~(BitVec.ofInt k.bits b)).toNat
def iAndNot (k : IntKind) (a b : Int) : AV := .int k (andNotN k a b)
def iQuo (k : IntKind) (a b : Int) : Option AV := cb (ieqB b 0) none (some (.int k (wrapA k (a.tdiv b))))
def iRem (k : IntKind) (a b : Int) : Option AV := cb (ieqB b 0) none (some (.int k (a.tmod b)))
def iLss (a b : Int) : AV := .bool (iltB a b)
def iLeq (a b : Int) : AV := .bool (ileB a b)

def aInt (op : BinOp) (k : IntKind) (a b : Int) : Option AV :=
  match op with
  | .add => some (.int k (wrapA k (Int.add a b)))
  | .sub => some (.int k (wrapA k (Int.sub a b)))
  | .mul => some (.int k (wrapA k (Int.mul a b)))
  | .quo => iQuo k a b
  | .rem => iRem k a b
  | .and => some (iAnd k a b)
  | .or => some (iOr k a b)
  | .xor => some (iXor k a b)
  | .andNot => some (iAndNot k a b)
  | .eql => some (.bool (ieqB a b))
  | .neq => some (.bool !(ieqB a b))
  | .lss => some (iLss a b)
  | .leq => some (iLeq a b)
  | .gtr => some (iLss b a)
  | .geq => some (iLeq b a)
  | .shl => none
  | .shr => none

def bytesEq : List UInt8 → List UInt8 → Bool
  | [], [] => true
  | a :: as, b :: bs => Nat.beq a.toNat b.toNat && bytesEq as bs
  | _, _ => false

def sAdd (a b : List UInt8) : Option AV := if a.length + b.length ≤ 9223372036854775807 then some (.str (a ++ b)) else none

def aStr (op : BinOp) (a b : List UInt8) : Option AV :=
  match op with
  | .add => sAdd a b
  | .eql => some (.bool (bytesEq a b))
  | .neq => some (.bool !(bytesEq a b))
  | .lss => some (.bool (Op.bytesLess a b))
  | .leq => some (.bool (Op.bytesLess a b || bytesEq a b))
  | .gtr => some (.bool !(Op.bytesLess a b || bytesEq a b))
  | .geq => some (.bool !(Op.bytesLess a b))
  | _ => none

/-! Views of values, each a small function. -/
def AV.int? : AV → Option (IntKind × Int)
  | .int k n => some (k, n)
  | _ => none
def AV.bool? : AV → Option Bool
  | .bool b => some b
  | _ => none
def AV.str? : AV → Option (List UInt8)
  | .str s => some s
  | _ => none
def AV.ptr? : AV → Option (Option (Nat × Nat))
  | .ptr p => some p
  | _ => none
def AV.slice? : AV → Option (Option (Nat × Nat) × Nat × Option Nat)
  | .slice p l c => some (p, l, c)
  | _ => none
def AV.map? : AV → Option (Option Nat)
  | .map r => some r
  | _ => none
def AV.agg? : AV → Option (List AV)
  | .agg cs => some cs
  | _ => none
def AV.tuple? : AV → Option (List AV)
  | .tuple cs => some cs
  | _ => none

/-- pointers, slices, maps, functions held against each other, by sight of nil, or within one block. -/
def eqPtr (cx : Cx) (e : TypeId) (a b : Option (Nat × Nat)) : Option Bool :=
  match a with
  | none => some b.isNone
  | some a => match b with
    | none => some false
    | some b => if a.1 = b.1 then (cx.ty e).ob fun et => if et.size = 0 then none else some (decide (a.2 = b.2)) else none
def eqNil {α : Type} (a b : Option α) : Option Bool :=
  match a with
  | none => some b.isNone
  | some _ => match b with
    | none => some false
    | some _ => none
def eqFunc (x y : AV) : Option Bool :=
  match x with
  | .nilFunc => match y with
    | .nilFunc => some true
    | .func _ _ _ => some false
    | .yield _ => some false
    | _ => none
  | .func _ _ _ => match y with
    | .nilFunc => some false
    | _ => none
  | .yield _ => match y with
    | .nilFunc => some false
    | _ => none
  | _ => none
def eqInt (x y : AV) : Option Bool := x.int?.ob fun a => y.int?.ob fun b => if a.1 = b.1 then some (ieqB a.2 b.2) else none

abbrev EqF := TypeId → AV → AV → Option Bool

def eqFields (cx : Cx) (eq : EqF) (xs ys : List AV) : List (Nat × TypeId) → Option Bool
  | [] => some true
  | f :: fs => (aPart cx f.2 xs f.1).ob fun x => (aPart cx f.2 ys f.1).ob fun y => (eq f.2 x y).ob fun b => cb b (eqFields cx eq xs ys fs) (some false)

def eqElems (cx : Cx) (eq : EqF) (e : TypeId) (sz : Nat) (xs ys : List AV) : Nat → Nat → Option Bool
  | 0, _ => some true
  | n + 1, i => (aPart cx e xs (i * sz)).ob fun x => (aPart cx e ys (i * sz)).ob fun y => (eq e x y).ob fun b => cb b (eqElems cx eq e sz xs ys n (i + 1)) (some false)

def eqAgg (ok : Bool) (x y : AV) (f : List AV → List AV → Option Bool) : Option Bool :=
  cb ok (x.agg?.ob fun xs => y.agg?.ob fun ys => f xs ys) none

def eqAt (cx : Cx) (eq : EqF) (ty : ATy) (x y : AV) : Option Bool :=
  match ty.desc with
  | .bool => x.bool?.ob fun a => y.bool?.ob fun b => some (a == b)
  | .int _ => eqInt x y
  | .string => x.str?.ob fun a => y.str?.ob fun b => some (bytesEq a b)
  | .ptr e => x.ptr?.ob fun a => y.ptr?.ob fun b => eqPtr cx e a b
  | .slice _ => x.slice?.ob fun a => y.slice?.ob fun b => eqNil a.1 b.1
  | .map _ _ => x.map?.ob fun a => y.map?.ob fun b => eqNil a b
  | .func => eqFunc x y
  | .struct fs => eqAgg ty.eqs x y fun xs ys => eqFields cx eq xs ys fs
  | .array n e => eqAgg ty.eqs x y fun xs ys => (cx.ty e).ob fun et => eqElems cx eq e et.size xs ys n 0
  | .iface _ => none

def aEq (cx : Cx) : Nat → EqF
  | 0, _, _, _ => none
  | d + 1, t, x, y => (cx.ty t).ob fun ty => eqAt cx (aEq cx d) ty x y

def shlN (k : IntKind) (a : Int) (n : Nat) : Int := wrapA k (Int.mul a (.ofNat (Nat.pow 2 n)))
def shrN (a : Int) (n : Nat) : Int :=
  match a with
  | .ofNat x => .ofNat (Nat.div x (Nat.pow 2 n))
  | a => a.fdiv (.ofNat (Nat.pow 2 n))
def shN (k : IntKind) (b : Nat) : Nat := cb (Nat.ble b k.bits) b k.bits
def shl (k : IntKind) (a b : Int) : Option AV := cb (iltB b 0) none (some (.int k (shlN k a (shN k b.toNat))))
def shr (k : IntKind) (a b : Int) : Option AV := cb (iltB b 0) none (some (.int k (shrN a (shN k b.toNat))))

def binInt (op : BinOp) (k : IntKind) (a : Int) (k' : IntKind) (b : Int) : Option AV :=
  match op with
  | .shl => shl k a b
  | .shr => shr k a b
  | op => if k = k' then aInt op k a b else none

def binOther0 (cx : Cx) (op : BinOp) (t : TypeId) (x y : AV) : Option AV :=
  match op with
  | .eql => (aEq cx 100 t x y).ob fun b => some (.bool b)
  | .neq => (aEq cx 100 t x y).ob fun b => some (.bool !b)
  | _ => none

/-- a frozen row against nil. -/
def isSliceD (cx : Cx) (t : TypeId) : Bool :=
  match cx.ty t with
  | some ty => match ty.desc with
    | .slice _ => true
    | _ => false
  | none => false
def fNil (cx : Cx) (op : BinOp) (t : TypeId) (nl : Bool) : Option AV :=
  cb (isSliceD cx t) (match op with
    | .eql => some (.bool nl)
    | .neq => some (.bool !nl)
    | _ => none) none
def AV.isNil : AV → Bool
  | .slice p _ _ => p.isNone
  | _ => false
def binOther (cx : Cx) (op : BinOp) (t : TypeId) (x y : AV) : Option AV :=
  match x with
  | .fsl nl _ _ => cb y.isNil (fNil cx op t nl) none
  | x => match y with
    | .fsl nl _ _ => cb x.isNil (fNil cx op t nl) none
    | y => binOther0 cx op t x y

def aBin (cx : Cx) (op : BinOp) (t : TypeId) (x y : AV) : Option AV :=
  match x with
  | .int k a => y.int?.ob fun b => binInt op k a b.1 b.2
  | .str a => y.str?.ob fun b => aStr op a b
  | .any => none
  | x => binOther cx op t x y

def uNeg (x : AV) : Option AV := x.int?.ob fun a => some (.int a.1 (wrapA a.1 (Int.sub 0 a.2)))
def uXor (x : AV) : Option AV := x.int?.ob fun a => some (iXor a.1 (if a.1.signed then -1 else a.1.max) a.2)
def uNot (x : AV) : Option AV := x.bool?.ob fun b => some (.bool !b)

def aUn (op : UnOp) (x : AV) : Option AV :=
  match op with
  | .neg => uNeg x
  | .xor => uXor x
  | .not => uNot x
  | .plus => none

def byteOf : AV → Option UInt8
  | .int .u8 n => some (UInt8.ofNat n.toNat)
  | _ => none

def bytesOf : List AV → Option (List UInt8)
  | [] => some []
  | v :: r => (byteOf v).ob fun b => (bytesOf r).ob fun l => some (b :: l)

def ofBytes (s : List UInt8) : List AV := s.map fun b => .int .u8 b.toNat

def isU8 (cx : Cx) (e : TypeId) : Bool :=
  match cx.ty e with
  | some { desc := .int .u8, .. } => true
  | _ => false

def convInt (k : IntKind) (x : AV) : Option AV := x.int?.ob fun a => some (.int k (wrapA k a.2))

def sliceStr (cx : Cx) (e : TypeId) (x : AV) (H : Heap) : Option AV :=
  x.slice?.ob fun a => cb (isU8 cx e) (match a.1 with
    | none => some (.str [])
    | some p => (cellsAt H p a.2.1).ob fun cs => (bytesOf cs).ob fun l => some (.str l)) none

def convStr (cx : Cx) (s : ATy) (x : AV) (H : Heap) : Option AV :=
  match s.desc with
  | .string => x.str?.ob fun l => some (.str l)
  | .slice e => sliceStr cx e x H
  | _ => none

def isOwn (H : Heap) (p : Option (Nat × Nat)) : Bool :=
  match p with
  | none => false
  | some a => match H.get a.1 with
    | .cells own _ _ _ => own
    | _ => false

def convSlice (cx : Cx) (same : Bool) (s : ATy) (e : TypeId) (x : AV) (H : Heap) : Option AV :=
  match s.desc with
  | .slice _ => x.slice?.ob fun a => cb (same && isU8 cx e && isOwn H a.1 && Nat.ble 1 a.2.1) (some (.slice a.1 a.2.1 a.2.2)) none
  | _ => none

/-- a conversion that makes no memory. -/
def aConv0 (cx : Cx) (src dst : TypeId) (x : AV) (H : Heap) : Option AV :=
  (cx.ty src).ob fun s => (cx.ty dst).ob fun d =>
    match d.desc with
    | .int k => convInt k x
    | .string => convStr cx s x H
    | .slice e => convSlice cx (decide (src = dst)) s e x H
    | _ => none

/-- a frozen row as a text. -/
def fStr (cx : Cx) (src dst : TypeId) (nl : Bool) (len : Nat) (cs : List AV) : Option AV :=
  (cx.ty src).ob fun s => (cx.ty dst).ob fun d =>
    match d.desc with
    | .string => match s.desc with
      | .slice e => cb (isU8 cx e && Nat.beq cs.length len) ((bytesOf cs).ob fun l => some (.str l)) none
      | _ => none
    | _ => none
def aConv (cx : Cx) (src dst : TypeId) (x : AV) (H : Heap) : Option AV :=
  match x with
  | .fsl nl len cs => fStr cx src dst nl len cs
  | x => aConv0 cx src dst x H

def isStringT (cx : Cx) (t : TypeId) : Bool :=
  match cx.ty t with
  | some { desc := .string, .. } => true
  | _ => false
def isSliceT (cx : Cx) (t : TypeId) : Option TypeId :=
  match cx.ty t with
  | some { desc := .slice e, .. } => some e
  | _ => none

/-- does a conversion make bytes of a string? -/
def makesBytes (cx : Cx) (src dst : TypeId) : Bool := isStringT cx src && (isSliceT cx dst).isSome

def isOne (cx : Cx) (e : TypeId) : Bool :=
  match cx.ty e with
  | some ty => Nat.beq ty.size 1
  | none => false

def aBytes (cx : Cx) (dst : TypeId) (x : AV) : Option Made :=
  (isSliceT cx dst).ob fun e => x.str?.ob fun l => cb (isU8 cx e && isOne cx e) (some (fun b => .slice (some (b, 0)) l.length none, mkCells true e (ofBytes l))) none

def boundInt (i : Int) (most : Nat) : Option Nat :=
  match i with
  | .ofNat n => cb (Nat.ble n most) (some n) none
  | .negSucc _ => none

def boundOf (x : Option AV) (d most : Nat) : Option Nat :=
  match x with
  | none => some d
  | some v => v.int?.ob fun a => boundInt a.2 most

def evO (fr : Env) : Option Operand → Option (Option AV)
  | none => some none
  | some x => (ev fr x).ob fun v => some (some v)

def place (a : Nat × Nat) (n : Nat) : Nat × Nat := (a.1, a.2 + n)

def sliceStrAt (s : List UInt8) (lo hi mx : Option AV) : Option AV :=
  cb mx.isSome none ((boundOf hi s.length s.length).ob fun h => (boundOf lo 0 h).ob fun l => some (.str (List.take (h - l) (List.drop l s))))

/-- a row of so many, of which one may come up to a place. -/
def sliceRow (size : Nat) (p : Option (Nat × Nat)) (len cap : Nat) (lo hi mx : Option AV) : Option AV :=
  cb (mx.isSome && hi.isNone) none ((boundOf mx cap cap).ob fun m => (boundOf hi len m).ob fun h => (boundOf lo 0 h).ob fun l =>
    some (.slice (p.map fun a => place a (l * size)) (h - l) (some (m - l))))

def sliceOpen (size : Nat) (a : Nat × Nat) (len : Nat) (lo hi : Option AV) : Option AV :=
  (boundOf hi len len).ob fun h => (boundOf lo 0 h).ob fun l => some (.slice (some (place a (l * size))) (h - l) none)

def sliceSlice (size : Nat) (x : Option (Nat × Nat) × Nat × Option Nat) (lo hi mx : Option AV) : Option AV :=
  match x.2.2 with
  | some cap => sliceRow size x.1 x.2.1 cap lo hi mx
  | none => match x.1 with
    | none => none
    | some a => cb mx.isSome (sliceRow size (some a) x.2.1 x.2.1 lo hi mx) (sliceOpen size a x.2.1 lo hi)

def aSlice0 (cx : Cx) (t : TypeId) (x : AV) (lo hi mx : Option AV) : Option AV :=
  (cx.ty t).ob fun ty =>
    match ty.desc with
    | .string => x.str?.ob fun s => sliceStrAt s lo hi mx
    | .slice e => (cx.ty e).ob fun et => x.slice?.ob fun s => sliceSlice et.size s lo hi mx
    | .array n e => (cx.ty e).ob fun et => x.ptr?.ob fun p => cb p.isSome (sliceRow et.size p n n lo hi mx) none
    | _ => none

def fCut (size : Nat) (nl : Bool) (len : Nat) (cs : List AV) (lo hi mx : Option AV) : Option AV :=
  cb (mx.isSome || !(Nat.beq cs.length (Nat.mul len size))) none ((boundOf hi len len).ob fun h => (boundOf lo 0 h).ob fun l => some (.fsl nl (h - l) (rowCut cs (l * size) ((h - l) * size))))
def fSlice (cx : Cx) (t : TypeId) (nl : Bool) (len : Nat) (cs : List AV) (lo hi mx : Option AV) : Option AV :=
  (cx.ty t).ob fun ty =>
    match ty.desc with
    | .slice e => (cx.ty e).ob fun et => fCut et.size nl len cs lo hi mx
    | _ => none
def aSlice (cx : Cx) (t : TypeId) (x : AV) (lo hi mx : Option AV) : Option AV :=
  match x with
  | .fsl nl len cs => fSlice cx t nl len cs lo hi mx
  | x => aSlice0 cx t x lo hi mx

def inRange (i : Int) (n : Nat) : Bool :=
  match i with
  | .ofNat m => Nat.ble (Nat.succ m) n
  | .negSucc _ => false

def addrAt (cx : Cx) (e : TypeId) (p : Option (Nat × Nat)) (i : Int) (n : Nat) : Option AV :=
  cb (inRange i n) ((cx.ty e).ob fun et => p.ob fun a => some (.ptr (some (place a (i.toNat * et.size))))) none

def aIndexAddr0 (cx : Cx) (t : TypeId) (x i : AV) : Option AV :=
  i.int?.ob fun i => (cx.ty t).ob fun ty =>
    match ty.desc with
    | .slice e => x.slice?.ob fun s => addrAt cx e s.1 i.2 s.2.1
    | .array n e => x.ptr?.ob fun p => addrAt cx e p i.2 n
    | _ => none

def fIndex (cx : Cx) (t : TypeId) (len : Nat) (cs : List AV) (i : AV) : Option AV :=
  i.int?.ob fun i => (cx.ty t).ob fun ty =>
    match ty.desc with
    | .slice e => (cx.ty e).ob fun et => cb (inRange i.2 len && Nat.beq cs.length (Nat.mul len et.size)) (some (.fptr (List.drop (i.2.toNat * et.size) cs))) none
    | _ => none
def aIndexAddr (cx : Cx) (t : TypeId) (x i : AV) : Option AV :=
  match x with
  | .fsl _ len cs => fIndex cx t len cs i
  | x => aIndexAddr0 cx t x i

def strAt (s : List UInt8) (i : Int) : Option AV := cb (ileB 0 i) ((listAt s i.toNat).ob fun b => some (.int .u8 b.toNat)) none

def aIndex (cx : Cx) (t : TypeId) (x i : AV) : Option AV :=
  i.int?.ob fun i => (cx.ty t).ob fun ty =>
    match ty.desc with
    | .array n e => x.agg?.ob fun cs => cb (inRange i.2 n) ((cx.ty e).ob fun et => aPart cx e cs (i.2.toNat * et.size)) none
    | .string => x.str?.ob fun s => strAt s i.2
    | _ => none

def fieldsOf (cx : Cx) (t : TypeId) : Option (List (Nat × TypeId)) :=
  match cx.ty t with
  | some { desc := .struct fs, .. } => some fs
  | _ => none

def aFieldAddr0 (cx : Cx) (t : TypeId) (x : AV) (f : Nat) : Option AV :=
  (fieldsOf cx t).ob fun fs => (listAt fs f).ob fun g => (cx.ty g.2).ob fun ft => x.ptr?.ob fun p => p.ob fun a =>
    if ft.size = 0 then none else some (.ptr (some (place a g.1)))

def fField (cx : Cx) (t : TypeId) (cs : List AV) (f : Nat) : Option AV :=
  (fieldsOf cx t).ob fun fs => (listAt fs f).ob fun g => (cx.ty g.2).ob fun ft => cb (Nat.ble 1 ft.size && Nat.ble (g.1 + ft.size) cs.length) (some (.fptr (List.drop g.1 cs))) none
def aFieldAddr (cx : Cx) (t : TypeId) (x : AV) (f : Nat) : Option AV :=
  match x with
  | .fptr cs => fField cx t cs f
  | x => aFieldAddr0 cx t x f

def aField (cx : Cx) (t : TypeId) (x : AV) (f : Nat) : Option AV :=
  (fieldsOf cx t).ob fun fs => (listAt fs f).ob fun g => x.agg?.ob fun cs => aPart cx g.2 cs g.1

/-- the cells that an append takes from its second argument. -/
def srcSlice (size : Nat) (H : Heap) (a : Option (Nat × Nat) × Nat × Option Nat) : Option (Nat × List AV) :=
  match a.1 with
  | none => if a.2.1 = 0 then some (0, []) else none
  | some p => (cellsAt H p (a.2.1 * size)).ob fun cs => some (a.2.1, cs)

def srcCells0 (size : Nat) (H : Heap) (x : AV) : Option (Nat × List AV) :=
  match x with
  | .slice p l c => srcSlice size H (p, l, c)
  | .str s => if size = 1 then some (s.length, ofBytes s) else none
  | _ => none

def srcCells (size : Nat) (H : Heap) (x : AV) : Option (Nat × List AV) :=
  match x with
  | .fsl _ len cs => cb (Nat.beq cs.length (Nat.mul len size)) (some (len, cs)) none
  | x => srcCells0 size H x

/-- 'append(b, make([]T, n)...)' hands the number n on. -/
def zeroCells (et : ATy) (x : AV) : Option (Nat × List AV) :=
  x.int?.ob fun a => if 0 ≤ a.2 ∧ a.2 < 9223372036854775808 ∧ a.2 * et.bytes ≤ 281474976710656 then some (a.2.toNat, reps a.2.toNat et.zero.cells) else none

def isIntT (cx : Cx) (t : TypeId) : Option Bool :=
  match cx.ty t with
  | some { desc := .int _, .. } => some true
  | some _ => some false
  | none => none

/-- a new block, capacity unknown. -/
def appNew (e : TypeId) (n : Nat) (cs : List AV) (H : Heap) : AV × Heap := (.slice (some (H.next, 0)) n none, H.new (mkCells true e cs))

/-- capacity unknown: the block goes, another one is there. -/
def appOwn (e : TypeId) (size : Nat) (a : Nat × Nat) (len : Nat) (nc : Nat × List AV) (H : Heap) : Option (AV × Heap) :=
  match H.get a.1 with
  | .cells true e' n cs => if a.2 = 0 ∧ e' = e ∧ n = len * size ∧ nc.2.all AV.isCell = true then some (appNew e (len + nc.1) (cs ++ nc.2) (H.put a.1 .dead)) else none
  | _ => none

def appGrow (e : TypeId) (size : Nat) (a : Nat × Nat) (len : Nat) (nc : Nat × List AV) (H : Heap) : Option (AV × Heap) :=
  (cellsAt H a (len * size)).ob fun old => some (appNew e (len + nc.1) (old ++ nc.2) H)

def appIn (size : Nat) (a : Nat × Nat) (len c : Nat) (nc : Nat × List AV) (H : Heap) : Option (AV × Heap) :=
  (storeAt H (place a (len * size)) nc.2).ob fun H' => some (.slice (some a) (len + nc.1) (some c), H')

def appTo (e : TypeId) (size : Nat) (s : Option (Nat × Nat) × Nat × Option Nat) (nc : Nat × List AV) (H : Heap) : Option (AV × Heap) :=
  match s.1 with
  | none => if s.2.1 = 0 ∧ s.2.2 = some 0 then some (appNew e nc.1 nc.2 H) else none
  | some a => match s.2.2 with
    | none => appOwn e size a s.2.1 nc H
    | some c => if c < s.2.1 + nc.1 then appGrow e size a s.2.1 nc H else appIn size a s.2.1 c nc H

def appRoom (bytes len n : Nat) : Bool := decide ((len + n) * (2 * bytes + 1) ≤ 140737488355328)

def aAppend (cx : Cx) (t u : TypeId) (s x : AV) (H : Heap) : Option (AV × Heap) :=
  (isSliceT cx t).ob fun e => (cx.ty e).ob fun et => s.slice?.ob fun s => (isIntT cx u).ob fun z => (cb z (zeroCells et x) (srcCells et.size H x)).ob fun nc =>
    if nc.1 = 0 then some (.slice s.1 s.2.1 s.2.2, H)
    else if et.size = 0 then none
    else cb (appRoom et.bytes s.2.1 nc.1) (appTo e et.size s nc H) none

def copyTo (p : Option (Nat × Nat)) (n : Nat) (cs : List AV) (H : Heap) : Option (AV × Heap) :=
  p.ob fun a => (storeAt H a cs).ob fun H' => some (.int .i64 n, H')

def copySlice (size : Nat) (d s : Option (Nat × Nat) × Nat × Option Nat) (H : Heap) : Option (AV × Heap) :=
  let n := min s.2.1 d.2.1
  if n = 0 then some (.int .i64 0, H) else s.1.ob fun b => (cellsAt H b (n * size)).ob fun cs => copyTo d.1 n cs H

def copyStr (size : Nat) (d : Option (Nat × Nat) × Nat × Option Nat) (l : List UInt8) (H : Heap) : Option (AV × Heap) :=
  let n := min l.length d.2.1
  if size = 1 then (if n = 0 then some (.int .i64 0, H) else copyTo d.1 n (ofBytes (l.take n)) H) else none

def copyFsl (size : Nat) (d : Option (Nat × Nat) × Nat × Option Nat) (len : Nat) (cs : List AV) (H : Heap) : Option (AV × Heap) :=
  let n := min len d.2.1
  if n = 0 then some (.int .i64 0, H) else cb (Nat.beq cs.length (Nat.mul len size)) (copyTo d.1 n (rowCut cs 0 (n * size)) H) none

def aCopy (cx : Cx) (t : TypeId) (d s : AV) (H : Heap) : Option (AV × Heap) :=
  (isSliceT cx t).ob fun e => (cx.ty e).ob fun et => d.slice?.ob fun d =>
    match s with
    | .slice q m c => copySlice et.size d (q, m, c) H
    | .str l => copyStr et.size d l H
    | .fsl _ m cs => copyFsl et.size d m cs H
    | _ => none

def lenMap (H : Heap) (r : Option Nat) : Option AV :=
  match r with
  | none => some (.int .i64 0)
  | some r => match H.get r with
    | .entries es => some (.int .i64 es.length)
    | _ => none

def aLen0 (cx : Cx) (t : TypeId) (x : AV) (H : Heap) : Option AV :=
  (cx.ty t).ob fun ty =>
    match ty.desc with
    | .string => x.str?.ob fun s => some (.int .i64 s.length)
    | .array n _ => some (.int .i64 n)
    | .slice _ => x.slice?.ob fun s => some (.int .i64 s.2.1)
    | .map _ _ => x.map?.ob fun r => lenMap H r
    | _ => none

def aLen (cx : Cx) (t : TypeId) (x : AV) (H : Heap) : Option AV :=
  match x with
  | .fsl _ len _ => cb (isSliceD cx t) (some (.int .i64 len)) none
  | x => aLen0 cx t x H

def two (f : IntKind → Int → Int → AV) (l : List AV) : Option AV :=
  match l with
  | [x, y] => x.int?.ob fun a => y.int?.ob fun b => if a.1 = b.1 then some (f a.1 a.2 b.2) else none
  | _ => none

def minI (a b : Int) : Int := if b < a then b else a
def maxI (a b : Int) : Int := if b > a then b else a
def aMin (l : List AV) : Option AV := two (fun k a b => .int k (minI a b)) l
def aMax (l : List AV) : Option AV := two (fun k a b => .int k (maxI a b)) l

/-- keys of maps that are held against each other at sight. -/
def sameKey (x y : AV) : Option Bool :=
  match x with
  | .int _ _ => eqInt x y
  | .str a => y.str?.ob fun b => some (bytesEq a b)
  | .bool a => y.bool?.ob fun b => some (a == b)
  | _ => none

def isIntK (q : IntKind) (k : AV) : Bool :=
  match k with
  | .int j _ => decide (j = q)
  | _ => false

def isKeyT (cx : Cx) (t : TypeId) (k : AV) : Bool :=
  match cx.ty t with
  | none => false
  | some ty => match ty.desc with
    | .int q => isIntK q k
    | .string => k.str?.isSome
    | .bool => k.bool?.isSome
    | _ => false

/-- the value that a key has, if any; none: it can't be told. -/
def findKey (k : AV) : List (AV × AV) → Option (Option AV)
  | [] => some none
  | e :: es => (sameKey k e.1).ob fun b => if b then some (some e.2) else findKey k es

def putKey (k v : AV) : List (AV × AV) → Option (List (AV × AV))
  | [] => some [(k, v)]
  | e :: es => (sameKey k e.1).ob fun b => if b then some ((k, v) :: es) else (putKey k v es).ob fun r => some (e :: r)

def dropKey (k : AV) : List (AV × AV) → Option (List (AV × AV))
  | [] => some []
  | e :: es => (sameKey k e.1).ob fun b => if b then some es else (dropKey k es).ob fun r => some (e :: r)

def mapT (cx : Cx) (t : TypeId) : Option (TypeId × TypeId) :=
  match cx.ty t with
  | some { desc := .map k e, .. } => some (k, e)
  | _ => none

def entriesOf (H : Heap) (r : Nat) : Option (List (AV × AV)) :=
  match H.get r with
  | .entries es => some es
  | _ => none

def entriesAt (H : Heap) (r : Option Nat) : Option (List (AV × AV)) :=
  match r with
  | none => some []
  | some r => entriesOf H r

def aLookup (cx : Cx) (t : TypeId) (x k : AV) (ok : Bool) (H : Heap) : Option AV :=
  (mapT cx t).ob fun m => cb (isKeyT cx m.1 k) (x.map?.ob fun r => (entriesAt H r).ob fun es => (findKey k es).ob fun f => (cx.ty m.2).ob fun e =>
    some (cb ok (.tuple [f.getD e.zero, .bool f.isSome]) (f.getD e.zero))) none

def aMapPut (cx : Cx) (t : TypeId) (x k v : AV) (H : Heap) : Option Heap :=
  (mapT cx t).ob fun m => cb (isKeyT cx m.1 k) (x.map?.ob fun r => r.ob fun r => (entriesOf H r).ob fun es => (putKey k v es).ob fun es' => some (H.put r (.entries es'))) none

def dropIn (k : AV) (H : Heap) (r : Option Nat) : Option Heap :=
  match r with
  | none => some H
  | some r => (entriesOf H r).ob fun es => (dropKey k es).ob fun es' => some (H.put r (.entries es'))

def aDelete (cx : Cx) (t : TypeId) (x k : AV) (H : Heap) : Option Heap :=
  (mapT cx t).ob fun m => cb (isKeyT cx m.1 k) (x.map?.ob fun r => dropIn k H r) none

inductive Tgt where
  | fn (f : FuncId)
  | yield (l : Nat)

abbrev Caller := Tgt → List AV → Heap → Option (AV × Heap)

def aCallV (call : Caller) (f : AV) (args : List AV) (H : Heap) : Option (AV × Heap) :=
  match f with
  | .func g first captured => call (.fn g) (first ++ args ++ captured) H
  | .yield l => call (.yield l) args H
  | _ => none

/-- The three kinds of operations: those that make a block of their own and look at no other; those that change nothing; the others. -/
inductive Kind where
  | made | quiet | loud
  deriving DecidableEq

def kindCall : Callee → Kind
  | .builtin b => match b with
    | .len => .quiet
    | .min => .quiet
    | .max => .quiet
    | _ => .loud
  | _ => .loud

def kindOf (cx : Cx) (o : Op) : Kind :=
  match o with
  | .alloc _ => .made
  | .box _ _ => .made
  | .buildSlice _ _ _ => .made
  | .makeSlice _ _ _ => .made
  | .makeMap _ _ => .made
  | .convert s d _ => cb (makesBytes cx s d) .made .quiet
  | .store _ _ _ => .loud
  | .mapUpdate _ _ _ _ => .loud
  | .insert _ _ _ _ => .loud
  | .call c => kindCall c.callee
  | _ => .quiet

def mBox (t : TypeId) (x : Operand) (g : Env) : Option Made := (ev g x).ob fun v => some (mkPtr t v.cells)
def mBuild (cx : Cx) (t : TypeId) (n : Nat) (ps : List (Nat × Operand)) (g : Env) : Option Made := (evParts g ps).ob fun ps => aBuildSlice cx t n ps
def mMake (cx : Cx) (t : TypeId) (l c : Operand) (g : Env) : Option Made := (ev g l).ob fun l => (ev g c).ob fun c => aMakeSlice cx t l c
def mMap (r : Option Operand) : Option Made := cb r.isNone (some (fun b => .map (some b), .entries [])) none

def aMade (cx : Cx) (o : Op) (g : Env) : Option Made :=
  match o with
  | .alloc t => (cx.ty t).ob fun ty => some (mkPtr t ty.zero.cells)
  | .box t x => mBox t x g
  | .buildSlice t n ps => mBuild cx t n ps.toList g
  | .makeSlice t l c => mMake cx t l c g
  | .makeMap _ r => mMap r
  | .convert _ d x => (ev g x).ob fun x => aBytes cx d x
  | _ => none

def ev2 {α : Type} (g : Env) (x y : Operand) (f : AV → AV → Option α) : Option α := (ev g x).ob fun x => (ev g y).ob fun y => f x y

def pick (c a b : AV) : Option AV := c.bool?.ob fun c => some (cb c a b)

def aNil (x : AV) : Option AV :=
  match x with
  | .fptr cs => some (.fptr cs)
  | .ptr p => p.ob fun p => some (.ptr (some p))
  | .func f a b => some (.func f a b)
  | .yield l => some (.yield l)
  | _ => none

def qFunc (fn : Fn) (first captured : List Operand) (g : Env) : Option AV :=
  match fn with
  | .func f => (evs g first).ob fun a => (evs g captured).ob fun b => some (.func f a b)
  | _ => none

def qSlice (cx : Cx) (t : TypeId) (x : Operand) (lo hi mx : Option Operand) (g : Env) : Option AV :=
  (ev g x).ob fun x => (evO g lo).ob fun lo => (evO g hi).ob fun hi => (evO g mx).ob fun mx => aSlice cx t x lo hi mx

def qLen (cx : Cx) (ts : List TypeId) (l : List AV) (H : Heap) : Option AV :=
  match ts with
  | [t] => match l with
    | [x] => aLen cx t x H
    | _ => none
  | _ => none

def qBuiltin (cx : Cx) (b : Builtin) (ts : List TypeId) (l : List AV) (H : Heap) : Option AV :=
  match b with
  | .len => qLen cx ts l H
  | .min => aMin l
  | .max => aMax l
  | _ => none

def qCall (cx : Cx) (c : Call) (g : Env) (H : Heap) : Option AV :=
  match c.callee with
  | .builtin b => (evs g c.args.toList).ob fun l => qBuiltin cx b c.argTypes.toList l H
  | _ => none

def aQuiet (cx : Cx) (o : Op) (g : Env) (H : Heap) : Option AV :=
  match o with
  | .move x => ev g x
  | .assign x => ev g x
  | .pick c a b => (ev g c).ob fun c => ev2 g a b (pick c)
  | .build t ps => (evParts g ps.toList).ob (aBuild cx t)
  | .load t a => (ev g a).ob (aLoad cx t H)
  | .nilCheck x => (ev g x).ob aNil
  | .binOp op t x y _ => ev2 g x y (aBin cx op t)
  | .unOp op _ x => (ev g x).ob (aUn op)
  | .convert s d x => (ev g x).ob fun x => aConv cx s d x H
  | .makeFunc fn first captured => qFunc fn first.toList captured.toList g
  | .slice t x lo hi mx => qSlice cx t x lo hi mx g
  | .fieldAddr t x f => (ev g x).ob fun x => aFieldAddr cx t x f
  | .field t x f => (ev g x).ob fun x => aField cx t x f
  | .indexAddr t x i => ev2 g x i (aIndexAddr cx t)
  | .index t x i => ev2 g x i (aIndex cx t)
  | .lookup t x i ok => ev2 g x i fun x i => aLookup cx t x i ok H
  | .extract x i => (ev g x).ob fun x => x.tuple?.ob fun vs => listAt vs i
  | .call c => qCall cx c g H
  | _ => none

def lStore (cx : Cx) (t : TypeId) (a x : Operand) (g : Env) (H : Heap) : Option (AV × Heap) := ev2 g a x fun a x => (aStore cx t H a x).ob fun H' => some (.undef, H')
def lPut (cx : Cx) (t : TypeId) (m k x : Operand) (g : Env) (H : Heap) : Option (AV × Heap) :=
  (ev g m).ob fun m => ev2 g k x fun k x => (aMapPut cx t m k x H).ob fun H' => some (.undef, H')

def two2 {α β : Type} (l : List α) (f : α → α → Option β) : Option β :=
  match l with
  | [a, b] => f a b
  | _ => none

def lBuiltin (cx : Cx) (b : Builtin) (ts : List TypeId) (l : List AV) (H : Heap) : Option (AV × Heap) :=
  match b with
  | .append => two2 ts fun t u => two2 l fun s x => aAppend cx t u s x H
  | .copy => two2 ts fun t _ => two2 l fun d s => aCopy cx t d s H
  | .delete => two2 ts fun t _ => two2 l fun m k => (aDelete cx t m k H).ob fun H' => some (.tuple [], H')
  | _ => none

def lCall (cx : Cx) (call : Caller) (c : Call) (g : Env) (H : Heap) : Option (AV × Heap) :=
  match c.callee with
  | .builtin b => (evs g c.args.toList).ob fun l => lBuiltin cx b c.argTypes.toList l H
  | .value f => (ev g f).ob fun f => (evs g c.args.toList).ob fun l => aCallV call f l H
  | .invoke _ _ => none

def aLoud (cx : Cx) (call : Caller) (o : Op) (g : Env) (H : Heap) : Option (AV × Heap) :=
  match o with
  | .store t a x => lStore cx t a x g H
  | .mapUpdate t m k x => lPut cx t m k x g H
  | .insert t m k x => lPut cx t m k x g H
  | .call c => lCall cx call c g H
  | _ => none

/-- One operation, by its kind: what it leaves in its slot, and the heap. -/
def aOpK (cx : Cx) (call : Caller) (o : Op) (g : Env) (H : Heap) : Option (AV × Heap) :=
  match kindOf cx o with
  | .made => (aMade cx o g).ob fun r => some (r.1 H.next, H.new r.2)
  | .quiet => (aQuiet cx o g H).ob fun v => some (v, H)
  | .loud => aLoud cx call o g H

def asQuiet (H : Heap) (v : Option AV) : Option (AV × Heap) := v.ob fun v => some (v, H)
def asMade (H : Heap) (m : Option Made) : Option (AV × Heap) := m.ob fun r => some (r.1 H.next, H.new r.2)

def pConv (cx : Cx) (s d : TypeId) (x : Operand) (g : Env) (H : Heap) : Option (AV × Heap) :=
  cb (makesBytes cx s d) (asMade H ((ev g x).ob fun x => aBytes cx d x)) (asQuiet H ((ev g x).ob fun x => aConv cx s d x H))

def pCall (cx : Cx) (call : Caller) (c : Call) (g : Env) (H : Heap) : Option (AV × Heap) :=
  match kindCall c.callee with
  | .quiet => asQuiet H (qCall cx c g H)
  | .loud => lCall cx call c g H
  | .made => none

/-- the same at one look. -/
def aOp (cx : Cx) (call : Caller) (o : Op) (g : Env) (H : Heap) : Option (AV × Heap) :=
  match o with
  | .move x => asQuiet H (ev g x)
  | .assign x => asQuiet H (ev g x)
  | .pick c a b => asQuiet H ((ev g c).ob fun c => ev2 g a b (pick c))
  | .alloc t => asMade H ((cx.ty t).ob fun ty => some (mkPtr t ty.zero.cells))
  | .box t x => asMade H (mBox t x g)
  | .build t ps => asQuiet H ((evParts g ps.toList).ob (aBuild cx t))
  | .buildSlice t n ps => asMade H (mBuild cx t n ps.toList g)
  | .insert t m k x => lPut cx t m k x g H
  | .load t a => asQuiet H ((ev g a).ob (aLoad cx t H))
  | .store t a x => lStore cx t a x g H
  | .nilCheck x => asQuiet H ((ev g x).ob aNil)
  | .binOp op t x y _ => asQuiet H (ev2 g x y (aBin cx op t))
  | .unOp op _ x => asQuiet H ((ev g x).ob (aUn op))
  | .convert s d x => pConv cx s d x g H
  | .makeFunc fn first captured => asQuiet H (qFunc fn first.toList captured.toList g)
  | .makeMap _ r => asMade H (mMap r)
  | .makeSlice t l c => asMade H (mMake cx t l c g)
  | .slice t x lo hi mx => asQuiet H (qSlice cx t x lo hi mx g)
  | .fieldAddr t x f => asQuiet H ((ev g x).ob fun x => aFieldAddr cx t x f)
  | .field t x f => asQuiet H ((ev g x).ob fun x => aField cx t x f)
  | .indexAddr t x i => asQuiet H (ev2 g x i (aIndexAddr cx t))
  | .index t x i => asQuiet H (ev2 g x i (aIndex cx t))
  | .lookup t x i ok => asQuiet H (ev2 g x i fun x i => aLookup cx t x i ok H)
  | .mapUpdate t m k x => lPut cx t m k x g H
  | .extract x i => asQuiet H ((ev g x).ob fun x => x.tuple?.ob fun vs => listAt vs i)
  | .call c => pCall cx call c g H
  | _ => none

theorem aOp_eq (cx : Cx) (call : Caller) (o : Op) (g : Env) (H : Heap) : aOp cx call o g H = aOpK cx call o g H := by
  cases o <;> first
    | rfl
    | (simp only [aOp, aOpK, kindOf, pConv, aMade, aQuiet, asMade, asQuiet]
       first | (cases makesBytes cx _ _ <;> rfl) | rfl)
    | (rename_i c; obtain ⟨callee, args, ts⟩ := c
       cases callee with
       | builtin b => cases b <;> rfl
       | value f => rfl
       | invoke r m => rfl)

def guardHolds (want : Bool) (v : AV) : Bool :=
  match v with
  | .bool b => b == want
  | _ => false

def aGuard (ops : List Oper) (g : Env) (j : Nat) (want : Bool) : Bool :=
  match (listAt ops j).ob (·.dst) with
  | some t => guardHolds want (g t)
  | none => false

def aWanted (ops : List Oper) (g : Env) (o : Oper) : Bool :=
  match o.guard with
  | none => true
  | some q => aGuard ops g q.1 q.2

def isAny (v : AV) : Bool :=
  match v with
  | .any => true
  | _ => false
/-- is it known whether an operation runs? -/
def gknown (ops : List Oper) (g : Env) (o : Oper) : Bool :=
  match o.guard with
  | none => true
  | some q => match (listAt ops q.1).ob (·.dst) with
    | some t => !(isAny (g t))
    | none => true

/-- One operation, or none where its guard says no. -/
def aStep0 (cx : Cx) (call : Caller) (all : List Oper) (o : Oper) (g : Env) (H : Heap) : Option (AV × Heap) :=
  cb (aWanted all g o) (aOp cx call o.op g H) (some (.undef, H))
def aStep (cx : Cx) (call : Caller) (all : List Oper) (o : Oper) (g : Env) (H : Heap) : Option (AV × Heap) :=
  cb (gknown all g o) (aStep0 cx call all o g H) none
theorem aStep_eq {cx : Cx} {call : Caller} {all : List Oper} {o : Oper} {g : Env} {H : Heap} {r : AV × Heap} (h : aStep cx call all o g H = some r) : gknown all g o = true ∧ aStep0 cx call all o g H = some r := by
  unfold aStep at h
  rw [cb_eq] at h
  split at h
  · rename_i hk; exact ⟨hk, h⟩
  · cases h

/-- The operations of a region, in the order of the text. -/
def aOps (cx : Cx) (call : Caller) (n : Nat) (all l : List Oper) : Fr → Heap → Option (Fr × Heap) :=
  List.rec (motive := fun _ => Fr → Heap → Option (Fr × Heap)) (fun fr H => some (fr, H))
    (fun o _ go fr H => (aStep cx call all o fr.get H).ob fun r => (fr.put n o.dst r.1).ob fun fr' => go fr' r.2) l
@[simp] theorem aOps_nil (cx : Cx) (call : Caller) (n : Nat) (all : List Oper) (fr : Fr) (H : Heap) : aOps cx call n all [] fr H = some (fr, H) := rfl
theorem aOps_cons (cx : Cx) (call : Caller) (n : Nat) (all : List Oper) (o : Oper) (l : List Oper) (fr : Fr) (H : Heap) :
    aOps cx call n all (o :: l) fr H = (aStep cx call all o fr.get H).ob fun r => (fr.put n o.dst r.1).ob fun fr' => aOps cx call n all l fr' r.2 := rfl

/-! ### A region that draws its order -/

/-- which operations each one waits for, as bits. -/
def befs : List Oper → List Nat → Option (List Nat)
  | [], acc => some acc.reverse
  | o :: rest, acc =>
    let b := o.after.toList.foldl (fun s e => if Region.binds .any e then s ||| 2 ^ e.on ||| acc.getD (acc.length - 1 - e.on) 0 else s) 0
    if o.after.toList.all (fun e => !Region.binds .any e || decide (e.on < acc.length)) then befs rest (b :: acc) else none

/-- a row of the plan: its number, its operation, its kind, from which stage on, up to which stage. -/
structure Row where
  j : Nat
  o : Oper
  k : Kind
  b : Nat
  lo : Nat
  hi : Nat

def loOf (b : Nat) : List Nat → Nat → Nat → Nat
  | [], _, r => r
  | l :: ls, s, r => loOf b ls (s + 1) (if b.testBit l then s + 1 else r)

def hiOf (j : Nat) : List (Nat × Nat) → Nat → Nat
  | [], s => s
  | l :: ls, s => if l.2.testBit j then s else hiOf j ls (s + 1)

def zip3 : Nat → List Oper → List Nat → List (Nat × Oper × Nat)
  | i, o :: os, b :: bs => (i, o, b) :: zip3 (i + 1) os bs
  | _, _, _ => []

def isLoud (cx : Cx) (o : Oper) : Bool := match kindOf cx o.op with | .loud => true | _ => false

def rowsOf (cx : Cx) (ops : List Oper) : Option (List Row) :=
  (befs ops []).ob fun bs =>
    let l := zip3 0 ops bs
    let ld := (l.filter fun x => isLoud cx x.2.1).map fun x => (x.1, x.2.2)
    some (l.map fun x => { j := x.1, o := x.2.1, k := kindOf cx x.2.1.op, b := x.2.2, lo := loOf x.2.2 (ld.map (·.1)) 0 0, hi := hiOf x.1 ld 0 })

def isLoudR (r : Row) : Bool := match r.k with | .loud => true | _ => false

/-- the plan: stage by stage what isn't loud, as soon as it may be; then the stage's loud one. -/
def planOf (rows : List Row) : List Row → Nat → List Row
  | [], s => rows.filter fun r => !isLoudR r && r.lo == s
  | l :: ls, s => (rows.filter fun r => !isLoudR r && r.lo == s) ++ l :: planOf rows ls (s + 1)

def looksAt (ops : List Oper) (o : Oper) : List Tmp :=
  (o.op.operands.toList.filterMap fun x => match x with | .tmp t => some t | _ => none) ++
  (match o.guard with
   | some (g, _) => ((listAt ops g).ob (·.dst)).toList
   | none => [])

def louds (rows : List Row) : List Row := rows.filter isLoudR

/-- is each loud one behind the one ahead of it? -/
def chained : List Row → Bool
  | a :: b :: r => b.b.testBit a.j && chained (b :: r)
  | _ => true

/-- of two rows of the plan, the first ahead of the second: what the one writes the other doesn't look at, unless it waits for it; and the second's slot isn't the first's, nor looked at by it, unless it waits. -/
def fits (ops : List Oper) (a b : Row) : Bool :=
  (match a.o.dst with
   | some t => b.o.dst != some t && (!(looksAt ops b.o).contains t || b.b.testBit a.j)
   | none => true) &&
  (match b.o.dst with
   | some t => !(looksAt ops a.o).contains t || b.b.testBit a.j
   | none => true)

def fitsAll (ops : List Oper) : List Row → Bool
  | [] => true
  | a :: r => r.all (fits ops a) && fitsAll ops r

structure Plan where
  rows : List Row
  plan : List Row

def mkPlan (cx : Cx) (ops : List Oper) : Option Plan :=
  (rowsOf cx ops).ob fun rows =>
    let p := planOf rows (louds rows) 0
    if p.length = ops.length ∧ chained (louds rows) = true ∧ fitsAll ops p = true then some ⟨rows, p⟩ else none

/-- a record of the run: the row, the frame ahead of it, what it left. -/
structure Rec where
  r : Row
  g : Fr
  v : AV
  id : Nat

def drawRun (cx : Cx) (call : Caller) (n : Nat) (all : List Oper) : List Row → Fr → Heap → Option (List Rec × List Heap × Fr)
  | [], fr, H => some ([], [H], fr)
  | r :: rest, fr, H => (aStep cx call all r.o fr.get H).ob fun x => cb (Nat.ble H.next x.2.next) ((fr.put n r.o.dst x.1).ob fun fr' => (drawRun cx call n all rest fr' x.2).ob fun y =>
      some (⟨r, fr, x.1, H.next⟩ :: y.1, (if isLoudR r then H :: y.2.1 else y.2.1), y.2.2)) none

def Blk.same : Blk → Blk → Bool
  | .cells o e n cs, .cells o' e' n' cs' => (o == o') && decide (e = e') && decide (n = n') && AV.beqL cs cs'
  | .entries [], .entries [] => true
  | _, _ => false

/-- does a record hold at each heap between its stages? -/
def recHolds (cx : Cx) (all : List Oper) (Hs : List Heap) (c : Rec) : Bool :=
  if aWanted all c.g.get c.r.o then
    match c.r.k with
    | .loud => true
    | .quiet => ((Hs.take (c.r.hi + 1)).drop c.r.lo).all fun H => match aQuiet cx c.r.o.op c.g.get H with
      | some v => AV.beq v c.v
      | none => false
    | .made => ((Hs.take (c.r.hi + 1)).drop c.r.lo).all fun H => match aMade cx c.r.o.op c.g.get with
      | some m => Nat.ble (Nat.succ c.id) H.next && Blk.same (H.get c.id) m.2
      | none => false
  else true

/-- must the records be looked at? -/
def allQuiet (rows : List Row) : Bool := rows.all fun r => match r.k with | .quiet => true | _ => false

def aDraw (cx : Cx) (call : Caller) (n : Nat) (ops : List Oper) (fr : Fr) (H : Heap) : Option (Fr × Heap) :=
  (mkPlan cx ops).ob fun p => (drawRun cx call n ops p.plan fr H).ob fun y =>
    if allQuiet p.rows || y.1.all (recHolds cx ops y.2.1) then some (y.2.2, y.2.1.getLastD H) else none


def jumpOf : AX → Option Code
  | .normal => none
  | .exit id => some (.exit id)
  | .ret => some .ret

def axOf : Code → Option AX
  | .exit id => some (.exit id)
  | .ret => some .ret
  | _ => none


def putAll (n : Nat) : List Tmp → List AV → Fr → Option Fr
  | [], [], fr => some fr
  | t :: ts, v :: vs, fr => (fr.put n (some t) v).ob fun fr' => putAll n ts vs fr'
  | _, _, _ => none

abbrev Run := Code → St → Option (AX × St)

def cRegion (cx : Cx) (call : Caller) (n : Nat) (ops : List Oper) (draw : Bool) (s : St) : Option (AX × St) :=
  (cb draw (aDraw cx call n ops s.fr s.H) (aOps cx call n ops ops s.fr s.H)).ob fun r => some (.normal, ⟨r.1, s.ds, r.2⟩)

def cThen (run : St → Option (AX × St)) (r : AX × St) : Option (AX × St) :=
  match r.1 with
  | .normal => run r.2
  | x => some (x, r.2)

def cBlock (id : Nat) (r : AX × St) : Option (AX × St) :=
  match r.1 with
  | .exit id' => if id' = id then some (.normal, r.2) else some (.exit id', r.2)
  | x => some (x, r.2)

def cCond (run : Run) (x : Operand) (a b : Code) (s : St) : Option (AX × St) :=
  (ev s.fr.get x).ob fun v => v.bool?.ob fun t => run (cb t a b) s

/-- where a loop's deferred calls go: a block of their own, or, in a round, the outer loop's. -/
def cDefers (around : Option Nat) (s : St) : Option (Nat × List Nat × Heap) :=
  match around with
  | none => some (s.H.next, s.H.next :: s.ds, s.H.new .dfr)
  | some l => match s.H.get l with
    | .loop _ _ _ _ _ _ d _ => some (d, s.ds, s.H)
    | _ => none

def cEnd (fr : Fr) (ds : List Nat) (L : Nat) (H : Heap) : Option (AX × St) :=
  match H.get L with
  | .loop _ _ _ _ _ _ _ st => match st with
    | .ready => some (.normal, ⟨fr, ds, H.put L .dead⟩)
    | .done j => (axOf j).ob fun x => some (x, ⟨fr, ds, H.put L .dead⟩)
    | .busy => none
  | _ => none

def cRange (call : Caller) (fn : FuncId) (around : Option Nat) (n : Nat) (x : Operand) (ps : List Tmp) (asg body : Code) (s : St) : Option (AX × St) :=
  (ev s.fr.get x).ob fun v =>
    match v with
    | .func g first captured => (cDefers around s).ob fun q =>
        (call (.fn g) (first ++ [AV.yield q.2.2.next] ++ captured) (q.2.2.new (.loop fn n s.fr ps asg body q.1 .ready))).ob fun r =>
          cEnd s.fr q.2.1 q.2.2.next r.2
    | _ => none

open Classical in
/-- what is known of a block is taken, if it is that block. -/
def hook (L : Option LSum) (n : Nat) (b : Code) (s : St) (r : Option (AX × St)) : Option (AX × St) :=
  match L with
  | none => r
  | some L => if b = L.code then (match L.run n s with | some q => some q | none => r) else r

/-- fn: the function of which the activation is; around: the loop's record, in a round. -/
def aCode1 (cx : Cx) (call : Caller) (fn : FuncId) (around : Option Nat) (n : Nat) (run : Run) : Run := fun c s =>
  match c with
  | .skip => some (.normal, s)
  | .region _ ops draw => cRegion cx call n ops.toList draw s
  | .seq a b => (run a s).ob (cThen (run b))
  | .cond x a b => cCond run x a b s
  | .block id b => hook (cx.loop fn id) n b s ((run b s).ob (cBlock id))
  | .loop b => (run b s).ob (cThen (run (.loop b)))
  | .exit id => some (.exit id, s)
  | .ret => some (.ret, s)
  | .rangeFunc x ps asg body => cRange call fn around n x ps.toList asg body s
  | _ => none

def aCode (cx : Cx) (call : Caller) (fn : FuncId) (around : Option Nat) (n f : Nat) : Run :=
  Nat.rec (motive := fun _ => Run) (fun _ _ => none) (fun _ run => aCode1 cx call fn around n run) f
@[simp] theorem aCode_zero (cx : Cx) (call : Caller) (fn : FuncId) (around : Option Nat) (n : Nat) (c : Code) (s : St) : aCode cx call fn around n 0 c s = none := rfl
theorem aCode_succ (cx : Cx) (call : Caller) (fn : FuncId) (around : Option Nat) (n f : Nat) : aCode cx call fn around n (f + 1) = aCode1 cx call fn around n (aCode cx call fn around n f) := rfl

def ofList : Nat → List AV → Fr → Fr
  | _, [], fr => fr
  | i, v :: r, fr => ofList (i + 1) r (T.set .undef fr i v)

def aResult (cx : Cx) (fr : Fr) (H : Heap) : ResultVar → Option AV
  | .tmp t => known (fr.get t)
  | .cell a t => aLoad cx t H (fr.get a)

def aResults (cx : Cx) (fr : Fr) (H : Heap) : List ResultVar → Option (List AV)
  | [] => some []
  | r :: rs => (aResult cx fr H r).ob fun v => (aResults cx fr H rs).ob fun vs => some (v :: vs)

def single : List AV → AV
  | [v] => v
  | vs => .tuple vs

/-- the blocks of the deferred calls are shut. -/
def shut : List Nat → Heap → Option Heap
  | [], H => some H
  | d :: ds, H => match H.get d with
    | .dfr => shut ds (H.put d .dead)
    | _ => none

def callEnd (cx : Cx) (fn : Func) (r : AX × St) : Option (AV × Heap) :=
  match r.1 with
  | .exit _ => none
  | _ => (shut r.2.ds r.2.H).ob fun H' => (aResults cx r.2.fr H' fn.results.toList).ob fun vs => some (single vs, H')

def callBody (cx : Cx) (call : Caller) (f : Nat) (g : FuncId) (fn : Func) (args : List AV) (H : Heap) : Option (AV × Heap) :=
  fn.body.ob fun body => if args.length ≤ fn.ntmps then (aCode cx call g none fn.ntmps f body ⟨ofList 0 args .nil, [], H⟩).ob (callEnd cx fn) else none

def callFn (cx : Cx) (call : Caller) (f : Nat) (g : FuncId) (args : List AV) (H : Heap) : Option (AV × Heap) :=
  (cx.fn g).ob fun fn =>
    match cx.sum g args H with
    | some r => some r
    | none => callBody cx call f g fn args H

def lsOf (x : AX) : LS :=
  match jumpOf x with
  | none => .ready
  | some j => .done j

def isReady (H : Heap) (l : Nat) : Bool :=
  match H.get l with
  | .loop _ _ _ _ _ _ _ .ready => true
  | _ => false
def isBusy (H : Heap) (l : Nat) : Bool :=
  match H.get l with
  | .loop _ _ _ _ _ _ _ .busy => true
  | _ => false

def AX.isNormal : AX → Bool
  | .normal => true
  | _ => false


def Blk.setLS (st : LS) : Blk → Blk
  | .loop fn n fr ps asg body d _ => .loop fn n fr ps asg body d st
  | b => b

def roundEnd (l : Nat) (q : AX × St) : Option (AV × Heap) :=
  cb (isBusy q.2.H l) (some (.bool (jumpOf q.1).isNone, q.2.H.put l (Blk.setLS (lsOf q.1) (q.2.H.get l)))) none

def roundBody (cx : Cx) (call : Caller) (f : Nat) (l fn n : Nat) (body : Code) (r : AX × St) : Option (AV × Heap) :=
  cb (r.1.isNormal && isReady r.2.H l) ((aCode cx call fn (some l) n f body ⟨r.2.fr, r.2.ds, r.2.H.put l (Blk.setLS .busy (r.2.H.get l))⟩).ob (roundEnd l)) none

def callYield (cx : Cx) (call : Caller) (f : Nat) (l : Nat) (args : List AV) (H : Heap) : Option (AV × Heap) :=
  match H.get l with
  | .loop fn n fr ps asg body d .ready => (putAll n ps args fr).ob fun fr' =>
      (aCode cx call fn (some l) n f asg ⟨fr', [], H⟩).ob (roundBody cx call f l fn n body)
  | _ => none

def aCall1 (cx : Cx) (call : Caller) (f : Nat) (t : Tgt) (args : List AV) (H : Heap) : Option (AV × Heap) :=
  match t with
  | .fn g => callFn cx call f g args H
  | .yield l => callYield cx call f l args H

def aCall (cx : Cx) (f : Nat) : Caller :=
  Nat.rec (motive := fun _ => Caller) (fun _ _ _ => none) (fun f call => aCall1 cx call f) f
@[simp] theorem aCall_zero (cx : Cx) (t : Tgt) (args : List AV) (H : Heap) : aCall cx 0 t args H = none := rfl
theorem aCall_succ (cx : Cx) (f : Nat) : aCall cx (f + 1) = aCall1 cx (aCall cx f) f := rfl

end Go.Ab

/- Texts of the abstract machine and of the laws, merged. -/
import GoSem.Step
import Derived.WalkKit
import Derived.WideLaws
import Derived.LaidEql
import Derived.ChangeKeysEq
import Derived.Great.FillDense
import Derived.MapKept
import Derived.Laws.Append
set_option autoImplicit false
set_option linter.unusedVariables false
set_option linter.unusedSimpArgs false
set_option linter.unusedSectionVars false
set_option maxRecDepth 100000
section
noncomputable section
namespace Go.Ab
def _root_.Option.ob {α β : Type} (o : Option α) (f : α → Option β) : Option β := Option.rec (motive := fun _ => Option β) none f o
def cb {α : Type} (b : Bool) (x y : α) : α := Bool.rec (motive := fun _ => α) y x b
@[simp] theorem ob_none {α β : Type} (f : α → Option β) : (none : Option α).ob f = none := rfl
@[simp] theorem ob_some {α β : Type} (a : α) (f : α → Option β) : (some a).ob f = f a := rfl
@[simp] theorem cb_true {α : Type} (x y : α) : cb true x y = x := rfl
@[simp] theorem cb_false {α : Type} (x y : α) : cb false x y = y := rfl
theorem ob_eq {α β : Type} {o : Option α} {f : α → Option β} {b : β} (h : o.ob f = some b) : ∃ a, o = some a ∧ f a = some b := by
  cases o with
  | none => cases h
  | some a => exact ⟨a, rfl, h⟩
theorem cb_eq {α : Type} (b : Bool) (x y : α) : cb b x y = if b then x else y := by cases b <;> rfl
inductive AV where
  | undef
  | int (k : IntKind) (n : Int)
  | bool (b : Bool)
  | str (s : List UInt8)
  | ptr (p : Option (Nat × Nat))
  | slice (p : Option (Nat × Nat)) (len : Nat) (cap : Option Nat)
  | map (r : Option Nat)
  | func (f : FuncId) (first captured : List AV)
  | yield (l : Nat)
  | nilFunc
  | iface (t : TypeId) (v : AV)
  | nilIface
  | agg (cs : List AV)
  | tuple (vs : List AV)
  | fsl (nl : Bool) (len : Nat) (cs : List AV)
  | fptr (cs : List AV)
  | any
  deriving Inhabited
mutual
def AV.beq : AV → AV → Bool
  | .undef, .undef => true
  | .int k n, .int j m => decide (k = j) && decide (n = m)
  | .bool a, .bool b => a == b
  | .str a, .str b => decide (a = b)
  | .ptr a, .ptr b => decide (a = b)
  | .slice a l c, .slice b m d => decide (a = b) && decide (l = m) && decide (c = d)
  | .map a, .map b => decide (a = b)
  | .func f x y, .func g z w => decide (f = g) && AV.beqL x z && AV.beqL y w
  | .yield a, .yield b => decide (a = b)
  | .nilFunc, .nilFunc => true
  | .iface t v, .iface u w => decide (t = u) && AV.beq v w
  | .nilIface, .nilIface => true
  | .agg a, .agg b => AV.beqL a b
  | .tuple a, .tuple b => AV.beqL a b
  | .fsl n l a, .fsl m k b => (n == m) && decide (l = k) && AV.beqL a b
  | .fptr a, .fptr b => AV.beqL a b
  | .any, .any => true
  | _, _ => false
def AV.beqL : List AV → List AV → Bool
  | [], [] => true
  | a :: as, b :: bs => AV.beq a b && AV.beqL as bs
  | _, _ => false
end
inductive T (α : Type) where
  | nil
  | node (v : α) (l r : T α)
def T.get {α : Type} (d : α) (t : T α) : Nat → α :=
  T.rec (motive := fun _ => Nat → α) (fun _ => d) (fun v _ _ gl gr n => cb (Nat.beq n 0) v (cb (Nat.beq (Nat.mod n 2) 1) (gl (Nat.div n 2)) (gr (Nat.pred (Nat.div n 2))))) t
def T.path {α : Type} (d x : α) (f : Nat) : Nat → T α :=
  Nat.rec (motive := fun _ => Nat → T α) (fun _ => .nil) (fun _ g n => cb (Nat.beq n 0) (.node x .nil .nil) (cb (Nat.beq (Nat.mod n 2) 1) (.node d (g (Nat.div n 2)) .nil) (.node d .nil (g (Nat.pred (Nat.div n 2)))))) f
def T.put {α : Type} (d x : α) (t : T α) : Nat → Nat → T α :=
  T.rec (motive := fun _ => Nat → Nat → T α) (fun f n => T.path d x f n)
    (fun v l r gl gr f n => cb (Nat.beq n 0) (.node x l r) (cb (Nat.beq (Nat.mod n 2) 1) (.node v (gl (Nat.pred f) (Nat.div n 2)) r) (.node v l (gr (Nat.pred f) (Nat.pred (Nat.div n 2)))))) t
def T.set {α : Type} (d : α) (t : T α) (n : Nat) (x : α) : T α := T.put d x t (Nat.succ n) n
abbrev Fr := T AV
inductive LS where
  | ready
  | busy
  | done (jump : Code)
inductive Blk where
  | dead
  | cells (own : Bool) (e : TypeId) (len : Nat) (cs : List AV)
  | entries (es : List (AV × AV))
  | loop (fn : FuncId) (n : Nat) (fr : Fr) (params : List Tmp) (assign body : Code) (d : Nat) (st : LS)
  | dfr
structure Heap where
  next : Nat
  m : T Blk
def Heap.get (H : Heap) (b : Nat) : Blk := H.m.get .dead b
def Heap.put (H : Heap) (b : Nat) (x : Blk) : Heap := { H with m := T.set .dead H.m b x }
def Heap.new (H : Heap) (x : Blk) : Heap := { next := H.next + 1, m := T.set .dead H.m H.next x }
def Fr.get (fr : Fr) (t : Nat) : AV := T.get .undef fr t
def Fr.put (n : Nat) (fr : Fr) (dst : Option Tmp) (v : AV) : Option Fr :=
  match dst with
  | none => some fr
  | some d => cb (Nat.ble (Nat.succ d) n) (some (T.set .undef fr d v)) none
inductive AD where
  | bool | int (k : IntKind) | string
  | ptr (e : TypeId) | slice (e : TypeId) | array (n : Nat) (e : TypeId) | map (k e : TypeId)
  | struct (fs : List (Nat × TypeId))
  | func | iface (bare : Bool)
structure ATy where
  desc : AD
  size : Nat
  bytes : Nat
  zero : AV
  eqs : Bool      -- may be held against each other field by field
inductive AX where
  | normal
  | exit (id : Nat)
  | ret
structure St where
  fr : Fr
  ds : List Nat     -- the blocks of the deferred calls of loops over functions
  H : Heap
structure LSum where
  code : Code
  run : Nat → St → Option (AX × St)
structure Cx where
  ty : TypeId → Option ATy
  fn : FuncId → Option Func
  sum : FuncId → List AV → Heap → Option (AV × Heap)
  loop : FuncId → Nat → Option LSum := fun _ _ => none
  exp : Bool := false     -- how a symbolic run reads structs: cell by cell?
def ofConst : Value → Option AV
  | .int k n => some (.int k n)
  | .bool b => some (.bool b)
  | .string s => some (.str s.data.toList)
  | .pointer none => some (.ptr none)
  | .slice none 0 0 => some (.slice none 0 (some 0))
  | .map none => some (.map none)
  | .nilFunc => some .nilFunc
  | .nilIface => some .nilIface
  | _ => none
abbrev Env := Tmp → AV
def known (v : AV) : Option AV :=
  match v with
  | .any => none
  | v => some v
def ev (g : Env) : Operand → Option AV
  | .tmp t => known (g t)
  | .const v => ofConst v
  | .func f => some (.func f [] [])
  | .global _ => none
def evs (g : Env) (l : List Operand) : Option (List AV) :=
  List.rec (motive := fun _ => Option (List AV)) (some []) (fun x _ r => (ev g x).ob fun v => r.ob fun vs => some (v :: vs)) l
@[simp] theorem evs_nil (g : Env) : evs g [] = some [] := rfl
@[simp] theorem evs_cons (g : Env) (x : Operand) (r : List Operand) : evs g (x :: r) = (ev g x).ob fun v => (evs g r).ob fun vs => some (v :: vs) := rfl
def evParts (fr : Env) : List (Nat × Operand) → Option (List (Nat × AV))
  | [] => some []
  | (i, x) :: r => (ev fr x).ob fun v => (evParts fr r).ob fun vs => some ((i, v) :: vs)
def AV.cells : AV → List AV
  | .agg cs => cs
  | v => [v]
def isAggB : AD → Bool
  | .struct _ | .array _ _ => true
  | _ => false
def listAt {α : Type} (l : List α) : Nat → Option α :=
  List.rec (motive := fun _ => Nat → Option α) (fun _ => none) (fun a _ g n => cb (Nat.beq n 0) (some a) (g (Nat.pred n))) l
def rowCut (cs : List AV) (off n : Nat) : List AV := List.take n (List.drop off cs)
def rowSet : List AV → Nat → List AV → List AV
  | cs, 0, vs => over vs cs
  | [], _ + 1, _ => []
  | c :: cs, off + 1, vs => c :: rowSet cs off vs
where
  over : List AV → List AV → List AV
  | [], cs => cs
  | v :: vs, _ :: cs => v :: over vs cs
  | _ :: _, [] => []
def mkCells (own : Bool) (e : TypeId) (vs : List AV) : Blk := .cells own e vs.length vs
def cellsAt (H : Heap) (p : Nat × Nat) (n : Nat) : Option (List AV) :=
  match H.get p.1 with
  | .cells _ _ len cs => if p.2 + n ≤ len then some (rowCut cs p.2 n) else none
  | _ => none
def AV.isCell : AV → Bool
  | .agg _ | .tuple _ | .undef | .any => false
  | _ => true
def storeAt (H : Heap) (p : Nat × Nat) (vs : List AV) : Option Heap :=
  match H.get p.1 with
  | .cells true e len cs => if vs.all AV.isCell = true ∧ p.2 + vs.length ≤ len then some (H.put p.1 (.cells true e len (rowSet cs p.2 vs))) else none
  | _ => none
def aLoad0 (cx : Cx) (t : TypeId) (H : Heap) (x : AV) : Option AV :=
  match cx.ty t, x with
  | some ty, .ptr (some p) =>
    if isAggB ty.desc then (cellsAt H p ty.size).ob fun cs => some (.agg cs)
    else match H.get p.1 with
      | .cells _ _ len cs => if p.2 < len then listAt cs p.2 else none
      | _ => none
  | _, _ => none
def fLoad (cx : Cx) (t : TypeId) (cs : List AV) : Option AV :=
  (cx.ty t).ob fun ty => cb (isAggB ty.desc) (cb (Nat.ble ty.size cs.length) (some (.agg (rowCut cs 0 ty.size))) none) (listAt cs 0)
def aLoad (cx : Cx) (t : TypeId) (H : Heap) (x : AV) : Option AV :=
  match x with
  | .fptr cs => fLoad cx t cs
  | x => aLoad0 cx t H x
def aStore (cx : Cx) (t : TypeId) (H : Heap) (x v : AV) : Option Heap :=
  match cx.ty t, x with
  | some ty, .ptr (some p) => if v.cells.length = ty.size then storeAt H p v.cells else none
  | _, _ => none
def aPart (cx : Cx) (t : TypeId) (cs : List AV) (off : Nat) : Option AV :=
  match cx.ty t with
  | some ty => if isAggB ty.desc then (if off + ty.size ≤ cs.length then some (.agg (rowCut cs off ty.size)) else none) else listAt cs off
  | none => none
def fillParts (place : Nat → Option (Nat × Nat)) (cells : List AV) : List (Nat × AV) → Option (List AV)
  | [] => some cells
  | (i, v) :: rest =>
    match place i with
    | none => none
    | some (off, size) => if v.cells.length = size ∧ off + size ≤ cells.length then fillParts place (rowSet cells off v.cells) rest else none
def reps {α : Type} : Nat → List α → List α
  | 0, _ => []
  | n + 1, l => l ++ reps n l
def aBuild (cx : Cx) (t : TypeId) (parts : List (Nat × AV)) : Option AV :=
  match cx.ty t with
  | some ty =>
    match ty.desc with
    | .struct fs => (fillParts (fun i => (listAt fs i).ob fun f => (cx.ty f.2).ob fun ft => some (f.1, ft.size)) ty.zero.cells parts).ob fun cs => some (.agg cs)
    | .array _ e => match cx.ty e with
      | some et => (fillParts (fun i => some (i * et.size, et.size)) ty.zero.cells parts).ob fun cs => some (.agg cs)
      | none => none
    | _ => none
  | none => none
abbrev Made := (Nat → AV) × Blk
def mkPtr (e : TypeId) (cs : List AV) : Made := (fun b => .ptr (some (b, 0)), mkCells true e cs)
def aBuildSlice (cx : Cx) (t : TypeId) (len : Nat) (parts : List (Nat × AV)) : Option Made :=
  match cx.ty t with
  | some { desc := .slice e, .. } =>
    match cx.ty e with
    | some et => if len * et.size ≤ 16777216 then
        (fillParts (fun i => some (i * et.size, et.size)) (reps len et.zero.cells) parts).ob fun cs =>
          some (fun b => .slice (some (b, 0)) len (some len), mkCells true e cs)
      else none
    | none => none
  | _ => none
def frz (v : AV) : AV :=
  match v with
  | .slice none _ _ => .fsl true 0 []
  | v => v
def frzL (l : List AV) : List AV := List.rec (motive := fun _ => List AV) [] (fun v _ r => frz v :: r) l
def aMakeSlice (cx : Cx) (t : TypeId) (l c : AV) : Option Made :=
  match cx.ty t, l, c with
  | some { desc := .slice e, .. }, .int _ len, .int _ cap =>
    match cx.ty e with
    | some et => if 0 ≤ len ∧ len ≤ cap ∧ cap < 9223372036854775808 ∧ et.bytes * cap ≤ 281474976710656 then
        some (fun b => .slice (some (b, 0)) len.toNat (some cap.toNat), mkCells true e (reps cap.toNat (frzL et.zero.cells)))
      else none
    | none => none
  | _, _, _ => none
def iltB : Int → Int → Bool
  | .ofNat a, .ofNat b => Nat.ble (Nat.succ a) b
  | .negSucc _, .ofNat _ => true
  | .ofNat _, .negSucc _ => false
  | .negSucc a, .negSucc b => Nat.ble (Nat.succ b) a
def ieqB : Int → Int → Bool
  | .ofNat a, .ofNat b => Nat.beq a b
  | .negSucc _, .ofNat _ => false
  | .ofNat _, .negSucc _ => false
  | .negSucc a, .negSucc b => Nat.beq b a
def ileB (a b : Int) : Bool := !(iltB b a)
def wrapN (k : IntKind) (m : Nat) : Int :=
  match k with
  | .u8 => .ofNat (Nat.mod m 256)
  | .u16 => .ofNat (Nat.mod m 65536)
  | .u32 => .ofNat (Nat.mod m 4294967296)
  | .u64 => .ofNat (Nat.mod m 18446744073709551616)
  | .i64 => cb (Nat.ble m 9223372036854775807) (.ofNat m) (IntKind.wrap .i64 (.ofNat m))
  | k => k.wrap (.ofNat m)
def wrapS (k : IntKind) (m : Nat) : Int :=
  match k with
  | .i64 => cb (Nat.ble m 9223372036854775807) (.negSucc m) (IntKind.wrap .i64 (.negSucc m))
  | k => k.wrap (.negSucc m)
def wrapA (k : IntKind) (n : Int) : Int :=
  match n with
  | .ofNat m => wrapN k m
  | .negSucc m => wrapS k m
def topK : IntKind → Nat
  | .i8 => 128
  | .u8 => 256
  | .i16 => 32768
  | .u16 => 65536
  | .i32 => 2147483648
  | .u32 => 4294967296
  | .i64 => 9223372036854775808
  | .u64 => 18446744073709551616
def fastB (k : IntKind) (f : Nat → Nat → Nat) (a b slow : Int) : Int :=
  match a with
  | .ofNat x => match b with
    | .ofNat y => cb (Nat.ble (Nat.succ x) (topK k) && Nat.ble (Nat.succ y) (topK k)) (.ofNat (f x y)) slow
    | .negSucc _ => slow
  | .negSucc _ => slow
def andN (k : IntKind) (a b : Int) : Int := fastB k Nat.land a b (k.wrap (BitVec.ofInt k.bits a &&& BitVec.ofInt k.bits b).toNat)
def iAnd (k : IntKind) (a b : Int) : AV := .int k (andN k a b)
def orN (k : IntKind) (a b : Int) : Int := fastB k Nat.lor a b (k.wrap (BitVec.ofInt k.bits a ||| BitVec.ofInt k.bits b).toNat)
def iOr (k : IntKind) (a b : Int) : AV := .int k (orN k a b)
def xorN (k : IntKind) (a b : Int) : Int := fastB k Nat.xor a b (k.wrap (BitVec.ofInt k.bits a ^^^ BitVec.ofInt k.bits b).toNat)
def iXor (k : IntKind) (a b : Int) : AV := .int k (xorN k a b)
def andNotN (k : IntKind) (a b : Int) : Int := k.wrap (BitVec.ofInt k.bits a &&& ~~~(BitVec.ofInt k.bits b)).toNat
def iAndNot (k : IntKind) (a b : Int) : AV := .int k (andNotN k a b)
def iQuo (k : IntKind) (a b : Int) : Option AV := cb (ieqB b 0) none (some (.int k (wrapA k (a.tdiv b))))
def iRem (k : IntKind) (a b : Int) : Option AV := cb (ieqB b 0) none (some (.int k (a.tmod b)))
def iLss (a b : Int) : AV := .bool (iltB a b)
def iLeq (a b : Int) : AV := .bool (ileB a b)
def aInt (op : BinOp) (k : IntKind) (a b : Int) : Option AV :=
  match op with
  | .add => some (.int k (wrapA k (Int.add a b)))
  | .sub => some (.int k (wrapA k (Int.sub a b)))
  | .mul => some (.int k (wrapA k (Int.mul a b)))
  | .quo => iQuo k a b
  | .rem => iRem k a b
  | .and => some (iAnd k a b)
  | .or => some (iOr k a b)
  | .xor => some (iXor k a b)
  | .andNot => some (iAndNot k a b)
  | .eql => some (.bool (ieqB a b))
  | .neq => some (.bool !(ieqB a b))
  | .lss => some (iLss a b)
  | .leq => some (iLeq a b)
  | .gtr => some (iLss b a)
  | .geq => some (iLeq b a)
  | .shl => none
  | .shr => none
def bytesEq : List UInt8 → List UInt8 → Bool
  | [], [] => true
  | a :: as, b :: bs => Nat.beq a.toNat b.toNat && bytesEq as bs
  | _, _ => false
def sAdd (a b : List UInt8) : Option AV := if a.length + b.length ≤ 9223372036854775807 then some (.str (a ++ b)) else none
def aStr (op : BinOp) (a b : List UInt8) : Option AV :=
  match op with
  | .add => sAdd a b
  | .eql => some (.bool (bytesEq a b))
  | .neq => some (.bool !(bytesEq a b))
  | .lss => some (.bool (Op.bytesLess a b))
  | .leq => some (.bool (Op.bytesLess a b || bytesEq a b))
  | .gtr => some (.bool !(Op.bytesLess a b || bytesEq a b))
  | .geq => some (.bool !(Op.bytesLess a b))
  | _ => none
def AV.int? : AV → Option (IntKind × Int)
  | .int k n => some (k, n)
  | _ => none
def AV.bool? : AV → Option Bool
  | .bool b => some b
  | _ => none
def AV.str? : AV → Option (List UInt8)
  | .str s => some s
  | _ => none
def AV.ptr? : AV → Option (Option (Nat × Nat))
  | .ptr p => some p
  | _ => none
def AV.slice? : AV → Option (Option (Nat × Nat) × Nat × Option Nat)
  | .slice p l c => some (p, l, c)
  | _ => none
def AV.map? : AV → Option (Option Nat)
  | .map r => some r
  | _ => none
def AV.agg? : AV → Option (List AV)
  | .agg cs => some cs
  | _ => none
def AV.tuple? : AV → Option (List AV)
  | .tuple cs => some cs
  | _ => none
def eqPtr (cx : Cx) (e : TypeId) (a b : Option (Nat × Nat)) : Option Bool :=
  match a with
  | none => some b.isNone
  | some a => match b with
    | none => some false
    | some b => if a.1 = b.1 then (cx.ty e).ob fun et => if et.size = 0 then none else some (decide (a.2 = b.2)) else none
def eqNil {α : Type} (a b : Option α) : Option Bool :=
  match a with
  | none => some b.isNone
  | some _ => match b with
    | none => some false
    | some _ => none
def eqFunc (x y : AV) : Option Bool :=
  match x with
  | .nilFunc => match y with
    | .nilFunc => some true
    | .func _ _ _ => some false
    | .yield _ => some false
    | _ => none
  | .func _ _ _ => match y with
    | .nilFunc => some false
    | _ => none
  | .yield _ => match y with
    | .nilFunc => some false
    | _ => none
  | _ => none
def eqInt (x y : AV) : Option Bool := x.int?.ob fun a => y.int?.ob fun b => if a.1 = b.1 then some (ieqB a.2 b.2) else none
abbrev EqF := TypeId → AV → AV → Option Bool
def eqFields (cx : Cx) (eq : EqF) (xs ys : List AV) : List (Nat × TypeId) → Option Bool
  | [] => some true
  | f :: fs => (aPart cx f.2 xs f.1).ob fun x => (aPart cx f.2 ys f.1).ob fun y => (eq f.2 x y).ob fun b => cb b (eqFields cx eq xs ys fs) (some false)
def eqElems (cx : Cx) (eq : EqF) (e : TypeId) (sz : Nat) (xs ys : List AV) : Nat → Nat → Option Bool
  | 0, _ => some true
  | n + 1, i => (aPart cx e xs (i * sz)).ob fun x => (aPart cx e ys (i * sz)).ob fun y => (eq e x y).ob fun b => cb b (eqElems cx eq e sz xs ys n (i + 1)) (some false)
def eqAgg (ok : Bool) (x y : AV) (f : List AV → List AV → Option Bool) : Option Bool :=
  cb ok (x.agg?.ob fun xs => y.agg?.ob fun ys => f xs ys) none
def eqAt (cx : Cx) (eq : EqF) (ty : ATy) (x y : AV) : Option Bool :=
  match ty.desc with
  | .bool => x.bool?.ob fun a => y.bool?.ob fun b => some (a == b)
  | .int _ => eqInt x y
  | .string => x.str?.ob fun a => y.str?.ob fun b => some (bytesEq a b)
  | .ptr e => x.ptr?.ob fun a => y.ptr?.ob fun b => eqPtr cx e a b
  | .slice _ => x.slice?.ob fun a => y.slice?.ob fun b => eqNil a.1 b.1
  | .map _ _ => x.map?.ob fun a => y.map?.ob fun b => eqNil a b
  | .func => eqFunc x y
  | .struct fs => eqAgg ty.eqs x y fun xs ys => eqFields cx eq xs ys fs
  | .array n e => eqAgg ty.eqs x y fun xs ys => (cx.ty e).ob fun et => eqElems cx eq e et.size xs ys n 0
  | .iface _ => none
def aEq (cx : Cx) : Nat → EqF
  | 0, _, _, _ => none
  | d + 1, t, x, y => (cx.ty t).ob fun ty => eqAt cx (aEq cx d) ty x y
def shlN (k : IntKind) (a : Int) (n : Nat) : Int := wrapA k (Int.mul a (.ofNat (Nat.pow 2 n)))
def shrN (a : Int) (n : Nat) : Int :=
  match a with
  | .ofNat x => .ofNat (Nat.div x (Nat.pow 2 n))
  | a => a.fdiv (.ofNat (Nat.pow 2 n))
def shN (k : IntKind) (b : Nat) : Nat := cb (Nat.ble b k.bits) b k.bits
def shl (k : IntKind) (a b : Int) : Option AV := cb (iltB b 0) none (some (.int k (shlN k a (shN k b.toNat))))
def shr (k : IntKind) (a b : Int) : Option AV := cb (iltB b 0) none (some (.int k (shrN a (shN k b.toNat))))
def binInt (op : BinOp) (k : IntKind) (a : Int) (k' : IntKind) (b : Int) : Option AV :=
  match op with
  | .shl => shl k a b
  | .shr => shr k a b
  | op => if k = k' then aInt op k a b else none
def binOther0 (cx : Cx) (op : BinOp) (t : TypeId) (x y : AV) : Option AV :=
  match op with
  | .eql => (aEq cx 100 t x y).ob fun b => some (.bool b)
  | .neq => (aEq cx 100 t x y).ob fun b => some (.bool !b)
  | _ => none
def isSliceD (cx : Cx) (t : TypeId) : Bool :=
  match cx.ty t with
  | some ty => match ty.desc with
    | .slice _ => true
    | _ => false
  | none => false
def fNil (cx : Cx) (op : BinOp) (t : TypeId) (nl : Bool) : Option AV :=
  cb (isSliceD cx t) (match op with
    | .eql => some (.bool nl)
    | .neq => some (.bool !nl)
    | _ => none) none
def AV.isNil : AV → Bool
  | .slice p _ _ => p.isNone
  | _ => false
def binOther (cx : Cx) (op : BinOp) (t : TypeId) (x y : AV) : Option AV :=
  match x with
  | .fsl nl _ _ => cb y.isNil (fNil cx op t nl) none
  | x => match y with
    | .fsl nl _ _ => cb x.isNil (fNil cx op t nl) none
    | y => binOther0 cx op t x y
def aBin (cx : Cx) (op : BinOp) (t : TypeId) (x y : AV) : Option AV :=
  match x with
  | .int k a => y.int?.ob fun b => binInt op k a b.1 b.2
  | .str a => y.str?.ob fun b => aStr op a b
  | .any => none
  | x => binOther cx op t x y
def uNeg (x : AV) : Option AV := x.int?.ob fun a => some (.int a.1 (wrapA a.1 (Int.sub 0 a.2)))
def uXor (x : AV) : Option AV := x.int?.ob fun a => some (iXor a.1 (if a.1.signed then -1 else a.1.max) a.2)
def uNot (x : AV) : Option AV := x.bool?.ob fun b => some (.bool !b)
def aUn (op : UnOp) (x : AV) : Option AV :=
  match op with
  | .neg => uNeg x
  | .xor => uXor x
  | .not => uNot x
  | .plus => none
def byteOf : AV → Option UInt8
  | .int .u8 n => some (UInt8.ofNat n.toNat)
  | _ => none
def bytesOf : List AV → Option (List UInt8)
  | [] => some []
  | v :: r => (byteOf v).ob fun b => (bytesOf r).ob fun l => some (b :: l)
def ofBytes (s : List UInt8) : List AV := s.map fun b => .int .u8 b.toNat
def isU8 (cx : Cx) (e : TypeId) : Bool :=
  match cx.ty e with
  | some { desc := .int .u8, .. } => true
  | _ => false
def convInt (k : IntKind) (x : AV) : Option AV := x.int?.ob fun a => some (.int k (wrapA k a.2))
def sliceStr (cx : Cx) (e : TypeId) (x : AV) (H : Heap) : Option AV :=
  x.slice?.ob fun a => cb (isU8 cx e) (match a.1 with
    | none => some (.str [])
    | some p => (cellsAt H p a.2.1).ob fun cs => (bytesOf cs).ob fun l => some (.str l)) none
def convStr (cx : Cx) (s : ATy) (x : AV) (H : Heap) : Option AV :=
  match s.desc with
  | .string => x.str?.ob fun l => some (.str l)
  | .slice e => sliceStr cx e x H
  | _ => none
def isOwn (H : Heap) (p : Option (Nat × Nat)) : Bool :=
  match p with
  | none => false
  | some a => match H.get a.1 with
    | .cells own _ _ _ => own
    | _ => false
def convSlice (cx : Cx) (same : Bool) (s : ATy) (e : TypeId) (x : AV) (H : Heap) : Option AV :=
  match s.desc with
  | .slice _ => x.slice?.ob fun a => cb (same && isU8 cx e && isOwn H a.1 && Nat.ble 1 a.2.1) (some (.slice a.1 a.2.1 a.2.2)) none
  | _ => none
def aConv0 (cx : Cx) (src dst : TypeId) (x : AV) (H : Heap) : Option AV :=
  (cx.ty src).ob fun s => (cx.ty dst).ob fun d =>
    match d.desc with
    | .int k => convInt k x
    | .string => convStr cx s x H
    | .slice e => convSlice cx (decide (src = dst)) s e x H
    | _ => none
def fStr (cx : Cx) (src dst : TypeId) (nl : Bool) (len : Nat) (cs : List AV) : Option AV :=
  (cx.ty src).ob fun s => (cx.ty dst).ob fun d =>
    match d.desc with
    | .string => match s.desc with
      | .slice e => cb (isU8 cx e && Nat.beq cs.length len) ((bytesOf cs).ob fun l => some (.str l)) none
      | _ => none
    | _ => none
def aConv (cx : Cx) (src dst : TypeId) (x : AV) (H : Heap) : Option AV :=
  match x with
  | .fsl nl len cs => fStr cx src dst nl len cs
  | x => aConv0 cx src dst x H
def isStringT (cx : Cx) (t : TypeId) : Bool :=
  match cx.ty t with
  | some { desc := .string, .. } => true
  | _ => false
def isSliceT (cx : Cx) (t : TypeId) : Option TypeId :=
  match cx.ty t with
  | some { desc := .slice e, .. } => some e
  | _ => none
def makesBytes (cx : Cx) (src dst : TypeId) : Bool := isStringT cx src && (isSliceT cx dst).isSome
def isOne (cx : Cx) (e : TypeId) : Bool :=
  match cx.ty e with
  | some ty => Nat.beq ty.size 1
  | none => false
def aBytes (cx : Cx) (dst : TypeId) (x : AV) : Option Made :=
  (isSliceT cx dst).ob fun e => x.str?.ob fun l => cb (isU8 cx e && isOne cx e) (some (fun b => .slice (some (b, 0)) l.length none, mkCells true e (ofBytes l))) none
def boundInt (i : Int) (most : Nat) : Option Nat :=
  match i with
  | .ofNat n => cb (Nat.ble n most) (some n) none
  | .negSucc _ => none
def boundOf (x : Option AV) (d most : Nat) : Option Nat :=
  match x with
  | none => some d
  | some v => v.int?.ob fun a => boundInt a.2 most
def evO (fr : Env) : Option Operand → Option (Option AV)
  | none => some none
  | some x => (ev fr x).ob fun v => some (some v)
def place (a : Nat × Nat) (n : Nat) : Nat × Nat := (a.1, a.2 + n)
def sliceStrAt (s : List UInt8) (lo hi mx : Option AV) : Option AV :=
  cb mx.isSome none ((boundOf hi s.length s.length).ob fun h => (boundOf lo 0 h).ob fun l => some (.str (List.take (h - l) (List.drop l s))))
def sliceRow (size : Nat) (p : Option (Nat × Nat)) (len cap : Nat) (lo hi mx : Option AV) : Option AV :=
  cb (mx.isSome && hi.isNone) none ((boundOf mx cap cap).ob fun m => (boundOf hi len m).ob fun h => (boundOf lo 0 h).ob fun l =>
    some (.slice (p.map fun a => place a (l * size)) (h - l) (some (m - l))))
def sliceOpen (size : Nat) (a : Nat × Nat) (len : Nat) (lo hi : Option AV) : Option AV :=
  (boundOf hi len len).ob fun h => (boundOf lo 0 h).ob fun l => some (.slice (some (place a (l * size))) (h - l) none)
def sliceSlice (size : Nat) (x : Option (Nat × Nat) × Nat × Option Nat) (lo hi mx : Option AV) : Option AV :=
  match x.2.2 with
  | some cap => sliceRow size x.1 x.2.1 cap lo hi mx
  | none => match x.1 with
    | none => none
    | some a => cb mx.isSome (sliceRow size (some a) x.2.1 x.2.1 lo hi mx) (sliceOpen size a x.2.1 lo hi)
def aSlice0 (cx : Cx) (t : TypeId) (x : AV) (lo hi mx : Option AV) : Option AV :=
  (cx.ty t).ob fun ty =>
    match ty.desc with
    | .string => x.str?.ob fun s => sliceStrAt s lo hi mx
    | .slice e => (cx.ty e).ob fun et => x.slice?.ob fun s => sliceSlice et.size s lo hi mx
    | .array n e => (cx.ty e).ob fun et => x.ptr?.ob fun p => cb p.isSome (sliceRow et.size p n n lo hi mx) none
    | _ => none
def fCut (size : Nat) (nl : Bool) (len : Nat) (cs : List AV) (lo hi mx : Option AV) : Option AV :=
  cb (mx.isSome || !(Nat.beq cs.length (Nat.mul len size))) none ((boundOf hi len len).ob fun h => (boundOf lo 0 h).ob fun l => some (.fsl nl (h - l) (rowCut cs (l * size) ((h - l) * size))))
def fSlice (cx : Cx) (t : TypeId) (nl : Bool) (len : Nat) (cs : List AV) (lo hi mx : Option AV) : Option AV :=
  (cx.ty t).ob fun ty =>
    match ty.desc with
    | .slice e => (cx.ty e).ob fun et => fCut et.size nl len cs lo hi mx
    | _ => none
def aSlice (cx : Cx) (t : TypeId) (x : AV) (lo hi mx : Option AV) : Option AV :=
  match x with
  | .fsl nl len cs => fSlice cx t nl len cs lo hi mx
  | x => aSlice0 cx t x lo hi mx
def inRange (i : Int) (n : Nat) : Bool :=
  match i with
  | .ofNat m => Nat.ble (Nat.succ m) n
  | .negSucc _ => false
def addrAt (cx : Cx) (e : TypeId) (p : Option (Nat × Nat)) (i : Int) (n : Nat) : Option AV :=
  cb (inRange i n) ((cx.ty e).ob fun et => p.ob fun a => some (.ptr (some (place a (i.toNat * et.size))))) none
def aIndexAddr0 (cx : Cx) (t : TypeId) (x i : AV) : Option AV :=
  i.int?.ob fun i => (cx.ty t).ob fun ty =>
    match ty.desc with
    | .slice e => x.slice?.ob fun s => addrAt cx e s.1 i.2 s.2.1
    | .array n e => x.ptr?.ob fun p => addrAt cx e p i.2 n
    | _ => none
def fIndex (cx : Cx) (t : TypeId) (len : Nat) (cs : List AV) (i : AV) : Option AV :=
  i.int?.ob fun i => (cx.ty t).ob fun ty =>
    match ty.desc with
    | .slice e => (cx.ty e).ob fun et => cb (inRange i.2 len && Nat.beq cs.length (Nat.mul len et.size)) (some (.fptr (List.drop (i.2.toNat * et.size) cs))) none
    | _ => none
def aIndexAddr (cx : Cx) (t : TypeId) (x i : AV) : Option AV :=
  match x with
  | .fsl _ len cs => fIndex cx t len cs i
  | x => aIndexAddr0 cx t x i
def strAt (s : List UInt8) (i : Int) : Option AV := cb (ileB 0 i) ((listAt s i.toNat).ob fun b => some (.int .u8 b.toNat)) none
def aIndex (cx : Cx) (t : TypeId) (x i : AV) : Option AV :=
  i.int?.ob fun i => (cx.ty t).ob fun ty =>
    match ty.desc with
    | .array n e => x.agg?.ob fun cs => cb (inRange i.2 n) ((cx.ty e).ob fun et => aPart cx e cs (i.2.toNat * et.size)) none
    | .string => x.str?.ob fun s => strAt s i.2
    | _ => none
def fieldsOf (cx : Cx) (t : TypeId) : Option (List (Nat × TypeId)) :=
  match cx.ty t with
  | some { desc := .struct fs, .. } => some fs
  | _ => none
def aFieldAddr0 (cx : Cx) (t : TypeId) (x : AV) (f : Nat) : Option AV :=
  (fieldsOf cx t).ob fun fs => (listAt fs f).ob fun g => (cx.ty g.2).ob fun ft => x.ptr?.ob fun p => p.ob fun a =>
    if ft.size = 0 then none else some (.ptr (some (place a g.1)))
def fField (cx : Cx) (t : TypeId) (cs : List AV) (f : Nat) : Option AV :=
  (fieldsOf cx t).ob fun fs => (listAt fs f).ob fun g => (cx.ty g.2).ob fun ft => cb (Nat.ble 1 ft.size && Nat.ble (g.1 + ft.size) cs.length) (some (.fptr (List.drop g.1 cs))) none
def aFieldAddr (cx : Cx) (t : TypeId) (x : AV) (f : Nat) : Option AV :=
  match x with
  | .fptr cs => fField cx t cs f
  | x => aFieldAddr0 cx t x f
def aField (cx : Cx) (t : TypeId) (x : AV) (f : Nat) : Option AV :=
  (fieldsOf cx t).ob fun fs => (listAt fs f).ob fun g => x.agg?.ob fun cs => aPart cx g.2 cs g.1
def srcSlice (size : Nat) (H : Heap) (a : Option (Nat × Nat) × Nat × Option Nat) : Option (Nat × List AV) :=
  match a.1 with
  | none => if a.2.1 = 0 then some (0, []) else none
  | some p => (cellsAt H p (a.2.1 * size)).ob fun cs => some (a.2.1, cs)
def srcCells0 (size : Nat) (H : Heap) (x : AV) : Option (Nat × List AV) :=
  match x with
  | .slice p l c => srcSlice size H (p, l, c)
  | .str s => if size = 1 then some (s.length, ofBytes s) else none
  | _ => none
def srcCells (size : Nat) (H : Heap) (x : AV) : Option (Nat × List AV) :=
  match x with
  | .fsl _ len cs => cb (Nat.beq cs.length (Nat.mul len size)) (some (len, cs)) none
  | x => srcCells0 size H x
def zeroCells (et : ATy) (x : AV) : Option (Nat × List AV) :=
  x.int?.ob fun a => if 0 ≤ a.2 ∧ a.2 < 9223372036854775808 ∧ a.2 * et.bytes ≤ 281474976710656 then some (a.2.toNat, reps a.2.toNat et.zero.cells) else none
def isIntT (cx : Cx) (t : TypeId) : Option Bool :=
  match cx.ty t with
  | some { desc := .int _, .. } => some true
  | some _ => some false
  | none => none
def appNew (e : TypeId) (n : Nat) (cs : List AV) (H : Heap) : AV × Heap := (.slice (some (H.next, 0)) n none, H.new (mkCells true e cs))
def appOwn (e : TypeId) (size : Nat) (a : Nat × Nat) (len : Nat) (nc : Nat × List AV) (H : Heap) : Option (AV × Heap) :=
  match H.get a.1 with
  | .cells true e' n cs => if a.2 = 0 ∧ e' = e ∧ n = len * size ∧ nc.2.all AV.isCell = true then some (appNew e (len + nc.1) (cs ++ nc.2) (H.put a.1 .dead))
    else if a.2 = 0 ∧ e' = e ∧ len * size ≤ n ∧ nc.2.all AV.isCell = true then some (appNew e (len + nc.1) (rowCut cs 0 (len * size) ++ nc.2) (H.put a.1 .dead)) else none
  | _ => none
def appGrow (e : TypeId) (size : Nat) (a : Nat × Nat) (len : Nat) (nc : Nat × List AV) (H : Heap) : Option (AV × Heap) :=
  (cellsAt H a (len * size)).ob fun old => some (appNew e (len + nc.1) (old ++ nc.2) H)
def appIn (size : Nat) (a : Nat × Nat) (len c : Nat) (nc : Nat × List AV) (H : Heap) : Option (AV × Heap) :=
  (storeAt H (place a (len * size)) nc.2).ob fun H' => some (.slice (some a) (len + nc.1) (some c), H')
def appTo (e : TypeId) (size : Nat) (s : Option (Nat × Nat) × Nat × Option Nat) (nc : Nat × List AV) (H : Heap) : Option (AV × Heap) :=
  match s.1 with
  | none => if s.2.1 = 0 ∧ s.2.2 = some 0 then some (appNew e nc.1 nc.2 H) else none
  | some a => match s.2.2 with
    | none => appOwn e size a s.2.1 nc H
    | some c => if c < s.2.1 + nc.1 then appGrow e size a s.2.1 nc H else appIn size a s.2.1 c nc H
def appRoom (bytes len n : Nat) : Bool := decide ((len + n) * (2 * bytes + 1) ≤ 140737488355328)
def aAppend (cx : Cx) (t u : TypeId) (s x : AV) (H : Heap) : Option (AV × Heap) :=
  (isSliceT cx t).ob fun e => (cx.ty e).ob fun et => s.slice?.ob fun s => (isIntT cx u).ob fun z => (cb z (zeroCells et x) (srcCells et.size H x)).ob fun nc =>
    if nc.1 = 0 then some (.slice s.1 s.2.1 s.2.2, H)
    else if et.size = 0 then none
    else cb (appRoom et.bytes s.2.1 nc.1) (appTo e et.size s nc H) none
def copyTo (p : Option (Nat × Nat)) (n : Nat) (cs : List AV) (H : Heap) : Option (AV × Heap) :=
  p.ob fun a => (storeAt H a cs).ob fun H' => some (.int .i64 n, H')
def copySlice (size : Nat) (d s : Option (Nat × Nat) × Nat × Option Nat) (H : Heap) : Option (AV × Heap) :=
  let n := min s.2.1 d.2.1
  if n = 0 then some (.int .i64 0, H) else s.1.ob fun b => (cellsAt H b (n * size)).ob fun cs => copyTo d.1 n cs H
def copyStr (size : Nat) (d : Option (Nat × Nat) × Nat × Option Nat) (l : List UInt8) (H : Heap) : Option (AV × Heap) :=
  let n := min l.length d.2.1
  if size = 1 then (if n = 0 then some (.int .i64 0, H) else copyTo d.1 n (ofBytes (l.take n)) H) else none
def copyFsl (size : Nat) (d : Option (Nat × Nat) × Nat × Option Nat) (len : Nat) (cs : List AV) (H : Heap) : Option (AV × Heap) :=
  let n := min len d.2.1
  if n = 0 then some (.int .i64 0, H) else cb (Nat.beq cs.length (Nat.mul len size)) (copyTo d.1 n (rowCut cs 0 (n * size)) H) none
def aCopy (cx : Cx) (t : TypeId) (d s : AV) (H : Heap) : Option (AV × Heap) :=
  (isSliceT cx t).ob fun e => (cx.ty e).ob fun et => d.slice?.ob fun d =>
    match s with
    | .slice q m c => copySlice et.size d (q, m, c) H
    | .str l => copyStr et.size d l H
    | .fsl _ m cs => copyFsl et.size d m cs H
    | _ => none
def lenMap (H : Heap) (r : Option Nat) : Option AV :=
  match r with
  | none => some (.int .i64 0)
  | some r => match H.get r with
    | .entries es => some (.int .i64 es.length)
    | _ => none
def aLen0 (cx : Cx) (t : TypeId) (x : AV) (H : Heap) : Option AV :=
  (cx.ty t).ob fun ty =>
    match ty.desc with
    | .string => x.str?.ob fun s => some (.int .i64 s.length)
    | .array n _ => some (.int .i64 n)
    | .slice _ => x.slice?.ob fun s => some (.int .i64 s.2.1)
    | .map _ _ => x.map?.ob fun r => lenMap H r
    | _ => none
def aLen (cx : Cx) (t : TypeId) (x : AV) (H : Heap) : Option AV :=
  match x with
  | .fsl _ len _ => cb (isSliceD cx t) (some (.int .i64 len)) none
  | x => aLen0 cx t x H
def two (f : IntKind → Int → Int → AV) (l : List AV) : Option AV :=
  match l with
  | [x, y] => x.int?.ob fun a => y.int?.ob fun b => if a.1 = b.1 then some (f a.1 a.2 b.2) else none
  | _ => none
def minI (a b : Int) : Int := if b < a then b else a
def maxI (a b : Int) : Int := if b > a then b else a
def aMin (l : List AV) : Option AV := two (fun k a b => .int k (minI a b)) l
def aMax (l : List AV) : Option AV := two (fun k a b => .int k (maxI a b)) l
def cellKey (x y : AV) : Option Bool :=
  match x with
  | .int _ _ => eqInt x y
  | .str a => y.str?.ob fun b => some (bytesEq a b)
  | .bool a => y.bool?.ob fun b => some (a == b)
  | _ => none
def cellsKey : List AV → List AV → Option Bool
  | [], [] => some true
  | a :: as, b :: bs => (cellKey a b).ob fun c => (cellsKey as bs).ob fun d => some (c && d)
  | _, _ => none
def aggKey (cx : Cx) (t : TypeId) (k x : AV) : Option Bool :=
  (aEq cx 100 t k x).ob fun b => k.agg?.ob fun xs => x.agg?.ob fun ys => (cellsKey xs ys).ob fun c => cb (b == c) (some b) none
def sameKey (cx : Cx) (t : TypeId) (x y : AV) : Option Bool :=
  match x with
  | .agg cs => aggKey cx t (.agg cs) y
  | x => cellKey x y
def isIntK (q : IntKind) (k : AV) : Bool :=
  match k with
  | .int j _ => decide (j = q)
  | _ => false
def isKey1 (cx : Cx) (t : TypeId) (k : AV) : Bool :=
  match cx.ty t with
  | none => false
  | some ty => match ty.desc with
    | .int q => isIntK q k
    | .string => k.str?.isSome
    | .bool => k.bool?.isSome
    | _ => false
def isCell1 (v : AV) : Bool :=
  match v with
  | .int _ _ => true
  | .str _ => true
  | .bool _ => true
  | _ => false
def keyPart (cx : Cx) (cs : List AV) (t : TypeId) (off : Nat) : Bool :=
  match aPart cx t cs off with
  | some v => isKey1 cx t v
  | none => false
def keyFields (cx : Cx) (cs : List AV) : List (Nat × TypeId) → Bool
  | [] => true
  | f :: fs => keyPart cx cs f.2 f.1 && keyFields cx cs fs
def keyElems (cx : Cx) (cs : List AV) (e : TypeId) (sz : Nat) : Nat → Nat → Bool
  | 0, _ => true
  | n + 1, i => keyPart cx cs e (i * sz) && keyElems cx cs e sz n (i + 1)
def isKeyAgg (cx : Cx) (t : TypeId) (cs : List AV) : Bool :=
  match cx.ty t with
  | none => false
  | some ty => match ty.desc with
    | .struct fs => cs.all isCell1 && keyFields cx cs fs
    | .array n e => match cx.ty e with
      | some et => cs.all isCell1 && keyElems cx cs e et.size n 0
      | none => false
    | _ => false
def isKeyT (cx : Cx) (t : TypeId) (k : AV) : Bool :=
  match k with
  | .agg cs => isKeyAgg cx t cs
  | k => isKey1 cx t k
def findKey (cx : Cx) (t : TypeId) (k : AV) : List (AV × AV) → Option (Option AV)
  | [] => some none
  | e :: es => (sameKey cx t k e.1).ob fun b => if b then some (some e.2) else findKey cx t k es
def putKey (cx : Cx) (t : TypeId) (k v : AV) : List (AV × AV) → Option (List (AV × AV))
  | [] => some [(k, v)]
  | e :: es => (sameKey cx t k e.1).ob fun b => if b then some ((k, v) :: es) else (putKey cx t k v es).ob fun r => some (e :: r)
def dropKey (cx : Cx) (t : TypeId) (k : AV) : List (AV × AV) → Option (List (AV × AV))
  | [] => some []
  | e :: es => (sameKey cx t k e.1).ob fun b => if b then some es else (dropKey cx t k es).ob fun r => some (e :: r)
def mapT (cx : Cx) (t : TypeId) : Option (TypeId × TypeId) :=
  match cx.ty t with
  | some { desc := .map k e, .. } => some (k, e)
  | _ => none
def entriesOf (H : Heap) (r : Nat) : Option (List (AV × AV)) :=
  match H.get r with
  | .entries es => some es
  | _ => none
def entriesAt (H : Heap) (r : Option Nat) : Option (List (AV × AV)) :=
  match r with
  | none => some []
  | some r => entriesOf H r
def aLookup (cx : Cx) (t : TypeId) (x k : AV) (ok : Bool) (H : Heap) : Option AV :=
  (mapT cx t).ob fun m => cb (isKeyT cx m.1 k) (x.map?.ob fun r => (entriesAt H r).ob fun es => (findKey cx m.1 k es).ob fun f => (cx.ty m.2).ob fun e =>
    some (cb ok (.tuple [f.getD e.zero, .bool f.isSome]) (f.getD e.zero))) none
def aMapPut (cx : Cx) (t : TypeId) (x k v : AV) (H : Heap) : Option Heap :=
  (mapT cx t).ob fun m => cb (isKeyT cx m.1 k) (x.map?.ob fun r => r.ob fun r => (entriesOf H r).ob fun es => (putKey cx m.1 k v es).ob fun es' => some (H.put r (.entries es'))) none
def dropIn (cx : Cx) (t : TypeId) (k : AV) (H : Heap) (r : Option Nat) : Option Heap :=
  match r with
  | none => some H
  | some r => (entriesOf H r).ob fun es => (dropKey cx t k es).ob fun es' => some (H.put r (.entries es'))
def aDelete (cx : Cx) (t : TypeId) (x k : AV) (H : Heap) : Option Heap :=
  (mapT cx t).ob fun m => cb (isKeyT cx m.1 k) (x.map?.ob fun r => dropIn cx m.1 k H r) none
inductive Tgt where
  | fn (f : FuncId)
  | yield (l : Nat)
abbrev Caller := Tgt → List AV → Heap → Option (AV × Heap)
def aCallV (call : Caller) (f : AV) (args : List AV) (H : Heap) : Option (AV × Heap) :=
  match f with
  | .func g first captured => call (.fn g) (first ++ args ++ captured) H
  | .yield l => call (.yield l) args H
  | _ => none
inductive Kind where
  | made | quiet | loud
  deriving DecidableEq
def kindCall : Callee → Kind
  | .builtin b => match b with
    | .len => .quiet
    | .cap => .quiet
    | .min => .quiet
    | .max => .quiet
    | _ => .loud
  | _ => .loud
def kindOf (cx : Cx) (o : Op) : Kind :=
  match o with
  | .alloc _ => .made
  | .box _ _ => .made
  | .buildSlice _ _ _ => .made
  | .makeSlice _ _ _ => .made
  | .makeMap _ _ => .made
  | .convert s d _ => cb (makesBytes cx s d) .made .quiet
  | .store _ _ _ => .loud
  | .mapUpdate _ _ _ _ => .loud
  | .insert _ _ _ _ => .loud
  | .call c => kindCall c.callee
  | _ => .quiet
def mBox (t : TypeId) (x : Operand) (g : Env) : Option Made := (ev g x).ob fun v => some (mkPtr t v.cells)
def mBuild (cx : Cx) (t : TypeId) (n : Nat) (ps : List (Nat × Operand)) (g : Env) : Option Made := (evParts g ps).ob fun ps => aBuildSlice cx t n ps
def mMake (cx : Cx) (t : TypeId) (l c : Operand) (g : Env) : Option Made := (ev g l).ob fun l => (ev g c).ob fun c => aMakeSlice cx t l c
def mMap (r : Option Operand) : Option Made := cb r.isNone (some (fun b => .map (some b), .entries [])) none
def aMade (cx : Cx) (o : Op) (g : Env) : Option Made :=
  match o with
  | .alloc t => (cx.ty t).ob fun ty => some (mkPtr t ty.zero.cells)
  | .box t x => mBox t x g
  | .buildSlice t n ps => mBuild cx t n ps.toList g
  | .makeSlice t l c => mMake cx t l c g
  | .makeMap _ r => mMap r
  | .convert _ d x => (ev g x).ob fun x => aBytes cx d x
  | _ => none
def ev2 {α : Type} (g : Env) (x y : Operand) (f : AV → AV → Option α) : Option α := (ev g x).ob fun x => (ev g y).ob fun y => f x y
def pick (c a b : AV) : Option AV := c.bool?.ob fun c => some (cb c a b)
def aNil (x : AV) : Option AV :=
  match x with
  | .fptr cs => some (.fptr cs)
  | .ptr p => p.ob fun p => some (.ptr (some p))
  | .func f a b => some (.func f a b)
  | .yield l => some (.yield l)
  | _ => none
def arrLen (cx : Cx) (t : TypeId) : Option Nat :=
  match cx.ty t with
  | some ty => match ty.desc with
    | .array n _ => some n
    | _ => none
  | none => none
def aArr (cx : Cx) (t : TypeId) (x : AV) : Option AV :=
  (arrLen cx t).ob fun n => match x with
    | .slice p len _ => p.ob fun p => cb (Nat.ble 1 len && Nat.ble n len) (some (.ptr (some p))) none
    | .fsl nl len cs => cb (!nl && Nat.ble n len) (some (.fptr cs)) none
    | _ => none
def qFunc (fn : Fn) (first captured : List Operand) (g : Env) : Option AV :=
  match fn with
  | .func f => (evs g first).ob fun a => (evs g captured).ob fun b => some (.func f a b)
  | _ => none
def qSlice (cx : Cx) (t : TypeId) (x : Operand) (lo hi mx : Option Operand) (g : Env) : Option AV :=
  (ev g x).ob fun x => (evO g lo).ob fun lo => (evO g hi).ob fun hi => (evO g mx).ob fun mx => aSlice cx t x lo hi mx
def qLen (cx : Cx) (ts : List TypeId) (l : List AV) (H : Heap) : Option AV :=
  match ts with
  | [t] => match l with
    | [x] => aLen cx t x H
    | _ => none
  | _ => none
def aCap (x : AV) : Option AV :=
  match x with
  | .slice _ _ c => c.ob fun c => some (.int .i64 (.ofNat c))
  | _ => none
def qCap (cx : Cx) (ts : List TypeId) (l : List AV) : Option AV :=
  match ts with
  | [t] => match l with
    | [x] => (isSliceT cx t).ob fun _ => aCap x
    | _ => none
  | _ => none
def qBuiltin (cx : Cx) (b : Builtin) (ts : List TypeId) (l : List AV) (H : Heap) : Option AV :=
  match b with
  | .len => qLen cx ts l H
  | .cap => qCap cx ts l
  | .min => aMin l
  | .max => aMax l
  | _ => none
def qCall (cx : Cx) (c : Call) (g : Env) (H : Heap) : Option AV :=
  match c.callee with
  | .builtin b => (evs g c.args.toList).ob fun l => qBuiltin cx b c.argTypes.toList l H
  | _ => none
def aQuiet (cx : Cx) (o : Op) (g : Env) (H : Heap) : Option AV :=
  match o with
  | .move x => ev g x
  | .assign x => ev g x
  | .pick c a b => (ev g c).ob fun c => ev2 g a b (pick c)
  | .build t ps => (evParts g ps.toList).ob (aBuild cx t)
  | .load t a => (ev g a).ob (aLoad cx t H)
  | .nilCheck x => (ev g x).ob aNil
  | .sliceToArrayPointer t x => (ev g x).ob (aArr cx t)
  | .binOp op t x y _ => ev2 g x y (aBin cx op t)
  | .unOp op _ x => (ev g x).ob (aUn op)
  | .convert s d x => (ev g x).ob fun x => aConv cx s d x H
  | .makeFunc fn first captured => qFunc fn first.toList captured.toList g
  | .slice t x lo hi mx => qSlice cx t x lo hi mx g
  | .fieldAddr t x f => (ev g x).ob fun x => aFieldAddr cx t x f
  | .field t x f => (ev g x).ob fun x => aField cx t x f
  | .indexAddr t x i => ev2 g x i (aIndexAddr cx t)
  | .index t x i => ev2 g x i (aIndex cx t)
  | .lookup t x i ok => ev2 g x i fun x i => aLookup cx t x i ok H
  | .extract x i => (ev g x).ob fun x => x.tuple?.ob fun vs => listAt vs i
  | .call c => qCall cx c g H
  | _ => none
def lStore (cx : Cx) (t : TypeId) (a x : Operand) (g : Env) (H : Heap) : Option (AV × Heap) := ev2 g a x fun a x => (aStore cx t H a x).ob fun H' => some (.undef, H')
def lPut (cx : Cx) (t : TypeId) (m k x : Operand) (g : Env) (H : Heap) : Option (AV × Heap) :=
  (ev g m).ob fun m => ev2 g k x fun k x => (aMapPut cx t m k x H).ob fun H' => some (.undef, H')
def two2 {α β : Type} (l : List α) (f : α → α → Option β) : Option β :=
  match l with
  | [a, b] => f a b
  | _ => none
def lBuiltin (cx : Cx) (b : Builtin) (ts : List TypeId) (l : List AV) (H : Heap) : Option (AV × Heap) :=
  match b with
  | .append => two2 ts fun t u => two2 l fun s x => aAppend cx t u s x H
  | .copy => two2 ts fun t _ => two2 l fun d s => aCopy cx t d s H
  | .delete => two2 ts fun t _ => two2 l fun m k => (aDelete cx t m k H).ob fun H' => some (.tuple [], H')
  | _ => none
def lCall (cx : Cx) (call : Caller) (c : Call) (g : Env) (H : Heap) : Option (AV × Heap) :=
  match c.callee with
  | .builtin b => (evs g c.args.toList).ob fun l => lBuiltin cx b c.argTypes.toList l H
  | .value f => (ev g f).ob fun f => (evs g c.args.toList).ob fun l => aCallV call f l H
  | .invoke _ _ => none
def aLoud (cx : Cx) (call : Caller) (o : Op) (g : Env) (H : Heap) : Option (AV × Heap) :=
  match o with
  | .store t a x => lStore cx t a x g H
  | .mapUpdate t m k x => lPut cx t m k x g H
  | .insert t m k x => lPut cx t m k x g H
  | .call c => lCall cx call c g H
  | _ => none
def aOpK (cx : Cx) (call : Caller) (o : Op) (g : Env) (H : Heap) : Option (AV × Heap) :=
  match kindOf cx o with
  | .made => (aMade cx o g).ob fun r => some (r.1 H.next, H.new r.2)
  | .quiet => (aQuiet cx o g H).ob fun v => some (v, H)
  | .loud => aLoud cx call o g H
def asQuiet (H : Heap) (v : Option AV) : Option (AV × Heap) := v.ob fun v => some (v, H)
def asMade (H : Heap) (m : Option Made) : Option (AV × Heap) := m.ob fun r => some (r.1 H.next, H.new r.2)
def pConv (cx : Cx) (s d : TypeId) (x : Operand) (g : Env) (H : Heap) : Option (AV × Heap) :=
  cb (makesBytes cx s d) (asMade H ((ev g x).ob fun x => aBytes cx d x)) (asQuiet H ((ev g x).ob fun x => aConv cx s d x H))
def pCall (cx : Cx) (call : Caller) (c : Call) (g : Env) (H : Heap) : Option (AV × Heap) :=
  match kindCall c.callee with
  | .quiet => asQuiet H (qCall cx c g H)
  | .loud => lCall cx call c g H
  | .made => none
def aOp (cx : Cx) (call : Caller) (o : Op) (g : Env) (H : Heap) : Option (AV × Heap) :=
  match o with
  | .move x => asQuiet H (ev g x)
  | .assign x => asQuiet H (ev g x)
  | .pick c a b => asQuiet H ((ev g c).ob fun c => ev2 g a b (pick c))
  | .alloc t => asMade H ((cx.ty t).ob fun ty => some (mkPtr t ty.zero.cells))
  | .box t x => asMade H (mBox t x g)
  | .build t ps => asQuiet H ((evParts g ps.toList).ob (aBuild cx t))
  | .buildSlice t n ps => asMade H (mBuild cx t n ps.toList g)
  | .insert t m k x => lPut cx t m k x g H
  | .load t a => asQuiet H ((ev g a).ob (aLoad cx t H))
  | .store t a x => lStore cx t a x g H
  | .nilCheck x => asQuiet H ((ev g x).ob aNil)
  | .sliceToArrayPointer t x => asQuiet H ((ev g x).ob (aArr cx t))
  | .binOp op t x y _ => asQuiet H (ev2 g x y (aBin cx op t))
  | .unOp op _ x => asQuiet H ((ev g x).ob (aUn op))
  | .convert s d x => pConv cx s d x g H
  | .makeFunc fn first captured => asQuiet H (qFunc fn first.toList captured.toList g)
  | .makeMap _ r => asMade H (mMap r)
  | .makeSlice t l c => asMade H (mMake cx t l c g)
  | .slice t x lo hi mx => asQuiet H (qSlice cx t x lo hi mx g)
  | .fieldAddr t x f => asQuiet H ((ev g x).ob fun x => aFieldAddr cx t x f)
  | .field t x f => asQuiet H ((ev g x).ob fun x => aField cx t x f)
  | .indexAddr t x i => asQuiet H (ev2 g x i (aIndexAddr cx t))
  | .index t x i => asQuiet H (ev2 g x i (aIndex cx t))
  | .lookup t x i ok => asQuiet H (ev2 g x i fun x i => aLookup cx t x i ok H)
  | .mapUpdate t m k x => lPut cx t m k x g H
  | .extract x i => asQuiet H ((ev g x).ob fun x => x.tuple?.ob fun vs => listAt vs i)
  | .call c => pCall cx call c g H
  | _ => none
theorem aOp_eq (cx : Cx) (call : Caller) (o : Op) (g : Env) (H : Heap) : aOp cx call o g H = aOpK cx call o g H := by
  cases o <;> first
    | rfl
    | (simp only [aOp, aOpK, kindOf, pConv, aMade, aQuiet, asMade, asQuiet]
       first | (cases makesBytes cx _ _ <;> rfl) | rfl)
    | (rename_i c; obtain ⟨callee, args, ts⟩ := c
       cases callee with
       | builtin b => cases b <;> rfl
       | value f => rfl
       | invoke r m => rfl)
def guardHolds (want : Bool) (v : AV) : Bool :=
  match v with
  | .bool b => b == want
  | _ => false
def aGuard (ops : List Oper) (g : Env) (j : Nat) (want : Bool) : Bool :=
  match (listAt ops j).ob (·.dst) with
  | some t => guardHolds want (g t)
  | none => false
def aWanted (ops : List Oper) (g : Env) (o : Oper) : Bool :=
  match o.guard with
  | none => true
  | some q => aGuard ops g q.1 q.2
def isAny (v : AV) : Bool :=
  match v with
  | .any => true
  | _ => false
def gknown (ops : List Oper) (g : Env) (o : Oper) : Bool :=
  match o.guard with
  | none => true
  | some q => match (listAt ops q.1).ob (·.dst) with
    | some t => !(isAny (g t))
    | none => true
def aStep0 (cx : Cx) (call : Caller) (all : List Oper) (o : Oper) (g : Env) (H : Heap) : Option (AV × Heap) :=
  cb (aWanted all g o) (aOp cx call o.op g H) (some (.undef, H))
def aStep (cx : Cx) (call : Caller) (all : List Oper) (o : Oper) (g : Env) (H : Heap) : Option (AV × Heap) :=
  cb (gknown all g o) (aStep0 cx call all o g H) none
theorem aStep_eq {cx : Cx} {call : Caller} {all : List Oper} {o : Oper} {g : Env} {H : Heap} {r : AV × Heap} (h : aStep cx call all o g H = some r) : gknown all g o = true ∧ aStep0 cx call all o g H = some r := by
  unfold aStep at h
  rw [cb_eq] at h
  split at h
  · rename_i hk; exact ⟨hk, h⟩
  · cases h
def aOps (cx : Cx) (call : Caller) (n : Nat) (all l : List Oper) : Fr → Heap → Option (Fr × Heap) :=
  List.rec (motive := fun _ => Fr → Heap → Option (Fr × Heap)) (fun fr H => some (fr, H))
    (fun o _ go fr H => (aStep cx call all o fr.get H).ob fun r => (fr.put n o.dst r.1).ob fun fr' => go fr' r.2) l
@[simp] theorem aOps_nil (cx : Cx) (call : Caller) (n : Nat) (all : List Oper) (fr : Fr) (H : Heap) : aOps cx call n all [] fr H = some (fr, H) := rfl
theorem aOps_cons (cx : Cx) (call : Caller) (n : Nat) (all : List Oper) (o : Oper) (l : List Oper) (fr : Fr) (H : Heap) :
    aOps cx call n all (o :: l) fr H = (aStep cx call all o fr.get H).ob fun r => (fr.put n o.dst r.1).ob fun fr' => aOps cx call n all l fr' r.2 := rfl
def befs : List Oper → List Nat → Option (List Nat)
  | [], acc => some acc.reverse
  | o :: rest, acc =>
    let b := o.after.toList.foldl (fun s e => if Region.binds .any e then s ||| 2 ^ e.on ||| acc.getD (acc.length - 1 - e.on) 0 else s) 0
    if o.after.toList.all (fun e => !Region.binds .any e || decide (e.on < acc.length)) then befs rest (b :: acc) else none
structure Row where
  j : Nat
  o : Oper
  k : Kind
  b : Nat
  lo : Nat
  hi : Nat
def loOf (b : Nat) : List Nat → Nat → Nat → Nat
  | [], _, r => r
  | l :: ls, s, r => loOf b ls (s + 1) (if b.testBit l then s + 1 else r)
def hiOf (j : Nat) : List (Nat × Nat) → Nat → Nat
  | [], s => s
  | l :: ls, s => if l.2.testBit j then s else hiOf j ls (s + 1)
def zip3 : Nat → List Oper → List Nat → List (Nat × Oper × Nat)
  | i, o :: os, b :: bs => (i, o, b) :: zip3 (i + 1) os bs
  | _, _, _ => []
def isLoud (cx : Cx) (o : Oper) : Bool := match kindOf cx o.op with | .loud => true | _ => false
def rowsOf (cx : Cx) (ops : List Oper) : Option (List Row) :=
  (befs ops []).ob fun bs =>
    let l := zip3 0 ops bs
    let ld := (l.filter fun x => isLoud cx x.2.1).map fun x => (x.1, x.2.2)
    some (l.map fun x => { j := x.1, o := x.2.1, k := kindOf cx x.2.1.op, b := x.2.2, lo := loOf x.2.2 (ld.map (·.1)) 0 0, hi := hiOf x.1 ld 0 })
def isLoudR (r : Row) : Bool := match r.k with | .loud => true | _ => false
def planOf (rows : List Row) : List Row → Nat → List Row
  | [], s => rows.filter fun r => !isLoudR r && r.lo == s
  | l :: ls, s => (rows.filter fun r => !isLoudR r && r.lo == s) ++ l :: planOf rows ls (s + 1)
def looksAt (ops : List Oper) (o : Oper) : List Tmp :=
  (o.op.operands.toList.filterMap fun x => match x with | .tmp t => some t | _ => none) ++
  (match o.guard with
   | some (g, _) => ((listAt ops g).ob (·.dst)).toList
   | none => [])
def louds (rows : List Row) : List Row := rows.filter isLoudR
def chained : List Row → Bool
  | a :: b :: r => b.b.testBit a.j && chained (b :: r)
  | _ => true
def fits (ops : List Oper) (a b : Row) : Bool :=
  (match a.o.dst with
   | some t => b.o.dst != some t && (!(looksAt ops b.o).contains t || b.b.testBit a.j)
   | none => true) &&
  (match b.o.dst with
   | some t => !(looksAt ops a.o).contains t || b.b.testBit a.j
   | none => true)
def fitsAll (ops : List Oper) : List Row → Bool
  | [] => true
  | a :: r => r.all (fits ops a) && fitsAll ops r
structure Plan where
  rows : List Row
  plan : List Row
def mkPlan (cx : Cx) (ops : List Oper) : Option Plan :=
  (rowsOf cx ops).ob fun rows =>
    let p := planOf rows (louds rows) 0
    if p.length = ops.length ∧ chained (louds rows) = true ∧ fitsAll ops p = true then some ⟨rows, p⟩ else none
structure Rec where
  r : Row
  g : Fr
  v : AV
  id : Nat
def drawRun (cx : Cx) (call : Caller) (n : Nat) (all : List Oper) : List Row → Fr → Heap → Option (List Rec × List Heap × Fr)
  | [], fr, H => some ([], [H], fr)
  | r :: rest, fr, H => (aStep cx call all r.o fr.get H).ob fun x => cb (Nat.ble H.next x.2.next) ((fr.put n r.o.dst x.1).ob fun fr' => (drawRun cx call n all rest fr' x.2).ob fun y =>
      some (⟨r, fr, x.1, H.next⟩ :: y.1, (if isLoudR r then H :: y.2.1 else y.2.1), y.2.2)) none
def Blk.same : Blk → Blk → Bool
  | .cells o e n cs, .cells o' e' n' cs' => (o == o') && decide (e = e') && decide (n = n') && AV.beqL cs cs'
  | .entries [], .entries [] => true
  | _, _ => false
def recHolds (cx : Cx) (all : List Oper) (Hs : List Heap) (c : Rec) : Bool :=
  if aWanted all c.g.get c.r.o then
    match c.r.k with
    | .loud => true
    | .quiet => ((Hs.take (c.r.hi + 1)).drop c.r.lo).all fun H => match aQuiet cx c.r.o.op c.g.get H with
      | some v => AV.beq v c.v
      | none => false
    | .made => ((Hs.take (c.r.hi + 1)).drop c.r.lo).all fun H => match aMade cx c.r.o.op c.g.get with
      | some m => Nat.ble (Nat.succ c.id) H.next && Blk.same (H.get c.id) m.2
      | none => false
  else true
def allQuiet (rows : List Row) : Bool := rows.all fun r => match r.k with | .quiet => true | _ => false
def aDraw (cx : Cx) (call : Caller) (n : Nat) (ops : List Oper) (fr : Fr) (H : Heap) : Option (Fr × Heap) :=
  (mkPlan cx ops).ob fun p => (drawRun cx call n ops p.plan fr H).ob fun y =>
    if allQuiet p.rows || y.1.all (recHolds cx ops y.2.1) then some (y.2.2, y.2.1.getLastD H) else none
def jumpOf : AX → Option Code
  | .normal => none
  | .exit id => some (.exit id)
  | .ret => some .ret
def axOf : Code → Option AX
  | .exit id => some (.exit id)
  | .ret => some .ret
  | _ => none
def putAll (n : Nat) : List Tmp → List AV → Fr → Option Fr
  | [], [], fr => some fr
  | t :: ts, v :: vs, fr => (fr.put n (some t) v).ob fun fr' => putAll n ts vs fr'
  | _, _, _ => none
abbrev Run := Code → St → Option (AX × St)
def cRegion (cx : Cx) (call : Caller) (n : Nat) (ops : List Oper) (draw : Bool) (s : St) : Option (AX × St) :=
  (cb draw (aDraw cx call n ops s.fr s.H) (aOps cx call n ops ops s.fr s.H)).ob fun r => some (.normal, ⟨r.1, s.ds, r.2⟩)
def cThen (run : St → Option (AX × St)) (r : AX × St) : Option (AX × St) :=
  match r.1 with
  | .normal => run r.2
  | x => some (x, r.2)
def cBlock (id : Nat) (r : AX × St) : Option (AX × St) :=
  match r.1 with
  | .exit id' => if id' = id then some (.normal, r.2) else some (.exit id', r.2)
  | x => some (x, r.2)
def cCond (run : Run) (x : Operand) (a b : Code) (s : St) : Option (AX × St) :=
  (ev s.fr.get x).ob fun v => v.bool?.ob fun t => run (cb t a b) s
def cDefers (around : Option Nat) (s : St) : Option (Nat × List Nat × Heap) :=
  match around with
  | none => some (s.H.next, s.H.next :: s.ds, s.H.new .dfr)
  | some l => match s.H.get l with
    | .loop _ _ _ _ _ _ d _ => some (d, s.ds, s.H)
    | _ => none
def cEnd (fr : Fr) (ds : List Nat) (L : Nat) (H : Heap) : Option (AX × St) :=
  match H.get L with
  | .loop _ _ _ _ _ _ _ st => match st with
    | .ready => some (.normal, ⟨fr, ds, H.put L .dead⟩)
    | .done j => (axOf j).ob fun x => some (x, ⟨fr, ds, H.put L .dead⟩)
    | .busy => none
  | _ => none
def cRange (call : Caller) (fn : FuncId) (around : Option Nat) (n : Nat) (x : Operand) (ps : List Tmp) (asg body : Code) (s : St) : Option (AX × St) :=
  (ev s.fr.get x).ob fun v =>
    match v with
    | .func g first captured => (cDefers around s).ob fun q =>
        (call (.fn g) (first ++ [AV.yield q.2.2.next] ++ captured) (q.2.2.new (.loop fn n s.fr ps asg body q.1 .ready))).ob fun r =>
          cEnd s.fr q.2.1 q.2.2.next r.2
    | _ => none
open Classical in
def hook (L : Option LSum) (n : Nat) (b : Code) (s : St) (r : Option (AX × St)) : Option (AX × St) :=
  match L with
  | none => r
  | some L => if b = L.code then (match L.run n s with | some q => some q | none => r) else r
def aCode1 (cx : Cx) (call : Caller) (fn : FuncId) (around : Option Nat) (n : Nat) (run : Run) : Run := fun c s =>
  match c with
  | .skip => some (.normal, s)
  | .region _ ops draw => cRegion cx call n ops.toList draw s
  | .seq a b => (run a s).ob (cThen (run b))
  | .cond x a b => cCond run x a b s
  | .block id b => hook (cx.loop fn id) n b s ((run b s).ob (cBlock id))
  | .loop b => (run b s).ob (cThen (run (.loop b)))
  | .exit id => some (.exit id, s)
  | .ret => some (.ret, s)
  | .rangeFunc x ps asg body => cRange call fn around n x ps.toList asg body s
  | _ => none
def aCode (cx : Cx) (call : Caller) (fn : FuncId) (around : Option Nat) (n f : Nat) : Run :=
  Nat.rec (motive := fun _ => Run) (fun _ _ => none) (fun _ run => aCode1 cx call fn around n run) f
@[simp] theorem aCode_zero (cx : Cx) (call : Caller) (fn : FuncId) (around : Option Nat) (n : Nat) (c : Code) (s : St) : aCode cx call fn around n 0 c s = none := rfl
theorem aCode_succ (cx : Cx) (call : Caller) (fn : FuncId) (around : Option Nat) (n f : Nat) : aCode cx call fn around n (f + 1) = aCode1 cx call fn around n (aCode cx call fn around n f) := rfl
def ofList : Nat → List AV → Fr → Fr
  | _, [], fr => fr
  | i, v :: r, fr => ofList (i + 1) r (T.set .undef fr i v)
def aResult (cx : Cx) (fr : Fr) (H : Heap) : ResultVar → Option AV
  | .tmp t => known (fr.get t)
  | .cell a t => aLoad cx t H (fr.get a)
def aResults (cx : Cx) (fr : Fr) (H : Heap) : List ResultVar → Option (List AV)
  | [] => some []
  | r :: rs => (aResult cx fr H r).ob fun v => (aResults cx fr H rs).ob fun vs => some (v :: vs)
def single : List AV → AV
  | [v] => v
  | vs => .tuple vs
def shut : List Nat → Heap → Option Heap
  | [], H => some H
  | d :: ds, H => match H.get d with
    | .dfr => shut ds (H.put d .dead)
    | _ => none
def callEnd (cx : Cx) (fn : Func) (r : AX × St) : Option (AV × Heap) :=
  match r.1 with
  | .exit _ => none
  | _ => (shut r.2.ds r.2.H).ob fun H' => (aResults cx r.2.fr H' fn.results.toList).ob fun vs => some (single vs, H')
def callBody (cx : Cx) (call : Caller) (f : Nat) (g : FuncId) (fn : Func) (args : List AV) (H : Heap) : Option (AV × Heap) :=
  fn.body.ob fun body => if args.length ≤ fn.ntmps then (aCode cx call g none fn.ntmps f body ⟨ofList 0 args .nil, [], H⟩).ob (callEnd cx fn) else none
def callFn (cx : Cx) (call : Caller) (f : Nat) (g : FuncId) (args : List AV) (H : Heap) : Option (AV × Heap) :=
  (cx.fn g).ob fun fn =>
    match cx.sum g args H with
    | some r => some r
    | none => callBody cx call f g fn args H
def lsOf (x : AX) : LS :=
  match jumpOf x with
  | none => .ready
  | some j => .done j
def isReady (H : Heap) (l : Nat) : Bool :=
  match H.get l with
  | .loop _ _ _ _ _ _ _ .ready => true
  | _ => false
def isBusy (H : Heap) (l : Nat) : Bool :=
  match H.get l with
  | .loop _ _ _ _ _ _ _ .busy => true
  | _ => false
def AX.isNormal : AX → Bool
  | .normal => true
  | _ => false
def Blk.setLS (st : LS) : Blk → Blk
  | .loop fn n fr ps asg body d _ => .loop fn n fr ps asg body d st
  | b => b
def roundEnd (l : Nat) (q : AX × St) : Option (AV × Heap) :=
  cb (isBusy q.2.H l) (some (.bool (jumpOf q.1).isNone, q.2.H.put l (Blk.setLS (lsOf q.1) (q.2.H.get l)))) none
def roundBody (cx : Cx) (call : Caller) (f : Nat) (l fn n : Nat) (body : Code) (r : AX × St) : Option (AV × Heap) :=
  cb (r.1.isNormal && isReady r.2.H l) ((aCode cx call fn (some l) n f body ⟨r.2.fr, r.2.ds, r.2.H.put l (Blk.setLS .busy (r.2.H.get l))⟩).ob (roundEnd l)) none
def callYield (cx : Cx) (call : Caller) (f : Nat) (l : Nat) (args : List AV) (H : Heap) : Option (AV × Heap) :=
  match H.get l with
  | .loop fn n fr ps asg body d .ready => (putAll n ps args fr).ob fun fr' =>
      (aCode cx call fn (some l) n f asg ⟨fr', [], H⟩).ob (roundBody cx call f l fn n body)
  | _ => none
def aCall1 (cx : Cx) (call : Caller) (f : Nat) (t : Tgt) (args : List AV) (H : Heap) : Option (AV × Heap) :=
  match t with
  | .fn g => callFn cx call f g args H
  | .yield l => callYield cx call f l args H
def aCall (cx : Cx) (f : Nat) : Caller :=
  Nat.rec (motive := fun _ => Caller) (fun _ _ _ => none) (fun f call => aCall1 cx call f) f
@[simp] theorem aCall_zero (cx : Cx) (t : Tgt) (args : List AV) (H : Heap) : aCall cx 0 t args H = none := rfl
theorem aCall_succ (cx : Cx) (f : Nat) : aCall cx (f + 1) = aCall1 cx (aCall cx f) f := rfl
end Go.Ab
end
end

section
section
namespace Go.Ab
open Go.RowKit
theorem nbeq (a b : Nat) : Nat.beq a b = decide (a = b) := by
  cases h : Nat.beq a b
  · simp [Nat.ne_of_beq_eq_false h]
  · simp [Nat.eq_of_beq_eq_true h]
theorem nble (a b : Nat) : Nat.ble a b = decide (a ≤ b) := by
  by_cases h : a ≤ b
  · simp [h, Nat.ble_eq]
  · have : ¬ Nat.ble a b = true := fun e => h (Nat.le_of_ble_eq_true e)
    simp [h, this]
theorem nmod (a b : Nat) : Nat.mod a b = a % b := rfl
theorem ndiv (a b : Nat) : Nat.div a b = a / b := rfl
theorem npred (a : Nat) : Nat.pred a = a - 1 := rfl
theorem T.get_nil {α : Type} (d : α) (n : Nat) : T.get d T.nil n = d := rfl
theorem T.get_node {α : Type} (d v : α) (l r : T α) (n : Nat) : T.get d (.node v l r) n = if n = 0 then v else if n % 2 = 1 then T.get d l (n / 2) else T.get d r (n / 2 - 1) := by
  show cb (Nat.beq n 0) v (cb (Nat.beq (Nat.mod n 2) 1) (T.get d l (Nat.div n 2)) (T.get d r (Nat.pred (Nat.div n 2)))) = _
  simp only [cb_eq, nbeq, nmod, ndiv, npred, decide_eq_true_eq]
theorem T.path_succ {α : Type} (d x : α) (f n : Nat) : T.path d x (f + 1) n = if n = 0 then .node x .nil .nil else if n % 2 = 1 then .node d (T.path d x f (n / 2)) .nil else .node d .nil (T.path d x f (n / 2 - 1)) := by
  show cb (Nat.beq n 0) (T.node x .nil .nil) (cb (Nat.beq (Nat.mod n 2) 1) (T.node d (T.path d x f (Nat.div n 2)) .nil) (T.node d .nil (T.path d x f (Nat.pred (Nat.div n 2))))) = _
  simp only [cb_eq, nbeq, nmod, ndiv, npred, decide_eq_true_eq]
theorem T.put_nil {α : Type} (d x : α) (f n : Nat) : T.put d x T.nil f n = T.path d x f n := rfl
theorem T.put_node {α : Type} (d x v : α) (l r : T α) (f n : Nat) : T.put d x (.node v l r) f n = if n = 0 then .node x l r else if n % 2 = 1 then .node v (T.put d x l (f - 1) (n / 2)) r else .node v l (T.put d x r (f - 1) (n / 2 - 1)) := by
  show cb (Nat.beq n 0) (T.node x l r) (cb (Nat.beq (Nat.mod n 2) 1) (T.node v (T.put d x l (Nat.pred f) (Nat.div n 2)) r) (T.node v l (T.put d x r (Nat.pred f) (Nat.pred (Nat.div n 2))))) = _
  simp only [cb_eq, nbeq, nmod, ndiv, npred, decide_eq_true_eq]
theorem T.get_path {α : Type} (d x : α) : ∀ (f n m : Nat), n < f → T.get d (T.path d x f n) m = if m = n then x else d := by
  intro f
  induction f with
  | zero => intro n m h; omega
  | succ f ih =>
    intro n m h
    rw [T.path_succ]
    by_cases h0 : n = 0
    · subst h0
      simp only [if_true, T.get_node, T.get_nil, ite_self]
    · rw [if_neg h0]
      by_cases h1 : n % 2 = 1
      · rw [if_pos h1, T.get_node, T.get_nil, ih _ _ (by omega)]
        by_cases hm : m = n
        · subst hm; rw [if_neg h0, if_pos h1, if_pos rfl, if_pos rfl]
        · rw [if_neg hm]
          split
          · rfl
          · split
            · rw [if_neg (by omega)]
            · rfl
      · rw [if_neg h1, T.get_node, T.get_nil, ih _ _ (by omega)]
        by_cases hm : m = n
        · subst hm; rw [if_neg h0, if_neg h1, if_pos rfl, if_pos rfl]
        · rw [if_neg hm]
          split
          · rfl
          · split
            · rfl
            · rw [if_neg (by omega)]
theorem T.get_put {α : Type} (d x : α) (t : T α) : ∀ (f n m : Nat), n < f → T.get d (T.put d x t f n) m = if m = n then x else T.get d t m := by
  induction t with
  | nil => intro f n m h; rw [T.put_nil, T.get_path _ _ _ _ _ h, T.get_nil]
  | node v l r ihl ihr =>
    intro f n m h
    rw [T.put_node]
    by_cases h0 : n = 0
    · subst h0
      simp only [if_true, T.get_node]
      split <;> rfl
    · rw [if_neg h0]
      by_cases h1 : n % 2 = 1
      · rw [if_pos h1, T.get_node, T.get_node, ihl _ _ _ (by omega)]
        by_cases hm : m = n
        · subst hm; rw [if_neg h0, if_pos h1, if_pos rfl, if_pos rfl]
        · rw [if_neg hm]
          split
          · rfl
          · split
            · rw [if_neg (by omega)]
            · rfl
      · rw [if_neg h1, T.get_node, T.get_node, ihr _ _ _ (by omega)]
        by_cases hm : m = n
        · subst hm; rw [if_neg h0, if_neg h1, if_pos rfl, if_pos rfl]
        · rw [if_neg hm]
          split
          · rfl
          · split
            · rfl
            · rw [if_neg (by omega)]
theorem T.get_set {α : Type} (d : α) (t : T α) (n : Nat) (x : α) (m : Nat) : T.get d (T.set d t n x) m = if m = n then x else T.get d t m :=
  T.get_put d x t (n + 1) n m (by omega)
theorem Heap.get_put (H : Heap) (b : Nat) (x : Blk) (c : Nat) : (H.put b x).get c = if c = b then x else H.get c := T.get_set _ _ _ _ _
theorem Heap.get_new (H : Heap) (x : Blk) (c : Nat) : (H.new x).get c = if c = H.next then x else H.get c := T.get_set _ _ _ _ _
@[simp] theorem Heap.next_put (H : Heap) (b : Nat) (x : Blk) : (H.put b x).next = H.next := rfl
@[simp] theorem Heap.next_new (H : Heap) (x : Blk) : (H.new x).next = H.next + 1 := rfl
theorem listAt_eq {α : Type} (l : List α) (n : Nat) : listAt l n = l[n]? := by
  induction l generalizing n with
  | nil => rfl
  | cons a l ih =>
    show cb (Nat.beq n 0) (some a) (listAt l (Nat.pred n)) = _
    rw [cb_eq, nbeq]
    rcases Nat.eq_zero_or_pos n with h | h
    · subst h; rfl
    · obtain ⟨k, rfl⟩ : ∃ k, n = k + 1 := ⟨n - 1, by omega⟩
      simp [ih]
structure BI where
  blk : Nat
  off : Nat
  m : Nat
  esz : Nat
  deriving Inhabited
structure Inj where
  map : Nat → Option BI
  fz : Nat → Option (Array Value)
  lo : Nat      -- what is frozen later on stands from there on
instance : CoeFun Inj (fun _ => Nat → Option BI) := ⟨Inj.map⟩
def Inj.empty : Inj := ⟨fun _ => none, fun _ => none, 0⟩
mutual
inductive RelV (μ : Inj) : AV → Value → Prop
  | undef : RelV μ .undef Go.undef
  | any {x : Value} : RelV μ .any x
  | int (k : IntKind) (n : Int) : RelV μ (.int k n) (.int k n)
  | bool (b : Bool) : RelV μ (.bool b) (.bool b)
  | str (s : List UInt8) : RelV μ (.str s) (.string ⟨s.toArray⟩)
  | ptrN : RelV μ (.ptr none) (.pointer none)
  | ptr {b o : Nat} {i : BI} : μ b = some i → RelV μ (.ptr (some (b, o))) (.pointer (some ⟨i.blk, i.off + o, none⟩))
  | sliceN : RelV μ (.slice none 0 (some 0)) (.slice none 0 0)
  | slice {b o len c : Nat} {i : BI} {a : Addr} : μ b = some i → len ≤ c → (c ≠ 0 → a = ⟨i.blk, i.off + o, none⟩) → RelV μ (.slice (some (b, o)) len (some c)) (.slice (some a) len c)
  | sliceU {b o len c : Nat} {i : BI} {a : Addr} : μ b = some i → len ≤ c → (c ≠ 0 → a = ⟨i.blk, i.off + o, none⟩) → (o = 0 → c * i.esz ≤ i.m) → RelV μ (.slice (some (b, o)) len none) (.slice (some a) len c)
  | mapN : RelV μ (.map none) (.map none)
  | map {r : Nat} {i : BI} : μ r = some i → RelV μ (.map (some r)) (.map (some i.blk))
  | func {f : FuncId} {x y : List AV} {xs ys : List Value} : RelL μ x xs → RelL μ y ys → RelV μ (.func f x y) (.func (.func f) xs.toArray ys.toArray)
  | yield {l : Nat} {i : BI} : μ l = some i → RelV μ (.yield l) (.func (.yield i.blk) #[] #[])
  | nilFunc : RelV μ .nilFunc .nilFunc
  | nilIface : RelV μ .nilIface .nilIface
  | iface {t : TypeId} {v : AV} {x : Value} : RelV μ v x → RelV μ (.iface t v) (.iface t x)
  | agg {cs : List AV} {xs : List Value} : RelL μ cs xs → RelV μ (.agg cs) (.agg xs.toArray)
  | tuple {cs : List AV} {xs : List Value} : RelL μ cs xs → RelV μ (.tuple cs) (.tuple xs.toArray)
  | fslN : RelV μ (.fsl true 0 []) (.slice none 0 0)
  | fsl {len cap : Nat} {cs : List AV} {a : Addr} {arr : Array Value} {vs : List Value} : (cs ≠ [] → a.spot = none ∧ μ.fz a.block = some arr) → RelL μ cs vs → (∀ k x, vs[k]? = some x → arr[a.off + k]? = some x) → len ≤ cap →
      RelV μ (.fsl false len cs) (.slice (some a) len cap)
  | fptr {cs : List AV} {a : Addr} {arr : Array Value} {vs : List Value} : (cs ≠ [] → a.spot = none ∧ μ.fz a.block = some arr) → RelL μ cs vs → (∀ k x, vs[k]? = some x → arr[a.off + k]? = some x) →
      RelV μ (.fptr cs) (.pointer (some a))
inductive RelL (μ : Inj) : List AV → List Value → Prop
  | nil : RelL μ [] []
  | cons {v : AV} {x : Value} {vs : List AV} {xs : List Value} : RelV μ v x → RelL μ vs xs → RelL μ (v :: vs) (x :: xs)
end
structure Ext (μ μ' : Inj) : Prop where
  map : ∀ b i, μ b = some i → μ' b = some i
  fz : ∀ k arr, μ.fz k = some arr → μ'.fz k = some arr
instance {μ μ' : Inj} : CoeFun (Ext μ μ') (fun _ => ∀ b i, μ b = some i → μ' b = some i) := ⟨Ext.map⟩
theorem Ext.refl (μ : Inj) : Ext μ μ := ⟨fun _ _ h => h, fun _ _ h => h⟩
theorem Ext.trans {a b c : Inj} (h : Ext a b) (k : Ext b c) : Ext a c := ⟨fun _ _ e => k.map _ _ (h.map _ _ e), fun _ _ e => k.fz _ _ (h.fz _ _ e)⟩
mutual
theorem RelV.mono {μ μ' : Inj} (h : Ext μ μ') {v : AV} {x : Value} (r : RelV μ v x) : RelV μ' v x := by
  cases r with
  | undef => exact .undef
  | any => exact .any
  | int k n => exact .int k n
  | bool b => exact .bool b
  | str s => exact .str s
  | ptrN => exact .ptrN
  | ptr e => exact .ptr (h _ _ e)
  | sliceN => exact .sliceN
  | slice e a b => exact .slice (h _ _ e) a b
  | sliceU e a b c => exact .sliceU (h _ _ e) a b c
  | mapN => exact .mapN
  | map e => exact .map (h _ _ e)
  | func a b => exact .func (RelL.mono h a) (RelL.mono h b)
  | yield e => exact .yield (h _ _ e)
  | nilFunc => exact .nilFunc
  | nilIface => exact .nilIface
  | iface a => exact .iface (RelV.mono h a)
  | agg a => exact .agg (RelL.mono h a)
  | tuple a => exact .tuple (RelL.mono h a)
  | fslN => exact .fslN
  | fsl a b c d => exact .fsl (fun hn => ⟨(a hn).1, h.fz _ _ (a hn).2⟩) (RelL.mono h b) c d
  | fptr a b c => exact .fptr (fun hn => ⟨(a hn).1, h.fz _ _ (a hn).2⟩) (RelL.mono h b) c
theorem RelL.mono {μ μ' : Inj} (h : Ext μ μ') {v : List AV} {x : List Value} (r : RelL μ v x) : RelL μ' v x := by
  cases r with
  | nil => exact .nil
  | cons a b => exact .cons (RelV.mono h a) (RelL.mono h b)
end
section lists
variable {μ : Inj}
theorem RelL.length {vs : List AV} {xs : List Value} (h : RelL μ vs xs) : xs.length = vs.length := by
  induction vs generalizing xs with
  | nil => cases h; rfl
  | cons v vs ih => cases h with | cons a b => simp [ih b]
theorem RelL.get {vs : List AV} {xs : List Value} (h : RelL μ vs xs) (k : Nat) (v : AV) (hv : vs[k]? = some v) : ∃ x, xs[k]? = some x ∧ RelV μ v x := by
  induction vs generalizing xs k with
  | nil => simp at hv
  | cons w vs ih =>
    cases h with
    | cons a b =>
      cases k with
      | zero => simp at hv; subst hv; exact ⟨_, rfl, a⟩
      | succ k => simp at hv; obtain ⟨x, e, r⟩ := ih b k hv; exact ⟨x, by simpa using e, r⟩
theorem RelL.of_get {vs : List AV} {xs : List Value} (hl : xs.length = vs.length) (h : ∀ (k : Nat) (v : AV) (x : Value), vs[k]? = some v → xs[k]? = some x → RelV μ v x) : RelL μ vs xs := by
  induction vs generalizing xs with
  | nil => cases xs with | nil => exact .nil | cons _ _ => simp at hl
  | cons v vs ih =>
    cases xs with
    | nil => simp at hl
    | cons x xs => exact .cons (h 0 v x rfl rfl) (ih (by simpa using hl) fun k v x hv hx => h (k + 1) v x (by simpa using hv) (by simpa using hx))
theorem RelL.append {vs ws : List AV} {xs ys : List Value} (h : RelL μ vs xs) (k : RelL μ ws ys) : RelL μ (vs ++ ws) (xs ++ ys) := by
  induction vs generalizing xs with
  | nil => cases h; exact k
  | cons v vs ih => cases h with | cons a b => exact .cons a (ih b)
theorem RelL.take {vs : List AV} {xs : List Value} (h : RelL μ vs xs) (n : Nat) : RelL μ (vs.take n) (xs.take n) := by
  induction vs generalizing xs n with
  | nil => cases h; simp; exact .nil
  | cons v vs ih =>
    cases h with
    | cons a b => cases n with
      | zero => simp; exact .nil
      | succ n => simp; exact .cons a (ih b n)
theorem RelL.drop {vs : List AV} {xs : List Value} (h : RelL μ vs xs) (n : Nat) : RelL μ (vs.drop n) (xs.drop n) := by
  induction vs generalizing xs n with
  | nil => cases h; simp; exact .nil
  | cons v vs ih =>
    cases h with
    | cons a b => cases n with
      | zero => simp; exact .cons a b
      | succ n => simp; exact ih b n
end lists
theorem RelV.cells {μ : Inj} {v : AV} {x : Value} (h : RelV μ v x) (hn : v ≠ .any) : RelL μ v.cells x.cells.toList := by
  cases h with
  | any => exact absurd rfl hn
  | undef => exact .cons .undef .nil
  | agg a => simpa [AV.cells, Value.cells] using a
  | tuple a => exact .cons (.tuple a) .nil
  | int k n => exact .cons (.int k n) .nil
  | bool b => exact .cons (.bool b) .nil
  | str s => exact .cons (.str s) .nil
  | ptrN => exact .cons .ptrN .nil
  | ptr e => exact .cons (.ptr e) .nil
  | sliceN => exact .cons .sliceN .nil
  | slice e a b => exact .cons (.slice e a b) .nil
  | sliceU e a b c => exact .cons (.sliceU e a b c) .nil
  | mapN => exact .cons .mapN .nil
  | map e => exact .cons (.map e) .nil
  | func a b => exact .cons (.func a b) .nil
  | yield e => exact .cons (.yield e) .nil
  | nilFunc => exact .cons .nilFunc .nil
  | nilIface => exact .cons .nilIface .nil
  | iface a => exact .cons (.iface a) .nil
  | fslN => exact .cons .fslN .nil
  | fsl a b c d => exact .cons (.fsl a b c d) .nil
  | fptr a b c => exact .cons (.fptr a b c) .nil
theorem RelV.oneCell {μ : Inj} {v : AV} {x : Value} (h : RelV μ v x) (hc : v.isCell = true) : x.oneCell' = true := by
  cases h <;> first | rfl | simp [AV.isCell] at hc
def Blk.writes : Blk → Bool
  | .dead => false
  | .cells own _ _ _ => own
  | _ => true
def Blk.live : Blk → Bool
  | .dead => false
  | _ => true
inductive RelE (μ : Inj) : List (AV × AV) → List MapEntry → Prop
  | nil : RelE μ [] []
  | cons {k v : AV} {e : MapEntry} {es : List (AV × AV)} {fs : List MapEntry} : RelV μ k e.key → RelV μ v e.val → RelE μ es fs → RelE μ ((k, v) :: es) (e :: fs)
def LS.fit : LS → LoopState → Option Code → Prop
  | .ready, .ready, none => True
  | .busy, .busy, _ => True
  | .done j, .done, some c => c = j
  | _, _, _ => False
def RelF (μ : Inj) (g : Env) (tmps : Array Value) : Prop := ∀ t, RelV μ (g t) (tmps.getD t Go.undef)
def freeRow (n : Nat) (fr : Nat × Nat) : Prop := fr.1 = fr.2 ∨ n ≤ fr.1
theorem freeRow.at {n : Nat} {fr : Nat × Nat} (h : freeRow n fr) {o : Nat} (ho : o < n) : (fr.1 ≤ o && o < fr.2) = false := by
  rcases h with h | h
  · by_cases h1 : fr.1 ≤ o
    · have : ¬ o < fr.2 := by omega
      simp [this]
    · simp [h1]
  · have : ¬ fr.1 ≤ o := by omega
    simp [this]
structure Keep (p : Nat → Prop) (w w' : World) : Prop where
  os : w'.os = w.os
  tape : w'.tape = w.tape
  output : w'.output = w.output
  size : w.heap.size ≤ w'.heap.size
  block : ∀ k, p k → w'.heap[k]? = w.heap[k]?
theorem Keep.refl (p : Nat → Prop) (w : World) : Keep p w w := ⟨rfl, rfl, rfl, Nat.le_refl _, fun _ _ => rfl⟩
theorem Keep.trans {p : Nat → Prop} {a b c : World} (h : Keep p a b) (k : Keep p b c) : Keep p a c :=
  ⟨k.os.trans h.os, k.tape.trans h.tape, k.output.trans h.output, Nat.le_trans h.size k.size, fun i hi => (k.block i hi).trans (h.block i hi)⟩
theorem Keep.mono {p q : Nat → Prop} {a b : World} (h : Keep q a b) (hpq : ∀ k, p k → q k) : Keep p a b := ⟨h.os, h.tape, h.output, h.size, fun k hk => h.block k (hpq k hk)⟩
theorem Keep.of {B : Nat} {a b : World} (h : Below B a b) : Keep (fun k => k < B) a b := ⟨h.os, h.tape, h.output, h.size, h.block⟩
theorem Keep.below {B : Nat} {a b : World} (h : Keep (fun k => k < B) a b) : Below B a b := ⟨h.os, h.tape, h.output, h.size, h.block⟩
def Old (w : World) : Nat → Prop := fun k => k < w.heap.size
theorem Keep.alloc {p : Nat → Prop} {w0 w : World} (h : Keep p w0 w) (hp : ∀ k, p k → k < w.heap.size) (o : Obj) : Keep p w0 (w.alloc o) :=
  h.trans ⟨rfl, rfl, rfl, by simp, fun k hk => Below.heap_alloc w o _ (hp k hk)⟩
def RelB (sz : TypeId → Nat) (base : Nat → Prop) (μ : Inj) (i : BI) (w : World) : Blk → Prop
  | .dead => True
  | .cells own e len cs => len = cs.length ∧ ∃ (arr : Array Value) (e' : TypeId) (fr : Nat × Nat), w.heap[i.blk]? = some (.cells arr e' fr) ∧ (∀ (k : Nat) (v : AV), cs[k]? = some v → ∃ x, arr[i.off + k]? = some x ∧ RelV μ v x) ∧
      (own = true → ¬ base i.blk ∧ i.off = 0 ∧ e' = e ∧ i.m = arr.size ∧ i.esz = sz e ∧ freeRow arr.size fr)
  | .entries es => ¬ base i.blk ∧ ∃ (fs : Array MapEntry) (clock : Nat), w.heap[i.blk]? = some (.map fs clock) ∧ RelE μ es fs.toList
  | .loop fn n fr ps asg body d st => ¬ base i.blk ∧ ∃ (tmps : Array Value) (di : BI) (ls : LoopState) (pe : Option Code) (fn' : FuncId),
      w.heap[i.blk]? = some (.loop { state := ls, pending := pe, fn := fn', tmps := tmps, params := ps.toArray, assign := asg, body := body, defers := di.blk }) ∧
      μ d = some di ∧ tmps.size = n ∧ RelF μ fr.get tmps ∧ st.fit ls pe
  | .dfr => ¬ base i.blk ∧ w.heap[i.blk]? = some (.deferred (some []))
structure RelW (sz : TypeId → Nat) (base : Nat → Prop) (w0 : World) (μ : Inj) (H : Heap) (w : World) : Prop where
  below : Keep base w0 w
  baseLe : ∀ k, base k → k < w.heap.size
  fresh : ∀ b i, μ b = some i → b < H.next
  blk : ∀ b i, μ b = some i → RelB sz base μ i w (H.get b)
  apart : ∀ b b' i i', μ b = some i → μ b' = some i' → b ≠ b' → (H.get b).writes = true → (H.get b').live = true → i.blk ≠ i'.blk
  froz : ∀ k arr, μ.fz k = some arr → ∃ e fr, w.heap[k]? = some (.cells arr e fr)
  frozApart : ∀ b i k arr, μ b = some i → (H.get b).writes = true → μ.fz k = some arr → k ≠ i.blk
  lo : μ.lo ≤ w.heap.size
structure Grow (n : Nat) (μ μ' : Inj) : Prop where
  same : ∀ b, b < n → μ' b = μ b
  fz : ∀ k arr, μ.fz k = some arr → μ'.fz k = some arr
  lo : μ'.lo = μ.lo
  fzn : ∀ k arr, μ'.fz k = some arr → μ.fz k = some arr ∨ μ.lo ≤ k
theorem Grow.refl (n : Nat) (μ : Inj) : Grow n μ μ := ⟨fun _ _ => rfl, fun _ _ h => h, rfl, fun _ _ h => .inl h⟩
theorem Grow.trans {n m : Nat} {a b c : Inj} (h : Grow n a b) (k : Grow m b c) (hnm : n ≤ m) : Grow n a c := ⟨fun x hx => (k.same x (by omega)).trans (h.same x hx), fun x a e => k.fz x a (h.fz x a e), k.lo.trans h.lo, fun x a e => by
    rcases k.fzn x a e with e | e
    · exact h.fzn x a e
    · exact .inr (by rw [← h.lo]; exact e)⟩
theorem RelW.ext {sz : TypeId → Nat} {base : Nat → Prop} {w0 w : World} {μ μ' : Inj} {H : Heap} (h : RelW sz base w0 μ H w) (g : Grow H.next μ μ') : Ext μ μ' :=
  ⟨fun b i e => (g.same b (h.fresh b i e)).trans e, g.fz⟩
theorem RelF.mono {μ μ' : Inj} {g : Env} {tmps : Array Value} (h : RelF μ g tmps) (e : Ext μ μ') : RelF μ' g tmps := fun t => (h t).mono e
theorem RelE.mono {μ μ' : Inj} {es : List (AV × AV)} {fs : List MapEntry} (h : RelE μ es fs) (e : Ext μ μ') : RelE μ' es fs := by
  induction h with
  | nil => exact .nil
  | cons a b _ ih => exact .cons (a.mono e) (b.mono e) ih
theorem RelB.mono {sz : TypeId → Nat} {base : Nat → Prop} {μ μ' : Inj} {i : BI} {w : World} {b : Blk} (h : RelB sz base μ i w b) (e : Ext μ μ') : RelB sz base μ' i w b := by
  cases b with
  | dead => trivial
  | cells own t len cs =>
    obtain ⟨hl, arr, e', fr, ha, hc, ho⟩ := h
    exact ⟨hl, arr, e', fr, ha, fun k v hv => let ⟨x, hx, r⟩ := hc k v hv; ⟨x, hx, r.mono e⟩, ho⟩
  | entries es => obtain ⟨hb, fs, c, hw, r⟩ := h; exact ⟨hb, fs, c, hw, r.mono e⟩
  | loop fn n fr ps asg body d st =>
    obtain ⟨hb, tmps, di, ls, pe, fn', hw, hd, hn, hf, hs⟩ := h
    exact ⟨hb, tmps, di, ls, pe, fn', hw, e _ _ hd, hn, hf.mono e, hs⟩
  | dfr => exact h
theorem RelB.same {sz : TypeId → Nat} {base : Nat → Prop} {μ : Inj} {i : BI} {w w' : World} {b : Blk} (h : RelB sz base μ i w b) (e : b.live = true → w'.heap[i.blk]? = w.heap[i.blk]?) : RelB sz base μ i w' b := by
  cases b with
  | dead => trivial
  | cells own t len cs =>
    obtain ⟨hl, arr, e', fr, ha, hc, ho⟩ := h
    exact ⟨hl, arr, e', fr, (e rfl).trans ha, hc, ho⟩
  | entries es => obtain ⟨hb, fs, c, hw, r⟩ := h; exact ⟨hb, fs, c, (e rfl).trans hw, r⟩
  | loop fn n fr ps asg body d st =>
    obtain ⟨hb, tmps, di, ls, pe, fn', hw, hd, hn, hf, hs⟩ := h
    exact ⟨hb, tmps, di, ls, pe, fn', (e rfl).trans hw, hd, hn, hf, hs⟩
  | dfr => exact ⟨h.1, (e rfl).trans h.2⟩
theorem RelB.lt {sz : TypeId → Nat} {base : Nat → Prop} {μ : Inj} {i : BI} {w : World} {b : Blk} (h : RelB sz base μ i w b) (hl : b.live = true) : i.blk < w.heap.size := by
  have aux : ∀ o, w.heap[i.blk]? = some o → i.blk < w.heap.size := fun o ho => (Array.getElem?_eq_some_iff.1 ho).1
  cases b with
  | dead => cases hl
  | cells own t len cs => obtain ⟨_, arr, e', fr, ha, _⟩ := h; exact aux _ ha
  | entries es => obtain ⟨_, fs, c, hw, _⟩ := h; exact aux _ hw
  | loop fn n fr ps asg body d st => obtain ⟨_, tmps, di, ls, pe, _, hw, _⟩ := h; exact aux _ hw
  | dfr => exact aux _ h.2
theorem RelB.base {sz : TypeId → Nat} {base : Nat → Prop} {μ : Inj} {i : BI} {w : World} {b : Blk} (h : RelB sz base μ i w b) (hl : b.writes = true) : ¬ base i.blk := by
  cases b with
  | dead => cases hl
  | cells own t len cs => obtain ⟨_, arr, e', fr, ha, _, ho⟩ := h; exact (ho hl).1
  | entries es => exact h.1
  | loop fn n fr ps asg body d st => exact h.1
  | dfr => exact h.1
section world
variable {sz : TypeId → Nat} {base : Nat → Prop} {w0 w : World} {μ : Inj} {H : Heap}
theorem RelW.drew (h : RelW sz base w0 μ H w) (n : Nat) : RelW sz base w0 μ H { w with drawn := n } :=
  ⟨⟨h.below.os, h.below.tape, h.below.output, h.below.size, h.below.block⟩, h.baseLe, h.fresh, fun b i e => (h.blk b i e).same fun _ => rfl, h.apart, h.froz, h.frozApart, h.lo⟩
theorem RelW.grown (h : RelW sz base w0 μ H w) {w' : World} (hb : Keep (Old w) w w') : RelW sz base w0 μ H w' :=
  ⟨h.below.trans (hb.mono h.baseLe), fun k hk => Nat.lt_of_lt_of_le (h.baseLe k hk) hb.size, h.fresh, fun b i e => (h.blk b i e).same fun hl => hb.block _ ((h.blk b i e).lt hl), h.apart,
    fun k arr e => by
      obtain ⟨t, fr, hk⟩ := h.froz k arr e
      exact ⟨t, fr, (hb.block k (Array.getElem?_eq_some_iff.1 hk).1).trans hk⟩, h.frozApart, Nat.le_trans h.lo hb.size⟩
theorem RelW.newOK (h : RelW sz base w0 μ H w) : ¬ base w.heap.size := fun hk => Nat.lt_irrefl _ (h.baseLe _ hk)
theorem RelW.addDead (h : RelW sz base w0 μ H w) (x : Blk) : RelW sz base w0 μ (H.new x) w where
  below := h.below
  baseLe := h.baseLe
  fresh := fun b i e => Nat.lt_succ_of_lt (h.fresh b i e)
  blk := fun b i e => by
    have := h.fresh b i e
    rw [Heap.get_new, if_neg (by omega)]
    exact h.blk b i e
  apart := fun b b' i i' e e' hn => by
    have h1 := h.fresh b i e
    have h2 := h.fresh b' i' e'
    rw [Heap.get_new, Heap.get_new, if_neg (by omega), if_neg (by omega)]
    exact h.apart b b' i i' e e' hn
  froz := h.froz
  frozApart := fun b i k arr e hw => by
    have h1 := h.fresh b i e
    rw [Heap.get_new, if_neg (by omega)] at hw
    exact h.frozApart b i k arr e hw
  lo := h.lo
def Inj.set (μ : Inj) (b : Nat) (i : BI) : Inj := ⟨fun c => if c = b then some i else μ c, μ.fz, μ.lo⟩
@[simp] theorem Inj.set_fz (μ : Inj) (b : Nat) (i : BI) : (μ.set b i).fz = μ.fz := rfl
theorem Inj.set_same (μ : Inj) (b : Nat) (i : BI) : μ.set b i b = some i := by simp [Inj.set]
theorem Inj.set_ne (μ : Inj) {b c : Nat} (i : BI) (h : c ≠ b) : μ.set b i c = μ c := by simp [Inj.set, h]
theorem ext_set {μ : Inj} {b : Nat} (i : BI) (h : μ b = none) : Ext μ (μ.set b i) := ⟨fun c j e => by
  by_cases hc : c = b
  · subst hc; rw [h] at e; cases e
  · rw [Inj.set_ne _ _ hc]; exact e, fun _ _ e => e⟩
theorem RelW.bind (h : RelW sz base w0 μ H w) {b : Nat} (hb : μ b = none) (hlt : b < H.next) (o : Obj) (i : BI) (hi : i.blk = w.heap.size)
    (hr : RelB sz base (μ.set b i) i (w.alloc o) (H.get b)) : RelW sz base w0 (μ.set b i) H (w.alloc o) where
  below := h.below.alloc h.baseLe o
  baseLe := fun k hk => by simp; exact Nat.lt_succ_of_lt (h.baseLe k hk)
  fresh := fun c j e => by
    by_cases hc : c = b
    · subst hc; exact hlt
    · rw [Inj.set_ne _ _ hc] at e; exact h.fresh c j e
  blk := fun c j e => by
    by_cases hc : c = b
    · subst hc; rw [Inj.set_same] at e; cases e; exact hr
    · rw [Inj.set_ne _ _ hc] at e
      refine ((h.blk c j e).same fun hl => Below.heap_alloc w o _ ((h.blk c j e).lt hl)).mono (ext_set i hb)
  apart := fun c c' j j' e e' hn hw hl => by
    by_cases hc : c = b
    · subst hc
      rw [Inj.set_same] at e; cases e
      rw [Inj.set_ne _ _ (Ne.symm hn)] at e'
      have := (h.blk c' j' e').lt hl
      omega
    · rw [Inj.set_ne _ _ hc] at e
      by_cases hc' : c' = b
      · subst hc'
        rw [Inj.set_same] at e'; cases e'
        have hlive : (H.get c).live = true := by cases hx : H.get c <;> simp_all [Blk.writes, Blk.live]
        have := (h.blk c j e).lt hlive
        omega
      · rw [Inj.set_ne _ _ hc'] at e'
        exact h.apart c c' j j' e e' hn hw hl
  froz := fun k arr e => by
    obtain ⟨t, fr, hk⟩ := h.froz k arr e
    exact ⟨t, fr, (Below.heap_alloc w o _ (Array.getElem?_eq_some_iff.1 hk).1).trans hk⟩
  frozApart := fun c j k arr e hw hz => by
    obtain ⟨t, fr, hk⟩ := h.froz k arr hz
    have hlt := (Array.getElem?_eq_some_iff.1 hk).1
    by_cases hc : c = b
    · subst hc; rw [Inj.set_same] at e; cases e; omega
    · rw [Inj.set_ne _ _ hc] at e
      exact h.frozApart c j k arr e hw hz
  lo := by have := h.lo; simp [Inj.set]; omega
theorem RelW.write (h : RelW sz base w0 μ H w) {b : Nat} {i : BI} (hb : μ b = some i) (hw : (H.get b).writes = true) {x : Blk} {w' : World}
    (hos : w'.os = w.os) (htape : w'.tape = w.tape) (hout : w'.output = w.output) (hsize : w'.heap.size = w.heap.size)
    (hother : ∀ k, k ≠ i.blk → w'.heap[k]? = w.heap[k]?) (hwr : x.writes = true ∨ x.live = false) (hr : RelB sz base μ i w' x) : RelW sz base w0 μ (H.put b x) w' where
  below := ⟨hos.trans h.below.os, htape.trans h.below.tape, hout.trans h.below.output, by rw [hsize]; exact h.below.size,
    fun k hk => by
      have := (h.blk b i hb).base hw
      exact (hother k (fun e => this (e ▸ hk))).trans (h.below.block k hk)⟩
  baseLe := by rw [hsize]; exact h.baseLe
  fresh := h.fresh
  blk := fun c j e => by
    rw [Heap.get_put]
    by_cases hc : c = b
    · subst hc; rw [hb] at e; cases e; rw [if_pos rfl]; exact hr
    · rw [if_neg hc]
      exact (h.blk c j e).same fun hl => hother _ (Ne.symm (h.apart b c i j hb e (Ne.symm hc) hw hl))
  apart := fun c c' j j' e e' hn hcw hcl => by
    rw [Heap.get_put] at hcw hcl
    by_cases hc : c = b
    · subst hc
      rw [if_neg (Ne.symm hn)] at hcl
      exact h.apart c c' j j' e e' hn hw hcl
    · rw [if_neg hc] at hcw
      by_cases hc' : c' = b
      · subst hc'
        have hlive : (H.get c').live = true := by cases hx : H.get c' <;> simp_all [Blk.writes, Blk.live]
        exact h.apart c c' j j' e e' hn hcw hlive
      · rw [if_neg hc'] at hcl
        exact h.apart c c' j j' e e' hn hcw hcl
  froz := fun k arr e => by
    obtain ⟨t, fr, hk⟩ := h.froz k arr e
    exact ⟨t, fr, (hother k (h.frozApart b i k arr hb hw e)).trans hk⟩
  frozApart := fun c j k arr e hcw hz => by
    rw [Heap.get_put] at hcw
    by_cases hc : c = b
    · subst hc; rw [hb] at e; cases e; exact h.frozApart c i k arr hb hw hz
    · rw [if_neg hc] at hcw
      exact h.frozApart c j k arr e hcw hz
  lo := by rw [hsize]; exact h.lo
theorem RelW.kill (h : RelW sz base w0 μ H w) (b : Nat) : RelW sz base w0 μ (H.put b .dead) w where
  below := h.below
  baseLe := h.baseLe
  fresh := h.fresh
  blk := fun c j e => by
    rw [Heap.get_put]
    split
    · trivial
    · exact h.blk c j e
  apart := fun c c' j j' e e' hn hcw hcl => by
    rw [Heap.get_put] at hcw hcl
    by_cases hc : c = b
    · rw [if_pos hc] at hcw; cases hcw
    · by_cases hc' : c' = b
      · rw [if_pos hc'] at hcl; cases hcl
      · rw [if_neg hc] at hcw; rw [if_neg hc'] at hcl
        exact h.apart c c' j j' e e' hn hcw hcl
  froz := h.froz
  frozApart := fun c j k arr e hcw hz => by
    rw [Heap.get_put] at hcw
    by_cases hc : c = b
    · rw [if_pos hc] at hcw; cases hcw
    · rw [if_neg hc] at hcw
      exact h.frozApart c j k arr e hcw hz
  lo := h.lo
end world
end Go.Ab
end
end

section
section
namespace Go.Ab
open Go.RowKit
theorem iltB_eq (a b : Int) : iltB a b = decide (a < b) := by
  cases a <;> cases b <;> simp only [iltB, nble, Nat.succ_eq_add_one]
  · apply decide_eq_decide.2; simp only [Int.ofNat_eq_natCast]; omega
  · rename_i a b; exact (decide_eq_false (by simp only [Int.ofNat_eq_natCast]; omega)).symm
  · rename_i a b; exact (decide_eq_true (by simp only [Int.ofNat_eq_natCast]; omega)).symm
  · apply decide_eq_decide.2; omega
theorem ieqB_eq (a b : Int) : ieqB a b = (a == b) := by
  cases a <;> cases b <;> simp only [ieqB, nbeq]
  · rw [Bool.eq_iff_iff]; simp; omega
  · rw [Bool.eq_iff_iff]; simp
  · rw [Bool.eq_iff_iff]; simp
  · rw [Bool.eq_iff_iff]; simp; omega
theorem ileB_eq (a b : Int) : ileB a b = decide (a ≤ b) := by
  rw [ileB, iltB_eq]; by_cases h : b < a
  · simp [h]
  · simp [h]; omega
theorem wrapN_i64 (m : Nat) : wrapN .i64 m = IntKind.wrap .i64 (.ofNat m) := by
  show cb (Nat.ble m 9223372036854775807) _ _ = _
  rw [cb_eq, nble]
  split
  · rename_i h
    have h : m ≤ 9223372036854775807 := of_decide_eq_true h
    simp only [IntKind.wrap, IntKind.signed, IntKind.bits, Int.ofNat_eq_natCast, Bool.true_and]
    split
    · rename_i hh; have hh := of_decide_eq_true hh; omega
    · omega
  · rfl
theorem wrapN_eq (k : IntKind) (m : Nat) : wrapN k m = k.wrap (.ofNat m) := by
  cases k
  case i64 => exact wrapN_i64 m
  all_goals rfl
theorem wrapS_i64 (m : Nat) : wrapS .i64 m = IntKind.wrap .i64 (.negSucc m) := by
  show cb (Nat.ble m 9223372036854775807) _ _ = _
  rw [cb_eq, nble]
  split
  · rename_i h
    have h : m ≤ 9223372036854775807 := of_decide_eq_true h
    exact (IntWalk.i64_in _ (by rw [Int.negSucc_eq]; omega)).symm
  · rfl
theorem wrapS_eq (k : IntKind) (m : Nat) : wrapS k m = k.wrap (.negSucc m) := by
  cases k
  case i64 => exact wrapS_i64 m
  all_goals rfl
theorem wrapA_eq (k : IntKind) (n : Int) : wrapA k n = k.wrap n := by
  cases n
  · exact wrapN_eq k _
  · exact wrapS_eq k _
theorem topK_pow (k : IntKind) : ∃ j, topK k = 2 ^ j ∧ (k.signed = true → j + 1 = k.bits) ∧ (k.signed = false → j = k.bits) := by
  cases k
  · exact ⟨7, rfl, fun _ => rfl, by decide⟩
  · exact ⟨15, rfl, fun _ => rfl, by decide⟩
  · exact ⟨31, rfl, fun _ => rfl, by decide⟩
  · exact ⟨63, rfl, fun _ => rfl, by decide⟩
  · exact ⟨8, rfl, by decide, fun _ => rfl⟩
  · exact ⟨16, rfl, by decide, fun _ => rfl⟩
  · exact ⟨32, rfl, by decide, fun _ => rfl⟩
  · exact ⟨64, rfl, by decide, fun _ => rfl⟩
theorem wrap_small (k : IntKind) (m : Nat) (h : m < topK k) : k.wrap (m : Int) = m := by
  cases k <;> simp only [topK] at h <;> simp only [IntKind.wrap, IntKind.signed, IntKind.bits, Bool.true_and, Bool.false_and, Bool.false_eq_true, if_false]
  case i8 | i16 | i32 | i64 => split
    <;> (rename_i hh; first | (have hh := of_decide_eq_true hh; omega) | omega)
  all_goals omega
theorem top_le (k : IntKind) : topK k ≤ 2 ^ k.bits := by cases k <;> decide
theorem ofInt_small (k : IntKind) (m : Nat) (h : m < topK k) : (BitVec.ofInt k.bits (m : Int)).toNat = m := by
  have := top_le k
  rw [BitVec.toNat_ofInt]
  have h2 : ((m : Int) % ((2 ^ k.bits : Nat) : Int)) = m := Int.emod_eq_of_lt (by omega) (by omega)
  rw [h2]; simp
theorem fastB_eq (k : IntKind) (f : Nat → Nat → Nat) (g : BitVec k.bits → BitVec k.bits → BitVec k.bits)
    (hg : ∀ x y, (g x y).toNat = f x.toNat y.toNat) (hf : ∀ x y j, x < 2 ^ j → y < 2 ^ j → f x y < 2 ^ j) (a b : Int) :
    fastB k f a b (k.wrap (g (BitVec.ofInt k.bits a) (BitVec.ofInt k.bits b)).toNat) = k.wrap (g (BitVec.ofInt k.bits a) (BitVec.ofInt k.bits b)).toNat := by
  unfold fastB
  cases a with
  | negSucc _ => rfl
  | ofNat x =>
    cases b with
    | negSucc _ => rfl
    | ofNat y =>
      simp only [cb_eq, nble, Nat.succ_eq_add_one]
      split
      · rename_i h
        have h : x < topK k ∧ y < topK k := by simp only [Bool.and_eq_true, decide_eq_true_eq] at h; exact ⟨h.1, h.2⟩
        obtain ⟨j, hj, _⟩ := topK_pow k
        have h3 := hf x y j (by omega) (by omega)
        simp only [Int.ofNat_eq_natCast]
        rw [hg, ofInt_small k x h.1, ofInt_small k y h.2, wrap_small k _ (by omega)]
      · rfl
theorem iAnd_eq (k : IntKind) (a b : Int) : iAnd k a b = .int k (k.wrap (BitVec.ofInt k.bits a &&& BitVec.ofInt k.bits b).toNat) := by
  unfold iAnd andN
  rw [fastB_eq k Nat.land (fun x y => x &&& y) (fun x y => BitVec.toNat_and x y) (fun x y j h1 h2 => Nat.and_lt_two_pow _ h2)]
theorem iOr_eq (k : IntKind) (a b : Int) : iOr k a b = .int k (k.wrap (BitVec.ofInt k.bits a ||| BitVec.ofInt k.bits b).toNat) := by
  unfold iOr orN
  rw [fastB_eq k Nat.lor (fun x y => x ||| y) (fun x y => BitVec.toNat_or x y) (fun x y j h1 h2 => Nat.or_lt_two_pow h1 h2)]
theorem iXor_eq (k : IntKind) (a b : Int) : iXor k a b = .int k (k.wrap (BitVec.ofInt k.bits a ^^^ BitVec.ofInt k.bits b).toNat) := by
  unfold iXor xorN
  rw [fastB_eq k Nat.xor (fun x y => x ^^^ y) (fun x y => BitVec.toNat_xor x y) (fun x y j h1 h2 => Nat.xor_lt_two_pow h1 h2)]
theorem bytesEq_eq (a b : List UInt8) : bytesEq a b = (a == b) := by
  induction a generalizing b with
  | nil => cases b <;> rfl
  | cons x a ih =>
    cases b with
    | nil => rfl
    | cons y b =>
      simp only [bytesEq, nbeq, ih]
      rw [Bool.eq_iff_iff]; simp [UInt8.toNat_inj]
def DescOK : AD → TypeDesc → Prop
  | .bool, .bool => True
  | .int k, .int k' => k = k'
  | .string, .string => True
  | .ptr e, .pointer e' => e = e'
  | .slice e, .slice e' => e = e'
  | .array n e, .array n' e' => n = n' ∧ e = e'
  | .map k e, .map k' e' => k = k' ∧ e = e'
  | .struct fs, .struct gs => fs = gs.toList.map (fun f => (f.offset, f.type)) ∧ ∀ f ∈ gs.toList, f.name ≠ "_"
  | .func, .func _ _ _ => True
  | .iface _, .interface _ => True
  | _, _ => False
structure TyOK (P : Program) (t : TypeId) (ty : ATy) : Prop where
  und : ∃ d, P.underlying t = some d ∧ DescOK ty.desc d
  info : ∃ i z, P.info? t = some i ∧ i.size = ty.size ∧ i.bytes = ty.bytes ∧ i.zero = some z ∧ RelV Inj.empty ty.zero z
  zero : ty.zero.cells.length = ty.size
  nz : ty.zero ≠ .any
  flds : ∀ gs, P.underlying t = some (.struct gs) → ∀ f ∈ gs.toList, ∃ i, P.info? f.type = some i
  eqs : ty.eqs = true → P.stoodInHeld t = false ∧ P.eqGuardType P.depth t = false
structure CxOK (P : Program) (cx : Cx) : Prop where
  ty : ∀ t ty, cx.ty t = some ty → TyOK P t ty
  fn : ∀ f fn, cx.fn f = some fn → P.funcs[f]? = some fn ∧ (fn.name == "runtime.NumGoroutine") = false ∧ fn.body.isNone = false
  order : P.follows .mixedOrders = true
theorem ext_empty (μ : Inj) : Ext Inj.empty μ := ⟨fun _ _ h => (by cases h), fun _ _ h => (by cases h)⟩
section types
variable {P : Program} {t : TypeId} {ty : ATy} (h : TyOK P t ty) (w : World)
include h
theorem TyOK.run_size : (sizeOf t).run P w = .ok ty.size w := by
  obtain ⟨i, z, hi, hs, _⟩ := h.info
  simp [sizeOf, typeInfo, hi, hs]
theorem TyOK.run_bytes : ∃ i, (typeInfo t).run P w = .ok i w ∧ i.bytes = ty.bytes ∧ i.size = ty.size := by
  obtain ⟨i, z, hi, hs, hb, _⟩ := h.info
  exact ⟨i, by simp [typeInfo, hi], hb, hs⟩
theorem TyOK.run_zero (μ : Inj) : ∃ z, (zeroValue t).run P w = .ok z w ∧ RelV μ ty.zero z := by
  obtain ⟨i, z, hi, _, _, hz, hr⟩ := h.info
  exact ⟨z, by simp [zeroValue, typeInfo, hi, hz], hr.mono (ext_empty μ)⟩
theorem TyOK.run_isAgg : (isAgg t).run P w = .ok (isAggB ty.desc) w := by
  obtain ⟨d, hd, hk⟩ := h.und
  simp only [isAgg, Sem.run_bind, run_underlying hd, Result.andThen_ok]
  cases hx : ty.desc <;> rw [hx] at hk <;> cases d <;> first | rfl | exact hk.elim
end types
end Go.Ab
end
end

section
section
namespace Go.Ab
open Go.RowKit
section
variable {μ : Inj} {g : Env} {a : Act}
theorem ofConst_sound {c : Value} {v : AV} (h : ofConst c = some v) : RelV μ v c := by
  unfold ofConst at h
  split at h <;> cases h
  · exact .int _ _
  · exact .bool _
  · rename_i s
    have : RelV μ (.str s.data.toList) (.string ⟨s.data.toList.toArray⟩) := .str _
    simpa using this
  · exact .ptrN
  · exact .sliceN
  · exact .mapN
  · exact .nilFunc
  · exact .nilIface
theorem known_eq {v u : AV} (h : known v = some u) : v = u ∧ u ≠ .any := by
  cases v <;> simp [known] at h <;> subst h <;> exact ⟨rfl, by simp⟩
theorem known_sound (hf : RelF μ g a.tmps) {t : Nat} {v : AV} (h : known (g t) = some v) : RelV μ v (a.tmps.getD t Go.undef) := by
  have h3 := hf t
  rw [(known_eq h).1] at h3; exact h3
theorem ofConst_known {c : Value} {v : AV} (h : ofConst c = some v) : v ≠ .any := by
  unfold ofConst at h
  split at h <;> cases h <;> simp
theorem ev_known {x : Operand} {v : AV} (h : ev g x = some v) : v ≠ .any := by
  cases x with
  | tmp t => exact (known_eq h).2
  | const c => exact ofConst_known h
  | func f => simp only [ev] at h; injection h with h; subst h; simp
  | global _ => cases h
theorem ev_sound (hf : RelF μ g a.tmps) {x : Operand} {v : AV} (h : ev g x = some v) : RelV μ v (a.eval x) := by
  cases x with
  | tmp t => exact known_sound hf h
  | const c => exact ofConst_sound h
  | func f => simp only [ev] at h; injection h with h; subst h; exact .func .nil .nil
  | global _ => cases h
theorem evs_sound (hf : RelF μ g a.tmps) {l : List Operand} : ∀ {vs : List AV}, evs g l = some vs → RelL μ vs (l.map a.eval) := by
  induction l with
  | nil => intro vs h; injection h with h; subst h; exact .nil
  | cons x l ih =>
    intro vs h
    rw [evs_cons] at h
    replace h := ob_eq h; obtain ⟨v, hv, h⟩ := h
    replace h := ob_eq h; obtain ⟨ws, hw, h⟩ := h
    injection h with h; subst h
    exact .cons (ev_sound hf hv) (ih hw)
inductive RelP (μ : Inj) : List (Nat × AV) → List (Nat × Value) → Prop
  | nil : RelP μ [] []
  | cons {i : Nat} {v : AV} {x : Value} {l : List (Nat × AV)} {m : List (Nat × Value)} : RelV μ v x → v ≠ .any → RelP μ l m → RelP μ ((i, v) :: l) ((i, x) :: m)
theorem evParts_sound (hf : RelF μ g a.tmps) {l : List (Nat × Operand)} : ∀ {vs : List (Nat × AV)}, evParts g l = some vs → RelP μ vs (l.map fun p => (p.1, a.eval p.2)) := by
  induction l with
  | nil => intro vs h; injection h with h; subst h; exact .nil
  | cons x l ih =>
    intro vs h
    obtain ⟨i, x⟩ := x
    simp only [evParts] at h
    replace h := ob_eq h; obtain ⟨v, hv, h⟩ := h
    replace h := ob_eq h; obtain ⟨ws, hw, h⟩ := h
    injection h with h; subst h
    exact .cons (ev_sound hf hv) (ev_known hv) (ih hw)
theorem evO_sound (hf : RelF μ g a.tmps) {x : Option Operand} {v : Option AV} (h : evO g x = some v) :
    (v = none ∧ x.map a.eval = none) ∨ ∃ u y, v = some u ∧ x.map a.eval = some y ∧ RelV μ u y := by
  cases x with
  | none => simp only [evO] at h; injection h with h; exact .inl ⟨h.symm, rfl⟩
  | some x =>
    simp only [evO] at h
    replace h := ob_eq h; obtain ⟨u, hu, h⟩ := h
    injection h with h
    exact .inr ⟨u, _, h.symm, rfl, ev_sound hf hu⟩
end
section views
variable {μ : Inj} {v : AV} {x : Value}
theorem int?_eq {r : IntKind × Int} (h : v.int? = some r) : v = .int r.1 r.2 := by
  cases v <;> simp [AV.int?] at h; subst h; rfl
theorem bool?_eq {r : Bool} (h : v.bool? = some r) : v = .bool r := by
  cases v <;> simp [AV.bool?] at h; subst h; rfl
theorem str?_eq {r : List UInt8} (h : v.str? = some r) : v = .str r := by
  cases v <;> simp [AV.str?] at h; subst h; rfl
theorem ptr?_eq {r : Option (Nat × Nat)} (h : v.ptr? = some r) : v = .ptr r := by
  cases v <;> simp [AV.ptr?] at h; subst h; rfl
theorem slice?_eq {r : Option (Nat × Nat) × Nat × Option Nat} (h : v.slice? = some r) : v = .slice r.1 r.2.1 r.2.2 := by
  cases v <;> simp [AV.slice?] at h; subst h; rfl
theorem map?_eq {r : Option Nat} (h : v.map? = some r) : v = .map r := by
  cases v <;> simp [AV.map?] at h; subst h; rfl
theorem agg?_eq {r : List AV} (h : v.agg? = some r) : v = .agg r := by
  cases v <;> simp [AV.agg?] at h; subst h; rfl
theorem tuple?_eq {r : List AV} (h : v.tuple? = some r) : v = .tuple r := by
  cases v <;> simp [AV.tuple?] at h; subst h; rfl
theorem rel_int {k : IntKind} {n : Int} (h : RelV μ (.int k n) x) : x = .int k n := by cases h; rfl
theorem rel_bool {b : Bool} (h : RelV μ (.bool b) x) : x = .bool b := by cases h; rfl
theorem rel_str {s : List UInt8} (h : RelV μ (.str s) x) : x = .string ⟨s.toArray⟩ := by cases h; rfl
theorem rel_agg {cs : List AV} (h : RelV μ (.agg cs) x) : ∃ xs, x = .agg xs.toArray ∧ RelL μ cs xs := by
  cases h with | agg a => exact ⟨_, rfl, a⟩
theorem rel_tuple {cs : List AV} (h : RelV μ (.tuple cs) x) : ∃ xs, x = .tuple xs.toArray ∧ RelL μ cs xs := by
  cases h with | tuple a => exact ⟨_, rfl, a⟩
theorem rel_ptr {p : Nat × Nat} (h : RelV μ (.ptr (some p)) x) : ∃ i, μ p.1 = some i ∧ x = .pointer (some ⟨i.blk, i.off + p.2, none⟩) := by
  cases h with | ptr e => exact ⟨_, e, rfl⟩
theorem rel_ptr_none (h : RelV μ (.ptr none) x) : x = .pointer none := by cases h; rfl
end views
section bin
variable {P : Program} {cx : Cx} (hcx : CxOK P cx) {μ : Inj} (w : World)
theorem aInt_sound {op : BinOp} {k : IntKind} {a b : Int} {v : AV} (h : aInt op k a b = some v) (hs : op ≠ .shl ∧ op ≠ .shr) :
    ∃ z, (Go.binOp op 0 (.int k a) (.int k b)).run P w = .ok z w ∧ RelV μ v z ∧ ∀ t, Go.binOp op t (.int k a) (.int k b) = Go.binOp op 0 (.int k a) (.int k b) := by
  cases op <;> simp only [aInt, Option.some.injEq] at h
  case add => subst h; exact ⟨_, by simp [binOp, Op.intArith]; rfl, by rw [wrapA_eq]; exact .int _ _, fun _ => rfl⟩
  case sub => subst h; exact ⟨_, by simp [binOp, Op.intArith]; rfl, by rw [wrapA_eq]; exact .int _ _, fun _ => rfl⟩
  case mul => subst h; exact ⟨_, by simp [binOp, Op.intArith]; rfl, by rw [wrapA_eq]; exact .int _ _, fun _ => rfl⟩
  case quo =>
    simp only [iQuo, cb_eq, ieqB_eq] at h
    split at h
    · cases h
    · rename_i hb
      have hb : ¬ b = 0 := by simpa using hb
      injection h with h; subst h
      exact ⟨_, by simp only [binOp, Op.intDiv, hb, ne_eq, not_true_eq_false, if_false]; rfl, by rw [wrapA_eq]; exact .int _ _, fun _ => rfl⟩
  case rem =>
    simp only [iRem, cb_eq, ieqB_eq] at h
    split at h
    · cases h
    · rename_i hb
      have hb : ¬ b = 0 := by simpa using hb
      injection h with h; subst h
      exact ⟨_, by simp only [binOp, Op.intDiv, hb, ne_eq, not_true_eq_false, if_false]; rfl, .int _ _, fun _ => rfl⟩
  case and => subst h; exact ⟨_, by simp [binOp, Op.intBits]; rfl, by rw [iAnd_eq]; exact .int _ _, fun _ => rfl⟩
  case or => subst h; exact ⟨_, by simp [binOp, Op.intBits]; rfl, by rw [iOr_eq]; exact .int _ _, fun _ => rfl⟩
  case xor => subst h; exact ⟨_, by simp [binOp, Op.intBits]; rfl, by rw [iXor_eq]; exact .int _ _, fun _ => rfl⟩
  case andNot => subst h; exact ⟨_, by simp only [binOp, Op.intBits, ne_eq, not_true_eq_false, if_false]; rfl, .int _ _, fun _ => rfl⟩
  case eql => subst h; exact ⟨_, by simp [binOp, Op.intCmp]; rfl, by rw [ieqB_eq]; exact .bool _, fun _ => rfl⟩
  case neq => subst h; exact ⟨_, by simp [binOp, Op.intCmp]; rfl, by rw [ieqB_eq]; exact .bool _, fun _ => rfl⟩
  case lss => subst h; exact ⟨_, by simp [binOp, Op.intCmp]; rfl, by rw [iLss, iltB_eq]; exact .bool _, fun _ => rfl⟩
  case leq => subst h; exact ⟨_, by simp [binOp, Op.intCmp]; rfl, by rw [iLeq, ileB_eq]; exact .bool _, fun _ => rfl⟩
  case gtr => subst h; exact ⟨_, by simp [binOp, Op.intCmp]; rfl, by rw [iLss, iltB_eq]; exact .bool _, fun _ => rfl⟩
  case geq => subst h; exact ⟨_, by simp [binOp, Op.intCmp]; rfl, by rw [iLeq, ileB_eq]; exact .bool _, fun _ => rfl⟩
  case shl => exact absurd rfl hs.1
  case shr => exact absurd rfl hs.2
theorem shN_eq (k : IntKind) (b : Nat) : shN k b = min b k.bits := by
  rw [shN, cb_eq, nble]; split <;> rename_i h
  · have := of_decide_eq_true h; omega
  · have h2 : ¬ b ≤ k.bits := fun e => h (decide_eq_true e)
    omega
theorem shlN_eq (k : IntKind) (a : Int) (n : Nat) : shlN k a n = k.wrap (a * 2 ^ n) := by
  unfold shlN
  rw [wrapA_eq]
  have e : (Int.ofNat (Nat.pow 2 n)) = (2 : Int) ^ n := by
    show ((2 ^ n : Nat) : Int) = _
    rw [Int.natCast_pow]
    try rfl
  rw [e]; rfl
theorem shrN_eq (a : Int) (n : Nat) : shrN a n = a.fdiv (2 ^ n) := by
  have e : (Int.ofNat (Nat.pow 2 n)) = (2 : Int) ^ n := by
    show ((2 ^ n : Nat) : Int) = _
    rw [Int.natCast_pow]
    try rfl
  cases a with
  | ofNat x =>
    show Int.ofNat (x / 2 ^ n) = _
    rw [← e]
    rw [Int.fdiv_eq_ediv_of_nonneg]
    · rfl
    · exact Int.natCast_nonneg _
  | negSucc x =>
    show Int.fdiv _ (Int.ofNat (Nat.pow 2 n)) = _
    rw [e]
theorem binInt_sound {op : BinOp} {k k' : IntKind} {a b : Int} {v : AV} (h : binInt op k a k' b = some v) (t : TypeId) :
    ∃ z, (Go.binOp op t (.int k a) (.int k' b)).run P w = .ok z w ∧ RelV μ v z := by
  by_cases h1 : op = .shl
  · subst h1
    simp only [binInt, shl, cb_eq, iltB_eq] at h
    split at h
    · cases h
    · rename_i hb
      have hb : ¬ b < 0 := by simpa using hb
      injection h with h; subst h
      exact ⟨_, by simp [binOp, Op.shift, hb]; rfl, by rw [shlN_eq, shN_eq]; exact .int _ _⟩
  · by_cases h2 : op = .shr
    · subst h2
      simp only [binInt, shr, cb_eq, iltB_eq] at h
      split at h
      · cases h
      · rename_i hb
        have hb : ¬ b < 0 := by simpa using hb
        injection h with h; subst h
        exact ⟨_, by simp [binOp, Op.shift, hb]; rfl, by rw [shrN_eq, shN_eq]; exact .int _ _⟩
    · have h3 : (if k = k' then aInt op k a b else none) = some v := by cases op <;> first | exact h | exact absurd rfl h1 | exact absurd rfl h2
      split at h3
      · rename_i e; subst e
        obtain ⟨z, hz, hr, ht⟩ := aInt_sound w h3 ⟨h1, h2⟩
        exact ⟨z, by rw [ht t]; exact hz, hr⟩
      · cases h3
theorem toList_mk (s : List UInt8) : (ByteArray.mk s.toArray).toList = s := by simp
theorem aStr_sound {op : BinOp} {a b : List UInt8} {v : AV} (h : aStr op a b = some v) (t : TypeId) :
    ∃ z, (Go.binOp op t (.string ⟨a.toArray⟩) (.string ⟨b.toArray⟩)).run P w = .ok z w ∧ RelV μ v z := by
  have e : ∀ op, Go.binOp op t (.string ⟨a.toArray⟩) (.string ⟨b.toArray⟩) = Op.stringOp op ⟨a.toArray⟩ ⟨b.toArray⟩ := fun op => by cases op <;> rfl
  rw [e]
  cases op <;> simp only [aStr, Option.some.injEq] at h
  case add =>
    simp only [sAdd] at h
    split at h
    · rename_i hl
      injection h with h; subst h
      have h2 : ¬ (((ByteArray.mk a.toArray).size + (ByteArray.mk b.toArray).size : Nat) : Int) > IntKind.i64.max := by
        simp [IntKind.max, IntKind.signed, IntKind.bits, ByteArray.size]; omega
      refine ⟨.string ⟨(a ++ b).toArray⟩, ?_, .str _⟩
      simp only [Op.stringOp]
      rw [if_neg h2]
      have h3 : (ByteArray.mk a.toArray) ++ (ByteArray.mk b.toArray) = ByteArray.mk (a ++ b).toArray := by
        apply ByteArray.ext; simp
      rw [h3]; rfl
    · cases h
  case eql => subst h; exact ⟨_, by simp only [Op.stringOp, toList_mk]; rfl, by rw [bytesEq_eq]; exact .bool _⟩
  case neq => subst h; exact ⟨_, by simp only [Op.stringOp, toList_mk]; rfl, by rw [bytesEq_eq]; exact .bool _⟩
  case lss => subst h; exact ⟨_, by simp only [Op.stringOp, toList_mk]; rfl, .bool _⟩
  case leq => subst h; exact ⟨_, by simp only [Op.stringOp, toList_mk]; rfl, by rw [bytesEq_eq]; exact .bool _⟩
  case gtr => subst h; exact ⟨_, by simp only [Op.stringOp, toList_mk]; rfl, by rw [bytesEq_eq]; exact .bool _⟩
  case geq => subst h; exact ⟨_, by simp only [Op.stringOp, toList_mk]; rfl, .bool _⟩
  all_goals cases h
end bin
end Go.Ab
end
end

section
section
namespace Go.Ab
open Go.RowKit
theorem toList_extract (xs : List Value) (a n : Nat) : xs.toArray.extract a (a + n) = ((xs.drop a).take n).toArray := by
  simp
section
variable {P : Program} {cx : Cx} (hcx : CxOK P cx) {μ : Inj} (w : World)
include hcx
theorem aPart_sound {t : TypeId} {cs : List AV} {xs : List Value} {off : Nat} {v : AV} (h : aPart cx t cs off = some v) (hr : RelL μ cs xs) :
    ∃ x, (part t xs.toArray off).run P w = .ok x w ∧ RelV μ v x := by
  unfold aPart at h
  cases ht : cx.ty t with
  | none => rw [ht] at h; cases h
  | some ty =>
    rw [ht] at h
    have hty := hcx.ty t ty ht
    simp only [part, Sem.run_bind, hty.run_isAgg, Result.andThen_ok]
    simp only at h
    by_cases ha : isAggB ty.desc = true
    · rw [if_pos ha] at h ⊢
      split at h
      · injection h with h; subst h
        refine ⟨_, by simp only [Sem.run_bind, hty.run_size, Result.andThen_ok, Sem.run_pure]; rfl, ?_⟩
        rw [toList_extract]
        exact .agg ((hr.drop off).take ty.size)
      · cases h
    · rw [if_neg ha] at h ⊢
      rw [listAt_eq] at h
      obtain ⟨x, hx, hv⟩ := hr.get off v h
      exact ⟨x, by simp [hx], hv⟩
theorem eqPtr_sound {t e : TypeId} {ty : ATy} (ht : cx.ty t = some ty) (hd : ty.desc = .ptr e) {a b : Option (Nat × Nat)} {r : Bool} (h : eqPtr cx e a b = some r) {X Y : Value}
    (hx : RelV μ (.ptr a) X) (hy : RelV μ (.ptr b) Y) (d : Nat) : (Op.equalIn (d + 1) t X Y).run P w = .ok r w := by
  have hty := hcx.ty t ty ht
  obtain ⟨dd, hu, hk⟩ := hty.und
  rw [hd] at hk
  cases dd <;> simp only [DescOK] at hk
  subst hk
  cases a with
  | none =>
    cases rel_ptr_none hx
    cases b with
    | none => cases rel_ptr_none hy; simp only [eqPtr, Option.isNone] at h; cases h; simp [Op.equalIn, run_underlying hu]
    | some b => obtain ⟨i, _, rfl⟩ := rel_ptr hy; simp only [eqPtr, Option.isNone] at h; cases h; simp [Op.equalIn, run_underlying hu]
  | some a =>
    obtain ⟨i, hi, rfl⟩ := rel_ptr hx
    cases b with
    | none => cases rel_ptr_none hy; simp only [eqPtr] at h; cases h; simp [Op.equalIn, run_underlying hu]
    | some b =>
      obtain ⟨j, hj, rfl⟩ := rel_ptr hy
      simp only [eqPtr] at h
      split at h
      · rename_i hb
        replace h := ob_eq h; obtain ⟨et, het, h⟩ := h
        have hety := hcx.ty e et het
        split at h
        · cases h
        · rename_i hs
          injection h with h; subst h
          rw [← hb, hi] at hj; cases hj
          simp only [Op.equalIn, Sem.run_bind, run_underlying hu, Result.andThen_ok, hety.run_size, ne_eq, hs, not_false_eq_true, if_true]
          simp [sameAddr]
          rw [Bool.eq_iff_iff]
          simp
      · cases h
theorem eqSlice_sound {t e : TypeId} {ty : ATy} (ht : cx.ty t = some ty) (hd : ty.desc = .slice e) {a b : Option (Nat × Nat) × Nat × Option Nat} {r : Bool} (h : eqNil a.1 b.1 = some r) {X Y : Value}
    (hx : RelV μ (.slice a.1 a.2.1 a.2.2) X) (hy : RelV μ (.slice b.1 b.2.1 b.2.2) Y) (d : Nat) : (Op.equalIn (d + 1) t X Y).run P w = .ok r w := by
  have hty := hcx.ty t ty ht
  obtain ⟨dd, hu, hk⟩ := hty.und
  rw [hd] at hk
  cases dd <;> simp only [DescOK] at hk
  obtain ⟨pa, la, ca⟩ := a
  obtain ⟨pb, lb, cb'⟩ := b
  cases hx <;> cases hy <;> simp only [eqNil, Option.isNone] at h <;> first | (cases h; done) | (cases h; simp [Op.equalIn, run_underlying hu])
theorem eqMap_sound {t k e : TypeId} {ty : ATy} (ht : cx.ty t = some ty) (hd : ty.desc = .map k e) {a b : Option Nat} {r : Bool} (h : eqNil a b = some r) {X Y : Value}
    (hx : RelV μ (.map a) X) (hy : RelV μ (.map b) Y) (d : Nat) : (Op.equalIn (d + 1) t X Y).run P w = .ok r w := by
  have hty := hcx.ty t ty ht
  obtain ⟨dd, hu, hk⟩ := hty.und
  rw [hd] at hk
  cases dd <;> simp only [DescOK] at hk
  cases hx <;> cases hy <;> simp only [eqNil, Option.isNone] at h <;> first | (cases h; done) | (cases h; simp [Op.equalIn, run_underlying hu])
theorem eqFunc_sound {t : TypeId} {ty : ATy} (ht : cx.ty t = some ty) (hd : ty.desc = .func) {x y : AV} {r : Bool} (h : eqFunc x y = some r) {X Y : Value}
    (hx : RelV μ x X) (hy : RelV μ y Y) (d : Nat) : (Op.equalIn (d + 1) t X Y).run P w = .ok r w := by
  have hty := hcx.ty t ty ht
  obtain ⟨dd, hu, hk⟩ := hty.und
  rw [hd] at hk
  cases dd <;> simp only [DescOK] at hk
  unfold eqFunc at h
  cases x <;> simp only at h <;> try (cases h; done)
  all_goals (cases y <;> simp only at h <;> first | (cases h; done) | (cases h; cases hx; cases hy; simp [Op.equalIn, run_underlying hu]))
theorem aEq_sound : ∀ (d : Nat) {t : TypeId} {x y : AV} {X Y : Value} {r : Bool}, aEq cx d t x y = some r → RelV μ x X → RelV μ y Y →
    ∀ D, d ≤ D → (Op.equalIn D t X Y).run P w = .ok r w := by
  intro d
  induction d with
  | zero => intro t x y X Y r h; cases h
  | succ d ih =>
    intro t x y X Y r h hx hy D hD
    obtain ⟨D, rfl⟩ : ∃ k, D = k + 1 := ⟨D - 1, by omega⟩
    have hD : d ≤ D := by omega
    simp only [aEq] at h
    replace h := ob_eq h; obtain ⟨ty, ht, h⟩ := h
    have hty := hcx.ty t ty ht
    obtain ⟨dd, hu, hk⟩ := hty.und
    unfold eqAt at h
    cases hd : ty.desc with
    | bool =>
      rw [hd] at h hk
      replace h := ob_eq h; obtain ⟨a, ha, h⟩ := h
      replace h := ob_eq h; obtain ⟨b, hb, h⟩ := h
      cases bool?_eq ha; cases bool?_eq hb; cases rel_bool hx; cases rel_bool hy
      injection h with h; subst h
      cases dd <;> simp only [DescOK] at hk
      simp [Op.equalIn, run_underlying hu]
    | int k =>
      rw [hd] at h hk
      simp only [eqInt] at h
      replace h := ob_eq h; obtain ⟨a, ha, h⟩ := h
      replace h := ob_eq h; obtain ⟨b, hb, h⟩ := h
      split at h
      · rename_i hkk
        cases int?_eq ha; cases int?_eq hb; cases rel_int hx; cases rel_int hy
        injection h with h; subst h
        cases dd <;> simp only [DescOK] at hk
        simp [Op.equalIn, run_underlying hu, hkk, ieqB_eq]
      · cases h
    | string =>
      rw [hd] at h hk
      replace h := ob_eq h; obtain ⟨a, ha, h⟩ := h
      replace h := ob_eq h; obtain ⟨b, hb, h⟩ := h
      cases str?_eq ha; cases str?_eq hb; cases rel_str hx; cases rel_str hy
      injection h with h; subst h
      cases dd <;> simp only [DescOK] at hk
      rw [run_equalIn_string w D t _ _ hu, bytesEq_eq, toList_mk, toList_mk]
    | ptr e =>
      rw [hd] at h
      replace h := ob_eq h; obtain ⟨a, ha, h⟩ := h
      replace h := ob_eq h; obtain ⟨b, hb, h⟩ := h
      cases ptr?_eq ha; cases ptr?_eq hb
      exact eqPtr_sound hcx w ht hd h hx hy D
    | slice e =>
      rw [hd] at h
      replace h := ob_eq h; obtain ⟨a, ha, h⟩ := h
      replace h := ob_eq h; obtain ⟨b, hb, h⟩ := h
      cases slice?_eq ha; cases slice?_eq hb
      exact eqSlice_sound hcx w ht hd h hx hy D
    | map k e =>
      rw [hd] at h
      replace h := ob_eq h; obtain ⟨a, ha, h⟩ := h
      replace h := ob_eq h; obtain ⟨b, hb, h⟩ := h
      cases map?_eq ha; cases map?_eq hb
      exact eqMap_sound hcx w ht hd h hx hy D
    | func => rw [hd] at h; exact eqFunc_sound hcx w ht hd h hx hy D
    | iface b => rw [hd] at h; cases h
    | struct fs =>
      rw [hd] at h hk
      simp only [eqAgg, cb_eq] at h
      split at h
      · rename_i he
        replace h := ob_eq h; obtain ⟨xs, hxs, h⟩ := h
        replace h := ob_eq h; obtain ⟨ys, hys, h⟩ := h
        cases agg?_eq hxs; cases agg?_eq hys
        obtain ⟨XS, rfl, hX⟩ := rel_agg hx
        obtain ⟨YS, rfl, hY⟩ := rel_agg hy
        cases dd <;> simp only [DescOK] at hk
        rename_i gs
        obtain ⟨rfl, hname⟩ := hk
        have hf : P.fieldsOf t = gs := by simp [Program.fieldsOf, hu]
        rw [run_equalIn_struct w D t _ _ (by rw [hf]; exact hu) (hty.eqs he).1, hf]
        clear hd hu hf
        generalize gs.toList = l at h hname
        clear hx hy
        induction l with
        | nil => simp only [List.map_nil, eqFields] at h; cases h; simp [Op.eqFields]
        | cons f l ihl =>
          simp only [List.map_cons, eqFields] at h
          replace h := ob_eq h; obtain ⟨u, hu1, h⟩ := h
          replace h := ob_eq h; obtain ⟨v, hv1, h⟩ := h
          replace h := ob_eq h; obtain ⟨b, hb, h⟩ := h
          obtain ⟨U, hU, rU⟩ := aPart_sound hcx w hu1 hX
          obtain ⟨V, hV, rV⟩ := aPart_sound hcx w hv1 hY
          have he := ih hb rU rV D hD
          have hn : f.name ≠ "_" := hname f (by simp)
          simp only [Op.eqFields, hn, ne_eq, not_false_eq_true, if_true, Sem.run_bind, hU, hV, he, Result.andThen_ok]
          cases b with
          | true => simp only [cb_true] at h; simp; exact ihl h (fun f hf => hname f (by simp [hf]))
          | false => simp only [cb_false] at h; cases h; simp
      · cases h
    | array n e =>
      rw [hd] at h hk
      simp only [eqAgg, cb_eq] at h
      split at h
      · rename_i he
        replace h := ob_eq h; obtain ⟨xs, hxs, h⟩ := h
        replace h := ob_eq h; obtain ⟨ys, hys, h⟩ := h
        replace h := ob_eq h; obtain ⟨et, het, h⟩ := h
        cases agg?_eq hxs; cases agg?_eq hys
        obtain ⟨XS, rfl, hX⟩ := rel_agg hx
        obtain ⟨YS, rfl, hY⟩ := rel_agg hy
        cases dd <;> simp only [DescOK] at hk
        obtain ⟨rfl, rfl⟩ := hk
        obtain ⟨i, z, hi, hs, _⟩ := (hcx.ty e et het).info
        rw [run_equalIn_array w D _ _ hu hi, List.range_eq_range']
        have hc : P.cellsOf e = et.size := by simp [Program.cellsOf, hi, hs]
        rw [hc]
        clear hd hu hx hy
        generalize 0 = k at h
        induction n generalizing k with
        | zero => simp only [eqElems] at h; cases h; simp [Op.eqItems]
        | succ n ihn =>
          simp only [eqElems] at h
          replace h := ob_eq h; obtain ⟨u, hu1, h⟩ := h
          replace h := ob_eq h; obtain ⟨v, hv1, h⟩ := h
          replace h := ob_eq h; obtain ⟨b, hb, h⟩ := h
          obtain ⟨U, hU, rU⟩ := aPart_sound hcx w hu1 hX
          obtain ⟨V, hV, rV⟩ := aPart_sound hcx w hv1 hY
          have he := ih hb rU rV D hD
          simp only [List.range'_succ, Op.eqItems, Sem.run_bind, hU, hV, he, Result.andThen_ok]
          cases b with
          | true => simp only [cb_true] at h; simp; exact ihn (k + 1) h
          | false => simp only [cb_false] at h; cases h; simp
      · cases h
theorem binOther0_sound {op : BinOp} {t : TypeId} {x y : AV} {X Y : Value} {v : AV} (h : binOther0 cx op t x y = some v) (hx : RelV μ x X) (hy : RelV μ y Y)
    (h1 : ∀ k n, X ≠ .int k n) (h2 : ∀ s, X ≠ .string s) (h0 : x ≠ .any) : ∃ z, (Go.binOp op t X Y).run P w = .ok z w ∧ RelV μ v z := by
  have e : ∀ op : BinOp, op = .eql ∨ op = .neq → Go.binOp op t X Y = (do let b ← Op.equal t X Y; pure (.bool (if op = .eql then b else !b))) := by
    intro op ho
    rcases ho with rfl | rfl <;> cases X <;> first
      | rfl
      | exact absurd rfl (h1 _ _)
      | exact absurd rfl (h2 _)
      | (cases hx; done)
      | (cases hx; exact absurd rfl h0)
  cases op <;> simp only [binOther0] at h <;> try (cases h; done)
  case eql =>
    replace h := ob_eq h; obtain ⟨b, hb, h⟩ := h
    injection h with h; subst h
    rw [e _ (.inl rfl)]
    have := aEq_sound hcx w 100 hb hx hy 10000 (by omega)
    exact ⟨.bool b, by simp [Op.equal, Op.maxDepth, this], .bool _⟩
  case neq =>
    replace h := ob_eq h; obtain ⟨b, hb, h⟩ := h
    injection h with h; subst h
    rw [e _ (.inr rfl)]
    have := aEq_sound hcx w 100 hb hx hy 10000 (by omega)
    exact ⟨.bool (!b), by simp [Op.equal, Op.maxDepth, this], .bool _⟩
noncomputable def aBin0 (cx : Cx) (op : BinOp) (t : TypeId) (x y : AV) : Option AV :=
  match x with
  | .int k a => y.int?.ob fun b => binInt op k a b.1 b.2
  | .str a => y.str?.ob fun b => aStr op a b
  | .any => none
  | x => binOther0 cx op t x y
theorem aBin0_sound {op : BinOp} {t : TypeId} {x y : AV} {X Y : Value} {v : AV} (h : aBin0 cx op t x y = some v) (hx : RelV μ x X) (hy : RelV μ y Y) (ox oy : Operand) :
    ∃ z, (do eqGuard op t ox oy X Y; Go.binOp op t X Y : Sem Value).run P w = .ok z w ∧ RelV μ v z := by
  have key : (∃ z, (Go.binOp op t X Y).run P w = .ok z w ∧ RelV μ v z) → (eqGuard op t ox oy X Y).run P w = .ok () w →
      ∃ z, (do eqGuard op t ox oy X Y; Go.binOp op t X Y : Sem Value).run P w = .ok z w ∧ RelV μ v z := by
    rintro ⟨z, hz, hr⟩ hg
    exact ⟨z, by simp [hg, hz], hr⟩
  unfold aBin0 at h
  cases x
  case int k n =>
    replace h := ob_eq h; obtain ⟨b, hb, h⟩ := h
    cases int?_eq hb; cases rel_int hx; cases rel_int hy
    exact key (binInt_sound w h t) (by cases op <;> rfl)
  case str s =>
    replace h := ob_eq h; obtain ⟨b, hb, h⟩ := h
    cases str?_eq hb; cases rel_str hx; cases rel_str hy
    exact key (aStr_sound w h t) (by cases op <;> rfl)
  case agg cs =>
    have hop : op = .eql ∨ op = .neq := by cases op <;> first | exact .inl rfl | exact .inr rfl | cases h
    have he : ∃ b, aEq cx 100 t (.agg cs) y = some b := by
      rcases hop with rfl | rfl <;> (simp only [binOther0] at h; obtain ⟨b, hb, _⟩ := ob_eq h; exact ⟨b, hb⟩)
    obtain ⟨b, he⟩ := he
    obtain ⟨XS, rfl, hX⟩ := rel_agg hx
    refine key (binOther0_sound hcx w h hx hy (fun _ _ e => by cases e) (fun _ e => by cases e) (by simp)) ?_
    change ((cx.ty t).ob fun ty => eqAt cx (aEq cx 99) ty (.agg cs) y) = some b at he
    replace he := ob_eq he; obtain ⟨ty, ht, he⟩ := he
    unfold eqAt at he
    have hag : ∃ ys, y = .agg ys ∧ ty.eqs = true := by
      cases hd : ty.desc <;> rw [hd] at he <;> simp only [eqAgg, cb_eq, eqInt, AV.bool?, AV.int?, AV.str?, AV.ptr?, AV.slice?, AV.map?, ob_none, eqFunc] at he <;> try (cases he; done)
      all_goals
        split at he
        · rename_i hq
          replace he := ob_eq he; obtain ⟨xs, _, he⟩ := he
          replace he := ob_eq he; obtain ⟨ys, hys, he⟩ := he
          exact ⟨ys, agg?_eq hys, hq⟩
        · cases he
    obtain ⟨ys, rfl, hq⟩ := hag
    obtain ⟨YS, rfl, hY⟩ := rel_agg hy
    exact run_eqGuard_agg w op t ox oy _ _ ((hcx.ty t ty ht).eqs hq).2
  case any => cases h
  case nilIface =>
    exfalso
    have : binOther0 cx op t .nilIface y = some v := h
    unfold binOther0 at this
    cases op <;> simp only at this <;> try (cases this; done)
    all_goals
      obtain ⟨b, hb, _⟩ := ob_eq this
      change ((cx.ty t).ob fun ty => eqAt cx (aEq cx 99) ty .nilIface y) = some b at hb
      replace hb := ob_eq hb; obtain ⟨ty, ht, hb⟩ := hb
      unfold eqAt at hb
      cases hd : ty.desc <;> rw [hd] at hb <;> simp only [eqAgg, cb_eq, eqInt, AV.bool?, AV.int?, AV.str?, AV.ptr?, AV.slice?, AV.map?, AV.agg?, ob_none, eqFunc, ite_self] at hb <;> cases hb
  all_goals
    refine key (binOther0_sound hcx w h hx hy (fun _ _ e => by subst e; cases hx) (fun _ e => by subst e; cases hx) (by simp)) ?_
    cases hx <;> (cases op <;> first | rfl | (cases Y <;> rfl))
theorem aBin_sound {op : BinOp} {t : TypeId} {x y : AV} {X Y : Value} {v : AV} (h : aBin cx op t x y = some v) (hx : RelV μ x X) (hy : RelV μ y Y) (ox oy : Operand) :
    ∃ z, (do eqGuard op t ox oy X Y; Go.binOp op t X Y : Sem Value).run P w = .ok z w ∧ RelV μ v z := by
  have sl : ∀ {nl : Bool}, fNil cx op t nl = some v → ∃ e, P.underlying t = some (.slice e) ∧ ((op = .eql ∧ v = .bool nl) ∨ (op = .neq ∧ v = .bool !nl)) := by
    intro nl h
    unfold fNil at h
    rw [cb_eq] at h
    split at h
    · rename_i hs
      unfold isSliceD at hs
      split at hs
      · rename_i ty ht
        obtain ⟨dd, hu, hk⟩ := (hcx.ty t ty ht).und
        split at hs
        · rename_i e hd
          rw [hd] at hk
          cases dd <;> simp only [DescOK] at hk
          refine ⟨_, hu, ?_⟩
          cases op <;> simp only at h <;> first | (cases h; done) | (injection h with h; subst h; first | exact .inl ⟨rfl, rfl⟩ | exact .inr ⟨rfl, rfl⟩)
        · cases hs
      · cases hs
    · cases h
  have nilOf : ∀ {u : AV} {U : Value}, u.isNil = true → RelV μ u U → U = .slice none 0 0 := by
    intro u U hn hr
    cases u <;> simp only [AV.isNil] at hn <;> try (cases hn; done)
    rename_i p l c
    cases p with
    | none => cases hr; rfl
    | some p => cases hn
  have fin : ∀ {e : TypeId} {nl : Bool} {b : Bool}, P.underlying t = some (.slice e) → (∀ d, (Op.equalIn (d + 1) t X Y).run P w = .ok nl w) → (∀ k n, X ≠ .int k n) → (∀ s, X ≠ .string s) → (∀ fs, X ≠ .agg fs) →
      (∃ p l c, X = .slice p l c) → ((op = .eql ∧ v = .bool nl) ∨ (op = .neq ∧ v = .bool !nl)) → ∃ z, (do eqGuard op t ox oy X Y; Go.binOp op t X Y : Sem Value).run P w = .ok z w ∧ RelV μ v z := by
    rintro e nl b hu he - - - ⟨p, l, c, rfl⟩ (⟨rfl, rfl⟩ | ⟨rfl, rfl⟩)
    · have h1 : (eqGuard .eql t ox oy (.slice p l c) Y).run P w = .ok () w := by first | rfl | (cases Y <;> rfl)
      have h2 : Go.binOp .eql t (.slice p l c) Y = (do let b ← Op.equal t (.slice p l c) Y; pure (.bool b)) := rfl
      exact ⟨.bool nl, by have he := he 9999; simp [h1, h2, Op.equal, Op.maxDepth, he], .bool _⟩
    · have h1 : (eqGuard .neq t ox oy (.slice p l c) Y).run P w = .ok () w := by first | rfl | (cases Y <;> rfl)
      have h2 : Go.binOp .neq t (.slice p l c) Y = (do let b ← Op.equal t (.slice p l c) Y; pure (.bool (!b))) := rfl
      exact ⟨.bool !nl, by have he := he 9999; simp [h1, h2, Op.equal, Op.maxDepth, he], .bool _⟩
  have key2 : ∀ {nl : Bool} {len : Nat} {cs : List AV}, x = .fsl nl len cs → cb y.isNil (fNil cx op t nl) none = some v → ∃ z, (do eqGuard op t ox oy X Y; Go.binOp op t X Y : Sem Value).run P w = .ok z w ∧ RelV μ v z := by
    intro nl len cs hxe h2
    subst hxe
    rw [cb_eq] at h2
    split at h2
    · rename_i hn
      obtain ⟨e, hu, hv⟩ := sl h2
      cases nilOf hn hy
      refine fin (b := true) hu ?_ (fun _ _ e => by subst e; cases hx) (fun _ e => by subst e; cases hx) (fun _ e => by subst e; cases hx) (by cases hx <;> exact ⟨_, _, _, rfl⟩) hv
      intro d; cases hx <;> simp [Op.equalIn, run_underlying hu]
    · cases h2
  have key3 : ∀ {nl : Bool} {len : Nat} {cs : List AV}, y = .fsl nl len cs → cb x.isNil (fNil cx op t nl) none = some v → ∃ z, (do eqGuard op t ox oy X Y; Go.binOp op t X Y : Sem Value).run P w = .ok z w ∧ RelV μ v z := by
    intro nl len cs hye h2
    subst hye
    rw [cb_eq] at h2
    split at h2
    · rename_i hn
      obtain ⟨e, hu, hv⟩ := sl h2
      cases nilOf hn hx
      refine fin (b := true) hu ?_ (fun _ _ e => by cases e) (fun _ e => by cases e) (fun _ e => by cases e) ⟨_, _, _, rfl⟩ hv
      intro d; cases hy <;> simp [Op.equalIn, run_underlying hu]
    · cases h2
  unfold aBin at h
  cases x
  case int k n => exact aBin0_sound (op := op) (t := t) (x := .int k n) (y := y) hcx w h hx hy ox oy
  case str s => exact aBin0_sound (op := op) (t := t) (x := .str s) (y := y) hcx w h hx hy ox oy
  case fsl nl len cs => exact key2 rfl h
  case any => cases h
  all_goals
    simp only [binOther] at h
    split at h
    · exact key3 rfl h
    · first | exact aBin0_sound (op := op) (t := t) (x := .undef) (y := y) hcx w h hx hy ox oy | exact aBin0_sound (op := op) (t := t) (x := .bool _) (y := y) hcx w h hx hy ox oy | exact aBin0_sound (op := op) (t := t) (x := .ptr _) (y := y) hcx w h hx hy ox oy | exact aBin0_sound (op := op) (t := t) (x := .slice _ _ _) (y := y) hcx w h hx hy ox oy | exact aBin0_sound (op := op) (t := t) (x := .map _) (y := y) hcx w h hx hy ox oy | exact aBin0_sound (op := op) (t := t) (x := .func _ _ _) (y := y) hcx w h hx hy ox oy | exact aBin0_sound (op := op) (t := t) (x := .yield _) (y := y) hcx w h hx hy ox oy | exact aBin0_sound (op := op) (t := t) (x := .nilFunc) (y := y) hcx w h hx hy ox oy | exact aBin0_sound (op := op) (t := t) (x := .iface _ _) (y := y) hcx w h hx hy ox oy | exact aBin0_sound (op := op) (t := t) (x := .nilIface) (y := y) hcx w h hx hy ox oy | exact aBin0_sound (op := op) (t := t) (x := .agg _) (y := y) hcx w h hx hy ox oy | exact aBin0_sound (op := op) (t := t) (x := .tuple _) (y := y) hcx w h hx hy ox oy | exact aBin0_sound (op := op) (t := t) (x := .fptr _) (y := y) hcx w h hx hy ox oy
theorem aUn_sound {op : UnOp} {x : AV} {X : Value} {v : AV} (h : aUn op x = some v) (hx : RelV μ x X) : ∃ z, (Op.unary op X).run P w = .ok z w ∧ RelV μ v z := by
  cases op <;> simp only [aUn] at h
  case neg =>
    simp only [uNeg] at h
    replace h := ob_eq h; obtain ⟨a, ha, h⟩ := h
    cases int?_eq ha; cases rel_int hx
    injection h with h; subst h
    exact ⟨_, by simp only [Op.unary, Op.intArith]; rfl, by rw [wrapA_eq]; exact .int _ _⟩
  case xor =>
    simp only [uXor] at h
    replace h := ob_eq h; obtain ⟨a, ha, h⟩ := h
    cases int?_eq ha; cases rel_int hx
    injection h with h; subst h
    exact ⟨_, by simp only [Op.unary, Op.intBits]; rfl, by rw [iXor_eq]; exact .int _ _⟩
  case not =>
    simp only [uNot] at h
    replace h := ob_eq h; obtain ⟨a, ha, h⟩ := h
    cases bool?_eq ha; cases rel_bool hx
    injection h with h; subst h
    exact ⟨_, rfl, .bool _⟩
  case plus => cases h
end
end Go.Ab
end
end

section
section
namespace Go.Ab
open Go.RowKit
theorem addr_add (b o n : Nat) : (⟨b, o, none⟩ : Addr).add n = ⟨b, o + n, none⟩ := by
  unfold Addr.add; split
  · rename_i h; subst h; rfl
  · rfl
def szOf (cx : Cx) (e : TypeId) : Nat := ((cx.ty e).map (·.size)).getD 0
theorem szOf_eq {cx : Cx} {e : TypeId} {et : ATy} (h : cx.ty e = some et) : szOf cx e = et.size := by simp [szOf, h]
section
variable {P : Program} {cx : Cx} (hcx : CxOK P cx) {μ : Inj} {base : Nat → Prop} {w0 w : World} {H : Heap} (hw : RelW (szOf cx) base w0 μ H w)
theorem RelW.row (hw : RelW (szOf cx) base w0 μ H w) {b : Nat} {i : BI} (hb : μ b = some i) {own : Bool} {e : TypeId} {len : Nat} {cs : List AV} (hg : H.get b = .cells own e len cs) :
    len = cs.length ∧ ∃ (arr : Array Value) (e' : TypeId) (fr : Nat × Nat), w.heap[i.blk]? = some (.cells arr e' fr) ∧
      (∀ (k : Nat) (v : AV), cs[k]? = some v → ∃ x, arr[i.off + k]? = some x ∧ RelV μ v x) ∧ (own = true → ¬ base i.blk ∧ i.off = 0 ∧ e' = e ∧ i.m = arr.size ∧ i.esz = szOf cx e ∧ freeRow arr.size fr) := by
  have := hw.blk b i hb
  rw [hg] at this
  exact this
include hw in
theorem cells_read {p : Nat × Nat} {n : Nat} {vs : List AV} (h : cellsAt H p n = some vs) {i : BI} (hb : μ p.1 = some i) :
    ∃ xs, RelL μ vs xs ∧ xs.length = n ∧ ∀ (j : Nat) (v : Value), xs[j]? = some v → w.cell? ⟨i.blk, i.off + p.2 + j, none⟩ = some v := by
  unfold cellsAt at h
  split at h
  · rename_i own e len cs hg
    split at h
    · rename_i hle
      injection h with h; subst h
      obtain ⟨hl, arr, e', fr, ha, hc, _⟩ := hw.row hb hg
      have hx : ∀ j, j < n → ∃ x, arr[i.off + p.2 + j]? = some x ∧ ∃ v, cs[p.2 + j]? = some v ∧ RelV μ v x := fun j hj => by
        have hlt : p.2 + j < cs.length := by omega
        obtain ⟨x, hx, hr⟩ := hc (p.2 + j) _ (List.getElem?_eq_getElem hlt)
        exact ⟨x, by rw [← hx]; congr 1; omega, _, List.getElem?_eq_getElem hlt, hr⟩
      refine ⟨(List.range n).map fun j => (arr[i.off + p.2 + j]?).getD Go.undef, ?_, by simp, ?_⟩
      · refine RelL.of_get (by simp [rowCut]; omega) fun k v x hv hx' => ?_
        have hk : k < n := by
          have := (List.getElem?_eq_some_iff.1 hx').1
          simpa using this
        obtain ⟨y, hy, u, hu, hr⟩ := hx k hk
        simp only [rowCut, List.getElem?_take, List.getElem?_drop] at hv
        rw [if_pos hk, hu] at hv
        cases hv
        simp [hk, hy] at hx'
        subst hx'
        exact hr
      · intro j v hv
        have hk : j < n := by
          have := (List.getElem?_eq_some_iff.1 hv).1
          simpa using this
        obtain ⟨y, hy, _⟩ := hx j hk
        simp [hk, hy] at hv
        subst hv
        simp [World.cell?, ha, hy]
    · cases h
  · cases h
theorem run_loadList (a : Addr) (xs : List Value) (h : ∀ (j : Nat) (v : Value), xs[j]? = some v → w.cell? (a.add j) = some v) : (loadCells a xs.length).run P w = .ok xs.toArray w :=
  run_loadCells_list (P := P) (w := w) a xs h
include hw hcx in
theorem aLoad0_sound {t : TypeId} {x v : AV} {X : Value} (h : aLoad0 cx t H x = some v) (hx : RelV μ x X) : ∃ z, (Instr.loadAt t X).run P w = .ok z w ∧ RelV μ v z := by
  unfold aLoad0 at h
  split at h
  · rename_i ty p ht
    have hty := hcx.ty t ty ht
    obtain ⟨i, hi, rfl⟩ := rel_ptr hx
    simp only [Instr.loadAt, Instr.sureAddr, pure_bind, loadVar, Sem.run_bind, hty.run_isAgg, Result.andThen_ok]
    by_cases ha : isAggB ty.desc = true
    · rw [if_pos ha] at h ⊢
      replace h := ob_eq h; obtain ⟨cs, hc, h⟩ := h
      injection h with h; subst h
      obtain ⟨xs, hr, hl, hcell⟩ := cells_read hw hc hi
      refine ⟨.agg xs.toArray, ?_, .agg hr⟩
      simp only [Sem.run_bind, hty.run_size, Result.andThen_ok]
      rw [← hl, run_loadList _ xs (fun j v hv => by rw [addr_add]; exact hcell j v hv)]
      rfl
    · rw [if_neg ha] at h ⊢
      split at h
      · rename_i own e len cs hg
        split at h
        · rename_i hlt
          rw [listAt_eq] at h
          obtain ⟨hl, arr, e', fr, harr, hc, _⟩ := hw.row hi hg
          obtain ⟨x, hx', hr⟩ := hc _ _ h
          refine ⟨x, ?_, hr⟩
          have : w.cell? ⟨i.blk, i.off + p.2, none⟩ = some x := by simp [World.cell?, harr, hx']
          simp [this]
        · cases h
      · cases h
  · cases h
include hw in
theorem froz_read {cs : List AV} {a : Addr} {arr : Array Value} {vs : List Value} (hz : cs ≠ [] → a.spot = none ∧ μ.fz a.block = some arr) (hr : RelL μ cs vs) (hv : ∀ k x, vs[k]? = some x → arr[a.off + k]? = some x) :
    ∀ (j : Nat) (v : Value), vs[j]? = some v → w.cell? (a.add j) = some v := by
  intro j v h
  have hne : cs ≠ [] := by
    intro e
    have := hr.length
    rw [e] at this
    have h2 : vs = [] := List.length_eq_zero_iff.1 (by simpa using this)
    rw [h2] at h; cases h
  obtain ⟨h1, h2⟩ := hz hne
  obtain ⟨e, fr, h3⟩ := hw.froz _ _ h2
  obtain ⟨b, o, sp⟩ := a
  simp only at h1 h2 h3 hv
  subst h1
  rw [addr_add]
  simp [World.cell?, h3, hv j v h]
include hw hcx in
theorem aLoad_sound {t : TypeId} {x v : AV} {X : Value} (h : aLoad cx t H x = some v) (hx : RelV μ x X) : ∃ z, (Instr.loadAt t X).run P w = .ok z w ∧ RelV μ v z := by
  unfold aLoad at h
  split at h
  · rename_i cs
    cases hx with
    | fptr hz hr hv =>
    rename_i a arr vs
    simp only [fLoad] at h
    replace h := ob_eq h; obtain ⟨ty, ht, h⟩ := h
    have hty := hcx.ty t ty ht
    have rd := froz_read hw hz hr hv
    simp only [Instr.loadAt, Instr.sureAddr, pure_bind, loadVar, Sem.run_bind, hty.run_isAgg, Result.andThen_ok]
    have hl := hr.length
    cases ha : isAggB ty.desc with
    | true =>
      rw [ha, cb_true, cb_eq, nble] at h
      split at h
      · rename_i hle
        have hle := of_decide_eq_true hle
        injection h with h; subst h
        refine ⟨.agg (vs.take ty.size).toArray, ?_, ?_⟩
        · simp only [if_true, Sem.run_bind, hty.run_size, Result.andThen_ok]
          have e : (vs.take ty.size).length = ty.size := by rw [List.length_take]; omega
          conv => lhs; rw [← e]
          rw [run_loadList _ (vs.take ty.size) (fun j v hv' => by
            rw [List.getElem?_take] at hv'
            split at hv'
            · exact rd j v hv'
            · cases hv')]
          rfl
        · simp only [rowCut, List.drop_zero]; exact .agg (hr.take _)
      · cases h
    | false =>
      rw [ha, cb_false, listAt_eq] at h
      obtain ⟨x, hx', hrx⟩ := hr.get 0 v h
      refine ⟨x, ?_, hrx⟩
      have := rd 0 x hx'
      have e0 : a.add 0 = a := by simp [Addr.add]
      rw [e0] at this
      simp [this]
  · exact aLoad0_sound hcx hw h hx
theorem bytes_run (f : Value → ByteArray → Sem (ForInStep ByteArray)) (hf : ∀ n s, f (.int .u8 n) s = pure (.yield (s.push (UInt8.ofNat n.toNat)))) (xs : List Value) :
    ∀ (cs : List AV) (l : List UInt8) (acc : ByteArray), bytesOf cs = some l → RelL μ cs xs → (forIn (m := Sem) xs acc f).run P w = .ok ⟨acc.data ++ l.toArray⟩ w := by
  induction xs with
  | nil =>
    intro cs l acc h hr
    cases hr
    simp only [bytesOf] at h; cases h
    simp
  | cons x xs ih =>
    intro cs l acc h hr
    cases hr with
    | cons a b =>
      rename_i v vs
      simp only [bytesOf] at h
      replace h := ob_eq h; obtain ⟨c, hc, h⟩ := h
      replace h := ob_eq h; obtain ⟨m, hm, h⟩ := h
      injection h with h; subst h
      unfold byteOf at hc
      split at hc
      · rename_i n
        cases rel_int a
        injection hc with hc; subst hc
        have := ih vs m (acc.push (UInt8.ofNat n.toNat)) hm b
        simp only [List.forIn_cons, hf, Sem.run_bind, Sem.run_pure, Result.andThen_ok]
        rw [this]
        congr 2
        simp [ByteArray.push]
      · cases hc
theorem isU8_eq {e : TypeId} (h : isU8 cx e = true) (hcx : CxOK P cx) : P.underlying e = some (.int .u8) ∧ ∃ et, cx.ty e = some et ∧ TyOK P e et := by
  unfold isU8 at h
  split at h
  · rename_i a b c d ht
    have hty := hcx.ty e _ ht
    obtain ⟨dd, hu, hk⟩ := hty.und
    cases dd <;> simp only [DescOK] at hk
    subst hk
    exact ⟨hu, _, ht, hty⟩
  · cases h
theorem sliceStr_sound (hcx : CxOK P cx) (hw : RelW (szOf cx) base w0 μ H w) {e : TypeId} {x v : AV} {X : Value} (h : sliceStr cx e x H = some v) (hx : RelV μ x X) {src dst : TypeId}
    (hs : P.underlying src = some (.slice e)) (hd : P.underlying dst = some .string) : ∃ z, (convert src dst X).run P w = .ok z w ∧ RelV μ v z := by
  unfold sliceStr at h
  replace h := ob_eq h; obtain ⟨a, ha, h⟩ := h
  rw [cb_eq] at h
  split at h
  · rename_i hu8
    obtain ⟨hu, _⟩ := isU8_eq hu8 hcx
    cases slice?_eq ha
    obtain ⟨p, len, cap⟩ := a
    have hc : ∀ (X : Value), (∀ k n, X ≠ .int k n) → (∀ s, X ≠ .string s) → (∀ k n, X ≠ .float k n) → (∀ k n m, X ≠ .complex k n m) → (convert src dst X).run P w = (Conv.bytesToString X).run P w := fun X h1 h2 h3 h4 => by
      simp only [convert, Sem.run_bind, run_underlying hs, run_underlying hd, Result.andThen_ok]
      cases X <;> first
        | (simp [run_underlying hu]; done)
        | exact absurd rfl (h1 _ _)
        | exact absurd rfl (h2 _)
        | exact absurd rfl (h3 _ _)
        | exact absurd rfl (h4 _ _ _)
    cases p with
    | none =>
      injection h with h; subst h
      cases hx
      refine ⟨.string ⟨#[]⟩, ?_, .str []⟩
      rw [hc _ (by intros; simp) (by intros; simp) (by intros; simp) (by intros; simp)]
      simp [Conv.bytesToString]; rfl
    | some p =>
      simp only at h
      replace h := ob_eq h; obtain ⟨cs, hcs, h⟩ := h
      replace h := ob_eq h; obtain ⟨l, hl, h⟩ := h
      injection h with h; subst h
      have fin : ∀ (i : BI) (a : Addr) (c : Nat), μ p.1 = some i → len ≤ c → (c ≠ 0 → a = ⟨i.blk, i.off + p.2, none⟩) → X = .slice (some a) len c →
          ∃ z, (convert src dst X).run P w = .ok z w ∧ RelV μ (.str l) z := by
        intro i a c hi hlc ha hX
        subst hX
        obtain ⟨xs, hr, hlen, hcell⟩ := cells_read hw hcs hi
        refine ⟨.string ⟨l.toArray⟩, ?_, .str l⟩
        rw [hc _ (by intros; simp) (by intros; simp) (by intros; simp) (by intros; simp)]
        have hload : (loadCells a len).run P w = .ok xs.toArray w := by
          rw [← hlen]
          refine run_loadList _ xs fun j v hv => ?_
          have hj : j < len := by rw [← hlen]; exact (List.getElem?_eq_some_iff.1 hv).1
          rw [ha (by omega), addr_add]
          exact hcell j v hv
        simp only [Conv.bytesToString, Sem.run_bind, hload, Result.andThen_ok]
        rw [← Array.forIn_toList]
        rw [bytes_run (P := P) (w := w) (μ := μ) _ (fun _ _ => rfl) xs cs l ByteArray.empty hl hr]
        simp only [Result.andThen_ok, Sem.run_pure]
        congr 3
        simp
      cases hx with
      | slice hi hlc ha' => exact fin _ _ _ hi hlc ha' rfl
      | sliceU hi hlc ha' _ => exact fin _ _ _ hi hlc ha' rfl
  · cases h
theorem stringish_run {a : Addr} {arr : Array Value} {e : TypeId} {fr : Nat × Nat} (h : w.heap[a.block]? = some (.cells arr e fr)) :
    (markStringish a).run P w = .ok () (w.freeze ⟨a.block, arr.size, none⟩ 1) := by
  simp [markStringish, World.shape?, h]
theorem freeze_heap {b n : Nat} {arr : Array Value} {e : TypeId} {fr : Nat × Nat} (h : w.heap[b]? = some (.cells arr e fr)) :
    (w.freeze ⟨b, arr.size, none⟩ 1).heap[b]? = some (.cells arr e (if fr.1 == fr.2 then (arr.size, arr.size + 1) else (min fr.1 arr.size, max fr.2 (arr.size + 1)))) ∧
    (∀ k, k ≠ b → (w.freeze ⟨b, arr.size, none⟩ 1).heap[k]? = w.heap[k]?) ∧ (w.freeze ⟨b, arr.size, none⟩ 1).heap.size = w.heap.size := by
  obtain ⟨lo, hi⟩ := fr
  refine ⟨?_, fun k hk => ?_, ?_⟩
  · simp [World.freeze, Array.getElem?_modify, h]
  · simp [World.freeze, Array.getElem?_modify]; intro e; exact absurd e.symm hk
  · simp [World.freeze]
theorem Heap.put_self (H : Heap) (b : Nat) (c : Nat) : (H.put b (H.get b)).get c = H.get c := by
  rw [Heap.get_put]; split
  · rename_i h; rw [h]
  · rfl
theorem RelW.heap_eq {H' : Heap} (hw : RelW (szOf cx) base w0 μ H w) (hn : H'.next = H.next) (hg : ∀ c, H'.get c = H.get c) : RelW (szOf cx) base w0 μ H' w :=
  ⟨hw.below, hw.baseLe, fun b i e => by rw [hn]; exact hw.fresh b i e, fun b i e => by rw [hg]; exact hw.blk b i e, fun b b' i i' e e' hne => by rw [hg, hg]; exact hw.apart b b' i i' e e' hne, hw.froz, fun b i k arr e => by rw [hg]; exact hw.frozApart b i k arr e, hw.lo⟩
theorem RelW.stringish (hw : RelW (szOf cx) base w0 μ H w) {b : Nat} {i : BI} (hb : μ b = some i) (ho : isOwn H (some (b, 0)) = true) :
    ∃ w', (∀ o, (markStringish ⟨i.blk, o, none⟩).run P w = .ok () w') ∧ RelW (szOf cx) base w0 μ H w' := by
  unfold isOwn at ho
  simp only at ho
  split at ho
  · rename_i own e len cs hg
    subst ho
    obtain ⟨hl, arr, e', fr, harr, hc, hown⟩ := hw.row hb hg
    obtain ⟨h1, h2, h3, h4, h5, h6⟩ := hown rfl
    obtain ⟨f1, f2, f3⟩ := freeze_heap (w := w) (n := 0) harr
    refine ⟨w.freeze ⟨i.blk, arr.size, none⟩ 1, fun o => stringish_run (a := ⟨i.blk, o, none⟩) harr, ?_⟩
    refine RelW.heap_eq (H := H.put b (H.get b)) (RelW.write hw hb (x := H.get b) (by rw [hg]; rfl) rfl rfl rfl f3 f2 (.inl (by rw [hg]; rfl)) ?_) rfl (fun c => (Heap.put_self H b c).symm)
    rw [hg]
    refine ⟨hl, arr, e', _, f1, hc, fun _ => ⟨h1, h2, h3, h4, h5, ?_⟩⟩
    rcases h6 with h6 | h6
    · rw [if_pos (by simpa using h6)]; exact .inr (Nat.le_refl _)
    · split
      · exact .inr (Nat.le_refl _)
      · exact .inr (by simp; omega)
  · cases ho
theorem convSlice_sound (hcx : CxOK P cx) (hw : RelW (szOf cx) base w0 μ H w) {s : ATy} {e : TypeId} {x v : AV} {X : Value} {src dst : TypeId} (h : convSlice cx (decide (src = dst)) s e x H = some v) (hx : RelV μ x X)
    (hs : cx.ty src = some s) (hd : P.underlying dst = some (.slice e)) : ∃ z w', (convert src dst X).run P w = .ok z w' ∧ RelV μ v z ∧ RelW (szOf cx) base w0 μ H w' := by
  unfold convSlice at h
  split at h
  · rename_i e' hsd
    replace h := ob_eq h; obtain ⟨a, ha, h⟩ := h
    rw [cb_eq] at h
    split at h
    · rename_i hc
      simp only [Bool.and_eq_true, decide_eq_true_eq, nble] at hc
      obtain ⟨⟨⟨hsame, hu8⟩, hown⟩, hlen⟩ := hc
      injection h with h; subst h
      cases slice?_eq ha
      obtain ⟨p, len, cap⟩ := a
      obtain ⟨hu, _⟩ := isU8_eq hu8 hcx
      cases p with
      | none => cases hown
      | some p =>
        have hown' : isOwn H (some (p.1, 0)) = true := by simpa [isOwn] using hown
        have fin : ∀ (i : BI) (a : Addr) (c : Nat), μ p.1 = some i → len ≤ c → (c ≠ 0 → a = ⟨i.blk, i.off + p.2, none⟩) → X = .slice (some a) len c →
            ∃ w', (convert src dst X).run P w = .ok X w' ∧ RelW (szOf cx) base w0 μ H w' := by
          intro i a c hi hlc ha' hX
          subst hX
          obtain ⟨w', hrun, hw'⟩ := RelW.stringish (P := P) hw hi hown'
          refine ⟨w', ?_, hw'⟩
          have hlen : 1 ≤ len := hlen
          have := ha' (by omega)
          subst this
          subst hsame
          simp only [convert, Sem.run_bind, run_underlying hd, Result.andThen_ok]
          simp [run_underlying hu, hrun]
        cases hx with
        | slice hi hlc ha' => obtain ⟨w', h1, h2⟩ := fin _ _ _ hi hlc ha' rfl; exact ⟨_, w', h1, .slice hi hlc ha', h2⟩
        | sliceU hi hlc ha' h4 => obtain ⟨w', h1, h2⟩ := fin _ _ _ hi hlc ha' rfl; exact ⟨_, w', h1, .sliceU hi hlc ha' h4, h2⟩
    · cases h
  · cases h
theorem aConv0_sound (hcx : CxOK P cx) (hw : RelW (szOf cx) base w0 μ H w) {src dst : TypeId} {x v : AV} {X : Value} (h : aConv0 cx src dst x H = some v) (hx : RelV μ x X) :
    ∃ z w', (convert src dst X).run P w = .ok z w' ∧ RelV μ v z ∧ RelW (szOf cx) base w0 μ H w' := by
  unfold aConv0 at h
  replace h := ob_eq h; obtain ⟨s, hs, h⟩ := h
  replace h := ob_eq h; obtain ⟨d, hd, h⟩ := h
  have hts := hcx.ty src s hs
  have htd := hcx.ty dst d hd
  obtain ⟨ds, hus, hks⟩ := hts.und
  obtain ⟨dd, hud, hkd⟩ := htd.und
  cases hdd : d.desc <;> rw [hdd] at h hkd <;> simp only at h <;> try (cases h; done)
  case int k =>
    simp only [convInt] at h
    replace h := ob_eq h; obtain ⟨a, ha, h⟩ := h
    injection h with h; subst h
    cases int?_eq ha; cases rel_int hx
    cases dd <;> simp only [DescOK] at hkd
    subst hkd
    refine ⟨_, w, ?_, by rw [wrapA_eq]; exact .int _ _, hw⟩
    simp only [convert, Sem.run_bind, run_underlying hus, run_underlying hud, Result.andThen_ok]
    cases ds <;> rfl
  case string =>
    cases dd <;> simp only [DescOK] at hkd
    unfold convStr at h
    split at h
    · rename_i hsd
      replace h := ob_eq h; obtain ⟨l, hl, h⟩ := h
      injection h with h; subst h
      cases str?_eq hl; cases rel_str hx
      refine ⟨_, w, ?_, .str l, hw⟩
      simp only [convert, Sem.run_bind, run_underlying hus, run_underlying hud, Result.andThen_ok]
      cases ds <;> rfl
    · rename_i e hsd
      rw [hsd] at hks
      cases ds <;> simp only [DescOK] at hks
      subst hks
      obtain ⟨z, h1, h2⟩ := sliceStr_sound hcx hw h hx hus hud
      exact ⟨z, w, h1, h2, hw⟩
    · cases h
  case slice e =>
    cases dd <;> simp only [DescOK] at hkd
    subst hkd
    exact convSlice_sound hcx hw h hx hs hud
theorem aConv_sound (hcx : CxOK P cx) (hw : RelW (szOf cx) base w0 μ H w) {src dst : TypeId} {x v : AV} {X : Value} (h : aConv cx src dst x H = some v) (hx : RelV μ x X) :
    ∃ z w', (convert src dst X).run P w = .ok z w' ∧ RelV μ v z ∧ RelW (szOf cx) base w0 μ H w' := by
  unfold aConv at h
  split at h
  · rename_i nl len cs
    unfold fStr at h
    replace h := ob_eq h; obtain ⟨s, hs, h⟩ := h
    replace h := ob_eq h; obtain ⟨d, hd, h⟩ := h
    have hts := hcx.ty src s hs
    have htd := hcx.ty dst d hd
    obtain ⟨ds, hus, hks⟩ := hts.und
    obtain ⟨dd, hud, hkd⟩ := htd.und
    cases hdd : d.desc <;> rw [hdd] at h hkd <;> simp only at h <;> try (cases h; done)
    cases hsd : s.desc <;> rw [hsd] at h hks <;> simp only at h <;> try (cases h; done)
    rename_i e
    rw [cb_eq] at h
    split at h
    · rename_i hc
      simp only [Bool.and_eq_true, nbeq, decide_eq_true_eq] at hc
      replace h := ob_eq h; obtain ⟨l, hl, h⟩ := h
      injection h with h; subst h
      cases dd <;> simp only [DescOK] at hkd
      cases ds <;> simp only [DescOK] at hks
      subst hks
      obtain ⟨hu, _⟩ := isU8_eq hc.1 hcx
      have hcv : ∀ (X : Value), (∀ k n, X ≠ .int k n) → (∀ s, X ≠ .string s) → (∀ k n, X ≠ .float k n) → (∀ k n m, X ≠ .complex k n m) → (convert src dst X).run P w = (Conv.bytesToString X).run P w := fun X h1 h2 h3 h4 => by
        simp only [convert, Sem.run_bind, run_underlying hus, run_underlying hud, Result.andThen_ok]
        cases X <;> first
          | (simp [run_underlying hu]; done)
          | exact absurd rfl (h1 _ _)
          | exact absurd rfl (h2 _)
          | exact absurd rfl (h3 _ _)
          | exact absurd rfl (h4 _ _ _)
      cases hx with
      | fslN =>
        simp only [bytesOf] at hl
        injection hl with hl; subst hl
        refine ⟨.string ⟨#[]⟩, w, ?_, .str [], hw⟩
        rw [hcv _ (by intros; simp) (by intros; simp) (by intros; simp) (by intros; simp)]
        simp [Conv.bytesToString]; rfl
      | fsl hz hr hv hlc =>
        rename_i cap a arr vs
        have hlen := hr.length
        refine ⟨.string ⟨l.toArray⟩, w, ?_, .str l, hw⟩
        rw [hcv _ (by intros; simp) (by intros; simp) (by intros; simp) (by intros; simp)]
        have hload : (loadCells a len).run P w = .ok vs.toArray w := by
          have e2 : len = vs.length := by rw [hlen]; exact hc.2.symm
          rw [e2]
          exact run_loadList _ vs (froz_read hw hz hr hv)
        simp only [Conv.bytesToString, Sem.run_bind, hload, Result.andThen_ok]
        rw [← Array.forIn_toList]
        rw [bytes_run (P := P) (w := w) (μ := μ) _ (fun _ _ => rfl) vs cs l ByteArray.empty hl hr]
        simp only [Result.andThen_ok, Sem.run_pure]
        congr 3
        simp
    · cases h
  · exact aConv0_sound hcx hw h hx
end
end Go.Ab
end
end

section
section
namespace Go.Ab
open Go.RowKit
section
variable {P : Program} {cx : Cx} (hcx : CxOK P cx) {μ : Inj} {base : Nat → Prop} {w0 w : World} {H : Heap} (hw : RelW (szOf cx) base w0 μ H w)
theorem boundInt_eq {i : Int} {most n : Nat} (h : boundInt i most = some n) : i = (n : Int) ∧ n ≤ most := by
  cases i with
  | negSucc _ => cases h
  | ofNat m =>
    simp only [boundInt, cb_eq, nble] at h
    split at h
    · rename_i hm
      injection h with h; subst h
      exact ⟨rfl, of_decide_eq_true hm⟩
    · cases h
theorem bound_run {X : Value} {v : AV} (hx : RelV μ v X) {a : IntKind × Int} (ha : v.int? = some a) {most n : Nat} (h : boundInt a.2 most = some n) {c : Nat} (hc : most ≤ c) (code : BoundsCode) :
    (Instr.sliceBound X c code).run P w = .ok n w := by
  cases int?_eq ha; cases rel_int hx
  obtain ⟨he, hle⟩ := boundInt_eq h
  have h1 : (0 : Int) ≤ a.2 ∧ a.2 ≤ (c : Int) := by omega
  simp only [Instr.sliceBound, asIntOf, pure_bind]
  rw [if_pos h1]
  simp [he]
theorem bounds_run {lo hi mx : Option AV} {LO HI MX : Option Value} {len cap c : Nat} {m h l : Nat}
    (rlo : (lo = none ∧ LO = none) ∨ ∃ u y, lo = some u ∧ LO = some y ∧ RelV μ u y) (rhi : (hi = none ∧ HI = none) ∨ ∃ u y, hi = some u ∧ HI = some y ∧ RelV μ u y) (rmx : (mx = none ∧ MX = none) ∨ ∃ u y, mx = some u ∧ MX = some y ∧ RelV μ u y)
    (hm : boundOf mx cap cap = some m) (hh : boundOf hi len m = some h) (hl : boundOf lo 0 h = some l) (hn : (mx.isSome && hi.isNone) = false) (hc : cap ≤ c) (hcap : mx = none → cap = c) (b : Bool) :
    (Instr.sliceBounds b len c LO HI MX).run P w = .ok (l, h, m) w ∧ (mx = none → m = c) ∧ (mx.isSome = true → m ≤ cap) ∧ (hi.isSome = true → h ≤ m) ∧ (hi = none → h = len) ∧ (lo.isSome = true → l ≤ h) ∧ (lo = none → l = 0) := by
  have step : ∀ {v : AV} {X : Value} {most n : Nat}, boundOf (some v) 0 most = some n → RelV μ v X → n ≤ most ∧ ∀ (c : Nat) code, most ≤ c → (Instr.sliceBound X c code).run P w = .ok n w := by
    intro v X most n hb hr
    simp only [boundOf] at hb
    replace hb := ob_eq hb; obtain ⟨a, ha, hb⟩ := hb
    exact ⟨(boundInt_eq hb).2, fun c code hc => bound_run hr ha hb hc code⟩
  have hm' : (mx = none ∧ MX = none ∧ m = c ∧ cap = c) ∨ (mx.isSome = true ∧ m ≤ cap ∧ ∃ y, MX = some y ∧ ∀ code, (Instr.sliceBound y c code).run P w = .ok m w) := by
    rcases rmx with ⟨rfl, rfl⟩ | ⟨u, y, rfl, rfl, r⟩
    · simp only [boundOf] at hm; injection hm with hm
      have := hcap rfl
      exact .inl ⟨rfl, rfl, by omega, this⟩
    · obtain ⟨h1, h2⟩ := step (most := cap) (n := m) hm r
      exact .inr ⟨rfl, h1, y, rfl, fun code => h2 c code hc⟩
  have hlo : (lo = none ∧ LO = none ∧ l = 0) ∨ (lo.isSome = true ∧ l ≤ h ∧ ∃ y, LO = some y ∧ ∀ code, (Instr.sliceBound y h code).run P w = .ok l w) := by
    rcases rlo with ⟨rfl, rfl⟩ | ⟨u, y, rfl, rfl, r⟩
    · simp only [boundOf] at hl; injection hl with hl
      exact .inl ⟨rfl, rfl, hl.symm⟩
    · obtain ⟨h1, h2⟩ := step (most := h) (n := l) hl r
      exact .inr ⟨rfl, h1, y, rfl, fun code => h2 h code (Nat.le_refl _)⟩
  have hhi : (hi = none ∧ HI = none ∧ h = len) ∨ (hi.isSome = true ∧ h ≤ m ∧ ∃ y, HI = some y ∧ ∀ code, (Instr.sliceBound y m code).run P w = .ok h w) := by
    rcases rhi with ⟨rfl, rfl⟩ | ⟨u, y, rfl, rfl, r⟩
    · simp only [boundOf] at hh; injection hh with hh
      exact .inl ⟨rfl, rfl, hh.symm⟩
    · obtain ⟨h1, h2⟩ := step (most := m) (n := h) hh r
      exact .inr ⟨rfl, h1, y, rfl, fun code => h2 m code (Nat.le_refl _)⟩
  clear rmx rlo rhi hm hl hh step
  rcases hm' with ⟨rfl, rfl, rfl, rfl⟩ | ⟨em, m1, y, rfl, m2⟩ <;> rcases hhi with ⟨rfl, rfl, rfl⟩ | ⟨eh, h1, y', rfl, h2⟩ <;> rcases hlo with ⟨rfl, rfl, rfl⟩ | ⟨el, l1, y'', rfl, l2⟩ <;>
    first
      | (simp [em] at hn; done)
      | (refine ⟨by simp [Instr.sliceBounds, *], ?_, ?_, ?_, ?_, ?_, ?_⟩ <;> intro e <;> first | rfl | assumption | (cases e; done) | (subst e; simp at em; done) | (subst e; simp at eh; done) | (subst e; simp at el; done))
theorem place_rel {b o c : Nat} {i : BI} {a : Addr} (hi : μ b = some i) (ha : c ≠ 0 → a = ⟨i.blk, i.off + o, none⟩) {m l h size : Nat} (hm : m ≤ c) (hl : l ≤ h) (hh : h ≤ m) :
    (m - l ≠ 0 → (if m = l then a else a.add (l * size)) = ⟨i.blk, i.off + (o + l * size), none⟩) := by
  intro hne
  rw [if_neg (by omega), ha (by omega), addr_add, Nat.add_assoc]
theorem sliceRow_rel {size : Nat} {p : Nat × Nat} {len cap : Nat} {lo hi mx : Option AV} {v : AV} (h : sliceRow size (some p) len cap lo hi mx = some v)
    {LO HI MX : Option Value} (rlo : (lo = none ∧ LO = none) ∨ ∃ u y, lo = some u ∧ LO = some y ∧ RelV μ u y) (rhi : (hi = none ∧ HI = none) ∨ ∃ u y, hi = some u ∧ HI = some y ∧ RelV μ u y) (rmx : (mx = none ∧ MX = none) ∨ ∃ u y, mx = some u ∧ MX = some y ∧ RelV μ u y)
    {i : BI} {a : Addr} {c : Nat} (hi' : μ p.1 = some i) (hlen : len ≤ cap) (hcap : cap ≤ c) (hce : mx = none → cap = c) (ha : c ≠ 0 → a = ⟨i.blk, i.off + p.2, none⟩) (b : Bool) :
    ∃ l h m, (Instr.sliceBounds b len c LO HI MX).run P w = .ok (l, h, m) w ∧ RelV μ v (.slice (some (if m = l then a else a.add (l * size))) (h - l) (m - l)) := by
  unfold sliceRow at h
  rw [cb_eq] at h
  split at h
  · cases h
  · rename_i hn
    replace h := ob_eq h; obtain ⟨m, hm, h⟩ := h
    replace h := ob_eq h; obtain ⟨hh, hhh, h⟩ := h
    replace h := ob_eq h; obtain ⟨l, hl, h⟩ := h
    injection h with h; subst h
    obtain ⟨hrun, m1, m2, h1, h2, l1, l2⟩ := bounds_run (P := P) (w := w) rlo rhi rmx hm hhh hl (by simpa only [Bool.not_eq_true] using hn) hcap hce b
    have hmc : m ≤ c := by
      cases mx with
      | none => exact Nat.le_of_eq (m1 rfl)
      | some _ => have := m2 rfl; omega
    have hhm : hh ≤ m := by
      cases hi with
      | some _ => exact h1 rfl
      | none =>
        have := h2 rfl
        cases mx with
        | none => have := m1 rfl; have := hce rfl; omega
        | some _ => simp at hn
    have hlh : l ≤ hh := by
      cases lo with
      | some _ => exact l1 rfl
      | none => have := l2 rfl; omega
    exact ⟨l, hh, m, hrun, .slice hi' (by omega) (place_rel hi' ha hmc hlh hhm)⟩
include hcx in
theorem aSlice0_sound {t : TypeId} {x v : AV} {lo hi mx : Option AV} {X : Value} {LO HI MX : Option Value} (h : aSlice0 cx t x lo hi mx = some v) (hx : RelV μ x X)
    (rlo : (lo = none ∧ LO = none) ∨ ∃ u y, lo = some u ∧ LO = some y ∧ RelV μ u y) (rhi : (hi = none ∧ HI = none) ∨ ∃ u y, hi = some u ∧ HI = some y ∧ RelV μ u y) (rmx : (mx = none ∧ MX = none) ∨ ∃ u y, mx = some u ∧ MX = some y ∧ RelV μ u y) :
    ∃ z, (Instr.sliceAt t X LO HI MX).run P w = .ok z w ∧ RelV μ v z := by
  unfold aSlice0 at h
  replace h := ob_eq h; obtain ⟨ty, ht, h⟩ := h
  have hty := hcx.ty t ty ht
  obtain ⟨d, hu, hk⟩ := hty.und
  cases hd : ty.desc <;> rw [hd] at h hk <;> simp only at h <;> try (cases h; done)
  case string =>
    replace h := ob_eq h; obtain ⟨s, hs, h⟩ := h
    cases str?_eq hs; cases rel_str hx
    cases d <;> simp only [DescOK] at hk
    unfold sliceStrAt at h
    rw [cb_eq] at h
    split at h
    · cases h
    · rename_i hm
      replace h := ob_eq h; obtain ⟨hh, hhh, h⟩ := h
      replace h := ob_eq h; obtain ⟨l, hl, h⟩ := h
      injection h with h; subst h
      have hmx : mx = none := by cases mx with | none => rfl | some _ => simp at hm
      subst hmx
      have hMX : MX = none := by rcases rmx with ⟨_, h⟩ | ⟨_, _, h, _⟩ <;> first | exact h | cases h
      subst hMX
      obtain ⟨hrun, _, _, h1, h2, l1, l2⟩ := bounds_run (P := P) (w := w) (len := s.length) (cap := s.length) (c := s.length) (m := s.length) rlo rhi (.inl ⟨rfl, rfl⟩ : (none = none ∧ (none : Option Value) = none) ∨ _) rfl hhh hl rfl (Nat.le_refl _) (fun _ => rfl) false
      have hsz : (ByteArray.mk s.toArray).size = s.length := by simp [ByteArray.size]
      refine ⟨.string ⟨((s.drop l).take (hh - l)).toArray⟩, ?_, .str _⟩
      simp only [Instr.sliceAt, Instr.slice, Sem.run_bind, run_underlying hu, Result.andThen_ok, Option.isSome_none, Bool.false_eq_true, if_false, pure_bind, hsz, hrun, Sem.run_pure]
      congr 2
      have hlh : l ≤ hh := by
        cases lo with
        | some _ => exact l1 rfl
        | none => have := l2 rfl; omega
      apply ByteArray.ext
      simp only [ByteArray.data_extract]
      rw [show hh = l + (hh - l) by omega]
      simp
  case slice e =>
    cases d <;> simp only [DescOK] at hk
    subst hk
    replace h := ob_eq h; obtain ⟨et, het, h⟩ := h
    replace h := ob_eq h; obtain ⟨s, hs, h⟩ := h
    have hety := hcx.ty e et het
    cases slice?_eq hs
    obtain ⟨p, len, cap⟩ := s
    simp only at h hx
    clear hs
    have fin : ∀ (a : Addr) (c l hh m : Nat), (Instr.sliceBounds true len c LO HI MX).run P w = .ok (l, hh, m) w →
        (Instr.sliceAt t (.slice (some a) len c) LO HI MX).run P w = .ok (.slice (some (if m = l then a else a.add (l * et.size))) (hh - l) (m - l)) w := by
      intro a c l hh m hrun
      simp only [Instr.sliceAt, Instr.slice, Sem.run_bind, run_underlying hu, Result.andThen_ok, hrun, hety.run_size, Sem.run_pure, Option.map_some]
      split <;> rfl
    unfold sliceSlice at h
    cases cap with
    | some cap =>
      simp only at h
      cases p with
      | none =>
        cases hx
        unfold sliceRow at h
        rw [cb_eq] at h
        split at h
        · cases h
        · rename_i hn
          replace h := ob_eq h; obtain ⟨m, hm, h⟩ := h
          replace h := ob_eq h; obtain ⟨hh, hhh, h⟩ := h
          replace h := ob_eq h; obtain ⟨l, hl, h⟩ := h
          injection h with h; subst h
          obtain ⟨hrun, m1, m2, h1, h2, l1, l2⟩ := bounds_run (P := P) (w := w) rlo rhi rmx hm hhh hl (by simpa only [Bool.not_eq_true] using hn) (Nat.le_refl 0) (fun _ => rfl) true
          have hm0 : m = 0 := by
            cases mx with
            | none => exact m1 rfl
            | some _ => have := m2 rfl; omega
          have hh0 : hh = 0 := by
            cases hi with
            | some _ => have := h1 rfl; omega
            | none => exact h2 rfl
          have hl0 : l = 0 := by
            cases lo with
            | some _ => have := l1 rfl; omega
            | none => exact l2 rfl
          subst hm0; subst hh0; subst hl0
          refine ⟨.slice none 0 0, ?_, .sliceN⟩
          simp only [Instr.sliceAt, Instr.slice, Sem.run_bind, run_underlying hu, Result.andThen_ok, hrun, hety.run_size, Sem.run_pure]
          rfl
      | some p =>
        cases hx with
        | slice hi' hlc ha =>
          obtain ⟨l, hh, m, hrun, hr⟩ := sliceRow_rel (P := P) (w := w) h rlo rhi rmx hi' hlc (Nat.le_refl _) (fun _ => rfl) ha true
          exact ⟨_, fin _ _ _ _ _ hrun, hr⟩
    | none =>
      simp only at h
      cases p with
      | none => cases h
      | some p =>
        simp only [cb_eq] at h
        cases hx with
        | sliceU hi' hlc ha ho =>
          rename_i b o c i a
          split at h
          · rename_i hm
            obtain ⟨l, hh, m, hrun, hr⟩ := sliceRow_rel (P := P) (w := w) h rlo rhi rmx hi' (Nat.le_refl _) hlc (fun e => by rw [e] at hm; cases hm) ha true
            exact ⟨_, fin _ _ _ _ _ hrun, hr⟩
          · rename_i hm
            have hmx : mx = none := by cases mx with | none => rfl | some _ => simp at hm
            subst hmx
            have hMX : MX = none := by rcases rmx with ⟨_, h⟩ | ⟨_, _, h, _⟩ <;> first | exact h | cases h
            subst hMX
            unfold sliceOpen at h
            replace h := ob_eq h; obtain ⟨hh, hhh, h⟩ := h
            replace h := ob_eq h; obtain ⟨l, hl, h⟩ := h
            injection h with h; subst h
            have hb : boundOf hi len c = some hh ∧ hh ≤ len := by
              cases hi with
              | none => simp only [boundOf] at hhh ⊢; injection hhh with hhh; exact ⟨by rw [hhh], by omega⟩
              | some u =>
                simp only [boundOf] at hhh ⊢
                replace hhh := ob_eq hhh; obtain ⟨q, hq, hhh⟩ := hhh
                obtain ⟨e1, e2⟩ := boundInt_eq hhh
                refine ⟨?_, e2⟩
                rw [hq, ob_some, e1]
                show cb (Nat.ble hh c) (some hh) none = _
                rw [cb_eq, nble, if_pos (decide_eq_true (by omega))]
            obtain ⟨hrun, m1, m2, h1, h2, l1, l2⟩ := bounds_run (P := P) (w := w) (cap := c) (c := c) (m := c) rlo rhi (.inl ⟨rfl, rfl⟩ : (none = none ∧ (none : Option Value) = none) ∨ _) rfl hb.1 hl rfl (Nat.le_refl _) (fun _ => rfl) true
            have hlh : l ≤ hh := by
              cases lo with
              | some _ => exact l1 rfl
              | none => have := l2 rfl; omega
            refine ⟨_, fin _ _ _ _ _ hrun, .sliceU hi' (by have := hb.2; simp; omega) (place_rel hi' ha (Nat.le_refl _) hlh (by have := hb.2; omega)) ?_⟩
            intro e
            have e1 : o = 0 := by simp at e; omega
            refine Nat.le_trans (Nat.mul_le_mul_right _ (Nat.sub_le c l)) (ho e1)
  case array n e =>
    cases d <;> simp only [DescOK] at hk
    obtain ⟨rfl, rfl⟩ := hk
    replace h := ob_eq h; obtain ⟨et, het, h⟩ := h
    replace h := ob_eq h; obtain ⟨p, hp, h⟩ := h
    have hety := hcx.ty e et het
    cases ptr?_eq hp
    rw [cb_eq] at h
    split at h
    · rename_i hs
      obtain ⟨p, rfl⟩ := Option.isSome_iff_exists.1 hs
      obtain ⟨i, hi', rfl⟩ := rel_ptr hx
      obtain ⟨l, hh, m, hrun, hr⟩ := sliceRow_rel (P := P) (w := w) (a := ⟨i.blk, i.off + p.2, none⟩) h rlo rhi rmx hi' (Nat.le_refl _) (Nat.le_refl _) (fun _ => rfl) (fun _ => rfl) false
      refine ⟨_, ?_, hr⟩
      simp only [Instr.sliceAt, Instr.sureAddr, Sem.run_bind, run_underlying hu, Result.andThen_ok, Sem.run_pure, hrun, hety.run_size]
    · cases h
theorem addr_add_off (a : Addr) (n : Nat) : (a.add n).block = a.block ∧ (a.add n).off = a.off + n ∧ (a.spot = none → (a.add n).spot = none) := by
  unfold Addr.add
  split
  · rename_i h; subst h; exact ⟨rfl, rfl, id⟩
  · exact ⟨rfl, rfl, fun _ => rfl⟩
theorem boundOf_wide {hi : Option AV} {d len c hh : Nat} (h : boundOf hi d len = some hh) (hd : d ≤ len) (hc : len ≤ c) : boundOf hi d c = some hh ∧ hh ≤ len := by
  cases hi with
  | none => simp only [boundOf] at h ⊢; injection h with h; exact ⟨by rw [h], by omega⟩
  | some u =>
    simp only [boundOf] at h ⊢
    replace h := ob_eq h; obtain ⟨q, hq, h⟩ := h
    obtain ⟨e1, e2⟩ := boundInt_eq h
    refine ⟨?_, e2⟩
    rw [hq, ob_some, e1]
    show cb (Nat.ble hh c) (some hh) none = _
    rw [cb_eq, nble, if_pos (decide_eq_true (by omega))]
include hcx in
theorem aSlice_sound {t : TypeId} {x v : AV} {lo hi mx : Option AV} {X : Value} {LO HI MX : Option Value} (h : aSlice cx t x lo hi mx = some v) (hx : RelV μ x X)
    (rlo : (lo = none ∧ LO = none) ∨ ∃ u y, lo = some u ∧ LO = some y ∧ RelV μ u y) (rhi : (hi = none ∧ HI = none) ∨ ∃ u y, hi = some u ∧ HI = some y ∧ RelV μ u y) (rmx : (mx = none ∧ MX = none) ∨ ∃ u y, mx = some u ∧ MX = some y ∧ RelV μ u y) :
    ∃ z, (Instr.sliceAt t X LO HI MX).run P w = .ok z w ∧ RelV μ v z := by
  unfold aSlice at h
  split at h
  · rename_i nl len cs
    unfold fSlice at h
    replace h := ob_eq h; obtain ⟨ty, ht, h⟩ := h
    have hty := hcx.ty t ty ht
    obtain ⟨d, hu, hk⟩ := hty.und
    split at h
    · rename_i e hd
      rw [hd] at hk
      cases d <;> simp only [DescOK] at hk
      subst hk
      replace h := ob_eq h; obtain ⟨et, het, h⟩ := h
      have hety := hcx.ty e et het
      unfold fCut at h
      rw [cb_eq] at h
      split at h
      · cases h
      · rename_i hm
        simp only [Bool.or_eq_true, not_or, Bool.not_eq_true, Bool.not_eq_false', nbeq, decide_eq_true_eq] at hm
        obtain ⟨hm, hcl⟩ := hm
        have hcl : cs.length = len * et.size := hcl
        have hmx : mx = none := by cases mx with | none => rfl | some _ => cases hm
        subst hmx
        have hMX : MX = none := by rcases rmx with ⟨_, h⟩ | ⟨_, _, h, _⟩ <;> first | exact h | cases h
        subst hMX
        replace h := ob_eq h; obtain ⟨hh, hhh, h⟩ := h
        replace h := ob_eq h; obtain ⟨l, hl, h⟩ := h
        injection h with h; subst h
        cases hx with
        | fslN =>
          obtain ⟨hrun, m1, m2, h1, h2, l1, l2⟩ := bounds_run (P := P) (w := w) (cap := 0) (c := 0) (m := 0) rlo rhi (.inl ⟨rfl, rfl⟩ : (none = none ∧ (none : Option Value) = none) ∨ _) rfl hhh hl rfl (Nat.le_refl 0) (fun _ => rfl) true
          have hh0 : hh = 0 := by
            cases hi with
            | some _ => have := h1 rfl; omega
            | none => exact h2 rfl
          have hl0 : l = 0 := by
            cases lo with
            | some _ => have := l1 rfl; omega
            | none => exact l2 rfl
          subst hh0; subst hl0
          refine ⟨.slice none 0 0, ?_, ?_⟩
          · simp only [Instr.sliceAt, Instr.slice, Sem.run_bind, run_underlying hu, Result.andThen_ok, hrun, hety.run_size, Sem.run_pure]
            rfl
          · simp only [rowCut, List.drop_nil, List.take_nil]; exact .fslN
        | fsl hz hr hv hlc =>
          rename_i c a arr vs
          obtain ⟨hb1, hb2⟩ := boundOf_wide hhh (Nat.le_refl _) hlc
          obtain ⟨hrun, m1, m2, h1, h2, l1, l2⟩ := bounds_run (P := P) (w := w) (cap := c) (c := c) (m := c) rlo rhi (.inl ⟨rfl, rfl⟩ : (none = none ∧ (none : Option Value) = none) ∨ _) rfl hb1 hl rfl (Nat.le_refl _) (fun _ => rfl) true
          have hlh : l ≤ hh := by
            cases lo with
            | some _ => exact l1 rfl
            | none => have := l2 rfl; omega
          refine ⟨.slice (some (if c = l then a else a.add (l * et.size))) (hh - l) (c - l), ?_, ?_⟩
          · simp only [Instr.sliceAt, Instr.slice, Sem.run_bind, run_underlying hu, Result.andThen_ok, hrun, hety.run_size, Sem.run_pure, Option.map_some]
            split <;> rfl
          · have hvl := hr.length
            refine RelV.fsl (arr := arr) (vs := (vs.drop (l * et.size)).take ((hh - l) * et.size)) (fun hne => ?_) ?_ (fun k x hx => ?_) (by omega)
            · have hcl : c ≠ l := by
                intro e
                apply hne
                have : hh - l = 0 := by omega
                rw [this]; simp [rowCut]
              have hcs : cs ≠ [] := by
                intro e; apply hne; rw [e]; simp [rowCut]
              rw [if_neg hcl]
              obtain ⟨z1, z2⟩ := hz hcs
              obtain ⟨q1, q2, q3⟩ := addr_add_off a (l * et.size)
              exact ⟨q3 z1, by rw [q1]; exact z2⟩
            · exact (hr.drop _).take _
            · have hlt := (List.getElem?_eq_some_iff.1 hx).1
              rw [List.length_take] at hlt
              rw [List.getElem?_take, if_pos (by omega), List.getElem?_drop] at hx
              have hcl : c ≠ l := by
                intro e
                have : hh - l = 0 := by omega
                rw [this] at hlt; simp at hlt
              rw [if_neg hcl]
              obtain ⟨q1, q2, q3⟩ := addr_add_off a (l * et.size)
              rw [q2, Nat.add_assoc]
              exact hv _ _ hx
    · cases h
  · exact aSlice0_sound hcx h hx rlo rhi rmx
theorem inRange_eq {i : Int} {n : Nat} (h : inRange i n = true) : 0 ≤ i ∧ i < (n : Int) := by
  cases i with
  | negSucc _ => cases h
  | ofNat m =>
    simp only [inRange, nble] at h
    have := of_decide_eq_true h
    constructor
    · exact Int.natCast_nonneg m
    · show ((m : Nat) : Int) < n; omega
include hcx in
theorem aIndexAddr0_sound {t : TypeId} {x y v : AV} {X Y : Value} (h : aIndexAddr0 cx t x y = some v) (hx : RelV μ x X) (hy : RelV μ y Y) : ∃ z, (Instr.indexAt t X Y).run P w = .ok z w ∧ RelV μ v z := by
  unfold aIndexAddr0 at h
  replace h := ob_eq h; obtain ⟨i, hi, h⟩ := h
  replace h := ob_eq h; obtain ⟨ty, ht, h⟩ := h
  cases int?_eq hi; cases rel_int hy
  have hty := hcx.ty t ty ht
  obtain ⟨d, hu, hk⟩ := hty.und
  cases hd : ty.desc <;> rw [hd] at h hk <;> simp only at h <;> try (cases h; done)
  case slice e =>
    cases d <;> simp only [DescOK] at hk
    subst hk
    replace h := ob_eq h; obtain ⟨s, hs, h⟩ := h
    cases slice?_eq hs
    obtain ⟨p, len, cap⟩ := s
    simp only at h hx
    clear hs
    unfold addrAt at h
    rw [cb_eq] at h
    split at h
    · rename_i hr
      obtain ⟨r1, r2⟩ := inRange_eq hr
      replace h := ob_eq h; obtain ⟨et, het, h⟩ := h
      replace h := ob_eq h; obtain ⟨p, hp, h⟩ := h
      injection h with h; subst h
      subst hp
      have hety := hcx.ty e et het
      have fin : ∀ (q : BI) (a : Addr) (c : Nat), μ p.1 = some q → len ≤ c → (c ≠ 0 → a = ⟨q.blk, q.off + p.2, none⟩) →
          ∃ z, (Instr.indexAt t (.slice (some a) len c) (.int i.1 i.2)).run P w = .ok z w ∧ RelV μ (.ptr (some (place p (i.2.toNat * et.size)))) z := by
        intro q a c hq hlc ha
        have := ha (by omega)
        subst this
        refine ⟨.pointer (some ⟨q.blk, q.off + (p.2 + i.2.toNat * et.size), none⟩), ?_, .ptr hq⟩
        have hc : 0 ≤ i.2 ∧ i.2 < (len : Int) := ⟨r1, r2⟩
        simp only [Instr.indexAt, asIntOf, pure_bind, Sem.run_bind, run_underlying hu, Result.andThen_ok, Sem.run_pure]
        rw [if_pos hc]
        simp only [Sem.run_bind, hety.run_size, Result.andThen_ok, Sem.run_pure, addr_add, Nat.add_assoc]
      cases hx with
      | slice hq hlc ha => exact fin _ _ _ hq hlc ha
      | sliceU hq hlc ha _ => exact fin _ _ _ hq hlc ha
    · cases h
  case array n e =>
    cases d <;> simp only [DescOK] at hk
    obtain ⟨rfl, rfl⟩ := hk
    replace h := ob_eq h; obtain ⟨p, hp, h⟩ := h
    cases ptr?_eq hp
    unfold addrAt at h
    rw [cb_eq] at h
    split at h
    · rename_i hr
      obtain ⟨r1, r2⟩ := inRange_eq hr
      replace h := ob_eq h; obtain ⟨et, het, h⟩ := h
      replace h := ob_eq h; obtain ⟨p, hp, h⟩ := h
      injection h with h; subst h
      subst hp
      have hety := hcx.ty e et het
      obtain ⟨q, hq, rfl⟩ := rel_ptr hx
      refine ⟨.pointer (some ⟨q.blk, q.off + (p.2 + i.2.toNat * et.size), none⟩), ?_, .ptr hq⟩
      have hc : 0 ≤ i.2 ∧ i.2 < (n : Int) := ⟨r1, r2⟩
      simp only [Instr.indexAt, asIntOf, pure_bind, Sem.run_bind, run_underlying hu, Result.andThen_ok, Sem.run_pure, Instr.sureAddr]
      rw [if_pos hc]
      simp only [Sem.run_bind, hety.run_size, Result.andThen_ok, Sem.run_pure, addr_add, Nat.add_assoc]
    · cases h
include hcx in
theorem aIndexAddr_sound {t : TypeId} {x y v : AV} {X Y : Value} (h : aIndexAddr cx t x y = some v) (hx : RelV μ x X) (hy : RelV μ y Y) : ∃ z, (Instr.indexAt t X Y).run P w = .ok z w ∧ RelV μ v z := by
  unfold aIndexAddr at h
  split at h
  · rename_i nl len cs
    unfold fIndex at h
    replace h := ob_eq h; obtain ⟨i, hi, h⟩ := h
    replace h := ob_eq h; obtain ⟨ty, ht, h⟩ := h
    cases int?_eq hi; cases rel_int hy
    have hty := hcx.ty t ty ht
    obtain ⟨d, hu, hk⟩ := hty.und
    split at h
    · rename_i e hd
      rw [hd] at hk
      cases d <;> simp only [DescOK] at hk
      subst hk
      replace h := ob_eq h; obtain ⟨et, het, h⟩ := h
      have hety := hcx.ty e et het
      rw [cb_eq] at h
      split at h
      · rename_i hc
        simp only [Bool.and_eq_true, nbeq, decide_eq_true_eq] at hc
        obtain ⟨hin, hcl⟩ := hc
        obtain ⟨r1, r2⟩ := inRange_eq hin
        injection h with h; subst h
        cases hx with
        | fslN => omega
        | fsl hz hr hv hlc =>
          rename_i c a arr vs
          refine ⟨.pointer (some (a.add (i.2.toNat * et.size))), ?_, ?_⟩
          · have hc : 0 ≤ i.2 ∧ i.2 < (len : Int) := ⟨r1, r2⟩
            simp only [Instr.indexAt, asIntOf, pure_bind, Sem.run_bind, run_underlying hu, Result.andThen_ok, Sem.run_pure]
            rw [if_pos hc]
            simp only [Sem.run_bind, hety.run_size, Result.andThen_ok, Sem.run_pure]
          · obtain ⟨q1, q2, q3⟩ := addr_add_off a (i.2.toNat * et.size)
            refine RelV.fptr (arr := arr) (vs := vs.drop (i.2.toNat * et.size)) (fun hne => ?_) (hr.drop _) (fun k x hx => ?_)
            · have hcs : cs ≠ [] := by
                intro e; apply hne; rw [e]; simp
              obtain ⟨z1, z2⟩ := hz hcs
              exact ⟨q3 z1, by rw [q1]; exact z2⟩
            · rw [List.getElem?_drop] at hx
              rw [q2, Nat.add_assoc]
              exact hv _ _ hx
      · cases h
    · cases h
  · exact aIndexAddr0_sound hcx h hx hy
include hcx in
theorem aIndex_sound {t : TypeId} {x y v : AV} {X Y : Value} (h : aIndex cx t x y = some v) (hx : RelV μ x X) (hy : RelV μ y Y) : ∃ z, (Instr.index t X Y).run P w = .ok z w ∧ RelV μ v z := by
  unfold aIndex at h
  replace h := ob_eq h; obtain ⟨i, hi, h⟩ := h
  replace h := ob_eq h; obtain ⟨ty, ht, h⟩ := h
  cases int?_eq hi; cases rel_int hy
  have hty := hcx.ty t ty ht
  obtain ⟨d, hu, hk⟩ := hty.und
  cases hd : ty.desc <;> rw [hd] at h hk <;> simp only at h <;> try (cases h; done)
  case array n e =>
    cases d <;> simp only [DescOK] at hk
    obtain ⟨rfl, rfl⟩ := hk
    replace h := ob_eq h; obtain ⟨cs, hcs, h⟩ := h
    cases agg?_eq hcs
    obtain ⟨xs, rfl, hr⟩ := rel_agg hx
    rw [cb_eq] at h
    split at h
    · rename_i hin
      have hc := inRange_eq hin
      replace h := ob_eq h; obtain ⟨et, het, h⟩ := h
      have hety := hcx.ty e et het
      obtain ⟨z, hz, hv⟩ := aPart_sound hcx w h hr
      refine ⟨z, ?_, hv⟩
      simp only [Instr.index, asIntOf, pure_bind, Sem.run_bind, run_underlying hu, Result.andThen_ok]
      rw [if_pos hc]
      simp only [Sem.run_bind, hety.run_size, Result.andThen_ok, hz]
    · cases h
  case string =>
    cases d <;> simp only [DescOK] at hk
    replace h := ob_eq h; obtain ⟨s, hs, h⟩ := h
    cases str?_eq hs; cases rel_str hx
    unfold strAt at h
    rw [cb_eq] at h
    split at h
    · rename_i hle
      rw [ileB_eq] at hle
      have hle := of_decide_eq_true hle
      replace h := ob_eq h; obtain ⟨b, hb, h⟩ := h
      injection h with h; subst h
      rw [listAt_eq] at hb
      refine ⟨_, ?_, .int _ _⟩
      simp only [Instr.index, asIntOf, pure_bind, Sem.run_bind, run_underlying hu, Result.andThen_ok]
      rw [if_pos hle]
      have : (ByteArray.mk s.toArray)[i.2.toNat]? = some b := by
        obtain ⟨hlt, hb⟩ := List.getElem?_eq_some_iff.1 hb
        have h2 : i.2.toNat < (ByteArray.mk s.toArray).size := by simpa [ByteArray.size] using hlt
        rw [getElem?_pos (ByteArray.mk s.toArray) i.2.toNat h2]
        show some (s.toArray[i.2.toNat]) = some b
        simp [hb]
      rw [this]
      rfl
    · cases h
theorem fieldsOf_eq (hcx : CxOK P cx) {t : TypeId} {fs : List (Nat × TypeId)} (h : fieldsOf cx t = some fs) : ∃ gs, P.underlying t = some (.struct gs) ∧ fs = gs.toList.map (fun f => (f.offset, f.type)) ∧ ∃ ty, cx.ty t = some ty ∧ ty.desc = .struct fs := by
  unfold fieldsOf at h
  split at h
  · rename_i ht
    injection h with h; subst h
    obtain ⟨d, hu, hk⟩ := (hcx.ty t _ ht).und
    cases d <;> simp only [DescOK] at hk
    exact ⟨_, hu, hk.1, _, ht, rfl⟩
  · cases h
theorem field_at {gs : Array Field} {f : Nat} {g : Nat × TypeId} (h : listAt (gs.toList.map fun f => (f.offset, f.type)) f = some g) : ∃ fd, gs[f]? = some fd ∧ g = (fd.offset, fd.type) := by
  rw [listAt_eq, List.getElem?_map] at h
  cases hx : gs.toList[f]? with
  | none => rw [hx] at h; cases h
  | some fd => rw [hx] at h; simp at h; exact ⟨fd, by simpa using hx, h.symm⟩
include hcx in
theorem aFieldAddr0_sound {t : TypeId} {x v : AV} {f : Nat} {X : Value} (h : aFieldAddr0 cx t x f = some v) (hx : RelV μ x X) : ∃ z, (Instr.fieldAt t X f).run P w = .ok z w ∧ RelV μ v z := by
  unfold aFieldAddr0 at h
  replace h := ob_eq h; obtain ⟨fs, hfs, h⟩ := h
  replace h := ob_eq h; obtain ⟨g, hg, h⟩ := h
  replace h := ob_eq h; obtain ⟨ft, hft, h⟩ := h
  replace h := ob_eq h; obtain ⟨p, hp, h⟩ := h
  replace h := ob_eq h; obtain ⟨a, ha, h⟩ := h
  subst ha
  split at h
  · cases h
  · rename_i hs
    injection h with h; subst h
    obtain ⟨gs, hu, rfl, _⟩ := fieldsOf_eq hcx hfs
    obtain ⟨fd, hfd, rfl⟩ := field_at hg
    cases ptr?_eq hp
    obtain ⟨i, hi, rfl⟩ := rel_ptr hx
    have hft' := hcx.ty _ ft hft
    refine ⟨.pointer (some ⟨i.blk, i.off + (a.2 + fd.offset), none⟩), ?_, .ptr hi⟩
    simp only [Instr.fieldAt, Sem.run_bind, run_underlying hu, Result.andThen_ok, hfd, Instr.sureAddr, pure_bind, fieldPlace, hft'.run_size, hs, if_false, Sem.run_pure, addr_add, Nat.add_assoc]
include hcx in
theorem aFieldAddr_sound {t : TypeId} {x v : AV} {f : Nat} {X : Value} (h : aFieldAddr cx t x f = some v) (hx : RelV μ x X) : ∃ z, (Instr.fieldAt t X f).run P w = .ok z w ∧ RelV μ v z := by
  unfold aFieldAddr at h
  split at h
  · rename_i cs
    unfold fField at h
    replace h := ob_eq h; obtain ⟨fs, hfs, h⟩ := h
    replace h := ob_eq h; obtain ⟨g, hg, h⟩ := h
    replace h := ob_eq h; obtain ⟨ft, hft, h⟩ := h
    rw [cb_eq] at h
    split at h
    · rename_i hc
      simp only [Bool.and_eq_true, nble, decide_eq_true_eq] at hc
      injection h with h; subst h
      obtain ⟨gs, hu, rfl, _⟩ := fieldsOf_eq hcx hfs
      obtain ⟨fd, hfd, rfl⟩ := field_at hg
      have hft' := hcx.ty _ ft hft
      have hs : ¬ ft.size = 0 := by have := hc.1; omega
      cases hx with
      | fptr hz hr hv =>
        rename_i a arr vs
        refine ⟨.pointer (some (a.add fd.offset)), ?_, ?_⟩
        · simp only [Instr.fieldAt, Sem.run_bind, run_underlying hu, Result.andThen_ok, hfd, Instr.sureAddr, pure_bind, fieldPlace, hft'.run_size, hs, if_false, Sem.run_pure]
        · obtain ⟨q1, q2, q3⟩ := addr_add_off a fd.offset
          refine RelV.fptr (arr := arr) (vs := vs.drop fd.offset) (fun hne => ?_) (hr.drop _) (fun k x hx => ?_)
          · have hcs : cs ≠ [] := by
              intro e; apply hne; rw [e]; simp
            obtain ⟨z1, z2⟩ := hz hcs
            exact ⟨q3 z1, by rw [q1]; exact z2⟩
          · rw [List.getElem?_drop] at hx
            rw [q2, Nat.add_assoc]
            exact hv _ _ hx
    · cases h
  · exact aFieldAddr0_sound hcx h hx
include hcx in
theorem aField_sound {t : TypeId} {x v : AV} {f : Nat} {X : Value} (h : aField cx t x f = some v) (hx : RelV μ x X) : ∃ z, (Instr.field t X f).run P w = .ok z w ∧ RelV μ v z := by
  unfold aField at h
  replace h := ob_eq h; obtain ⟨fs, hfs, h⟩ := h
  replace h := ob_eq h; obtain ⟨g, hg, h⟩ := h
  replace h := ob_eq h; obtain ⟨cs, hcs, h⟩ := h
  obtain ⟨gs, hu, rfl, _⟩ := fieldsOf_eq hcx hfs
  obtain ⟨fd, hfd, rfl⟩ := field_at hg
  cases agg?_eq hcs
  obtain ⟨xs, rfl, hr⟩ := rel_agg hx
  obtain ⟨z, hz, hv⟩ := aPart_sound hcx w h hr
  refine ⟨z, ?_, hv⟩
  simp only [Instr.field, Sem.run_bind, run_underlying hu, Result.andThen_ok, hfd, asAgg, pure_bind, hz]
end
end Go.Ab
end
end

section
section
namespace Go.Ab
open Go.RowKit Go.MapKept
theorem over_get (vs : List AV) : ∀ (cs : List AV) (k : Nat), (rowSet.over vs cs)[k]? = if k < vs.length ∧ k < cs.length then vs[k]? else cs[k]? := by
  induction vs with
  | nil => intro cs k; simp [rowSet.over]
  | cons v vs ih =>
    intro cs k
    cases cs with
    | nil => simp [rowSet.over]
    | cons c cs =>
      cases k with
      | zero => simp [rowSet.over]
      | succ k => simp [rowSet.over, ih]
theorem rowSet_get (vs : List AV) : ∀ (cs : List AV) (off k : Nat), (rowSet cs off vs)[k]? = if off ≤ k ∧ k < off + vs.length ∧ k < cs.length then vs[k - off]? else cs[k]? := by
  intro cs
  induction cs with
  | nil =>
    intro off k
    cases off with
    | zero => simp [rowSet, over_get]
    | succ off => simp [rowSet]
  | cons c cs ih =>
    intro off k
    cases off with
    | zero => simp only [rowSet, over_get]; simp
    | succ off =>
      cases k with
      | zero => simp [rowSet]
      | succ k =>
        simp only [rowSet, List.getElem?_cons_succ, ih]
        by_cases h : off ≤ k ∧ k < off + vs.length ∧ k < cs.length
        · rw [if_pos h, if_pos (by simp; omega)]; congr 1; omega
        · rw [if_neg h, if_neg (by simp; omega)]
theorem over_len (vs : List AV) : ∀ (cs : List AV), (rowSet.over vs cs).length = cs.length := by
  induction vs with
  | nil => intro cs; cases cs <;> rfl
  | cons v vs ih => intro cs; cases cs with
    | nil => rfl
    | cons c cs => simp [rowSet.over, ih]
theorem rowSet_len (vs : List AV) : ∀ (cs : List AV) (off : Nat), (rowSet cs off vs).length = cs.length := by
  intro cs
  induction cs with
  | nil => intro off; cases off <;> simp [rowSet, over_len]
  | cons c cs ih => intro off; cases off with
    | zero => simp [rowSet, over_len]
    | succ off => simp [rowSet, ih]
section
variable {μ : Inj}
theorem rel_fold {cs vs : List AV} {xs : List Value} {v : Value} {off : Nat} (hc : RelL μ cs xs) (hv : RelL μ vs v.cells.toList) :
    ∃ ys, v.cells.zipIdx.foldl (fun cs (c, j) => cs.setIfInBounds (off + j) c) xs.toArray = ys.toArray ∧ RelL μ (rowSet cs off vs) ys ∧ ys.length = xs.length := by
  obtain ⟨h1, h2⟩ := Great.foldl_set off v.cells.toList 0 xs.toArray
  refine ⟨(v.cells.zipIdx.foldl (fun cs (x : Value × Nat) => cs.setIfInBounds (off + x.2) x.1) xs.toArray).toList, by simp, ?_, ?_⟩
  · rw [← Array.foldl_toList, Array.toList_zipIdx]
    refine RelL.of_get (by rw [rowSet_len, Array.length_toList, h1]; simpa using hc.length) fun k a x ha hx => ?_
    rw [rowSet_get] at ha
    have hx' : ((v.cells.toList.zipIdx 0).foldl (fun cs (x : Value × Nat) => cs.setIfInBounds (off + x.2) x.1) xs.toArray)[k]? = some x := by simpa using hx
    rw [h2] at hx'
    have hl := hv.length
    have hl2 := hc.length
    by_cases hk : off ≤ k ∧ k < off + vs.length ∧ k < cs.length
    · rw [if_pos hk] at ha
      rw [if_pos (by simp at hl ⊢; omega)] at hx'
      obtain ⟨y, hy, r⟩ := hv.get _ _ ha
      simp at hx' hy
      rw [hy] at hx'
      cases hx'; exact r
    · rw [if_neg hk] at ha
      rw [if_neg (by simp at hl ⊢; omega)] at hx'
      obtain ⟨y, hy, r⟩ := hc.get _ _ ha
      simp at hx'
      rw [hy] at hx'
      cases hx'; exact r
  · rw [← Array.foldl_toList, Array.toList_zipIdx, Array.length_toList, h1]; simp
theorem fill_sound {pl : Nat → Option (Nat × Nat)} {PL : Nat → Option (Nat × Nat)} (hpl : ∀ i r, pl i = some r → PL i = some r) : ∀ {ps : List (Nat × AV)} {qs : List (Nat × Value)} {cs out : List AV} {xs : List Value}, fillParts pl cs ps = some out → RelP μ ps qs → RelL μ cs xs →
    ∃ ys, Instr.fill PL xs.toArray qs = some ys.toArray ∧ RelL μ out ys := by
  intro ps
  induction ps with
  | nil => intro qs cs out xs h hp hr; cases hp; simp only [fillParts] at h; cases h; exact ⟨xs, rfl, hr⟩
  | cons p ps ih =>
    intro qs cs out xs h hp hr
    obtain ⟨i, v⟩ := p
    cases hp with
    | cons a hna b =>
      rename_i x m
      simp only [fillParts] at h
      split at h
      · cases h
      · rename_i off size hpi
        split at h
        · rename_i hsz
          have hva := a.cells hna
          have hl := hva.length
          have hl2 := hr.length
          obtain ⟨ys, hy, hry, hyl⟩ := rel_fold (off := off) hr hva
          obtain ⟨zs, hz, hrz⟩ := ih h b hry
          refine ⟨zs, ?_, hrz⟩
          simp only [Instr.fill, hpl _ _ hpi]
          rw [if_neg (by simp at hl ⊢; omega)]
          rw [← hz, ← hy]
        · cases h
variable {P : Program} {cx : Cx} (hcx : CxOK P cx) {base : Nat → Prop} {w0 w : World} {H : Heap} (hw : RelW (szOf cx) base w0 μ H w)
theorem mapM_sizes (gs : List Field) (h : ∀ f ∈ gs, ∃ i, P.info? f.type = some i) :
    (gs.mapM fun f => (do pure (f.offset, ← sizeOf f.type) : Sem (Nat × Nat))).run P w = .ok (gs.map fun f => (f.offset, P.cellsOf f.type)) w := by
  induction gs with
  | nil => simp
  | cons f gs ih =>
    obtain ⟨i, hi⟩ := h f (by simp)
    have h1 : (sizeOf f.type).run P w = .ok (P.cellsOf f.type) w := run_sizeOf w hi
    have h2 := ih fun g hg => h g (by simp [hg])
    simp [List.mapM_cons, h1] at h2 ⊢
    simp [h2]
include hcx in
theorem aBuild_sound {t : TypeId} {ps : List (Nat × AV)} {qs : List (Nat × Value)} {v : AV} (h : aBuild cx t ps = some v) (hp : RelP μ ps qs) :
    ∃ z, (Instr.build t qs.toArray).run P w = .ok z w ∧ RelV μ v z := by
  unfold aBuild at h
  split at h
  · rename_i ty ht
    have hty := hcx.ty t ty ht
    obtain ⟨z0, hz0, rz0⟩ := hty.run_zero w μ
    obtain ⟨d, hu, hk⟩ := hty.und
    have hz1 : z0.cells = (z0.cells.toList).toArray := by simp
    split at h
    · rename_i fs hd
      rw [hd] at hk
      cases d <;> simp only [DescOK] at hk
      rename_i gs
      obtain ⟨rfl, _⟩ := hk
      replace h := ob_eq h; obtain ⟨cs, hcs, h⟩ := h
      injection h with h; subst h
      have hm := mapM_sizes (P := P) (w := w) gs.toList (hty.flds gs hu)
      have hm' : (gs.mapM fun f => (do pure (f.offset, ← sizeOf f.type) : Sem (Nat × Nat))).run P w = .ok (gs.map fun f => (f.offset, P.cellsOf f.type)) w := by
        rw [← Array.toArray_toList (xs := gs), List.mapM_toArray]
        simp only [Sem.run_map, hm, Result.andThen_ok]
        rw [← Array.toList_map, Array.toArray_toList, Array.toArray_toList]
      obtain ⟨ys, hy, hr⟩ := fill_sound (PL := ((gs.map fun f => (f.offset, P.cellsOf f.type))[·]?)) (fun i r hi => by
        replace hi := ob_eq hi; obtain ⟨f, hf, hi⟩ := hi
        replace hi := ob_eq hi; obtain ⟨ft, hft, hi⟩ := hi
        injection hi with hi; subst hi
        obtain ⟨fd, hfd, rfl⟩ := field_at hf
        obtain ⟨inf, z, hi1, hi2, _⟩ := (hcx.ty _ ft hft).info
        simp [hfd, Program.cellsOf, hi1, hi2]) hcs hp (rz0.cells hty.nz)
      refine ⟨.agg ys.toArray, ?_, .agg hr⟩
      simp only [Instr.build, Sem.run_bind, hz0, Result.andThen_ok, run_underlying hu, hm']
      rw [hz1]
      simp only [hy]
      simp
    · rename_i n e hd
      rw [hd] at hk
      cases d <;> simp only [DescOK] at hk
      obtain ⟨rfl, rfl⟩ := hk
      split at h
      · rename_i et het
        replace h := ob_eq h; obtain ⟨cs, hcs, h⟩ := h
        injection h with h; subst h
        obtain ⟨ys, hy, hr⟩ := fill_sound (PL := fun i => some (i * et.size, et.size)) (fun i r hi => hi) hcs hp (rz0.cells hty.nz)
        refine ⟨.agg ys.toArray, ?_, .agg hr⟩
        simp only [Instr.build, Sem.run_bind, hz0, Result.andThen_ok, run_underlying hu, (hcx.ty e et het).run_size]
        rw [hz1]
        simp only [hy]
        simp
      · cases h
    · cases h
  · cases h
theorem isKey1_sound {kt : TypeId} {k : AV} {K : Value} (h : isKey1 cx kt k = true) (hcx : CxOK P cx) (hk : RelV μ k K) : ∃ d, P.underlying kt = some d ∧ IsKey d K ∧
    (∀ x X b, cellKey k x = some b → RelV μ x X → Instr.sameNow d K X = some b ∧ (b = true → X = K)) := by
  unfold isKey1 at h
  split at h
  · cases h
  · rename_i ty ht
    obtain ⟨d, hu, hd⟩ := (hcx.ty kt ty ht).und
    refine ⟨d, hu, ?_⟩
    split at h <;> rename_i hdd <;> try (cases h; done)
    · unfold isIntK at h
      split at h <;> try (cases h; done)
      rename_i ak an
      cases rel_int hk
      have h := of_decide_eq_true h
      rw [hdd] at hd
      cases d <;> simp only [DescOK] at hd
      refine ⟨by simp [IsKey]; first | exact h.trans hd | exact (h.trans hd).symm, fun x X b hs hx => ?_⟩
      obtain ⟨a, ha⟩ : ∃ a : IntKind × Int, a = (ak, an) := ⟨_, rfl⟩
      have e1 : ak = a.1 := by rw [ha]
      have e2 : an = a.2 := by rw [ha]
      subst e1; subst e2; clear ha
      simp only [cellKey, eqInt] at hs
      replace hs := ob_eq hs; obtain ⟨p, hp, hs⟩ := hs
      replace hs := ob_eq hs; obtain ⟨q, hq, hs⟩ := hs
      obtain rfl : p = a := by
        have := int?_eq hp
        injection this with h1 h2
        exact Prod.ext h1.symm h2.symm
      cases int?_eq hq; cases rel_int hx
      split at hs
      · rename_i hkk
        injection hs with hs; subst hs
        refine ⟨by simp only [Instr.sameNow]; rw [if_pos hkk, ieqB_eq], fun e => ?_⟩
        rw [ieqB_eq] at e
        rw [hkk, eq_of_beq e]
      · cases hs
    · obtain ⟨a, ha⟩ := Option.isSome_iff_exists.1 h
      cases str?_eq ha; cases rel_str hk
      rw [hdd] at hd
      cases d <;> simp only [DescOK] at hd
      refine ⟨by trivial, fun x X b hs hx => ?_⟩
      simp only [cellKey] at hs
      replace hs := ob_eq hs; obtain ⟨q, hq, hs⟩ := hs
      cases str?_eq hq; cases rel_str hx
      injection hs with hs; subst hs
      have e2 : ((ByteArray.mk a.toArray) == (ByteArray.mk q.toArray)) = bytesEq a q := by
        rw [bytesEq_eq, beq_toListBytes, toList_mk, toList_mk]
      refine ⟨by simp only [Instr.sameNow]; rw [e2], fun e => ?_⟩
      rw [bytesEq_eq] at e
      rw [eq_of_beq e]
    · obtain ⟨a, ha⟩ := Option.isSome_iff_exists.1 h
      cases bool?_eq ha; cases rel_bool hk
      rw [hdd] at hd
      cases d <;> simp only [DescOK] at hd
      refine ⟨by trivial, fun x X b hs hx => ?_⟩
      simp only [cellKey] at hs
      replace hs := ob_eq hs; obtain ⟨q, hq, hs⟩ := hs
      cases bool?_eq hq; cases rel_bool hx
      injection hs with hs; subst hs
      exact ⟨rfl, fun e => by rw [eq_of_beq e]⟩
inductive Finds (R : Value → Bool → Prop) : List MapEntry → Nat → Option (Nat × Value) → Prop where
  | nil (i : Nat) : Finds R [] i none
  | yes {e : MapEntry} {es : List MapEntry} {i : Nat} : R e.key true → Finds R (e :: es) i (some (i, e.val))
  | no {e : MapEntry} {es : List MapEntry} {i : Nat} {r : Option (Nat × Value)} : R e.key false → Finds R es (i + 1) r → Finds R (e :: es) i r
theorem Finds.now {d : TypeDesc} {K : Value} {fs : List MapEntry} {i : Nat} {r : Option (Nat × Value)} (h : Finds (fun X b => Instr.sameNow d K X = some b) fs i r) : Instr.findNow d K fs i = some r := by
  induction h with
  | nil i => rfl
  | yes h => simp [Instr.findNow, h]
  | no h _ ih => simp [Instr.findNow, h, ih]
theorem Finds.asking {P : Program} {w : World} {kt : TypeId} {K : Value} {fs : List MapEntry} {i : Nat} {r : Option (Nat × Value)} (h : Finds (fun X b => (Op.equal kt K X).run P w = .ok b w) fs i r) : (Instr.findAsking kt K fs i).run P w = .ok r w := by
  induction h with
  | nil i => simp [Instr.findAsking]
  | yes h => simp [Instr.findAsking, h]
  | no h _ ih => simp [Instr.findAsking, h, ih]
structure KeyOK (P : Program) (w : World) (μ : Inj) (cx : Cx) (kt : TypeId) (k : AV) (K : Value) (R : Value → Bool → Prop) : Prop where
  same : ∀ x X b, sameKey cx kt k x = some b → RelV μ x X → R X b ∧ (b = true → X = K)
  find : ∀ fs r, Finds R fs 0 r → (Instr.findKey kt K fs).run P w = .ok r w
  check : ∀ b, (Instr.checkKey b 10000 kt K).run P w = .ok () w
  stays : (Instr.keyThatStays K K).run P w = .ok K w
theorem isCell1_rel {v : AV} {X Y : Value} (h : isCell1 v = true) (hx : RelV μ v X) (hy : RelV μ v Y) : X = Y := by
  cases v <;> simp only [isCell1] at h <;> first | (cases h; done) | skip
  · cases rel_int hx; cases rel_int hy; rfl
  · cases rel_bool hx; cases rel_bool hy; rfl
  · cases rel_str hx; cases rel_str hy; rfl
theorem isCell1_bits {v : AV} {X : Value} (h : isCell1 v = true) (hx : RelV μ v X) (n : Nat) : Instr.sameBits n X X = true := by
  cases v <;> simp only [isCell1] at h <;> first | (cases h; done) | skip
  · cases rel_int hx; cases n <;> simp [Instr.sameBits]
  · cases rel_bool hx; cases n <;> simp [Instr.sameBits]
  · cases rel_str hx; cases n <;> simp [Instr.sameBits, bytes_beq]
theorem cellsKey_true : ∀ {xs ys : List AV}, cellsKey xs ys = some true → xs.all isCell1 = true → ys = xs
  | [], [], _, _ => rfl
  | [], _ :: _, h, _ => by simp [cellsKey] at h
  | _ :: _, [], h, _ => by simp [cellsKey] at h
  | a :: as, b :: bs, h, hc => by
    simp only [cellsKey] at h
    replace h := ob_eq h; obtain ⟨c, h1, h⟩ := h
    replace h := ob_eq h; obtain ⟨d, h2, h⟩ := h
    injection h with h
    rw [Bool.and_eq_true] at h
    obtain ⟨rfl, rfl⟩ := h
    simp only [List.all_cons, Bool.and_eq_true] at hc
    have e1 := cellsKey_true h2 hc.2
    subst e1
    have e2 : b = a := by
      cases a with
      | int k n =>
        simp only [cellKey, eqInt] at h1
        replace h1 := ob_eq h1; obtain ⟨p, hp, h1⟩ := h1
        replace h1 := ob_eq h1; obtain ⟨q, hq, h1⟩ := h1
        have e := int?_eq hp
        injection e with e1 e2
        have e' := int?_eq hq
        subst e'
        split at h1
        · rename_i hk
          injection h1 with h1
          rw [ieqB_eq] at h1
          rw [e1, e2, hk, eq_of_beq h1]
        · cases h1
      | bool x =>
        simp only [cellKey] at h1
        replace h1 := ob_eq h1; obtain ⟨q, hq, h1⟩ := h1
        cases bool?_eq hq
        injection h1 with h1
        rw [eq_of_beq h1]
      | str x =>
        simp only [cellKey] at h1
        replace h1 := ob_eq h1; obtain ⟨q, hq, h1⟩ := h1
        cases str?_eq hq
        injection h1 with h1
        rw [bytesEq_eq] at h1
        rw [eq_of_beq h1]
      | _ => exact absurd hc.1 (by simp [isCell1])
    rw [e2]
theorem cells_same : ∀ {cs : List AV} {xs ys : List Value}, cs.all isCell1 = true → RelL μ cs xs → RelL μ cs ys → xs = ys
  | [], _, _, _, hx, hy => by cases hx; cases hy; rfl
  | c :: cs, _, _, h, hx, hy => by
    simp only [List.all_cons, Bool.and_eq_true] at h
    cases hx with
    | cons a b => cases hy with
      | cons a' b' => rw [isCell1_rel h.1 a a', cells_same h.2 b b']
theorem cells_bits : ∀ {cs : List AV} {xs : List Value} (n : Nat), cs.all isCell1 = true → RelL μ cs xs → ∀ x ∈ xs, Instr.sameBits n x x = true
  | [], _, n, _, hx => by cases hx; intro x h; cases h
  | c :: cs, _, n, h, hx => by
    simp only [List.all_cons, Bool.and_eq_true] at h
    cases hx with
    | cons a b =>
      intro x hx'
      rcases List.mem_cons.1 hx' with rfl | hx'
      · exact isCell1_bits h.1 a n
      · exact cells_bits n h.2 b x hx'
theorem keyPart_sound {cs : List AV} {xs : List Value} {t : TypeId} {off : Nat} (h : keyPart cx cs t off = true) (hcx : CxOK P cx) (w : World) (hr : RelL μ cs xs) (b : Bool) (n : Nat) :
    ∃ X, (part t xs.toArray off).run P w = .ok X w ∧ (Instr.checkKey b (n + 1) t X).run P w = .ok () w := by
  unfold keyPart at h
  split at h
  · rename_i v hv
    obtain ⟨X, hX, rX⟩ := aPart_sound hcx w hv hr
    obtain ⟨d, hd, hik, _⟩ := isKey1_sound h hcx rX
    exact ⟨X, hX, run_checkKey hd hik b n⟩
  · cases h
theorem keyAgg_check {kt : TypeId} {cs : List AV} {xs : List Value} (h : isKeyAgg cx kt cs = true) (hcx : CxOK P cx) (w : World) (hr : RelL μ cs xs) (b : Bool) (n : Nat) :
    cs.all isCell1 = true ∧ (∃ d, P.underlying kt = some d ∧ ∀ X Y, Instr.sameNow d (.agg X) Y = none) ∧ (Instr.checkKey b (n + 2) kt (.agg xs.toArray)).run P w = .ok () w := by
  unfold isKeyAgg at h
  split at h
  · cases h
  · rename_i ty ht
    obtain ⟨d, hu, hd⟩ := (hcx.ty kt ty ht).und
    split at h
    · rename_i fs hfs
      rw [hfs] at hd
      cases d <;> simp only [DescOK] at hd
      rename_i gs
      obtain ⟨rfl, hname⟩ := hd
      rw [Bool.and_eq_true] at h
      refine ⟨h.1, ⟨_, hu, fun X Y => rfl⟩, ?_⟩
      rw [Instr.checkKey.eq_2]
      simp only [Sem.run_bind, run_underlying hu, Result.andThen_ok]
      obtain ⟨h1, h⟩ := h
      rw [← Array.forIn_toList]
      generalize gs.toList = l at h hname
      induction l with
      | nil => simp
      | cons f l ih =>
        simp only [List.map_cons, keyFields, Bool.and_eq_true] at h
        obtain ⟨X, hX, hC⟩ := keyPart_sound h.1 hcx w hr b n
        have hn : f.name ≠ "_" := hname f (by simp)
        simp only [List.forIn_cons, Sem.run_bind, hn, ne_eq, not_false_eq_true, if_true, hX, hC, Result.andThen_ok, Sem.run_pure]
        exact ih h.2 (fun f hf => hname f (by simp [hf]))
    · rename_i m e hfs
      rw [hfs] at hd
      cases d <;> simp only [DescOK] at hd
      obtain ⟨rfl, rfl⟩ := hd
      split at h
      · rename_i et het
        rw [Bool.and_eq_true] at h
        refine ⟨h.1, ⟨_, hu, fun X Y => rfl⟩, ?_⟩
        rw [Instr.checkKey.eq_2]
        simp only [Sem.run_bind, run_underlying hu, Result.andThen_ok]
        obtain ⟨h1, h⟩ := h
        rw [Std.Legacy.Range.forIn_eq_forIn_range']
        have hsz := (hcx.ty e et het).run_size w
        simp only [Std.Legacy.Range.size, Nat.sub_zero, Nat.add_sub_cancel, Nat.div_one]
        clear hu hfs
        generalize 0 = k at h
        induction m generalizing k with
        | zero => simp
        | succ m ih =>
          simp only [keyElems, Bool.and_eq_true] at h
          obtain ⟨X, hX, hC⟩ := keyPart_sound h.1 hcx w hr b n
          simp only [List.range'_succ, List.forIn_cons, Sem.run_bind, hsz, hX, hC, Result.andThen_ok, Sem.run_pure]
          exact ih (k + 1) h.2
      · cases h
    · cases h
theorem isKeyT_sound {kt : TypeId} {k : AV} {K : Value} (h : isKeyT cx kt k = true) (hcx : CxOK P cx) (w : World) (hk : RelV μ k K) : ∃ R, KeyOK P w μ cx kt k K R := by
  have sc : (∀ cs, k ≠ .agg cs) → isKey1 cx kt k = true → ∃ R, KeyOK P w μ cx kt k K R := by
    intro hna h
    obtain ⟨d, hd, hik, hs⟩ := isKey1_sound h hcx hk
    refine ⟨fun X b => Instr.sameNow d K X = some b, fun x X b hb hx => ?_, fun fs r hf => run_findKey hd hf.now, fun b => run_checkKey hd hik b 9999, run_keyThatStays hik⟩
    refine hs x X b ?_ hx
    unfold sameKey at hb
    split at hb
    · exact absurd rfl (hna _)
    · exact hb
  unfold isKeyT at h
  split at h
  · rename_i cs
    obtain ⟨XS, rfl, hX⟩ := rel_agg hk
    obtain ⟨hc, ⟨d, hd, hnone⟩, hcheck⟩ := keyAgg_check (b := true) (n := 0) h hcx w hX
    refine ⟨fun X b => (Op.equal kt (.agg XS.toArray) X).run P w = .ok b w, fun x X b hb hx => ?_, fun fs r hf => ?_, fun b => (keyAgg_check (b := b) (n := 9998) h hcx w hX).2.2, ?_⟩
    · simp only [sameKey, aggKey] at hb
      replace hb := ob_eq hb; obtain ⟨b', hb', hb⟩ := hb
      replace hb := ob_eq hb; obtain ⟨xs, hxs, hb⟩ := hb
      replace hb := ob_eq hb; obtain ⟨ys, hys, hb⟩ := hb
      replace hb := ob_eq hb; obtain ⟨c, hcc, hb⟩ := hb
      cases agg?_eq hxs
      cases agg?_eq hys
      rw [cb_eq] at hb
      split at hb
      · rename_i hbc
        injection hb with hb; subst hb
        have he := aEq_sound hcx w 100 hb' hk hx 10000 (by omega)
        refine ⟨by simpa [Op.equal, Op.maxDepth] using he, fun hbt => ?_⟩
        have hbc := eq_of_beq hbc
        rw [hbt] at hbc
        subst hbc
        have := cellsKey_true hcc hc
        subst this
        obtain ⟨YS, rfl, hY⟩ := rel_agg hx
        rw [cells_same hc hY hX]
      · cases hb
    · cases fs with
      | nil =>
        cases hf
        simp [Instr.findKey, run_underlying hd, Instr.findNow]
      | cons e es =>
        simp [Instr.findKey, run_underlying hd, Instr.findNow, hnone, hf.asking]
    · have hs : Instr.sameBits 10000 (.agg XS.toArray) (.agg XS.toArray) = true := by
        show Instr.sameBits (9999 + 1) _ _ = true
        simp only [Instr.sameBits, beq_self_eq_true, Bool.true_and, List.all_eq_true]
        intro p hp
        obtain ⟨i, hi, e⟩ := List.getElem_of_mem hp
        rw [List.getElem_zip] at e
        rw [← e]
        exact cells_bits 9999 hc hX _ (List.getElem_mem _)
      simp [Instr.keyThatStays, hs]
  · rename_i k hk'
    exact sc (fun cs e => by subst e; exact hk' cs rfl) h
theorem findKey_sound {kt : TypeId} {k : AV} {K : Value} {R : Value → Bool → Prop} (hs : ∀ x X b, sameKey cx kt k x = some b → RelV μ x X → R X b ∧ (b = true → X = K)) :
    ∀ {es : List (AV × AV)} {fs : List MapEntry} {f : Option AV} (i : Nat), findKey cx kt k es = some f → RelE μ es fs →
      (f = none ∧ Finds R fs i none) ∨ ∃ v j e, f = some v ∧ Finds R fs i (some (i + j, e.val)) ∧ fs[j]? = some e ∧ e.key = K ∧ RelV μ v e.val := by
  intro es
  induction es with
  | nil => intro fs f i h hr; cases hr; simp only [findKey] at h; cases h; exact .inl ⟨rfl, .nil i⟩
  | cons p es ih =>
    intro fs f i h hr
    cases hr with
    | cons a b c =>
      rename_i kk vv e fs
      simp only [findKey] at h
      replace h := ob_eq h; obtain ⟨b', hb, h⟩ := h
      obtain ⟨h1, h2⟩ := hs _ _ _ hb a
      cases b' with
      | true =>
        simp only [if_true] at h
        injection h with h; subst h
        exact .inr ⟨vv, 0, e, rfl, .yes h1, rfl, h2 rfl, b⟩
      | false =>
        simp only [Bool.false_eq_true, if_false] at h
        rcases ih (i + 1) h c with ⟨h3, h4⟩ | ⟨v, j, e', h3, h4, h5, h6, h7⟩
        · exact .inl ⟨h3, .no h1 h4⟩
        · exact .inr ⟨v, j + 1, e', h3, .no h1 (by rw [show i + (j + 1) = i + 1 + j by omega]; exact h4), by simpa using h5, h6, h7⟩
theorem mapT_sound (hcx : CxOK P cx) {t : TypeId} {m : TypeId × TypeId} (h : mapT cx t = some m) : P.underlying t = some (.map m.1 m.2) := by
  unfold mapT at h
  split at h
  · rename_i ht
    injection h with h; subst h
    obtain ⟨d, hu, hd⟩ := (hcx.ty t _ ht).und
    cases d <;> simp only [DescOK] at hd
    obtain ⟨rfl, rfl⟩ := hd
    exact hu
  · cases h
include hw in
theorem entries_sound {r : Nat} {es : List (AV × AV)} (h : entriesOf H r = some es) {i : BI} (hr : μ r = some i) : H.get r = .entries es ∧ ¬ base i.blk ∧ ∃ (fs : Array MapEntry) (clock : Nat), w.heap[i.blk]? = some (.map fs clock) ∧ RelE μ es fs.toList := by
  unfold entriesOf at h
  split at h
  · rename_i es' hg
    injection h with h; subst h
    have := hw.blk r i hr
    rw [hg] at this
    exact ⟨hg, this⟩
  · cases h
include hcx hw in
theorem aLookup_sound {t : TypeId} {x k v : AV} {X K : Value} {ok : Bool} (h : aLookup cx t x k ok H = some v) (hx : RelV μ x X) (hk : RelV μ k K) : ∃ z, (Instr.lookup t X K ok).run P w = .ok z w ∧ RelV μ v z := by
  unfold aLookup at h
  replace h := ob_eq h; obtain ⟨m, hm, h⟩ := h
  rw [cb_eq] at h
  split at h
  · rename_i hkt
    replace h := ob_eq h; obtain ⟨r, hr, h⟩ := h
    replace h := ob_eq h; obtain ⟨es, hes, h⟩ := h
    replace h := ob_eq h; obtain ⟨f, hf, h⟩ := h
    replace h := ob_eq h; obtain ⟨et, het, h⟩ := h
    injection h with h
    have hu := mapT_sound hcx hm
    obtain ⟨R, KO⟩ := isKeyT_sound hkt hcx w hk
    obtain ⟨z0, hz0, rz0⟩ := (hcx.ty _ et het).run_zero w μ
    cases map?_eq hr
    have fin : ∀ (fs : Array MapEntry), RelE μ es fs.toList → ∃ z, (do
        Instr.checkKey fs.isEmpty 10000 m.1 K
        let (v, ok') ← match ← Instr.findKey m.1 K fs.toList with
          | some (_, v) => pure (v, true)
          | none => pure (← zeroValue m.2, false)
        pure (if ok then .tuple #[v, .bool ok'] else v) : Sem Value).run P w = .ok z w ∧ RelV μ v z := by
      intro fs hrel
      have hc := KO.check fs.isEmpty
      rcases findKey_sound KO.same 0 hf hrel with ⟨hfn, hnow⟩ | ⟨u, j, e, hfn, hnow, _, _, hru⟩
      · have hfk := KO.find _ _ hnow
        subst hfn
        refine ⟨if ok then .tuple #[z0, .bool false] else z0, ?_, ?_⟩
        · simp [hc, hfk, hz0]
        · rw [← h]
          cases ok
          · exact rz0
          · exact .tuple (xs := [z0, .bool false]) (.cons rz0 (.cons (.bool _) .nil))
      · have hfk := KO.find _ _ hnow
        subst hfn
        refine ⟨if ok then .tuple #[e.val, .bool true] else e.val, ?_, ?_⟩
        · simp [hc, hfk]
        · rw [← h]
          cases ok
          · exact hru
          · exact .tuple (xs := [e.val, .bool true]) (.cons hru (.cons (.bool _) .nil))
    cases r with
    | none =>
      simp only [entriesAt] at hes
      injection hes with hes; subst hes
      cases hx
      obtain ⟨z, hz, hv⟩ := fin #[] .nil
      refine ⟨z, ?_, hv⟩
      simp only [Instr.lookup, Sem.run_bind, run_underlying hu, Result.andThen_ok, Sem.run_pure] at hz ⊢
      exact hz
    | some r =>
      cases hx with
      | map hi =>
        obtain ⟨_, _, fs, clock, hb, hrel⟩ := entries_sound hw hes hi
        obtain ⟨z, hz, hv⟩ := fin fs hrel
        refine ⟨z, ?_, hv⟩
        simp only [Instr.lookup, Sem.run_bind, run_underlying hu, Result.andThen_ok, Sem.run_pure, MapKept.run_getObj_map hb] at hz ⊢
        exact hz
  · cases h
end
end Go.Ab
end
end

section
section
namespace Go.Ab
open Go.RowKit Go.MapKept
section
variable {P : Program} {cx : Cx} (hcx : CxOK P cx) {μ : Inj} {base : Nat → Prop} {w0 w : World} {H : Heap} (hw : RelW (szOf cx) base w0 μ H w) {g : Env} {a : Act} (hf : RelF μ g a.tmps)
include hcx hw in
theorem aLen0_sound {t : TypeId} {x v : AV} {X : Value} (h : aLen0 cx t x H = some v) (hx : RelV μ x X) (ty' : TypeId) : ∃ z, (Builtin.len_ #[t] ty' #[X]).run P w = .ok z w ∧ RelV μ v z := by
  unfold aLen0 at h
  replace h := ob_eq h; obtain ⟨ty, ht, h⟩ := h
  obtain ⟨d, hu, hk⟩ := (hcx.ty t ty ht).und
  cases hd : ty.desc <;> rw [hd] at h hk <;> simp only at h <;> try (cases h; done)
  case string =>
    replace h := ob_eq h; obtain ⟨s, hs, h⟩ := h
    injection h with h; subst h
    cases str?_eq hs; cases rel_str hx
    cases d <;> simp only [DescOK] at hk
    have hsz : (ByteArray.mk s.toArray).size = s.length := by simp [ByteArray.size]
    exact ⟨.int .i64 s.length, by simp [Builtin.len_, run_underlying hu, goInt, hsz], .int _ _⟩
  case array n e =>
    injection h with h; subst h
    cases d <;> simp only [DescOK] at hk
    obtain ⟨rfl, rfl⟩ := hk
    exact ⟨.int .i64 n, by simp [Builtin.len_, run_underlying hu, goInt], .int _ _⟩
  case slice e =>
    replace h := ob_eq h; obtain ⟨s, hs, h⟩ := h
    injection h with h; subst h
    cases slice?_eq hs
    cases d <;> simp only [DescOK] at hk
    obtain ⟨p, len, cap⟩ := s
    simp only at hx
    cases hx <;> exact ⟨.int .i64 _, by simp [Builtin.len_, run_underlying hu, goInt], .int _ _⟩
  case map k e =>
    replace h := ob_eq h; obtain ⟨r, hr, h⟩ := h
    cases map?_eq hr
    cases d <;> simp only [DescOK] at hk
    unfold lenMap at h
    split at h
    · injection h with h; subst h
      cases hx
      exact ⟨.int .i64 0, by simp [Builtin.len_, run_underlying hu, goInt], .int _ _⟩
    · rename_i r'
      split at h
      · rename_i es hg
        injection h with h; subst h
        cases hx with
        | map hi =>
          have := hw.blk _ _ hi
          rw [hg] at this
          obtain ⟨_, fs, clock, hb, hrel⟩ := this
          have hlen : fs.size = es.length := by
            rw [← Array.length_toList]
            clear hb hg hw
            generalize fs.toList = l at hrel
            induction hrel with
            | nil => rfl
            | cons _ _ _ ih => simp [ih]
          refine ⟨.int .i64 es.length, ?_, .int _ _⟩
          simp [Builtin.len_, run_underlying hu, goInt, MapKept.run_getObj_map hb, hlen]
      · cases h
include hcx hw in
theorem aLen_sound {t : TypeId} {x v : AV} {X : Value} (h : aLen cx t x H = some v) (hx : RelV μ x X) (ty' : TypeId) : ∃ z, (Builtin.len_ #[t] ty' #[X]).run P w = .ok z w ∧ RelV μ v z := by
  unfold aLen at h
  split at h
  · rename_i nl len cs
    rw [cb_eq] at h
    split at h
    · rename_i hs
      injection h with h; subst h
      unfold isSliceD at hs
      split at hs
      · rename_i ty ht
        obtain ⟨d, hu, hk⟩ := (hcx.ty t ty ht).und
        split at hs
        · rename_i e hd
          rw [hd] at hk
          cases d <;> simp only [DescOK] at hk
          cases hx <;> exact ⟨.int .i64 _, by simp [Builtin.len_, run_underlying hu, goInt], .int _ _⟩
        · cases hs
      · cases hs
    · cases h
  · exact aLen0_sound hcx hw h hx ty'
theorem two_sound {f : IntKind → Int → Int → AV} {l : List AV} {xs : List Value} {v : AV} (h : two f l = some v) (hr : RelL μ l xs) : ∃ k a b, xs = [.int k a, .int k b] ∧ v = f k a b := by
  unfold two at h
  split at h
  · replace h := ob_eq h; obtain ⟨p, hp, h⟩ := h
    replace h := ob_eq h; obtain ⟨q, hq, h⟩ := h
    split at h
    · rename_i hk
      injection h with h
      cases int?_eq hp; cases int?_eq hq
      cases hr with
      | cons r1 r2 => cases r2 with
        | cons r3 r4 => cases r4; cases rel_int r1; cases rel_int r3; exact ⟨p.1, p.2, q.2, by rw [hk], h.symm⟩
    · cases h
  · cases h
include hcx hw in
theorem qBuiltin_sound {b : Builtin} {ts : List TypeId} {l : List AV} {xs : List Value} {v : AV} (h : qBuiltin cx b ts l H = some v) (hr : RelL μ l xs) (ty' : TypeId) (cs : Array Bool) :
    ∃ z, (builtin b ts.toArray ty' cs xs.toArray).run P w = .ok (.value z) w ∧ RelV μ v z := by
  cases b <;> simp only [qBuiltin] at h <;> try (cases h; done)
  case len =>
    unfold qLen at h
    split at h
    · split at h
      · cases hr with
        | cons r1 r2 =>
          cases r2
          obtain ⟨z, hz, hv⟩ := aLen_sound hcx hw h r1 ty'
          exact ⟨z, by simp [builtin, hz], hv⟩
      · cases h
    · cases h
  case cap =>
    unfold qCap at h
    split at h
    · split at h
      · rename_i _ t _ x
        cases hr with
        | cons r1 r2 =>
          cases r2
          replace h := ob_eq h; obtain ⟨e, he, h⟩ := h
          have hu : P.underlying t = some (.slice e) := by
            unfold isSliceT at he
            split at he
            · rename_i hd
              injection he with he; subst he
              obtain ⟨d, hud, hdd⟩ := (hcx.ty t _ hd).und
              cases d <;> simp only [DescOK] at hdd
              rw [hud, hdd]
            · cases he
          unfold aCap at h
          split at h
          · rename_i p l c
            replace h := ob_eq h; obtain ⟨c', hc, h⟩ := h
            subst hc
            injection h with h; subst h
            cases r1 with
            | slice q1 q2 q3 => exact ⟨goInt c', by simp [builtin, Builtin.cap_, run_underlying hu], .int _ _⟩
            | sliceN => exact ⟨goInt 0, by simp [builtin, Builtin.cap_, run_underlying hu], .int _ _⟩
          · cases h
      · cases h
    · cases h
  case max =>
    obtain ⟨k, a, b, rfl, rfl⟩ := two_sound h hr
    exact ⟨.int k (if b > a then b else a), by simp [builtin, Builtin.max_, Builtin.max2], .int _ _⟩
  case min =>
    obtain ⟨k, a, b, rfl, rfl⟩ := two_sound h hr
    exact ⟨.int k (if b < a then b else a), by simp [builtin, Builtin.min_, Builtin.min2], .int _ _⟩
include hcx hw hf in
theorem aQuiet_sound {o : Oper} {v : AV} (h : aQuiet cx o.op g H = some v) :
    ∃ x w', (execOp a.eval o).run P w = .ok (.value x) w' ∧ RelV μ v x ∧ RelW (szOf cx) base w0 μ H w' := by
  obtain ⟨dst, op, ty', pos, after, guard⟩ := o
  simp only at h
  have lift : ∀ {s : Sem Value}, (∃ z, s.run P w = .ok z w ∧ RelV μ v z) → ∃ x w', (do pure (Next.value (← s)) : Sem Next).run P w = .ok (.value x) w' ∧ RelV μ v x ∧ RelW (szOf cx) base w0 μ H w' := by
    rintro s ⟨z, hz, hv⟩
    exact ⟨z, w, by simp [hz], hv, hw⟩
  cases op <;> simp only [aQuiet] at h <;> try (cases h; done)
  case move x => exact ⟨_, w, rfl, ev_sound hf h, hw⟩
  case assign x => exact ⟨_, w, rfl, ev_sound hf h, hw⟩
  case pick c x y =>
    replace h := ob_eq h; obtain ⟨u, hu, h⟩ := h
    simp only [ev2] at h
    replace h := ob_eq h; obtain ⟨p, hp, h⟩ := h
    replace h := ob_eq h; obtain ⟨q, hq, h⟩ := h
    simp only [pick] at h
    replace h := ob_eq h; obtain ⟨b, hb, h⟩ := h
    injection h with h; subst h
    have r1 := ev_sound hf hu
    cases bool?_eq hb
    have e1 := rel_bool r1
    have rp := ev_sound hf hp
    have rq := ev_sound hf hq
    refine ⟨if b then a.eval x else a.eval y, w, ?_, ?_, hw⟩
    · simp [execOp, e1, asBool]
    · cases b
      · exact rq
      · exact rp
  case build t ps =>
    replace h := ob_eq h; obtain ⟨u, hu, h⟩ := h
    have hp := evParts_sound hf hu
    have := aBuild_sound hcx (w := w) h hp
    refine lift (s := Instr.build t (ps.map fun (i, x) => (i, a.eval x))) ?_
    have e : (ps.map fun (i, x) => (i, a.eval x)) = (ps.toList.map fun p => (p.1, a.eval p.2)).toArray := by
      rw [← Array.toList_map, Array.toArray_toList]
    rw [e]; exact this
  case load t x =>
    replace h := ob_eq h; obtain ⟨u, hu, h⟩ := h
    exact lift (aLoad_sound hcx hw h (ev_sound hf hu))
  case nilCheck x =>
    replace h := ob_eq h; obtain ⟨u, hu, h⟩ := h
    have r := ev_sound hf hu
    unfold aNil at h
    split at h
    · injection h with h; subst h
      have r' := r
      cases hv : a.eval x <;> rw [hv] at r <;> cases r
      refine ⟨a.eval x, w, ?_, r', hw⟩
      simp [execOp, hv]
    · replace h := ob_eq h; obtain ⟨p, hp, h⟩ := h
      injection h with h; subst h
      subst hp
      have r' := r
      obtain ⟨i, hi, e⟩ := rel_ptr r
      refine ⟨a.eval x, w, ?_, r', hw⟩
      simp [execOp, e]
    · injection h with h; subst h
      have r' := r
      cases hv : a.eval x <;> rw [hv] at r <;> cases r
      refine ⟨a.eval x, w, ?_, r', hw⟩
      simp [execOp, hv]
    · injection h with h; subst h
      have r' := r
      cases hv : a.eval x <;> rw [hv] at r <;> cases r
      refine ⟨a.eval x, w, ?_, r', hw⟩
      simp [execOp, hv]
    · cases h
  case sliceToArrayPointer t x =>
    replace h := ob_eq h; obtain ⟨u, hu, h⟩ := h
    have r := ev_sound hf hu
    unfold aArr at h
    replace h := ob_eq h; obtain ⟨n, hn, h⟩ := h
    have hn : ∃ e, P.underlying t = some (.array n e) := by
      unfold arrLen at hn
      split at hn
      · rename_i ty ht
        obtain ⟨d, hd, hk⟩ := (hcx.ty t ty ht).und
        split at hn
        · rename_i m e hm
          injection hn with hn; subst hn
          rw [hm] at hk
          cases d <;> simp only [DescOK] at hk
          obtain ⟨rfl, rfl⟩ := hk
          exact ⟨_, hd⟩
        · cases hn
      · cases hn
    obtain ⟨e, he⟩ := hn
    refine lift (s := Instr.arrayAt t (a.eval x)) ?_
    split at h
    · rename_i p len c
      replace h := ob_eq h; obtain ⟨p', hp, h⟩ := h
      subst hp
      rw [cb_eq] at h
      split at h
      · rename_i hl
        rw [Bool.and_eq_true] at hl
        have h1 := Nat.le_of_ble_eq_true hl.1
        have h2 := Nat.le_of_ble_eq_true hl.2
        injection h with h; subst h
        generalize a.eval x = X at r
        have key : ∃ (i : BI) (k : Nat), μ p'.1 = some i ∧ len ≤ k ∧ X = .slice (some ⟨i.blk, i.off + p'.2, none⟩) len k := by
          cases r with
          | slice q1 q2 q3 => exact ⟨_, _, q1, q2, by rw [q3 (by omega)]⟩
          | sliceU q1 q2 q3 q4 => exact ⟨_, _, q1, q2, by rw [q3 (by omega)]⟩
        obtain ⟨i, k, q1, q2, rfl⟩ := key
        refine ⟨_, ?_, .ptr q1⟩
        simp [Instr.arrayAt, run_underlying he, Nat.not_lt.2 h2]
      · cases h
    · rename_i nl len cs
      rw [cb_eq] at h
      split at h
      · rename_i hl
        rw [Bool.and_eq_true] at hl
        have h2 := Nat.le_of_ble_eq_true hl.2
        injection h with h; subst h
        generalize a.eval x = X at r
        cases r with
        | fsl q1 q2 q3 q4 =>
          refine ⟨_, ?_, .fptr q1 q2 q3⟩
          simp [Instr.arrayAt, run_underlying he, Nat.not_lt.2 h2]
        | fslN => simp at hl
      · cases h
    · cases h
  case binOp op t x y yt =>
    simp only [ev2] at h
    replace h := ob_eq h; obtain ⟨p, hp, h⟩ := h
    replace h := ob_eq h; obtain ⟨q, hq, h⟩ := h
    exact lift (aBin_sound hcx w h (ev_sound hf hp) (ev_sound hf hq) x y)
  case unOp op t x =>
    replace h := ob_eq h; obtain ⟨u, hu, h⟩ := h
    exact lift (aUn_sound hcx w h (ev_sound hf hu))
  case convert s d x =>
    replace h := ob_eq h; obtain ⟨u, hu, h⟩ := h
    obtain ⟨z, w', hz, hv, hw'⟩ := aConv_sound hcx hw h (ev_sound hf hu)
    exact ⟨z, w', by simp [execOp, hz], hv, hw'⟩
  case makeFunc fn first captured =>
    unfold qFunc at h
    split at h
    · replace h := ob_eq h; obtain ⟨p, hp, h⟩ := h
      replace h := ob_eq h; obtain ⟨q, hq, h⟩ := h
      injection h with h; subst h
      refine lift ⟨_, rfl, ?_⟩
      have e1 : first.map a.eval = (first.toList.map a.eval).toArray := by rw [← Array.toList_map, Array.toArray_toList]
      have e2 : captured.map a.eval = (captured.toList.map a.eval).toArray := by rw [← Array.toList_map, Array.toArray_toList]
      rw [e1, e2]
      exact .func (evs_sound hf hp) (evs_sound hf hq)
    · cases h
  case slice t x lo hi mx =>
    unfold qSlice at h
    replace h := ob_eq h; obtain ⟨u, hu, h⟩ := h
    replace h := ob_eq h; obtain ⟨lo', hlo, h⟩ := h
    replace h := ob_eq h; obtain ⟨hi', hhi, h⟩ := h
    replace h := ob_eq h; obtain ⟨mx', hmx, h⟩ := h
    exact lift (aSlice_sound hcx h (ev_sound hf hu) (evO_sound hf hlo) (evO_sound hf hhi) (evO_sound hf hmx))
  case fieldAddr t x f =>
    replace h := ob_eq h; obtain ⟨u, hu, h⟩ := h
    exact lift (aFieldAddr_sound hcx h (ev_sound hf hu))
  case field t x f =>
    replace h := ob_eq h; obtain ⟨u, hu, h⟩ := h
    exact lift (aField_sound hcx h (ev_sound hf hu))
  case indexAddr t x i =>
    simp only [ev2] at h
    replace h := ob_eq h; obtain ⟨p, hp, h⟩ := h
    replace h := ob_eq h; obtain ⟨q, hq, h⟩ := h
    exact lift (aIndexAddr_sound hcx h (ev_sound hf hp) (ev_sound hf hq))
  case index t x i =>
    simp only [ev2] at h
    replace h := ob_eq h; obtain ⟨p, hp, h⟩ := h
    replace h := ob_eq h; obtain ⟨q, hq, h⟩ := h
    exact lift (aIndex_sound hcx h (ev_sound hf hp) (ev_sound hf hq))
  case lookup t x i ok =>
    simp only [ev2] at h
    replace h := ob_eq h; obtain ⟨p, hp, h⟩ := h
    replace h := ob_eq h; obtain ⟨q, hq, h⟩ := h
    exact lift (aLookup_sound hcx hw h (ev_sound hf hp) (ev_sound hf hq))
  case extract x i =>
    replace h := ob_eq h; obtain ⟨u, hu, h⟩ := h
    replace h := ob_eq h; obtain ⟨vs, hvs, h⟩ := h
    cases tuple?_eq hvs
    obtain ⟨xs, e, hr⟩ := rel_tuple (ev_sound hf hu)
    rw [listAt_eq] at h
    obtain ⟨z, hz, hv⟩ := hr.get _ _ h
    refine lift ⟨z, ?_, hv⟩
    simp [Instr.extract, e, hz]
  case call c =>
    unfold qCall at h
    split at h
    · rename_i b hb
      replace h := ob_eq h; obtain ⟨l, hl, h⟩ := h
      have hr := evs_sound hf hl
      obtain ⟨z, hz, hv⟩ := qBuiltin_sound hcx hw h hr ty' (c.args.map fun | .const _ => true | _ => false)
      refine ⟨z, w, ?_, hv, hw⟩
      have e : c.args.map a.eval = (c.args.toList.map a.eval).toArray := by rw [← Array.toList_map, Array.toArray_toList]
      have e2 : c.argTypes.toList.toArray = c.argTypes := by simp
      simp only [execOp, resolve, hb, pure_bind, invoke, e]
      rw [e2] at hz
      exact hz
    · cases h
end
end Go.Ab
end
end

section
section
namespace Go.Ab
open Go.RowKit Go.MapKept
theorem reps_get {α : Type} (z : List α) (n k : Nat) : (reps n z)[k]? = if k < n * z.length then z[k % z.length]? else none := by
  induction n generalizing k with
  | zero => simp [reps]
  | succ n ih =>
    simp only [reps]
    by_cases h : k < z.length
    · rw [List.getElem?_append_left h, if_pos (by rw [Nat.succ_mul]; omega), Nat.mod_eq_of_lt h]
    · have h : z.length ≤ k := Nat.le_of_not_lt h
      rw [List.getElem?_append_right h, ih]
      have e : (k - z.length) % z.length = k % z.length := by
        rw [← Nat.mod_eq_sub_mod h]
      rw [e]
      by_cases h2 : k < (n + 1) * z.length
      · rw [if_pos h2, if_pos (by rw [Nat.succ_mul] at h2; omega)]
      · rw [if_neg h2, if_neg (by rw [Nat.succ_mul] at h2; omega)]
theorem reps_len {α : Type} (z : List α) (n : Nat) : (reps n z).length = n * z.length := by
  induction n with
  | zero => simp [reps]
  | succ n ih => simp [reps, ih, Nat.succ_mul]; omega
theorem zeros_rel {μ : Inj} {zs : List AV} {z : Array Value} (h : RelL μ zs z.toList) (n : Nat) : RelL μ (reps n zs) ((Array.range (n * z.size)).map (z[· % z.size]!)).toList := by
  have hl := h.length
  simp at hl
  refine RelL.of_get (by simp [reps_len, hl]) fun k v x hv hx => ?_
  rw [reps_get] at hv
  split at hv
  · rename_i hk
    obtain ⟨y, hy, r⟩ := h.get _ _ hv
    rw [← hl] at hk hy
    simp at hx
    obtain ⟨_, hx⟩ := hx
    have hpos : 0 < z.size := by
      rcases Nat.eq_zero_or_pos z.size with e | e
      · rw [e] at hk; simp at hk
      · exact e
    have hlt : k % z.size < z.size := Nat.mod_lt _ hpos
    have e2 : z[k % z.size]! = y := by
      rw [getElem!_pos z _ hlt]
      simpa [hlt] using hy
    obtain ⟨h1, h2⟩ := hx
    have e1 := (List.getElem?_eq_some_iff.1 h1).2
    rw [List.getElem_range] at e1
    subst e1
    rw [e2] at h2
    subst h2
    exact r
  · cases hv
theorem zeros_rel' {μ : Inj} {zs : List AV} {z : Array Value} (h : RelL μ zs z.toList) (n m : Nat) (hm : m = n * zs.length) : RelL μ (reps n zs) ((Array.range m).map (z[· % z.size]!)).toList := by
  have hl := h.length
  simp at hl
  rw [hm, ← hl]
  exact zeros_rel h n
section
variable {P : Program} {cx : Cx} (hcx : CxOK P cx) {μ : Inj} {base : Nat → Prop} {w0 w : World} {H : Heap} (hw : RelW (szOf cx) base w0 μ H w) {g : Env} {a : Act} (hf : RelF μ g a.tmps)
structure MadeOK (P : Program) (sz : TypeId → Nat) (base : Nat → Prop) (μ : Inj) (m : Made) (w : World) (i : BI) (x : Value) (o : Obj) (w1 : World) : Prop where
  heap : w1.heap = w.heap
  os : w1.os = w.os
  tape : w1.tape = w.tape
  out : w1.output = w.output
  at_ : i.blk = w.heap.size
  val : ∀ b μ', Ext μ μ' → μ' b = some i → RelV μ' (m.1 b) x
  blk : ∀ μ', Ext μ μ' → ¬ base w.heap.size → RelB sz base μ' i (w1.alloc o) m.2
theorem cells_made {e : TypeId} {cs : List AV} {xs : List Value} (hr : RelL μ cs xs) (w : World) (len : Nat) (hl : len = cs.length) (rest : List Value) (fr : Nat × Nat) (hfr : freeRow (xs ++ rest).length fr) (i : BI)
    (hi : i = ⟨w.heap.size, 0, (xs ++ rest).length, szOf cx e⟩) (μ' : Inj) (he : Ext μ μ') (hb : ¬ base w.heap.size) :
    RelB (szOf cx) base μ' i (w.alloc (.cells (xs ++ rest).toArray e fr)) (.cells true e len cs) := by
  subst hi
  refine ⟨hl, (xs ++ rest).toArray, e, fr, (MapKept.heap_alloc w _).1, fun k v hv => ?_, fun _ => ⟨hb, rfl, rfl, by simp, rfl, by simpa using hfr⟩⟩
  obtain ⟨x, hx, r⟩ := (hr.mono he).get k v hv
  refine ⟨x, ?_, r⟩
  have hlt : k < xs.length := (List.getElem?_eq_some_iff.1 hx).1
  simp only [Nat.zero_add, List.getElem?_toArray]
  rw [List.getElem?_append_left hlt]; exact hx
theorem freeze_alloc (w : World) (arr : Array Value) (e : TypeId) : (w.alloc (.cells arr e)).freeze ⟨w.heap.size, arr.size, none⟩ 1 = w.alloc (.cells arr e (arr.size, arr.size + 1)) := by
  show ({ w with heap := (w.heap.push (.cells arr e)).modify w.heap.size _ } : World) = { w with heap := w.heap.push (.cells arr e (arr.size, arr.size + 1)) }
  congr 1
  apply Array.ext_getElem?
  intro k
  rw [Array.getElem?_modify, Array.getElem?_push, Array.getElem?_push]
  by_cases hk : k = w.heap.size
  · subst hk; simp
  · simp only [if_neg hk, if_neg (Ne.symm hk)]
include hcx in
theorem zeros_run {e : TypeId} {et : ATy} (het : cx.ty e = some et) (w : World) (n m : Nat) (hm : m = n * et.size) :
    (m = 0 ∧ RelL μ (reps n et.zero.cells) ((Array.range m).map ((#[] : Array Value)[· % (#[] : Array Value).size]!)).toList) ∨
      (m ≠ 0 ∧ ∃ z, (zeroValue e).run P w = .ok z w ∧ RelL μ (reps n et.zero.cells) ((Array.range m).map (z.cells[· % z.cells.size]!)).toList) := by
  have hety := hcx.ty _ et het
  obtain ⟨z, hz, rz⟩ := hety.run_zero w μ
  have hzz := hety.zero
  by_cases h0 : m = 0
  · refine .inl ⟨h0, ?_⟩
    have : reps n et.zero.cells = [] := List.eq_nil_of_length_eq_zero (by rw [reps_len, hzz]; omega)
    rw [this, h0]; simp; exact .nil
  · exact .inr ⟨h0, z, hz, zeros_rel' (rz.cells hety.nz) n _ (by rw [hzz]; exact hm)⟩
include hcx in
theorem aBuildSlice_sound {t : TypeId} {n : Nat} {ps : List (Nat × AV)} {qs : List (Nat × Value)} {m : Made} (h : aBuildSlice cx t n ps = some m) (hp : RelP μ ps qs) (w : World) :
    ∃ e cs xs, RelL μ cs xs ∧ m = (fun b => .slice (some (b, 0)) n (some n), mkCells true e cs) ∧
      (Instr.buildSlice t n qs.toArray).run P w = .ok (.slice (some ⟨w.heap.size, 0, none⟩) n n) (w.alloc (.cells xs.toArray e)) := by
  unfold aBuildSlice at h
  split at h
  · rename_i e _ _ _ _ ht
    split at h
    · rename_i et het
      split at h
      · rename_i hsz
        replace h := ob_eq h; obtain ⟨cs, hcs, h⟩ := h
        injection h with h; subst h
        obtain ⟨d, hu, hd⟩ := (hcx.ty t _ ht).und
        cases d <;> simp only [DescOK] at hd
        subst hd
        have hety := hcx.ty _ et het
        have hlim : ¬ n * et.size > 2 ^ 24 := by omega
        rcases zeros_run (μ := μ) hcx het w n (n * et.size) rfl with ⟨h0, rzc⟩ | ⟨h0, z, hz, rzc⟩
        · obtain ⟨ys, hy, hr⟩ := fill_sound (PL := fun i => some (i * et.size, et.size)) (fun i r hi => hi) hcs hp rzc
          rw [Array.toArray_toList] at hy
          refine ⟨e, cs, ys, hr, rfl, ?_⟩
          simp only [Instr.buildSlice, Sem.run_bind, run_underlying hu, Result.andThen_ok, hety.run_size, if_neg hlim, if_pos h0, pure_bind, hy, newRow, run_newObj_alloc, Sem.run_pure]
        · obtain ⟨ys, hy, hr⟩ := fill_sound (PL := fun i => some (i * et.size, et.size)) (fun i r hi => hi) hcs hp rzc
          rw [Array.toArray_toList] at hy
          refine ⟨e, cs, ys, hr, rfl, ?_⟩
          simp only [Instr.buildSlice, Sem.run_bind, run_underlying hu, Result.andThen_ok, hety.run_size, if_neg hlim, if_neg h0, hz, pure_bind, hy, newRow, run_newObj_alloc, Sem.run_pure]
      · cases h
    · cases h
  · cases h
theorem frzL_eq (l : List AV) : frzL l = l.map frz := by
  induction l with
  | nil => rfl
  | cons v l ih => show frz v :: frzL l = _; rw [ih]; rfl
theorem reps_frz (l : List AV) : ∀ n, reps n (frzL l) = (reps n l).map frz
  | 0 => rfl
  | n + 1 => by simp only [reps, List.map_append]; rw [reps_frz l n, frzL_eq]
theorem rel_frz {μ : Inj} : ∀ {cs : List AV} {xs : List Value}, RelL μ cs xs → RelL μ (cs.map frz) xs
  | [], _, h => by cases h; exact .nil
  | v :: cs, _, h => by
    cases h with
    | cons a b =>
      refine .cons ?_ (rel_frz b)
      cases v <;> try exact a
      rename_i p l c
      cases p with
      | none => cases a; exact .fslN
      | some p => exact a
include hcx in
theorem aMakeSlice_sound {t : TypeId} {l c : AV} {L C : Value} {m : Made} (h : aMakeSlice cx t l c = some m) (rl : RelV μ l L) (rc : RelV μ c C) (w : World) :
    ∃ e cs xs len cap, RelL μ cs xs ∧ len ≤ cap ∧ m = (fun b => .slice (some (b, 0)) len (some cap), mkCells true e cs) ∧
      (Instr.makeSlice t L C).run P w = .ok (.slice (some ⟨w.heap.size, 0, none⟩) len cap) (w.alloc (.cells xs.toArray e)) := by
  unfold aMakeSlice at h
  split at h
  · rename_i ty e _ _ _ _ kl len kc cap ht
    have el := rel_int rl
    have ec := rel_int rc
    subst el; subst ec
    split at h
    · rename_i et het
      split at h
      · rename_i hc
        obtain ⟨c1, c2, c3, c4⟩ := hc
        injection h with h; subst h
        obtain ⟨d, hu, hd⟩ := (hcx.ty t _ ht).und
        cases d <;> simp only [DescOK] at hd
        subst hd
        have hety := hcx.ty _ et het
        obtain ⟨inf, hinf, hby, hsz⟩ := hety.run_bytes w
        have wl : IntKind.i64.wrap len = len := IntWalk.i64_in _ (by omega)
        have wc : IntKind.i64.wrap cap = cap := IntWalk.i64_in _ (by omega)
        have hcond : (((decide (cap < 0) || decide ((inf.bytes : Int) * cap > 2 ^ 48)) || decide (len < 0) || decide (len > cap))) = false := by
          rw [hby]
          simp only [Bool.or_eq_false_iff, decide_eq_false_iff_not]
          refine ⟨⟨⟨by omega, ?_⟩, by omega⟩, by omega⟩
          have : (2 : Int) ^ 48 = 281474976710656 := by decide
          rw [this]; omega
        rcases zeros_run (μ := μ) hcx het w cap.toNat (cap.toNat * et.size) rfl with ⟨h0, rzc⟩ | ⟨h0, z, hz, rzc⟩
        · refine ⟨e, _, _, len.toNat, cap.toNat, (by rw [reps_frz]; exact rel_frz rzc), by omega, rfl, ?_⟩
          simp only [Instr.makeSlice, Sem.run_bind, run_underlying hu, Result.andThen_ok, asInt, asIntOf, Sem.run_pure, pure_bind, hinf, wl, wc]
          rw [hcond]
          simp only [Bool.false_eq_true, if_false, Sem.run_bind, pure_bind, run_askRoom, Result.andThen_ok, hety.run_size, if_pos h0, newRow, run_newObj_alloc, Sem.run_pure, Array.toArray_toList]
        · refine ⟨e, _, _, len.toNat, cap.toNat, (by rw [reps_frz]; exact rel_frz rzc), by omega, rfl, ?_⟩
          simp only [Instr.makeSlice, Sem.run_bind, run_underlying hu, Result.andThen_ok, asInt, asIntOf, Sem.run_pure, pure_bind, hinf, wl, wc]
          rw [hcond]
          simp only [Bool.false_eq_true, if_false, Sem.run_bind, pure_bind, run_askRoom, Result.andThen_ok, hety.run_size, if_neg h0, hz, newRow, run_newObj_alloc, Sem.run_pure, Array.toArray_toList]
      · cases h
    · cases h
  · cases h
theorem isOne_eq {e : TypeId} (h : isOne cx e = true) : szOf cx e = 1 := by
  unfold isOne at h
  split at h
  · rename_i ty ht
    rw [nbeq] at h
    rw [szOf_eq ht]; exact of_decide_eq_true h
  · cases h
def valBytes (l : List UInt8) : List Value := l.map fun b => .int .u8 b.toNat
theorem ofBytes_rel (l : List UInt8) : RelL μ (ofBytes l) (valBytes l) := by
  induction l with
  | nil => exact .nil
  | cons b l ih => exact .cons (.int _ _) ih
include hcx in
theorem aBytes_sound {s d : TypeId} {x : AV} {X : Value} {m : Made} (h : aBytes cx d x = some m) (hs : isStringT cx s = true) (r : RelV μ x X) (w : World) :
    ∃ e l cap, l.length ≤ cap ∧ m = (fun b => .slice (some (b, 0)) l.length none, mkCells true e (ofBytes l)) ∧ szOf cx e = 1 ∧
      (convert s d X).run P w = .ok (.slice (some ⟨w.heap.size, 0, none⟩) l.length cap)
        ((w.drew.alloc (.cells (valBytes l ++ List.replicate (cap - l.length) (Value.int .u8 0)).toArray e)).freeze ⟨w.heap.size, cap, none⟩ 1) := by
  unfold aBytes at h
  replace h := ob_eq h; obtain ⟨e, he, h⟩ := h
  replace h := ob_eq h; obtain ⟨l, hl, h⟩ := h
  rw [cb_eq] at h
  split at h
  · rename_i hu8
    rw [Bool.and_eq_true] at hu8
    injection h with h; subst h
    obtain ⟨hue, et, het, hety⟩ := isU8_eq hu8.1 hcx
    cases str?_eq hl
    have ex := rel_str r
    subst ex
    unfold isSliceT at he
    split at he
    · rename_i e _ _ _ _ hd
      injection he with he; subst he
      obtain ⟨dd, hud, hdd⟩ := (hcx.ty d _ hd).und
      cases dd <;> simp only [DescOK] at hdd
      subst hdd
      unfold isStringT at hs
      split at hs
      · rename_i hst
        obtain ⟨ds, hus, hds⟩ := (hcx.ty s _ hst).und
        cases ds <;> simp only [DescOK] at hds
        obtain ⟨cap, hcap, hrun⟩ : ∃ cap, l.length ≤ cap ∧ (choose (.appendCap l.length 0 e)).run P w = .ok cap w.drew :=
          ⟨(Question.appendCap l.length 0 e).cut (w.tape w.drawn (.appendCap l.length 0 e)), Nat.le_add_right _ _, by rw [run_choose_drew, if_neg (by simp [Question.forced])]⟩
        refine ⟨e, l, cap, hcap, rfl, isOne_eq hu8.2, ?_⟩
        have hsz : (ByteArray.mk l.toArray).size = l.length := by simp [ByteArray.size]
        have harr : l.toArray.map (fun b => Value.int .u8 b.toNat) ++ Array.replicate (cap - l.length) (Value.int .u8 0) = (valBytes l ++ List.replicate (cap - l.length) (Value.int .u8 0)).toArray := by
          apply Array.ext'; simp [valBytes]
        have hmark := stringish_run (P := P) (w := w.drew.alloc (.cells (valBytes l ++ List.replicate (cap - l.length) (Value.int .u8 0)).toArray _)) (a := ⟨w.heap.size, 0, none⟩) (MapKept.heap_alloc w.drew (.cells (valBytes l ++ List.replicate (cap - l.length) (Value.int .u8 0)).toArray e)).1
        have hcl : (valBytes l ++ List.replicate (cap - l.length) (Value.int .u8 0)).toArray.size = cap := by simp [valBytes]; omega
        rw [hcl] at hmark
        simp only [convert, Sem.run_bind, run_underlying hus, run_underlying hud, Result.andThen_ok, run_underlying hue, Conv.stringToBytes, hsz, hrun, harr, newRow, run_newObj_alloc, Sem.run_pure]
        have e1 : w.drew.heap.size = w.heap.size := rfl
        rw [e1, hmark]
        rfl
      · cases hs
    · cases he
  · cases h
include hcx hf in
theorem aMade_sound {o : Oper} {m : Made} (h : aMade cx o.op g = some m) (hk : kindOf cx o.op = .made) (w : World) :
    ∃ x ob i w1, (execOp a.eval o).run P w = .ok (.value x) (w1.alloc ob) ∧ MadeOK P (szOf cx) base μ m w i x ob w1 := by
  obtain ⟨dst, op, ty', pos, after, guard⟩ := o
  simp only at h hk
  have plain : ∀ {e : TypeId} {cs : List AV} {xs : List Value} {val : Nat → AV} {x : Value} (s : Sem Value), RelL μ cs xs →
      s.run P w = .ok x (w.alloc (.cells xs.toArray e)) → (∀ b μ', μ' b = some (⟨w.heap.size, 0, xs.length, szOf cx e⟩ : BI) → RelV μ' (val b) x) →
      ∃ x ob i w1, (do pure (Next.value (← s)) : Sem Next).run P w = .ok (.value x) (w1.alloc ob) ∧ MadeOK P (szOf cx) base μ (val, mkCells true e cs) w i x ob w1 := by
    intro e cs xs val x s hr hs hv
    refine ⟨x, .cells xs.toArray e, ⟨w.heap.size, 0, xs.length, szOf cx e⟩, w, by simp [hs], ⟨rfl, rfl, rfl, rfl, rfl, fun b μ' _ e => hv b μ' e, fun μ' he hb => ?_⟩⟩
    have := cells_made (cx := cx) (base := base) (e := e) hr w cs.length rfl [] (0, 0) (.inl rfl) ⟨w.heap.size, 0, xs.length, szOf cx e⟩ (by simp) μ' he hb
    simpa [mkCells] using this
  cases op <;> simp only [aMade] at h <;> try (cases h; done)
  case alloc t =>
    replace h := ob_eq h; obtain ⟨ty, ht, h⟩ := h
    injection h with h; subst h
    obtain ⟨z, hz, rz⟩ := (hcx.ty t ty ht).run_zero w μ
    refine plain (xs := z.cells.toList) (x := .pointer (some ⟨w.heap.size, 0, none⟩)) (Instr.alloc t true (.tuple #[])) (rz.cells (hcx.ty t ty ht).nz) ?_ (fun b μ' e => .ptr e)
    simp [Instr.alloc, hz, newVar, newRow]
  case box t x =>
    unfold mBox at h
    replace h := ob_eq h; obtain ⟨v, hv, h⟩ := h
    injection h with h; subst h
    have r := ev_sound hf hv
    refine plain (xs := (a.eval x).cells.toList) (x := .pointer (some ⟨w.heap.size, 0, none⟩)) (Instr.box t (a.eval x)) (r.cells (ev_known hv)) ?_ (fun b μ' e => .ptr e)
    simp [Instr.box, newVar, newRow]
  case buildSlice t n ps =>
    unfold mBuild at h
    replace h := ob_eq h; obtain ⟨qs, hqs, h⟩ := h
    obtain ⟨e, cs, xs, hr, rfl, hrun⟩ := aBuildSlice_sound hcx h (evParts_sound hf hqs) w
    have e1 : (ps.map fun (i, x) => (i, a.eval x)) = (ps.toList.map fun p => (p.1, a.eval p.2)).toArray := by
      rw [← Array.toList_map, Array.toArray_toList]
    have := plain (xs := xs) (Instr.buildSlice t n (ps.map fun (i, x) => (i, a.eval x))) hr (by rw [e1]; exact hrun) (val := fun b => .slice (some (b, 0)) n (some n)) (fun b μ' e => .slice e (Nat.le_refl _) (fun _ => rfl))
    exact this
  case makeSlice t l c =>
    unfold mMake at h
    replace h := ob_eq h; obtain ⟨lv, hlv, h⟩ := h
    replace h := ob_eq h; obtain ⟨cv, hcv, h⟩ := h
    obtain ⟨e, cs, xs, len, cap, hr, hlc, rfl, hrun⟩ := aMakeSlice_sound hcx h (ev_sound hf hlv) (ev_sound hf hcv) w
    exact plain (Instr.makeSlice t (a.eval l) (a.eval c)) hr hrun (val := fun b => .slice (some (b, 0)) len (some cap)) (fun b μ' e => .slice e hlc (fun _ => rfl))
  case makeMap t r =>
    unfold mMap at h
    rw [cb_eq] at h
    split at h
    · rename_i hr
      injection h with h; subst h
      have hr : r = none := by cases r with | none => rfl | some _ => cases hr
      subst hr
      refine ⟨.map (some w.heap.size), .map #[] 0, ⟨w.heap.size, 0, 0, 0⟩, w, ?_, ⟨rfl, rfl, rfl, rfl, rfl, fun b μ' _ e => RelV.map (i := ⟨w.heap.size, 0, 0, 0⟩) e, fun μ' he hb => ⟨hb, #[], 0, (MapKept.heap_alloc w _).1, .nil⟩⟩⟩
      simp [execOp, Instr.makeMap]
    · cases h
  case convert s d x =>
    replace h := ob_eq h; obtain ⟨u, hu, h⟩ := h
    have hmb : isStringT cx s = true := by
      simp only [kindOf, cb_eq, makesBytes] at hk
      split at hk
      · rename_i hh; simp only [Bool.and_eq_true] at hh; exact hh.1
      · cases hk
    obtain ⟨e, l, cap, hcap, rfl, hsz, hrun⟩ := aBytes_sound hcx h hmb (ev_sound hf hu) w
    have hcl : (valBytes l ++ List.replicate (cap - l.length) (Value.int .u8 0)).length = cap := by simp [valBytes]; omega
    refine ⟨.slice (some ⟨w.heap.size, 0, none⟩) l.length cap, .cells (valBytes l ++ List.replicate (cap - l.length) (Value.int .u8 0)).toArray e (cap, cap + 1), ⟨w.heap.size, 0, cap, szOf cx e⟩, w.drew, ?_, ⟨rfl, rfl, rfl, rfl, rfl, fun b μ' _ he => ?_, fun μ' he hb => ?_⟩⟩
    · have hfr := freeze_alloc w.drew (valBytes l ++ List.replicate (cap - l.length) (Value.int .u8 0)).toArray e
      have hcl' : (valBytes l ++ List.replicate (cap - l.length) (Value.int .u8 0)).toArray.size = cap := by simpa using hcl
      rw [hcl'] at hfr
      rw [← hfr]
      simp only [execOp, Sem.run_bind, hrun, Result.andThen_ok, Sem.run_pure]
      rfl
    · exact .sliceU he hcap (fun _ => rfl) (fun _ => by simp [hsz])
    · have := cells_made (cx := cx) (base := base) (e := e) (ofBytes_rel (μ := μ) l) w.drew (ofBytes l).length rfl (List.replicate (cap - l.length) (Value.int .u8 0)) (cap, cap + 1) (by rw [hcl]; exact .inr (Nat.le_refl _)) ⟨w.heap.size, 0, cap, szOf cx e⟩ (by rw [hcl]; rfl) μ' he hb
      exact this
end
end Go.Ab
end
end

section
section
namespace Go.Ab
open Go.RowKit Go.MapKept
theorem storeCells_run (P : Program) (g o : Nat) (e : TypeId) (fr : Nat × Nat) : ∀ (vs : List Value) (i : Nat) (arr : Array Value) (w : World),
    w.heap[g]? = some (.cells arr e fr) → freeRow arr.size fr → o + i + vs.length ≤ arr.size → (∀ v ∈ vs, v.oneCell' = true) →
    ∃ w' arr', (storeCells ⟨g, o, none⟩ vs i).run P w = .ok () w' ∧ w'.heap[g]? = some (.cells arr' e fr) ∧ arr'.size = arr.size ∧
      (∀ k : Nat, arr'[k]? = if o + i ≤ k ∧ k < o + i + vs.length then vs[k - (o + i)]? else arr[k]?) ∧
      (∀ k, k ≠ g → w'.heap[k]? = w.heap[k]?) ∧ w'.os = w.os ∧ w'.tape = w.tape ∧ w'.output = w.output ∧ w'.heap.size = w.heap.size := by
  intro vs
  induction vs with
  | nil =>
    intro i arr w hg _ _ _
    refine ⟨w, arr, rfl, hg, rfl, fun k => ?_, fun _ _ => rfl, rfl, rfl, rfl, rfl⟩
    rw [if_neg (by simp; try omega)]
  | cons v vs ih =>
    intro i arr w hg hfr hle h1
    simp only [List.length_cons] at hle
    have hi : o + i < arr.size := by omega
    have hcell : w.cell? ⟨g, o + i, none⟩ = some arr[o + i] := by simp [World.cell?, hg, hi]
    have hfro : w.frozen? ⟨g, o + i, none⟩ = false := by
      obtain ⟨lo, hi'⟩ := fr
      simp only [World.frozen?, hg]
      exact hfr.at hi
    have hst : (store ((⟨g, o, none⟩ : Addr).add i) v).run P w = .ok () (w.setCell ⟨g, o + i, none⟩ v) := by
      rw [addr_add, run_store P w _ v .plain (h1 v (by simp)), hcell]
      simp [hfro]
    have hlt : g < w.heap.size := (Array.getElem?_eq_some_iff.1 hg).1
    have hheap : ∀ k, (w.setCell ⟨g, o + i, none⟩ v).heap[k]? = if k = g then some (.cells (arr.setIfInBounds (o + i) v) e fr) else w.heap[k]? := by
      intro k
      simp only [World.setCell, Array.getElem?_modify]
      by_cases hk : k = g
      · rw [if_pos hk, if_pos hk.symm, hk, hg]; rfl
      · rw [if_neg (Ne.symm hk), if_neg hk]
    obtain ⟨w', arr', h2, h3, h4, h5, h6, h7, h8, h9, h10⟩ := ih (i + 1) (arr.setIfInBounds (o + i) v) (w.setCell ⟨g, o + i, none⟩ v) (by rw [hheap, if_pos rfl]) (by simpa using hfr) (by simp; omega) (fun u hu => h1 u (by simp [hu]))
    refine ⟨w', arr', ?_, h3, by simpa using h4, fun k => ?_, fun k hk => ?_, h7, h8, h9, ?_⟩
    · simp only [storeCells, Sem.run_bind, hst, Result.andThen_ok]; exact h2
    · rw [h5]
      simp only [Array.getElem?_setIfInBounds, List.length_cons]
      by_cases hk : k = o + i
      · subst hk
        rw [if_neg (by omega), if_pos rfl, if_pos hi, if_pos (by omega)]
        simp
      · by_cases hk2 : o + i ≤ k ∧ k < o + i + (vs.length + 1)
        · rw [if_pos (by omega), if_pos hk2]
          obtain ⟨q, hq⟩ : ∃ q, k - (o + i) = q + 1 := ⟨k - (o + i) - 1, by omega⟩
          rw [hq, List.getElem?_cons_succ]; congr 1; omega
        · rw [if_neg (by omega), if_neg hk2, if_neg (by omega)]
    · rw [h6 k hk, hheap, if_neg hk]
    · rw [h10]; simp [World.setCell]
section
variable {P : Program} {cx : Cx} (hcx : CxOK P cx) {μ : Inj} {base : Nat → Prop} {w0 w : World} {H : Heap} (hw : RelW (szOf cx) base w0 μ H w) {g : Env} {a : Act} (hf : RelF μ g a.tmps)
theorem RelL.oneCell {vs : List AV} {xs : List Value} (h : RelL μ vs xs) (ha : vs.all AV.isCell = true) : ∀ x ∈ xs, x.oneCell' = true := by
  induction vs generalizing xs with
  | nil => cases h; simp
  | cons v vs ih =>
    cases h with
    | cons a b =>
      simp only [List.all_cons, Bool.and_eq_true] at ha
      intro x hx
      rcases List.mem_cons.1 hx with rfl | hx
      · exact a.oneCell ha.1
      · exact ih b ha.2 x hx
include hw in
theorem row_write {p : Nat × Nat} {i : BI} (hb : μ p.1 = some i) {e : TypeId} {len : Nat} {cs : List AV} (hg : H.get p.1 = .cells true e len cs) {vs : List AV} {xs : List Value} (hr : RelL μ vs xs)
    (hall : vs.all AV.isCell = true) (cs' : List AV) (hroom : p.2 + vs.length ≤ i.m)
    (hcs : ∀ (k : Nat) (v : AV), cs'[k]? = some v → (p.2 ≤ k ∧ k < p.2 + vs.length ∧ vs[k - p.2]? = some v) ∨ (¬ (p.2 ≤ k ∧ k < p.2 + vs.length) ∧ cs[k]? = some v)) :
    ∃ w', (storeCells ⟨i.blk, i.off + p.2, none⟩ xs).run P w = .ok () w' ∧ RelW (szOf cx) base w0 μ (H.put p.1 (.cells true e cs'.length cs')) w' := by
  obtain ⟨hl, arr, e', fr, harr, hc, hown⟩ := hw.row hb hg
  obtain ⟨h1, h2, h3, h4, h5, h6⟩ := hown rfl
  have hxl := hr.length
  obtain ⟨w', arr', r1, r2, r3, r4, r5, r6, r7, r8, r9⟩ := storeCells_run P i.blk (i.off + p.2) e' fr xs 0 arr w harr h6 (by rw [h2]; omega) (hr.oneCell hall)
  refine ⟨w', r1, RelW.write hw hb (by rw [hg]; rfl) r6 r7 r8 r9 r5 (.inl rfl) ?_⟩
  refine ⟨rfl, arr', e', fr, r2, fun k v hv => ?_, fun _ => ⟨h1, h2, h3, by rw [h4, r3], h5, by rw [r3]; exact h6⟩⟩
  rw [r4, h2]
  rcases hcs k v hv with ⟨k1, k2, k3⟩ | ⟨k1, k2⟩
  · rw [if_pos (by omega)]
    obtain ⟨x, hx, r⟩ := hr.get _ _ k3
    exact ⟨x, by rw [← hx]; congr 1; omega, r⟩
  · rw [if_neg (by omega)]
    obtain ⟨x, hx, r⟩ := hc k v k2
    exact ⟨x, by rw [← hx, h2], r⟩
include hw in
theorem storeAt_sound {p : Nat × Nat} {vs : List AV} {xs : List Value} {H' : Heap} (h : storeAt H p vs = some H') (hr : RelL μ vs xs) {i : BI} (hb : μ p.1 = some i) :
    ∃ w', (storeCells ⟨i.blk, i.off + p.2, none⟩ xs).run P w = .ok () w' ∧ RelW (szOf cx) base w0 μ H' w' ∧ H'.next = H.next := by
  unfold storeAt at h
  split at h
  · rename_i e len cs hg
    split at h
    · rename_i hc
      obtain ⟨hall, hle⟩ := hc
      injection h with h; subst h
      obtain ⟨hl, arr, e', fr, harr, hcc, hown⟩ := hw.row hb hg
      obtain ⟨h1, h2, h3, h4, h5, h6⟩ := hown rfl
      have hm : len ≤ i.m := by
        rw [h4]
        rcases Nat.lt_or_ge arr.size len with hlt | hge
        · exfalso
          have hlt' : arr.size < cs.length := by omega
          obtain ⟨x, hx, _⟩ := hcc arr.size _ (List.getElem?_eq_getElem hlt')
          rw [h2] at hx
          simp at hx
        · exact hge
      obtain ⟨w', r1, r2⟩ := row_write (P := P) hw hb hg hr hall (rowSet cs p.2 vs) (by omega) (fun k v hv => by
        rw [rowSet_get] at hv
        split at hv
        · rename_i hk; exact .inl ⟨hk.1, hk.2.1, hv⟩
        · rename_i hk
          have : k < cs.length := (List.getElem?_eq_some_iff.1 hv).1
          exact .inr ⟨by omega, hv⟩)
      refine ⟨w', r1, ?_, rfl⟩
      rw [rowSet_len, ← hl] at r2
      exact r2
    · cases h
  · cases h
include hw hcx in
theorem aStore_sound {t : TypeId} {x v : AV} {X V : Value} {H' : Heap} (h : aStore cx t H x v = some H') (hx : RelV μ x X) (hv : RelV μ v V) :
    ∃ w', (Instr.storeAt t X V).run P w = .ok () w' ∧ RelW (szOf cx) base w0 μ H' w' ∧ H'.next = H.next := by
  unfold aStore at h
  split at h
  · rename_i ty p ht
    split at h
    · rename_i hlen
      have hty := hcx.ty t ty ht
      obtain ⟨i, hi, rfl⟩ := rel_ptr hx
      have hnv : v ≠ .any := by
        intro e
        subst e
        unfold storeAt at h
        split at h
        · rw [if_neg (by simp [AV.cells, AV.isCell])] at h; cases h
        · cases h
      have hrc := hv.cells hnv
      obtain ⟨w', r1, r2, r3⟩ := storeAt_sound (P := P) hw h hrc hi
      refine ⟨w', ?_, r2, r3⟩
      have hsz : V.cells.size = ty.size := by have := hrc.length; simp at this; omega
      simp only [Instr.storeAt, Instr.sureAddr, pure_bind, storeVar, Sem.run_bind, hty.run_size, Result.andThen_ok]
      rw [if_neg (by simp [hsz])]
      exact r1
    · cases h
  · cases h
include hw in
theorem RelW.unmapped : μ H.next = none := by
  cases h : μ H.next with
  | none => rfl
  | some i => exact absurd (hw.fresh _ _ h) (Nat.lt_irrefl _)
theorem grow_set (μ : Inj) (n : Nat) (i : BI) : Grow n μ (μ.set n i) := ⟨fun b hb => Inj.set_ne _ _ (by omega), fun _ _ e => e, rfl, fun _ _ e => .inl e⟩
include hw in
theorem RelW.made {e : TypeId} {cs : List AV} {xs rest : List Value} (hr : RelL μ cs xs) {i : BI} (hi : i = ⟨w.heap.size, 0, (xs ++ rest).length, szOf cx e⟩) :
    RelW (szOf cx) base w0 (μ.set H.next i) (H.new (mkCells true e cs)) (w.alloc (.cells (xs ++ rest).toArray e)) := by
  have hu := hw.unmapped
  refine RelW.bind (hw.addDead (mkCells true e cs)) hu (by simp) _ i (by rw [hi]) ?_
  rw [Heap.get_new, if_pos rfl]
  exact cells_made (cx := cx) (base := base) hr w cs.length rfl rest (0, 0) (.inl rfl) i hi _ (ext_set i hu) hw.newOK
include hw in
theorem RelW.rename {b : Nat} {i : BI} (hb : μ b = some i) (hwr : (H.get b).writes = true) (H' : Heap) (hn : H'.next = H.next + 1)
    (hg : ∀ c, H'.get c = if c = H.next then H.get b else if c = b then .dead else H.get c) : RelW (szOf cx) base w0 (μ.set H.next i) H' w := by
  have hu := hw.unmapped
  have hbn := hw.fresh b i hb
  have hlive : (H.get b).live = true := by cases hx : H.get b <;> simp_all [Blk.writes, Blk.live]
  refine ⟨hw.below, hw.baseLe, fun c j e => ?_, fun c j e => ?_, fun c c' j j' e e' hne hcw hcl => ?_, hw.froz, fun c j k arr e hcw hz => ?_, hw.lo⟩
  · rw [hn]
    by_cases hc : c = H.next
    · omega
    · rw [Inj.set_ne _ _ hc] at e; have := hw.fresh c j e; omega
  · rw [hg]
    by_cases hc : c = H.next
    · subst hc; rw [Inj.set_same] at e; cases e
      rw [if_pos rfl]; exact (hw.blk b i hb).mono (ext_set i hu)
    · rw [Inj.set_ne _ _ hc] at e
      rw [if_neg hc]
      split
      · trivial
      · exact (hw.blk c j e).mono (ext_set i hu)
  · rw [hg] at hcw hcl
    by_cases hc : c = H.next
    · rw [if_pos hc] at hcw
      rw [hc, Inj.set_same] at e; cases e
      have hc' : c' ≠ H.next := fun h => hne (hc.trans h.symm)
      rw [Inj.set_ne _ _ hc'] at e'
      rw [if_neg hc'] at hcl
      split at hcl
      · cases hcl
      · rename_i hcb; exact hw.apart b c' i j' hb e' (Ne.symm hcb) hwr hcl
    · rw [if_neg hc] at hcw
      rw [Inj.set_ne _ _ hc] at e
      split at hcw
      · cases hcw
      · rename_i hcb
        by_cases hc' : c' = H.next
        · rw [if_pos hc'] at hcl
          rw [hc', Inj.set_same] at e'; cases e'
          exact hw.apart c b j i e hb hcb hcw hlive
        · rw [if_neg hc'] at hcl
          rw [Inj.set_ne _ _ hc'] at e'
          split at hcl
          · cases hcl
          · exact hw.apart c c' j j' e e' hne hcw hcl
  · rw [hg] at hcw
    by_cases hc : c = H.next
    · rw [hc, Inj.set_same] at e; cases e
      exact hw.frozApart b i k arr hb hwr hz
    · rw [if_neg hc] at hcw
      rw [Inj.set_ne _ _ hc] at e
      split at hcw
      · cases hcw
      · exact hw.frozApart c j k arr e hcw hz
end
end Go.Ab
end
end

section
section
namespace Go.Ab
open Go.RowKit Go.MapKept
inductive Src (P : Program) (w : World) (u e : TypeId) (size bytes n : Nat) (z : Value) (X : Value) (new : List Value) : Prop
  | cells (d : TypeDesc) : P.underlying u = some d → (∀ k, d ≠ .int k) → (∀ w', (Builtin.lenOf X).run P w' = .ok n w') →
      (∀ w' : World, w'.heap = w.heap → (Builtin.firstCells size n X).run P w' = .ok new.toArray w') → Src P w u e size bytes n z X new
  | zeros (k k' : IntKind) (m : Int) : P.underlying u = some (.int k) → X = .int k' m → 0 ≤ m → m < 9223372036854775808 → m * bytes ≤ 281474976710656 → n = m.toNat →
      new.toArray = Builtin.zeroCells z.cells n → z.cells.size = size → Src P w u e size bytes n z X new
theorem zeroCells_size (z : Array Value) (n : Nat) : (Builtin.zeroCells z n).size = n * z.size := by simp [Builtin.zeroCells]
section
variable {P : Program} {w : World} {t u ty e : TypeId} {inf : TypeInfo} {z X : Value} {n : Nat} {new : List Value}
theorem append_in (ht : P.underlying t = some (.slice e)) (hi : P.info? e = some inf) (hz : inf.zero = some z) (hx : Src P w u e inf.size inf.bytes n z X new) (hl : new.length = n * inf.size)
    (b : Addr) (sLen sCap : Nat) (hle : sLen + n ≤ sCap) :
    (Builtin.append_ #[t, u] ty #[.slice (some b) sLen sCap, X]).run P w =
      ((storeCells (b.add (sLen * inf.size)) new).run P w).andThen fun _ w' => .ok (.slice (some b) (sLen + n) sCap) w' := by
  cases hx with
  | cells d hd hk hlen hc =>
    have h1 : (match d with | .int _ => true | _ => false) = false := by cases d <;> first | rfl | exact absurd rfl (hk _)
    simp [Builtin.append_, run_underlying ht, run_underlying hd, sizeOf, typeInfo, hi, h1, hlen, hle, hc w rfl]
  | zeros k k' m hd hX h0 h1 h2 hn hnew hzs =>
    subst hX
    have wl : IntKind.i64.wrap m = m := IntWalk.i64_in _ (by omega)
    have c1 : ¬ (m < 0) := by omega
    have c2 : ¬ ((281474976710656 : Int) < m * inf.bytes) := by omega
    have hz0 : n = 0 → new = [] := fun h => List.eq_nil_of_length_eq_zero (by rw [hl, h]; simp)
    subst hn
    by_cases h3 : m.toNat * inf.size = 0
    · have hnil : new = [] := List.eq_nil_of_length_eq_zero (by rw [hl, h3])
      subst hnil
      simp [Builtin.append_, run_underlying ht, run_underlying hd, sizeOf, typeInfo, hi, asInt, asIntOf, wl, c1, c2, hle, h3]
    · have h4 := h3
      simp only [Nat.mul_eq_zero, not_or] at h4
      simp [Builtin.append_, run_underlying ht, run_underlying hd, sizeOf, typeInfo, zeroValue, hi, hz, asInt, asIntOf, wl, c1, c2, hle, h4, ← hnew]
      intro h; exact absurd h h3
theorem append_none (ht : P.underlying t = some (.slice e)) (hi : P.info? e = some inf) (hz : inf.zero = some z) (hx : Src P w u e inf.size inf.bytes 0 z X new) (hl : new.length = 0) :
    (Builtin.append_ #[t, u] ty #[.slice none 0 0, X]).run P w = .ok (.slice none 0 0) w := by
  have hnil : new = [] := List.eq_nil_of_length_eq_zero hl
  subst hnil
  cases hx with
  | cells d hd hk hlen hc =>
    have h1 : (match d with | .int _ => true | _ => false) = false := by cases d <;> first | rfl | exact absurd rfl (hk _)
    simp [Builtin.append_, run_underlying ht, run_underlying hd, sizeOf, typeInfo, hi, h1, hlen, hc w rfl]
  | zeros k k' m hd hX h0 h1 h2 hn hnew hzs =>
    subst hX
    have hm : m = 0 := by omega
    subst hm
    have wl : IntKind.i64.wrap 0 = 0 := by decide
    simp [wl, Builtin.append_, run_underlying ht, run_underlying hd, sizeOf, typeInfo, hi, asInt, asIntOf]
theorem append_out (ht : P.underlying t = some (.slice e)) (hi : P.info? e = some inf) (hz : inf.zero = some z) (hx : Src P w u e inf.size inf.bytes n z X new) (hl : new.length = n * inf.size)
    (hzs : z.cells.size = inf.size) (base : Option Addr) (sLen sCap : Nat) (hgt : sCap < sLen + n) (hroom : (sLen + n) * (2 * inf.bytes + 1) ≤ 140737488355328) (old : List Value)
    (hold : ∀ w' : World, w'.heap = w.heap → (Builtin.firstCells inf.size sLen (.slice base sLen sCap)).run P w' = .ok old.toArray w') :
    ∃ cap rest, sLen + n ≤ cap ∧ rest.length = (cap - (sLen + n)) * inf.size ∧ (Builtin.append_ #[t, u] ty #[.slice base sLen sCap, X]).run P w =
      .ok (.slice (some ⟨w.heap.size, 0, none⟩) (sLen + n) cap) (w.drew.alloc (.cells (old ++ new ++ rest).toArray e)) := by
  have hmul : (sLen + n) * (2 * inf.bytes + 1) = (sLen + n) * inf.bytes * 2 + (sLen + n) := by rw [Nat.mul_add, Nat.mul_one, Nat.mul_comm 2, Nat.mul_assoc]
  have hnext : Builtin.nextslicecap (sLen + n) sCap * inf.bytes ≤ 281474976710656 := growslice_fits hgt (by omega)
  have g1 : ¬ (sLen + n ≤ sCap) := by omega
  have g2 : ¬ (9223372036854775807 < ((sLen : Int) + (n : Int))) := by omega
  have g3 : ¬ (281474976710656 < Builtin.nextslicecap (sLen + n) sCap * inf.bytes) := by omega
  obtain ⟨cap, hcap, hcut⟩ : ∃ cap, sLen + n ≤ cap ∧ (Question.appendCap (sLen + n) sCap e).cut (w.tape w.drawn (.appendCap (sLen + n) sCap e)) = cap := ⟨_, Nat.le_add_right _ _, rfl⟩
  refine ⟨cap, (Builtin.zeroCells z.cells (cap - (sLen + n))).toList, hcap, by simp [zeroCells_size, hzs], ?_⟩
  have ho := hold w.drew rfl
  have harr : old.toArray ++ new.toArray ++ Builtin.zeroCells z.cells (cap - (sLen + n)) = (old ++ new ++ (Builtin.zeroCells z.cells (cap - (sLen + n))).toList).toArray := by
    apply Array.ext'; simp
  cases hx with
  | cells d hd hk hlen hc =>
    have h1 : (match d with | .int _ => true | _ => false) = false := by cases d <;> first | rfl | exact absurd rfl (hk _)
    have hcd := hc w.drew rfl
    rw [← harr]
    simp [Builtin.append_, run_underlying ht, run_underlying hd, sizeOf, typeInfo, zeroValue, hi, hz, h1, hlen, g1, g2, g3, Question.forced, hcut, ho, hcd, newRow]
    congr 2; apply Array.ext'; simp
  | zeros k k' m hd hX h0 h1 h2 hn hnew hzs =>
    subst hX
    have wl : IntKind.i64.wrap m = m := IntWalk.i64_in _ (by omega)
    have c1 : ¬ (m < 0) := by omega
    have c2 : ¬ ((281474976710656 : Int) < m * inf.bytes) := by omega
    subst hn
    have g2' : ¬ (9223372036854775807 < ((sLen : Int) + max m 0)) := by omega
    rw [← harr]
    by_cases h3 : m.toNat * inf.size = 0
    · have hnil : new = [] := List.eq_nil_of_length_eq_zero (by rw [hl, h3])
      subst hnil
      simp [Builtin.append_, run_underlying ht, run_underlying hd, sizeOf, typeInfo, zeroValue, hi, hz, asInt, asIntOf, wl, c1, c2, g1, g2', g3, h3, Question.forced, hcut, ho, newRow]
    · have h4 := h3
      simp only [Nat.mul_eq_zero, not_or] at h4
      simp [Builtin.append_, run_underlying ht, run_underlying hd, sizeOf, typeInfo, zeroValue, hi, hz, asInt, asIntOf, wl, c1, c2, g1, g2', g3, h4, Question.forced, hcut, ho, newRow, ← hnew]
      rw [if_neg h3]; congr 3; apply Array.ext'; simp
end
section
variable {P : Program} {cx : Cx} (hcx : CxOK P cx) {μ : Inj} {base : Nat → Prop} {w0 w : World} {H : Heap} (hw : RelW (szOf cx) base w0 μ H w) {g : Env} {a : Act} (hf : RelF μ g a.tmps)
theorem cell_heap {w w' : World} (h : w'.heap = w.heap) (a : Addr) : w'.cell? a = w.cell? a := by simp [World.cell?, h]
theorem rel_slice {p : Nat × Nat} {l : Nat} {c : Option Nat} {X : Value} (h : RelV μ (.slice (some p) l c) X) :
    ∃ i ad k, μ p.1 = some i ∧ X = .slice (some ad) l k ∧ l ≤ k ∧ (k ≠ 0 → ad = ⟨i.blk, i.off + p.2, none⟩) ∧ (∀ c', c = some c' → k = c') ∧ (c = none → p.2 = 0 → k * i.esz ≤ i.m) := by
  cases h with
  | slice h1 h2 h3 => exact ⟨_, _, _, h1, rfl, h2, h3, fun c' e => (by cases e; rfl), fun e => (by cases e)⟩
  | sliceU h1 h2 h3 h4 => exact ⟨_, _, _, h1, rfl, h2, h3, fun c' e => (by cases e), fun _ => h4⟩
theorem rel_slice_none {l : Nat} {c : Option Nat} {X : Value} (h : RelV μ (.slice none l c) X) : X = .slice none 0 0 ∧ l = 0 ∧ c = some 0 := by
  cases h; exact ⟨rfl, rfl, rfl⟩
include hw in
theorem first_run {p : Nat × Nat} {l size : Nat} {c : Option Nat} {X : Value} {cs : List AV} (h : cellsAt H p (l * size) = some cs) (hx : RelV μ (.slice (some p) l c) X) :
    ∃ xs, RelL μ cs xs ∧ xs.length = l * size ∧ ∀ w' : World, w'.heap = w.heap → (Builtin.firstCells size l X).run P w' = .ok xs.toArray w' := by
  obtain ⟨i, ad, k, hi, rfl, hle, had, hc, _⟩ := rel_slice hx
  obtain ⟨xs, hr, hl, hcell⟩ := cells_read hw h hi
  refine ⟨xs, hr, hl, fun w' hw' => ?_⟩
  refine run_firstCells_some (P := P) w' size l ad l k xs hl fun j v hv => ?_
  have hk : k ≠ 0 := by
    intro e
    have : j < xs.length := (List.getElem?_eq_some_iff.1 hv).1
    have h0 : l = 0 := by omega
    rw [hl, h0] at this
    omega
  rw [had hk, addr_add, cell_heap hw']
  exact hcell j v hv
include hcx hw in
theorem src_sound {u e : TypeId} {et : ATy} {zf : Bool} {x : AV} {X z : Value} {nc : Nat × List AV} (hz : RelV μ et.zero z) (hnz : et.zero ≠ .any) (hzl : et.zero.cells.length = et.size) (hu : isIntT cx u = some zf)
    (h : cb zf (zeroCells et x) (srcCells et.size H x) = some nc) (hx : RelV μ x X) :
    ∃ new, RelL μ nc.2 new ∧ new.length = nc.1 * et.size ∧ Src P w u e et.size et.bytes nc.1 z X new := by
  have hzs : z.cells.size = et.size := by have := (hz.cells hnz).length; simp at this; omega
  unfold isIntT at hu
  split at hu
  · rename_i hty
    injection hu with hu; subst hu
    obtain ⟨d, hud, hdd⟩ := (hcx.ty u _ hty).und
    cases d <;> simp only [DescOK] at hdd
    rw [cb_true] at h
    unfold zeroCells at h
    replace h := ob_eq h; obtain ⟨b, hb, h⟩ := h
    split at h
    · rename_i hc
      injection h with h; subst h
      cases int?_eq hb
      have := rel_int hx
      subst this
      refine ⟨(Builtin.zeroCells z.cells b.2.toNat).toList, ?_, by simp [zeroCells_size, hzs], .zeros _ _ _ hud rfl hc.1 hc.2.1 hc.2.2 rfl (by simp) hzs⟩
      exact zeros_rel' (hz.cells hnz) b.2.toNat _ (by rw [hzl, hzs])
    · cases h
  · rename_i ty hni hty
    injection hu with hu; subst hu
    rw [cb_false] at h
    obtain ⟨d, hud, hdd⟩ := (hcx.ty u _ hty).und
    have hk : ∀ k, d ≠ .int k := by
      intro k e
      subst e
      cases hd : ty.desc <;> rw [hd] at hdd <;> simp only [DescOK] at hdd
      obtain ⟨dsc, a1, a2, a3, a4⟩ := ty
      simp only at hd
      subst hd
      exact hni _ _ _ _ _ rfl
    unfold srcCells at h
    split at h
    · rename_i nl len cs
      rw [cb_eq] at h
      split at h
      · rename_i hcl
        rw [nbeq] at hcl
        have hcl : cs.length = len * et.size := of_decide_eq_true hcl
        injection h with h; subst h
        cases hx with
        | fslN => exact ⟨[], .nil, by simp, .cells d hud hk (fun w' => by simp [Builtin.lenOf]) (fun w' _ => by simp [Builtin.firstCells])⟩
        | fsl hz2 hr hv hlc =>
          rename_i c a arr vs
          have hl := hr.length
          refine ⟨vs, hr, by show vs.length = len * et.size; omega, .cells d hud hk (fun w' => by simp [Builtin.lenOf]) (fun w' hw' => ?_)⟩
          exact run_firstCells_some (P := P) w' et.size len a len c vs (by omega) fun j v hv' => by
            rw [cell_heap hw']; exact froz_read hw hz2 hr hv j v hv'
      · cases h
    unfold srcCells0 at h
    rename_i hnf
    clear hnf
    split at h
    · rename_i p l c
      unfold srcSlice at h
      split at h
      · rename_i hp
        simp only at hp
        subst hp
        obtain ⟨rfl, rfl, rfl⟩ := rel_slice_none hx
        simp at h
        subst h
        exact ⟨[], .nil, by simp, .cells d hud hk (fun w' => by simp [Builtin.lenOf]) (fun w' _ => by simp [Builtin.firstCells])⟩
      · rename_i q hp
        simp only at hp
        subst hp
        replace h := ob_eq h; obtain ⟨cs, hcs, h⟩ := h
        injection h with h; subst h
        obtain ⟨xs, hr, hl, hrun⟩ := first_run (P := P) hw hcs hx
        refine ⟨xs, hr, hl, .cells d hud hk (fun w' => ?_) hrun⟩
        obtain ⟨i, ad, k, hi, rfl, _⟩ := rel_slice hx
        simp [Builtin.lenOf]
    · rename_i s
      split at h
      · rename_i h1
        injection h with h; subst h
        have := rel_str hx
        subst this
        have hsz : (ByteArray.mk s.toArray).size = s.length := by simp [ByteArray.size]
        refine ⟨valBytes s, ofBytes_rel s, by simp [valBytes, h1], .cells d hud hk (fun w' => by simp [Builtin.lenOf, hsz]) (fun w' _ => ?_)⟩
        simp [Builtin.firstCells, valBytes]
      · cases h
    · cases h
  · cases hu
end
end Go.Ab
end
end

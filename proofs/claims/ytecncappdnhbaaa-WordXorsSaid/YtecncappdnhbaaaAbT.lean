/- The symbolic machine: the abstract machine once more, in a monad that notes each test: a branch goes where the oracle says, a check is taken to hold; what was taken is noted. -/
import Derived.Test.YtecncappdnhbaaaAbS
set_option autoImplicit false
set_option linter.unusedVariables false
set_option linter.unusedSimpArgs false
noncomputable section
namespace Go.Ab

/-- What a run takes to be so. -/
inductive Cnd where
  | tst (b o : Bool)
  | same (a b : AV)
  | code (a b : Code)
/-- How a test is answered: it is closed, and tells itself; it is taken to hold; not to hold. -/
inductive Ans where
  | c | y | z
def Cnd.ok : Cnd → Prop
  | .tst b o => b = o
  | .same a b => a = b
  | .code a b => a = b
def HoldsL (l : List Cnd) : Prop := List.rec (motive := fun _ => Prop) True (fun c _ r => c.ok ∧ r) l
theorem holdsL_append {a b : List Cnd} : HoldsL (a ++ b) ↔ HoldsL a ∧ HoldsL b := by
  induction a with
  | nil => exact ⟨fun h => ⟨trivial, h⟩, fun h => h.2⟩
  | cons c a ih => exact ⟨fun h => ⟨⟨h.1, (ih.1 h.2).1⟩, (ih.1 h.2).2⟩, fun h => ⟨h.1.1, ih.2 ⟨h.1.2, h.2⟩⟩⟩

abbrev Out (α : Type) := Option (α × List Ans × List Cnd)
abbrev S (α : Type) := List Ans → Out α
def S.pure {α : Type} (a : α) : S α := fun q => some (a, q, [])
def S.bind {α β : Type} (m : S α) (k : α → S β) : S β := fun q => Option.rec (motive := fun _ => Out β) none (fun p => Option.rec (motive := fun _ => Out β) none (fun r => some (r.1, r.2.1, p.2.2 ++ r.2.2)) (k p.1 p.2.1)) (m q)
def S.fail {α : Type} : S α := fun _ => none
def S.lift {α : Type} (o : Option α) : S α := fun q => Option.rec (motive := fun _ => Out α) none (fun a => some (a, q, [])) o
def S.note {α : Type} (c : Cnd) (k : S α) : S α := fun q => Option.rec (motive := fun _ => Out α) none (fun r => some (r.1, r.2.1, c :: r.2.2)) (k q)
def Ans.sel {α : Type} (a : Ans) (c y z : α) : α := Ans.rec (motive := fun _ => α) c y z a
def S.ask {α : Type} (c y z : S α) : S α := fun q => List.rec (motive := fun _ => Out α) none (fun a q _ => Ans.sel a c y z q) q
def S.must {α : Type} (b : Bool) (k : S α) : S α := S.ask (cb b k S.fail) (S.note (.tst b true) k) S.fail
def S.test {α : Type} (b : Bool) (y n : S α) : S α := S.ask (cb b y n) (S.note (.tst b true) y) (S.note (.tst b false) n)

/-- A run in the monad is sound for a plain one. -/
def Snd {α : Type} (m : S α) (o : Option α) : Prop := ∀ q r q' c, m q = some (r, q', c) → HoldsL c → o = some r

section snd
variable {α β : Type}
theorem Snd.pure (a : α) : Snd (S.pure a) (some a) := fun q r q' c h _ => by
  simp only [S.pure] at h; injection h with h; injection h with h1 h2; rw [h1]
theorem Snd.fail (o : Option α) : Snd (S.fail : S α) o := fun q r q' c h => by cases h
theorem Snd.lift (o : Option α) : Snd (S.lift o) o := fun q r q' c h _ => by
  cases o with
  | none => cases h
  | some a => simp only [S.lift] at h; injection h with h; injection h with h1 h2; rw [h1]
theorem Snd.bind {m : S α} {o : Option α} {k : α → S β} {f : α → Option β} (hm : Snd m o) (hk : ∀ a, o = some a → Snd (k a) (f a)) : Snd (S.bind m k) (o.ob f) := fun q r q' c h hh => by
  simp only [S.bind] at h
  cases hx : m q with
  | none => rw [hx] at h; cases h
  | some p =>
    rw [hx] at h
    obtain ⟨a, q1, c1⟩ := p
    simp only at h
    cases hy : k a q1 with
    | none => rw [hy] at h; cases h
    | some p2 =>
      rw [hy] at h
      obtain ⟨b, q2, c2⟩ := p2
      simp only at h
      injection h with h; injection h with h1 h2; injection h2 with h2 h3
      subst h1; subst h2; subst h3
      obtain ⟨h4, h5⟩ := holdsL_append.1 hh
      have e := hm q a q1 c1 hx h4
      rw [e]
      exact hk a e q1 b q2 c2 hy h5
theorem Snd.note {c : Cnd} {k : S α} {o : Option α} (h : c.ok → Snd k o) : Snd (S.note c k) o := fun q r q' c' hm hh => by
  simp only [S.note] at hm
  cases hx : k q with
  | none => rw [hx] at hm; cases hm
  | some p =>
    rw [hx] at hm
    obtain ⟨a, q1, c1⟩ := p
    simp only at hm
    injection hm with hm; injection hm with h1 h2; injection h2 with h2 h3
    subst h1; subst h2; subst h3
    exact h hh.1 q a q1 c1 hx hh.2
theorem Snd.ask {c y z : S α} {o : Option α} (hc : Snd c o) (hy : Snd y o) (hz : Snd z o) : Snd (S.ask c y z) o := fun q r q' c' h hh => by
  cases q with
  | nil => cases h
  | cons a q =>
    simp only [S.ask] at h
    cases a with
    | c => exact hc q r q' c' h hh
    | y => exact hy q r q' c' h hh
    | z => exact hz q r q' c' h hh
theorem Snd.must {b : Bool} {k : S α} {o : Option α} (h : b = true → Snd k o) : Snd (S.must b k) o := by
  refine Snd.ask ?_ (Snd.note h) (Snd.fail _)
  cases b with
  | true => exact h rfl
  | false => exact Snd.fail _
theorem Snd.test {b : Bool} {y n : S α} {o : Option α} (hy : b = true → Snd y o) (hn : b = false → Snd n o) : Snd (S.test b y n) o := by
  refine Snd.ask ?_ (Snd.note hy) (Snd.note hn)
  cases b with
  | true => exact hy rfl
  | false => exact hn rfl
theorem Snd.cb_must {b : Bool} {k : S α} {o : Option α} (h : b = true → Snd k o) : Snd (S.must b k) (cb b o none) := Snd.must fun hb => by rw [hb]; exact h hb
theorem Snd.cb_test {b : Bool} {y n : S α} {o p : Option α} (hy : b = true → Snd y o) (hn : b = false → Snd n p) : Snd (S.test b y n) (cb b o p) :=
  Snd.test (fun hb => by rw [hb]; exact hy hb) (fun hb => by rw [hb]; exact hn hb)
theorem Snd.of_eq {m : S α} {o o' : Option α} (h : Snd m o) (e : o = o') : Snd m o' := e ▸ h
theorem Snd.cb_bool {b : Bool} {y n : S α} {o p : Option α} (hy : Snd y o) (hn : Snd n p) : Snd (cb b y n) (cb b o p) := by
  cases b
  · exact hn
  · exact hy
end snd

/-! ### Values of a type -/
def AV.isInt (k : IntKind) : AV → Bool
  | .int j _ => decide (j = k)
  | _ => false
def AV.intOf : AV → Int
  | .int _ n => n
  | _ => 0
def AV.isBool : AV → Bool
  | .bool _ => true
  | _ => false
def AV.boolOf : AV → Bool
  | .bool b => b
  | _ => false
def AV.isStr : AV → Bool
  | .str _ => true
  | _ => false
def AV.strOf : AV → List UInt8
  | .str s => s
  | _ => []

def AV.isRow : AV → Bool
  | .slice _ _ _ => true
  | .fsl _ _ _ => true
  | _ => false
def AV.isFsl : AV → Bool
  | .fsl _ _ _ => true
  | _ => false
def AV.fslNil : AV → Bool
  | .fsl n _ _ => n
  | _ => false
def AV.fslLen : AV → Nat
  | .fsl _ n _ => n
  | _ => 0
def AV.fslCells : AV → List AV
  | .fsl _ _ cs => cs
  | _ => []
/-- a row that is seen, or a frozen one. -/
def castRow (v : AV) : S AV := S.ask (cb v.isRow (S.pure v) S.fail) (S.note (.tst v.isFsl true) (S.pure (.fsl v.fslNil v.fslLen v.fslCells))) (S.pure v)
theorem castRow_snd (v : AV) : Snd (castRow v) (some v) := by
  refine Snd.ask ?_ (Snd.note fun h => ?_) (Snd.pure _)
  · cases v.isRow
    · exact Snd.fail _
    · exact Snd.pure _
  · cases v <;> simp [Cnd.ok, AV.isFsl] at h
    exact Snd.pure _

/-- a value as one of its type. -/
def castS (d : AD) (v : AV) : S AV :=
  match d with
  | .int k => S.must (v.isInt k) (S.pure (.int k v.intOf))
  | .bool => S.must v.isBool (S.pure (.bool v.boolOf))
  | .string => S.must v.isStr (S.pure (.str v.strOf))
  | .slice _ => castRow v
  | _ => S.pure v
theorem castS_snd (d : AD) (v : AV) : Snd (castS d v) (some v) := by
  unfold castS
  split
  · refine Snd.must fun h => ?_
    cases v <;> simp [AV.isInt] at h
    subst h; exact Snd.pure _
  · refine Snd.must fun h => ?_
    cases v <;> simp [AV.isBool] at h
    exact Snd.pure _
  · refine Snd.must fun h => ?_
    cases v <;> simp [AV.isStr] at h
    exact Snd.pure _
  · exact castRow_snd v
  · exact Snd.pure v

/-- an element of a list. -/
def atS (d : AD) (cs : List AV) (n : Nat) : S AV := S.must (Nat.ble (Nat.succ n) cs.length) (castS d ((listAt cs n).getD .undef))
theorem atS_snd (d : AD) (cs : List AV) (n : Nat) : Snd (atS d cs n) (listAt cs n) := by
  refine Snd.must fun h => ?_
  have hlt : n < cs.length := by
    have := Nat.le_of_ble_eq_true h; omega
  rw [listAt_eq, List.getElem?_eq_getElem hlt]
  exact castS_snd d _

/-! ### Memory -/
def cellsS (H : Heap) (p : Nat × Nat) (n : Nat) : S (List AV) :=
  match H.get p.1 with
  | .cells _ _ len cs => S.must (Nat.ble (p.2 + n) len) (S.pure (rowCut cs p.2 n))
  | _ => S.fail
theorem cellsS_snd (H : Heap) (p : Nat × Nat) (n : Nat) : Snd (cellsS H p n) (cellsAt H p n) := by
  unfold cellsS cellsAt
  cases hg : H.get p.1 <;> (try simp only)
  case cells own e len cs =>
    refine Snd.must fun h => ?_
    rw [if_pos (Nat.le_of_ble_eq_true h)]; exact Snd.pure _
  all_goals exact Snd.fail _

def storeS (H : Heap) (p : Nat × Nat) (vs : List AV) : S Heap :=
  match H.get p.1 with
  | .cells true e len cs => S.must (vs.all AV.isCell) (S.must (Nat.ble (p.2 + vs.length) len) (S.pure (H.put p.1 (.cells true e len (rowSet cs p.2 vs)))))
  | _ => S.fail
theorem storeS_snd (H : Heap) (p : Nat × Nat) (vs : List AV) : Snd (storeS H p vs) (storeAt H p vs) := by
  unfold storeS storeAt
  cases hg : H.get p.1 <;> (try simp only)
  case cells own e len cs =>
    cases own
    · exact Snd.fail _
    · try simp only
      refine Snd.must fun h1 => Snd.must fun h2 => ?_
      rw [if_pos ⟨h1, Nat.le_of_ble_eq_true h2⟩]; exact Snd.pure _
  all_goals first | exact Snd.fail _ | skip

def loadS0 (cx : Cx) (t : TypeId) (H : Heap) (x : AV) : S AV :=
  match cx.ty t, x with
  | some ty, .ptr (some p) =>
    cb (isAggB ty.desc) (S.bind (cellsS H p ty.size) fun cs => S.pure (.agg cs))
      (match H.get p.1 with
      | .cells _ _ len cs => S.must (Nat.ble (Nat.succ p.2) len) (atS ty.desc cs p.2)
      | _ => S.fail)
  | _, _ => S.fail
theorem loadS0_snd (cx : Cx) (t : TypeId) (H : Heap) (x : AV) : Snd (loadS0 cx t H x) (aLoad0 cx t H x) := by
  unfold loadS0 aLoad0
  cases ht : cx.ty t <;> (try simp only)
  · exact Snd.fail _
  rename_i ty
  cases x <;> try exact Snd.fail _
  rename_i p
  cases p
  · exact Snd.fail _
  rename_i p
  try simp only
  cases h : isAggB ty.desc with
  | true =>
    rw [if_pos rfl]
    exact Snd.bind (cellsS_snd H p _) fun cs _ => Snd.pure _
  | false =>
    rw [if_neg (by simp)]
    simp only [cb_false]
    cases hg : H.get p.1 <;> (try simp only)
    case cells own e len cs =>
      refine Snd.must fun h => ?_
      have h' : p.2 < len := Nat.le_of_ble_eq_true h
      rw [if_pos h']; exact atS_snd _ _ _
    all_goals exact Snd.fail _

def fLoadS (cx : Cx) (t : TypeId) (cs : List AV) : S AV :=
  S.bind (S.lift (cx.ty t)) fun ty => cb (isAggB ty.desc) (S.must (Nat.ble ty.size cs.length) (S.pure (.agg (rowCut cs 0 ty.size)))) (atS ty.desc cs 0)
theorem fLoadS_snd (cx : Cx) (t : TypeId) (cs : List AV) : Snd (fLoadS cx t cs) (fLoad cx t cs) :=
  Snd.bind (Snd.lift _) fun ty _ => Snd.cb_bool (Snd.cb_must fun _ => Snd.pure _) (atS_snd _ _ _)
def loadS (cx : Cx) (t : TypeId) (H : Heap) (x : AV) : S AV :=
  match x with
  | .fptr cs => fLoadS cx t cs
  | x => loadS0 cx t H x
theorem loadS_snd (cx : Cx) (t : TypeId) (H : Heap) (x : AV) : Snd (loadS cx t H x) (aLoad cx t H x) := by
  by_cases h : ∃ cs, x = .fptr cs
  · obtain ⟨cs, rfl⟩ := h; exact fLoadS_snd cx t cs
  · have e1 : loadS cx t H x = loadS0 cx t H x := by cases x <;> first | rfl | exact absurd ⟨_, rfl⟩ h
    have e2 : aLoad cx t H x = aLoad0 cx t H x := by cases x <;> first | rfl | exact absurd ⟨_, rfl⟩ h
    rw [e1, e2]; exact loadS0_snd cx t H x

def aStoreS (cx : Cx) (t : TypeId) (H : Heap) (x v : AV) : S Heap :=
  match cx.ty t, x with
  | some ty, .ptr (some p) => S.must (Nat.beq v.cells.length ty.size) (storeS H p v.cells)
  | _, _ => S.fail
theorem aStoreS_snd (cx : Cx) (t : TypeId) (H : Heap) (x v : AV) : Snd (aStoreS cx t H x v) (aStore cx t H x v) := by
  unfold aStoreS aStore
  cases ht : cx.ty t <;> (try simp only)
  · exact Snd.fail _
  cases x <;> try exact Snd.fail _
  rename_i p
  cases p
  · exact Snd.fail _
  try simp only
  refine Snd.must fun h => ?_
  rw [if_pos (Nat.eq_of_beq_eq_true h)]; exact storeS_snd _ _ _

def partS (cx : Cx) (t : TypeId) (cs : List AV) (off : Nat) : S AV :=
  match cx.ty t with
  | some ty => cb (isAggB ty.desc) (S.must (Nat.ble (off + ty.size) cs.length) (S.pure (.agg (rowCut cs off ty.size)))) (atS ty.desc cs off)
  | none => S.fail
theorem partS_snd (cx : Cx) (t : TypeId) (cs : List AV) (off : Nat) : Snd (partS cx t cs off) (aPart cx t cs off) := by
  unfold partS aPart
  cases ht : cx.ty t <;> (try simp only)
  · exact Snd.fail _
  rename_i ty
  cases h : isAggB ty.desc with
  | true =>
    rw [if_pos rfl]
    refine Snd.must fun h => ?_
    rw [if_pos (Nat.le_of_ble_eq_true h)]; exact Snd.pure _
  | false => rw [if_neg (by simp)]; exact atS_snd _ _ _

def fillS (place : Nat → Option (Nat × Nat)) (cells : List AV) : List (Nat × AV) → S (List AV)
  | [] => S.pure cells
  | (i, v) :: rest => S.bind (S.lift (place i)) fun q => S.must (Nat.beq v.cells.length q.2) (S.must (Nat.ble (q.1 + q.2) cells.length) (fillS place (rowSet cells q.1 v.cells) rest))
theorem fillS_snd (place : Nat → Option (Nat × Nat)) : ∀ (ps : List (Nat × AV)) (cells : List AV), Snd (fillS place cells ps) (fillParts place cells ps) := by
  intro ps
  induction ps with
  | nil => intro cells; exact Snd.pure _
  | cons p ps ih =>
    intro cells
    obtain ⟨i, v⟩ := p
    have : fillParts place cells ((i, v) :: ps) = (place i).ob fun q => if v.cells.length = q.2 ∧ q.1 + q.2 ≤ cells.length then fillParts place (rowSet cells q.1 v.cells) ps else none := by
      simp only [fillParts]
      cases place i <;> rfl
    rw [this]
    refine Snd.bind (Snd.lift _) fun q _ => Snd.must fun h1 => Snd.must fun h2 => ?_
    rw [if_pos ⟨Nat.eq_of_beq_eq_true h1, Nat.le_of_ble_eq_true h2⟩]
    exact ih _

def buildS (cx : Cx) (t : TypeId) (parts : List (Nat × AV)) : S AV :=
  match cx.ty t with
  | some ty =>
    match ty.desc with
    | .struct fs => S.bind (fillS (fun i => (listAt fs i).ob fun f => (cx.ty f.2).ob fun ft => some (f.1, ft.size)) ty.zero.cells parts) fun cs => S.pure (.agg cs)
    | .array _ e => match cx.ty e with
      | some et => S.bind (fillS (fun i => some (i * et.size, et.size)) ty.zero.cells parts) fun cs => S.pure (.agg cs)
      | none => S.fail
    | _ => S.fail
  | none => S.fail
theorem buildS_snd (cx : Cx) (t : TypeId) (parts : List (Nat × AV)) : Snd (buildS cx t parts) (aBuild cx t parts) := by
  unfold buildS aBuild
  cases ht : cx.ty t <;> (try simp only)
  · exact Snd.fail _
  rename_i ty
  cases hd : ty.desc <;> (try simp only) <;> try exact Snd.fail _
  · rename_i n e
    cases he : cx.ty e <;> (try simp only)
    · exact Snd.fail _
    · exact Snd.bind (fillS_snd _ _ _) fun cs _ => Snd.pure _
  · exact Snd.bind (fillS_snd _ _ _) fun cs _ => Snd.pure _

def buildSliceS (cx : Cx) (t : TypeId) (len : Nat) (parts : List (Nat × AV)) : S Made :=
  match cx.ty t with
  | some { desc := .slice e, .. } =>
    match cx.ty e with
    | some et => S.must (Nat.ble (len * et.size) 16777216) (S.bind (fillS (fun i => some (i * et.size, et.size)) (reps len et.zero.cells) parts) fun cs =>
          S.pure (fun b => .slice (some (b, 0)) len (some len), mkCells true e cs))
    | none => S.fail
  | _ => S.fail
theorem buildSliceS_snd (cx : Cx) (t : TypeId) (len : Nat) (parts : List (Nat × AV)) : Snd (buildSliceS cx t len parts) (aBuildSlice cx t len parts) := by
  unfold buildSliceS aBuildSlice
  cases ht : cx.ty t <;> (try simp only)
  · exact Snd.fail _
  rename_i ty
  obtain ⟨desc, size, bytes, zero, eqs⟩ := ty
  cases desc <;> try exact Snd.fail _
  rename_i e
  try simp only
  cases he : cx.ty e <;> (try simp only)
  · exact Snd.fail _
  refine Snd.must fun h => ?_
  rw [if_pos (Nat.le_of_ble_eq_true h)]
  exact Snd.bind (fillS_snd _ _ _) fun cs _ => Snd.pure _

def makeSliceS (cx : Cx) (t : TypeId) (l c : AV) : S Made :=
  match cx.ty t, l, c with
  | some { desc := .slice e, .. }, .int _ len, .int _ cap =>
    match cx.ty e with
    | some et => S.must (ileB 0 len) (S.must (ileB len cap) (S.must (iltB cap 9223372036854775808) (S.must (ileB (et.bytes * cap) 281474976710656)
        (S.pure (fun b => .slice (some (b, 0)) len.toNat (some cap.toNat), mkCells true e (reps cap.toNat et.zero.cells))))))
    | none => S.fail
  | _, _, _ => S.fail
theorem makeSliceS_snd (cx : Cx) (t : TypeId) (l c : AV) : Snd (makeSliceS cx t l c) (aMakeSlice cx t l c) := by
  unfold makeSliceS aMakeSlice
  cases ht : cx.ty t <;> (try simp only)
  · exact Snd.fail _
  rename_i ty
  obtain ⟨desc, size, bytes, zero, eqs⟩ := ty
  cases desc <;> try exact Snd.fail _
  cases l <;> try exact Snd.fail _
  cases c <;> try exact Snd.fail _
  rename_i e _ _ _ _
  try simp only
  cases he : cx.ty e <;> (try simp only)
  · exact Snd.fail _
  refine Snd.must fun h1 => Snd.must fun h2 => Snd.must fun h3 => Snd.must fun h4 => ?_
  rw [ileB_eq] at h1 h2 h4
  rw [iltB_eq] at h3
  rw [if_pos ⟨of_decide_eq_true h1, of_decide_eq_true h2, of_decide_eq_true h3, of_decide_eq_true h4⟩]
  exact Snd.pure _

/-! ### Numbers, texts -/
def intS (op : BinOp) (k : IntKind) (a b : Int) : S AV :=
  match op with
  | .quo => S.must (!(ieqB b 0)) (S.pure (.int k (wrapA k (a.tdiv b))))
  | .rem => S.must (!(ieqB b 0)) (S.pure (.int k (a.tmod b)))
  | op => S.lift (aInt op k a b)
theorem intS_snd (op : BinOp) (k : IntKind) (a b : Int) : Snd (intS op k a b) (aInt op k a b) := by
  unfold intS
  split
  · refine Snd.must fun h => ?_
    simp only [Bool.not_eq_true'] at h
    simp only [aInt, iQuo, h, cb_false]; exact Snd.pure _
  · refine Snd.must fun h => ?_
    simp only [Bool.not_eq_true'] at h
    simp only [aInt, iRem, h, cb_false]; exact Snd.pure _
  · exact Snd.lift _

def binIntS (op : BinOp) (k : IntKind) (a : Int) (k' : IntKind) (b : Int) : S AV :=
  match op with
  | .shl => S.must (!(iltB b 0)) (S.pure (.int k (shlN k a (shN k b.toNat))))
  | .shr => S.must (!(iltB b 0)) (S.pure (.int k (shrN a (shN k b.toNat))))
  | op => cb (decide (k = k')) (intS op k a b) S.fail
theorem binIntS_snd (op : BinOp) (k : IntKind) (a : Int) (k' : IntKind) (b : Int) : Snd (binIntS op k a k' b) (binInt op k a k' b) := by
  unfold binIntS
  split
  · refine Snd.must fun h => ?_
    simp only [Bool.not_eq_true'] at h
    simp only [binInt, shl, h, cb_false]; exact Snd.pure _
  · refine Snd.must fun h => ?_
    simp only [Bool.not_eq_true'] at h
    simp only [binInt, shr, h, cb_false]; exact Snd.pure _
  · rename_i h1 h2
    have e : binInt op k a k' b = if k = k' then aInt op k a b else none := by
      cases op <;> first | rfl | exact absurd rfl h1 | exact absurd rfl h2
    rw [e]
    by_cases hk : k = k'
    · rw [if_pos hk, decide_eq_true hk]; exact intS_snd op k a b
    · rw [if_neg hk, decide_eq_false hk]; exact Snd.fail _

def strS (op : BinOp) (a b : List UInt8) : S AV :=
  match op with
  | .add => S.must (Nat.ble (a.length + b.length) 9223372036854775807) (S.pure (.str (a ++ b)))
  | op => S.lift (aStr op a b)
theorem strS_snd (op : BinOp) (a b : List UInt8) : Snd (strS op a b) (aStr op a b) := by
  unfold strS
  split
  · refine Snd.must fun h => ?_
    simp only [aStr, sAdd]
    rw [if_pos (Nat.le_of_ble_eq_true h)]; exact Snd.pure _
  · exact Snd.lift _

abbrev EqS := TypeId → AV → AV → S Bool
def eqFieldsS (cx : Cx) (eq : EqS) (xs ys : List AV) : List (Nat × TypeId) → S Bool
  | [] => S.pure true
  | f :: fs => S.bind (partS cx f.2 xs f.1) fun x => S.bind (partS cx f.2 ys f.1) fun y => S.bind (eq f.2 x y) fun b => S.bind (eqFieldsS cx eq xs ys fs) fun c => S.pure (b && c)
def eqElemsS (cx : Cx) (eq : EqS) (e : TypeId) (sz : Nat) (xs ys : List AV) : Nat → Nat → S Bool
  | 0, _ => S.pure true
  | n + 1, i => S.bind (partS cx e xs (i * sz)) fun x => S.bind (partS cx e ys (i * sz)) fun y => S.bind (eq e x y) fun b => S.bind (eqElemsS cx eq e sz xs ys n (i + 1)) fun c => S.pure (b && c)
theorem andS_snd {m : S Bool} {o : Option Bool} (h : Snd m o) (b : Bool) : Snd (S.bind m fun c => S.pure (b && c)) (cb b o (some false)) := by
  cases b with
  | true =>
    intro q r q' c hm hh
    have := Snd.bind h (k := fun c => S.pure (true && c)) (f := fun c => some (true && c)) (fun a _ => Snd.pure _) q r q' c hm hh
    cases o with
    | none => cases this
    | some d => simpa using this
  | false =>
    intro q r q' c hm hh
    have := Snd.bind h (k := fun c => S.pure (false && c)) (f := fun c => some (false && c)) (fun a _ => Snd.pure _) q r q' c hm hh
    cases o with
    | none => cases this
    | some d => simpa using this
theorem eqFieldsS_snd (cx : Cx) {eqs : EqS} {eq : EqF} (h : ∀ t x y, Snd (eqs t x y) (eq t x y)) (xs ys : List AV) : ∀ fs, Snd (eqFieldsS cx eqs xs ys fs) (eqFields cx eq xs ys fs) := by
  intro fs
  induction fs with
  | nil => exact Snd.pure _
  | cons f fs ih => exact Snd.bind (partS_snd _ _ _ _) fun x _ => Snd.bind (partS_snd _ _ _ _) fun y _ => Snd.bind (h _ _ _) fun b _ => andS_snd ih b
theorem eqElemsS_snd (cx : Cx) {eqs : EqS} {eq : EqF} (h : ∀ t x y, Snd (eqs t x y) (eq t x y)) (e : TypeId) (sz : Nat) (xs ys : List AV) : ∀ n i, Snd (eqElemsS cx eqs e sz xs ys n i) (eqElems cx eq e sz xs ys n i) := by
  intro n
  induction n with
  | zero => intro i; exact Snd.pure _
  | succ n ih => intro i; exact Snd.bind (partS_snd _ _ _ _) fun x _ => Snd.bind (partS_snd _ _ _ _) fun y _ => Snd.bind (h _ _ _) fun b _ => andS_snd (ih _) b

def eqAtS (cx : Cx) (eqs : EqS) (eq : EqF) (ty : ATy) (x y : AV) : S Bool :=
  match ty.desc with
  | .struct fs => cb ty.eqs (S.bind (S.lift x.agg?) fun xs => S.bind (S.lift y.agg?) fun ys => eqFieldsS cx eqs xs ys fs) S.fail
  | .array n e => cb ty.eqs (S.bind (S.lift x.agg?) fun xs => S.bind (S.lift y.agg?) fun ys => S.bind (S.lift (cx.ty e)) fun et => eqElemsS cx eqs e et.size xs ys n 0) S.fail
  | _ => S.lift (eqAt cx eq ty x y)
theorem eqAtS_snd (cx : Cx) {eqs : EqS} {eq : EqF} (h : ∀ t x y, Snd (eqs t x y) (eq t x y)) (ty : ATy) (x y : AV) : Snd (eqAtS cx eqs eq ty x y) (eqAt cx eq ty x y) := by
  unfold eqAtS
  split
  · rename_i fs hd
    simp only [eqAt, hd, eqAgg]
    exact Snd.cb_bool (Snd.bind (Snd.lift _) fun xs _ => Snd.bind (Snd.lift _) fun ys _ => eqFieldsS_snd cx h xs ys fs) (Snd.fail _)
  · rename_i n e hd
    simp only [eqAt, hd, eqAgg]
    exact Snd.cb_bool (Snd.bind (Snd.lift _) fun xs _ => Snd.bind (Snd.lift _) fun ys _ => Snd.bind (Snd.lift _) fun et _ => eqElemsS_snd cx h e et.size xs ys n 0) (Snd.fail _)
  · exact Snd.lift _
def eqS (cx : Cx) : Nat → EqS
  | 0, _, _, _ => S.fail
  | d + 1, t, x, y => S.bind (S.lift (cx.ty t)) fun ty => eqAtS cx (eqS cx d) (aEq cx d) ty x y
theorem eqS_snd (cx : Cx) : ∀ d t x y, Snd (eqS cx d t x y) (aEq cx d t x y) := by
  intro d
  induction d with
  | zero => intro t x y; exact Snd.fail _
  | succ d ih => intro t x y; exact Snd.bind (Snd.lift _) fun ty _ => eqAtS_snd cx ih ty x y

def binOtherS0 (cx : Cx) (op : BinOp) (t : TypeId) (x y : AV) : S AV :=
  match op with
  | .eql => S.bind (eqS cx 100 t x y) fun b => S.pure (.bool b)
  | .neq => S.bind (eqS cx 100 t x y) fun b => S.pure (.bool !b)
  | _ => S.fail
def binOtherS (cx : Cx) (op : BinOp) (t : TypeId) (x y : AV) : S AV :=
  match x with
  | .fsl nl _ _ => cb y.isNil (S.lift (fNil cx op t nl)) S.fail
  | x => match y with
    | .fsl nl _ _ => cb x.isNil (S.lift (fNil cx op t nl)) S.fail
    | y => binOtherS0 cx op t x y
theorem binOtherS0_snd (cx : Cx) (op : BinOp) (t : TypeId) (x y : AV) : Snd (binOtherS0 cx op t x y) (binOther0 cx op t x y) := by
  unfold binOtherS0 binOther0
  split
  · exact Snd.bind (eqS_snd cx 100 t x y) fun b _ => Snd.pure _
  · exact Snd.bind (eqS_snd cx 100 t x y) fun b _ => Snd.pure _
  · exact Snd.fail _
theorem binOtherS_snd (cx : Cx) (op : BinOp) (t : TypeId) (x y : AV) : Snd (binOtherS cx op t x y) (binOther cx op t x y) := by
  by_cases h : ∃ a b cs, x = .fsl a b cs
  · obtain ⟨a, b, cs, rfl⟩ := h; exact Snd.cb_bool (Snd.lift _) (Snd.fail _)
  · by_cases h2 : ∃ a b cs, y = .fsl a b cs
    · obtain ⟨a, b, cs, rfl⟩ := h2
      have e1 : binOtherS cx op t x (.fsl a b cs) = cb x.isNil (S.lift (fNil cx op t a)) S.fail := by cases x <;> first | rfl | exact absurd ⟨_, _, _, rfl⟩ h
      have e2 : binOther cx op t x (.fsl a b cs) = cb x.isNil (fNil cx op t a) none := by cases x <;> first | rfl | exact absurd ⟨_, _, _, rfl⟩ h
      rw [e1, e2]; exact Snd.cb_bool (Snd.lift _) (Snd.fail _)
    · have e1 : binOtherS cx op t x y = binOtherS0 cx op t x y := by cases x <;> first | exact absurd ⟨_, _, _, rfl⟩ h | (cases y <;> first | rfl | exact absurd ⟨_, _, _, rfl⟩ h2)
      have e2 : binOther cx op t x y = binOther0 cx op t x y := by cases x <;> first | exact absurd ⟨_, _, _, rfl⟩ h | (cases y <;> first | rfl | exact absurd ⟨_, _, _, rfl⟩ h2)
      rw [e1, e2]; exact binOtherS0_snd _ _ _ _ _
def binS (cx : Cx) (op : BinOp) (t : TypeId) (x y : AV) : S AV :=
  match x with
  | .int k a => S.bind (S.lift y.int?) fun b => binIntS op k a b.1 b.2
  | .str a => S.bind (S.lift y.str?) fun b => strS op a b
  | .any => S.fail
  | x => binOtherS cx op t x y
theorem binS_snd (cx : Cx) (op : BinOp) (t : TypeId) (x y : AV) : Snd (binS cx op t x y) (aBin cx op t x y) := by
  by_cases h1 : ∃ k a, x = .int k a
  · obtain ⟨k, a, rfl⟩ := h1; exact Snd.bind (Snd.lift _) fun b _ => binIntS_snd _ _ _ _ _
  by_cases h2 : ∃ a, x = .str a
  · obtain ⟨a, rfl⟩ := h2; exact Snd.bind (Snd.lift _) fun b _ => strS_snd _ _ _
  by_cases h3 : x = .any
  · subst h3; exact Snd.fail _
  have e1 : binS cx op t x y = binOtherS cx op t x y := by cases x <;> first | rfl | exact absurd ⟨_, _, rfl⟩ h1 | exact absurd ⟨_, rfl⟩ h2 | exact absurd rfl h3
  have e2 : aBin cx op t x y = binOther cx op t x y := by cases x <;> first | rfl | exact absurd ⟨_, _, rfl⟩ h1 | exact absurd ⟨_, rfl⟩ h2 | exact absurd rfl h3
  rw [e1, e2]; exact binOtherS_snd _ _ _ _ _
end Go.Ab

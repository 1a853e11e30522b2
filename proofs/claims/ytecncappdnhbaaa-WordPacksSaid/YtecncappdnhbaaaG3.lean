/- Texts of the abstract machine and of the laws, merged. -/
import Derived.Test.YtecncappdnhbaaaG2
import Derived.Test.YtecncappdnhbaaaGT
/- The symbolic machine: the abstract machine once more, in a monad that notes each test: a branch goes where the oracle says, a check is taken to hold; what was taken is noted. -/
section
set_option autoImplicit false
set_option linter.unusedVariables false
set_option linter.unusedSimpArgs false
noncomputable section
namespace Go.Ab

/-- What a run takes to be so. -/
inductive Cnd where
  | tst (b o : Bool)
  | same (a b : AV)
  | code (a b : Code)
/-- How a test is answered: it is closed, and tells itself; it is taken to hold; not to hold. -/
inductive Ans where
  | c | y | z
def Cnd.ok : Cnd → Prop
  | .tst b o => b = o
  | .same a b => a = b
  | .code a b => a = b
def HoldsL (l : List Cnd) : Prop := List.rec (motive := fun _ => Prop) True (fun c _ r => c.ok ∧ r) l
theorem holdsL_append {a b : List Cnd} : HoldsL (a ++ b) ↔ HoldsL a ∧ HoldsL b := by
  induction a with
  | nil => exact ⟨fun h => ⟨trivial, h⟩, fun h => h.2⟩
  | cons c a ih => exact ⟨fun h => ⟨⟨h.1, (ih.1 h.2).1⟩, (ih.1 h.2).2⟩, fun h => ⟨h.1.1, ih.2 ⟨h.1.2, h.2⟩⟩⟩

abbrev Out (α : Type) := Option (α × List Ans × List Cnd)
abbrev S (α : Type) := List Ans → Out α
def S.pure {α : Type} (a : α) : S α := fun q => some (a, q, [])
def S.bind {α β : Type} (m : S α) (k : α → S β) : S β := fun q => Option.rec (motive := fun _ => Out β) none (fun p => Option.rec (motive := fun _ => Out β) none (fun r => some (r.1, r.2.1, p.2.2 ++ r.2.2)) (k p.1 p.2.1)) (m q)
def S.fail {α : Type} : S α := fun _ => none
def S.lift {α : Type} (o : Option α) : S α := fun q => Option.rec (motive := fun _ => Out α) none (fun a => some (a, q, [])) o
def S.note {α : Type} (c : Cnd) (k : S α) : S α := fun q => Option.rec (motive := fun _ => Out α) none (fun r => some (r.1, r.2.1, c :: r.2.2)) (k q)
def Ans.sel {α : Type} (a : Ans) (c y z : α) : α := Ans.rec (motive := fun _ => α) c y z a
def S.ask {α : Type} (c y z : S α) : S α := fun q => List.rec (motive := fun _ => Out α) none (fun a q _ => Ans.sel a c y z q) q
def S.must {α : Type} (b : Bool) (k : S α) : S α := S.ask (cb b k S.fail) (S.note (.tst b true) k) S.fail
def S.test {α : Type} (b : Bool) (y n : S α) : S α := S.ask (cb b y n) (S.note (.tst b true) y) (S.note (.tst b false) n)

/-- A run in the monad is sound for a plain one. -/
def Snd {α : Type} (m : S α) (o : Option α) : Prop := ∀ q r q' c, m q = some (r, q', c) → HoldsL c → o = some r

section snd
variable {α β : Type}
theorem Snd.pure (a : α) : Snd (S.pure a) (some a) := fun q r q' c h _ => by
  simp only [S.pure] at h; injection h with h; injection h with h1 h2; rw [h1]
theorem Snd.fail (o : Option α) : Snd (S.fail : S α) o := fun q r q' c h => by cases h
theorem Snd.lift (o : Option α) : Snd (S.lift o) o := fun q r q' c h _ => by
  cases o with
  | none => cases h
  | some a => simp only [S.lift] at h; injection h with h; injection h with h1 h2; rw [h1]
theorem Snd.bind {m : S α} {o : Option α} {k : α → S β} {f : α → Option β} (hm : Snd m o) (hk : ∀ a, o = some a → Snd (k a) (f a)) : Snd (S.bind m k) (o.ob f) := fun q r q' c h hh => by
  simp only [S.bind] at h
  cases hx : m q with
  | none => rw [hx] at h; cases h
  | some p =>
    rw [hx] at h
    obtain ⟨a, q1, c1⟩ := p
    simp only at h
    cases hy : k a q1 with
    | none => rw [hy] at h; cases h
    | some p2 =>
      rw [hy] at h
      obtain ⟨b, q2, c2⟩ := p2
      simp only at h
      injection h with h; injection h with h1 h2; injection h2 with h2 h3
      subst h1; subst h2; subst h3
      obtain ⟨h4, h5⟩ := holdsL_append.1 hh
      have e := hm q a q1 c1 hx h4
      rw [e]
      exact hk a e q1 b q2 c2 hy h5
theorem Snd.note {c : Cnd} {k : S α} {o : Option α} (h : c.ok → Snd k o) : Snd (S.note c k) o := fun q r q' c' hm hh => by
  simp only [S.note] at hm
  cases hx : k q with
  | none => rw [hx] at hm; cases hm
  | some p =>
    rw [hx] at hm
    obtain ⟨a, q1, c1⟩ := p
    simp only at hm
    injection hm with hm; injection hm with h1 h2; injection h2 with h2 h3
    subst h1; subst h2; subst h3
    exact h hh.1 q a q1 c1 hx hh.2
theorem Snd.ask {c y z : S α} {o : Option α} (hc : Snd c o) (hy : Snd y o) (hz : Snd z o) : Snd (S.ask c y z) o := fun q r q' c' h hh => by
  cases q with
  | nil => cases h
  | cons a q =>
    simp only [S.ask] at h
    cases a with
    | c => exact hc q r q' c' h hh
    | y => exact hy q r q' c' h hh
    | z => exact hz q r q' c' h hh
theorem Snd.must {b : Bool} {k : S α} {o : Option α} (h : b = true → Snd k o) : Snd (S.must b k) o := by
  refine Snd.ask ?_ (Snd.note h) (Snd.fail _)
  cases b with
  | true => exact h rfl
  | false => exact Snd.fail _
theorem Snd.test {b : Bool} {y n : S α} {o : Option α} (hy : b = true → Snd y o) (hn : b = false → Snd n o) : Snd (S.test b y n) o := by
  refine Snd.ask ?_ (Snd.note hy) (Snd.note hn)
  cases b with
  | true => exact hy rfl
  | false => exact hn rfl
theorem Snd.cb_must {b : Bool} {k : S α} {o : Option α} (h : b = true → Snd k o) : Snd (S.must b k) (cb b o none) := Snd.must fun hb => by rw [hb]; exact h hb
theorem Snd.cb_test {b : Bool} {y n : S α} {o p : Option α} (hy : b = true → Snd y o) (hn : b = false → Snd n p) : Snd (S.test b y n) (cb b o p) :=
  Snd.test (fun hb => by rw [hb]; exact hy hb) (fun hb => by rw [hb]; exact hn hb)
theorem Snd.of_eq {m : S α} {o o' : Option α} (h : Snd m o) (e : o = o') : Snd m o' := e ▸ h
theorem Snd.cb_bool {b : Bool} {y n : S α} {o p : Option α} (hy : Snd y o) (hn : Snd n p) : Snd (cb b y n) (cb b o p) := by
  cases b
  · exact hn
  · exact hy
end snd

/-! ### Values of a type -/
def AV.isInt (k : IntKind) : AV → Bool
  | .int j _ => decide (j = k)
  | _ => false
def AV.intOf : AV → Int
  | .int _ n => n
  | _ => 0
def AV.isBool : AV → Bool
  | .bool _ => true
  | _ => false
def AV.boolOf : AV → Bool
  | .bool b => b
  | _ => false
def AV.isStr : AV → Bool
  | .str _ => true
  | _ => false
def AV.strOf : AV → List UInt8
  | .str s => s
  | _ => []

def AV.isRow : AV → Bool
  | .slice _ _ _ => true
  | .fsl _ _ _ => true
  | _ => false
def AV.isFsl : AV → Bool
  | .fsl _ _ _ => true
  | _ => false
def AV.fslNil : AV → Bool
  | .fsl n _ _ => n
  | _ => false
def AV.fslLen : AV → Nat
  | .fsl _ n _ => n
  | _ => 0
def AV.fslCells : AV → List AV
  | .fsl _ _ cs => cs
  | _ => []
/-- a row that is seen, or a frozen one. -/
def castRow (v : AV) : S AV := S.ask (cb v.isRow (S.pure v) S.fail) (S.note (.tst v.isFsl true) (S.pure (.fsl v.fslNil v.fslLen v.fslCells))) (S.pure v)
theorem castRow_snd (v : AV) : Snd (castRow v) (some v) := by
  refine Snd.ask ?_ (Snd.note fun h => ?_) (Snd.pure _)
  · cases v.isRow
    · exact Snd.fail _
    · exact Snd.pure _
  · cases v <;> simp [Cnd.ok, AV.isFsl] at h
    exact Snd.pure _

/-- a value as one of its type. -/
def castS (d : AD) (v : AV) : S AV :=
  match d with
  | .int k => S.must (v.isInt k) (S.pure (.int k v.intOf))
  | .bool => S.must v.isBool (S.pure (.bool v.boolOf))
  | .string => S.must v.isStr (S.pure (.str v.strOf))
  | .slice _ => castRow v
  | _ => S.pure v
theorem castS_snd (d : AD) (v : AV) : Snd (castS d v) (some v) := by
  unfold castS
  split
  · refine Snd.must fun h => ?_
    cases v <;> simp [AV.isInt] at h
    subst h; exact Snd.pure _
  · refine Snd.must fun h => ?_
    cases v <;> simp [AV.isBool] at h
    exact Snd.pure _
  · refine Snd.must fun h => ?_
    cases v <;> simp [AV.isStr] at h
    exact Snd.pure _
  · exact castRow_snd v
  · exact Snd.pure v

/-- an element of a list. -/
def atS (d : AD) (cs : List AV) (n : Nat) : S AV := S.must (Nat.ble (Nat.succ n) cs.length) (castS d ((listAt cs n).getD .undef))
theorem atS_snd (d : AD) (cs : List AV) (n : Nat) : Snd (atS d cs n) (listAt cs n) := by
  refine Snd.must fun h => ?_
  have hlt : n < cs.length := by
    have := Nat.le_of_ble_eq_true h; omega
  rw [listAt_eq, List.getElem?_eq_getElem hlt]
  exact castS_snd d _

/-! ### Memory -/
def cellsS (H : Heap) (p : Nat × Nat) (n : Nat) : S (List AV) :=
  match H.get p.1 with
  | .cells _ _ len cs => S.must (Nat.ble (p.2 + n) len) (S.pure (rowCut cs p.2 n))
  | _ => S.fail
theorem cellsS_snd (H : Heap) (p : Nat × Nat) (n : Nat) : Snd (cellsS H p n) (cellsAt H p n) := by
  unfold cellsS cellsAt
  cases hg : H.get p.1 <;> (try simp only)
  case cells own e len cs =>
    refine Snd.must fun h => ?_
    rw [if_pos (Nat.le_of_ble_eq_true h)]; exact Snd.pure _
  all_goals exact Snd.fail _

def storeS (H : Heap) (p : Nat × Nat) (vs : List AV) : S Heap :=
  match H.get p.1 with
  | .cells true e len cs => S.must (vs.all AV.isCell) (S.must (Nat.ble (p.2 + vs.length) len) (S.pure (H.put p.1 (.cells true e len (rowSet cs p.2 vs)))))
  | _ => S.fail
theorem storeS_snd (H : Heap) (p : Nat × Nat) (vs : List AV) : Snd (storeS H p vs) (storeAt H p vs) := by
  unfold storeS storeAt
  cases hg : H.get p.1 <;> (try simp only)
  case cells own e len cs =>
    cases own
    · exact Snd.fail _
    · try simp only
      refine Snd.must fun h1 => Snd.must fun h2 => ?_
      rw [if_pos ⟨h1, Nat.le_of_ble_eq_true h2⟩]; exact Snd.pure _
  all_goals first | exact Snd.fail _ | skip

def loadS0 (cx : Cx) (t : TypeId) (H : Heap) (x : AV) : S AV :=
  match cx.ty t, x with
  | some ty, .ptr (some p) =>
    cb (isAggB ty.desc) (S.bind (cellsS H p ty.size) fun cs => S.pure (.agg cs))
      (match H.get p.1 with
      | .cells _ _ len cs => S.must (Nat.ble (Nat.succ p.2) len) (atS ty.desc cs p.2)
      | _ => S.fail)
  | _, _ => S.fail
theorem loadS0_snd (cx : Cx) (t : TypeId) (H : Heap) (x : AV) : Snd (loadS0 cx t H x) (aLoad0 cx t H x) := by
  unfold loadS0 aLoad0
  cases ht : cx.ty t <;> (try simp only)
  · exact Snd.fail _
  rename_i ty
  cases x <;> try exact Snd.fail _
  rename_i p
  cases p
  · exact Snd.fail _
  rename_i p
  try simp only
  cases h : isAggB ty.desc with
  | true =>
    rw [if_pos rfl]
    exact Snd.bind (cellsS_snd H p _) fun cs _ => Snd.pure _
  | false =>
    rw [if_neg (by simp)]
    simp only [cb_false]
    cases hg : H.get p.1 <;> (try simp only)
    case cells own e len cs =>
      refine Snd.must fun h => ?_
      have h' : p.2 < len := Nat.le_of_ble_eq_true h
      rw [if_pos h']; exact atS_snd _ _ _
    all_goals exact Snd.fail _

def fLoadS (cx : Cx) (t : TypeId) (cs : List AV) : S AV :=
  S.bind (S.lift (cx.ty t)) fun ty => cb (isAggB ty.desc) (S.must (Nat.ble ty.size cs.length) (S.pure (.agg (rowCut cs 0 ty.size)))) (atS ty.desc cs 0)
theorem fLoadS_snd (cx : Cx) (t : TypeId) (cs : List AV) : Snd (fLoadS cx t cs) (fLoad cx t cs) :=
  Snd.bind (Snd.lift _) fun ty _ => Snd.cb_bool (Snd.cb_must fun _ => Snd.pure _) (atS_snd _ _ _)
def loadS (cx : Cx) (t : TypeId) (H : Heap) (x : AV) : S AV :=
  match x with
  | .fptr cs => fLoadS cx t cs
  | x => loadS0 cx t H x
theorem loadS_snd (cx : Cx) (t : TypeId) (H : Heap) (x : AV) : Snd (loadS cx t H x) (aLoad cx t H x) := by
  by_cases h : ∃ cs, x = .fptr cs
  · obtain ⟨cs, rfl⟩ := h; exact fLoadS_snd cx t cs
  · have e1 : loadS cx t H x = loadS0 cx t H x := by cases x <;> first | rfl | exact absurd ⟨_, rfl⟩ h
    have e2 : aLoad cx t H x = aLoad0 cx t H x := by cases x <;> first | rfl | exact absurd ⟨_, rfl⟩ h
    rw [e1, e2]; exact loadS0_snd cx t H x

def aStoreS (cx : Cx) (t : TypeId) (H : Heap) (x v : AV) : S Heap :=
  match cx.ty t, x with
  | some ty, .ptr (some p) => S.must (Nat.beq v.cells.length ty.size) (storeS H p v.cells)
  | _, _ => S.fail
theorem aStoreS_snd (cx : Cx) (t : TypeId) (H : Heap) (x v : AV) : Snd (aStoreS cx t H x v) (aStore cx t H x v) := by
  unfold aStoreS aStore
  cases ht : cx.ty t <;> (try simp only)
  · exact Snd.fail _
  cases x <;> try exact Snd.fail _
  rename_i p
  cases p
  · exact Snd.fail _
  try simp only
  refine Snd.must fun h => ?_
  rw [if_pos (Nat.eq_of_beq_eq_true h)]; exact storeS_snd _ _ _

def partS (cx : Cx) (t : TypeId) (cs : List AV) (off : Nat) : S AV :=
  match cx.ty t with
  | some ty => cb (isAggB ty.desc) (S.must (Nat.ble (off + ty.size) cs.length) (S.pure (.agg (rowCut cs off ty.size)))) (atS ty.desc cs off)
  | none => S.fail
theorem partS_snd (cx : Cx) (t : TypeId) (cs : List AV) (off : Nat) : Snd (partS cx t cs off) (aPart cx t cs off) := by
  unfold partS aPart
  cases ht : cx.ty t <;> (try simp only)
  · exact Snd.fail _
  rename_i ty
  cases h : isAggB ty.desc with
  | true =>
    rw [if_pos rfl]
    refine Snd.must fun h => ?_
    rw [if_pos (Nat.le_of_ble_eq_true h)]; exact Snd.pure _
  | false => rw [if_neg (by simp)]; exact atS_snd _ _ _

def fillS (place : Nat → Option (Nat × Nat)) (cells : List AV) : List (Nat × AV) → S (List AV)
  | [] => S.pure cells
  | (i, v) :: rest => S.bind (S.lift (place i)) fun q => S.must (Nat.beq v.cells.length q.2) (S.must (Nat.ble (q.1 + q.2) cells.length) (fillS place (rowSet cells q.1 v.cells) rest))
theorem fillS_snd (place : Nat → Option (Nat × Nat)) : ∀ (ps : List (Nat × AV)) (cells : List AV), Snd (fillS place cells ps) (fillParts place cells ps) := by
  intro ps
  induction ps with
  | nil => intro cells; exact Snd.pure _
  | cons p ps ih =>
    intro cells
    obtain ⟨i, v⟩ := p
    have : fillParts place cells ((i, v) :: ps) = (place i).ob fun q => if v.cells.length = q.2 ∧ q.1 + q.2 ≤ cells.length then fillParts place (rowSet cells q.1 v.cells) ps else none := by
      simp only [fillParts]
      cases place i <;> rfl
    rw [this]
    refine Snd.bind (Snd.lift _) fun q _ => Snd.must fun h1 => Snd.must fun h2 => ?_
    rw [if_pos ⟨Nat.eq_of_beq_eq_true h1, Nat.le_of_ble_eq_true h2⟩]
    exact ih _

def buildS (cx : Cx) (t : TypeId) (parts : List (Nat × AV)) : S AV :=
  match cx.ty t with
  | some ty =>
    match ty.desc with
    | .struct fs => S.bind (fillS (fun i => (listAt fs i).ob fun f => (cx.ty f.2).ob fun ft => some (f.1, ft.size)) ty.zero.cells parts) fun cs => S.pure (.agg cs)
    | .array _ e => match cx.ty e with
      | some et => S.bind (fillS (fun i => some (i * et.size, et.size)) ty.zero.cells parts) fun cs => S.pure (.agg cs)
      | none => S.fail
    | _ => S.fail
  | none => S.fail
theorem buildS_snd (cx : Cx) (t : TypeId) (parts : List (Nat × AV)) : Snd (buildS cx t parts) (aBuild cx t parts) := by
  unfold buildS aBuild
  cases ht : cx.ty t <;> (try simp only)
  · exact Snd.fail _
  rename_i ty
  cases hd : ty.desc <;> (try simp only) <;> try exact Snd.fail _
  · rename_i n e
    cases he : cx.ty e <;> (try simp only)
    · exact Snd.fail _
    · exact Snd.bind (fillS_snd _ _ _) fun cs _ => Snd.pure _
  · exact Snd.bind (fillS_snd _ _ _) fun cs _ => Snd.pure _

def buildSliceS (cx : Cx) (t : TypeId) (len : Nat) (parts : List (Nat × AV)) : S Made :=
  match cx.ty t with
  | some { desc := .slice e, .. } =>
    match cx.ty e with
    | some et => S.must (Nat.ble (len * et.size) 16777216) (S.bind (fillS (fun i => some (i * et.size, et.size)) (reps len et.zero.cells) parts) fun cs =>
          S.pure (fun b => .slice (some (b, 0)) len (some len), mkCells true e cs))
    | none => S.fail
  | _ => S.fail
theorem buildSliceS_snd (cx : Cx) (t : TypeId) (len : Nat) (parts : List (Nat × AV)) : Snd (buildSliceS cx t len parts) (aBuildSlice cx t len parts) := by
  unfold buildSliceS aBuildSlice
  cases ht : cx.ty t <;> (try simp only)
  · exact Snd.fail _
  rename_i ty
  obtain ⟨desc, size, bytes, zero, eqs⟩ := ty
  cases desc <;> try exact Snd.fail _
  rename_i e
  try simp only
  cases he : cx.ty e <;> (try simp only)
  · exact Snd.fail _
  refine Snd.must fun h => ?_
  rw [if_pos (Nat.le_of_ble_eq_true h)]
  exact Snd.bind (fillS_snd _ _ _) fun cs _ => Snd.pure _

def makeSliceS (cx : Cx) (t : TypeId) (l c : AV) : S Made :=
  match cx.ty t, l, c with
  | some { desc := .slice e, .. }, .int _ len, .int _ cap =>
    match cx.ty e with
    | some et => S.must (ileB 0 len) (S.must (ileB len cap) (S.must (iltB cap 9223372036854775808) (S.must (ileB (et.bytes * cap) 281474976710656)
        (S.pure (fun b => .slice (some (b, 0)) len.toNat (some cap.toNat), mkCells true e (reps cap.toNat et.zero.cells))))))
    | none => S.fail
  | _, _, _ => S.fail
theorem makeSliceS_snd (cx : Cx) (t : TypeId) (l c : AV) : Snd (makeSliceS cx t l c) (aMakeSlice cx t l c) := by
  unfold makeSliceS aMakeSlice
  cases ht : cx.ty t <;> (try simp only)
  · exact Snd.fail _
  rename_i ty
  obtain ⟨desc, size, bytes, zero, eqs⟩ := ty
  cases desc <;> try exact Snd.fail _
  cases l <;> try exact Snd.fail _
  cases c <;> try exact Snd.fail _
  rename_i e _ _ _ _
  try simp only
  cases he : cx.ty e <;> (try simp only)
  · exact Snd.fail _
  refine Snd.must fun h1 => Snd.must fun h2 => Snd.must fun h3 => Snd.must fun h4 => ?_
  rw [ileB_eq] at h1 h2 h4
  rw [iltB_eq] at h3
  rw [if_pos ⟨of_decide_eq_true h1, of_decide_eq_true h2, of_decide_eq_true h3, of_decide_eq_true h4⟩]
  exact Snd.pure _

/-! ### Numbers, texts -/
def intS (op : BinOp) (k : IntKind) (a b : Int) : S AV :=
  match op with
  | .quo => S.must (!(ieqB b 0)) (S.pure (.int k (wrapA k (a.tdiv b))))
  | .rem => S.must (!(ieqB b 0)) (S.pure (.int k (a.tmod b)))
  | op => S.lift (aInt op k a b)
theorem intS_snd (op : BinOp) (k : IntKind) (a b : Int) : Snd (intS op k a b) (aInt op k a b) := by
  unfold intS
  split
  · refine Snd.must fun h => ?_
    simp only [Bool.not_eq_true'] at h
    simp only [aInt, iQuo, h, cb_false]; exact Snd.pure _
  · refine Snd.must fun h => ?_
    simp only [Bool.not_eq_true'] at h
    simp only [aInt, iRem, h, cb_false]; exact Snd.pure _
  · exact Snd.lift _

def binIntS (op : BinOp) (k : IntKind) (a : Int) (k' : IntKind) (b : Int) : S AV :=
  match op with
  | .shl => S.must (!(iltB b 0)) (S.pure (.int k (shlN k a (shN k b.toNat))))
  | .shr => S.must (!(iltB b 0)) (S.pure (.int k (shrN a (shN k b.toNat))))
  | op => cb (decide (k = k')) (intS op k a b) S.fail
theorem binIntS_snd (op : BinOp) (k : IntKind) (a : Int) (k' : IntKind) (b : Int) : Snd (binIntS op k a k' b) (binInt op k a k' b) := by
  unfold binIntS
  split
  · refine Snd.must fun h => ?_
    simp only [Bool.not_eq_true'] at h
    simp only [binInt, shl, h, cb_false]; exact Snd.pure _
  · refine Snd.must fun h => ?_
    simp only [Bool.not_eq_true'] at h
    simp only [binInt, shr, h, cb_false]; exact Snd.pure _
  · rename_i h1 h2
    have e : binInt op k a k' b = if k = k' then aInt op k a b else none := by
      cases op <;> first | rfl | exact absurd rfl h1 | exact absurd rfl h2
    rw [e]
    by_cases hk : k = k'
    · rw [if_pos hk, decide_eq_true hk]; exact intS_snd op k a b
    · rw [if_neg hk, decide_eq_false hk]; exact Snd.fail _

def strS (op : BinOp) (a b : List UInt8) : S AV :=
  match op with
  | .add => S.must (Nat.ble (a.length + b.length) 9223372036854775807) (S.pure (.str (a ++ b)))
  | op => S.lift (aStr op a b)
theorem strS_snd (op : BinOp) (a b : List UInt8) : Snd (strS op a b) (aStr op a b) := by
  unfold strS
  split
  · refine Snd.must fun h => ?_
    simp only [aStr, sAdd]
    rw [if_pos (Nat.le_of_ble_eq_true h)]; exact Snd.pure _
  · exact Snd.lift _

abbrev EqS := TypeId → AV → AV → S Bool
def eqFieldsS (cx : Cx) (eq : EqS) (xs ys : List AV) : List (Nat × TypeId) → S Bool
  | [] => S.pure true
  | f :: fs => S.bind (partS cx f.2 xs f.1) fun x => S.bind (partS cx f.2 ys f.1) fun y => S.bind (eq f.2 x y) fun b => S.bind (eqFieldsS cx eq xs ys fs) fun c => S.pure (b && c)
def eqElemsS (cx : Cx) (eq : EqS) (e : TypeId) (sz : Nat) (xs ys : List AV) : Nat → Nat → S Bool
  | 0, _ => S.pure true
  | n + 1, i => S.bind (partS cx e xs (i * sz)) fun x => S.bind (partS cx e ys (i * sz)) fun y => S.bind (eq e x y) fun b => S.bind (eqElemsS cx eq e sz xs ys n (i + 1)) fun c => S.pure (b && c)
theorem andS_snd {m : S Bool} {o : Option Bool} (h : Snd m o) (b : Bool) : Snd (S.bind m fun c => S.pure (b && c)) (cb b o (some false)) := by
  cases b with
  | true =>
    intro q r q' c hm hh
    have := Snd.bind h (k := fun c => S.pure (true && c)) (f := fun c => some (true && c)) (fun a _ => Snd.pure _) q r q' c hm hh
    cases o with
    | none => cases this
    | some d => simpa using this
  | false =>
    intro q r q' c hm hh
    have := Snd.bind h (k := fun c => S.pure (false && c)) (f := fun c => some (false && c)) (fun a _ => Snd.pure _) q r q' c hm hh
    cases o with
    | none => cases this
    | some d => simpa using this
theorem eqFieldsS_snd (cx : Cx) {eqs : EqS} {eq : EqF} (h : ∀ t x y, Snd (eqs t x y) (eq t x y)) (xs ys : List AV) : ∀ fs, Snd (eqFieldsS cx eqs xs ys fs) (eqFields cx eq xs ys fs) := by
  intro fs
  induction fs with
  | nil => exact Snd.pure _
  | cons f fs ih => exact Snd.bind (partS_snd _ _ _ _) fun x _ => Snd.bind (partS_snd _ _ _ _) fun y _ => Snd.bind (h _ _ _) fun b _ => andS_snd ih b
theorem eqElemsS_snd (cx : Cx) {eqs : EqS} {eq : EqF} (h : ∀ t x y, Snd (eqs t x y) (eq t x y)) (e : TypeId) (sz : Nat) (xs ys : List AV) : ∀ n i, Snd (eqElemsS cx eqs e sz xs ys n i) (eqElems cx eq e sz xs ys n i) := by
  intro n
  induction n with
  | zero => intro i; exact Snd.pure _
  | succ n ih => intro i; exact Snd.bind (partS_snd _ _ _ _) fun x _ => Snd.bind (partS_snd _ _ _ _) fun y _ => Snd.bind (h _ _ _) fun b _ => andS_snd (ih _) b

def eqAtS (cx : Cx) (eqs : EqS) (eq : EqF) (ty : ATy) (x y : AV) : S Bool :=
  match ty.desc with
  | .struct fs => cb ty.eqs (S.bind (S.lift x.agg?) fun xs => S.bind (S.lift y.agg?) fun ys => eqFieldsS cx eqs xs ys fs) S.fail
  | .array n e => cb ty.eqs (S.bind (S.lift x.agg?) fun xs => S.bind (S.lift y.agg?) fun ys => S.bind (S.lift (cx.ty e)) fun et => eqElemsS cx eqs e et.size xs ys n 0) S.fail
  | _ => S.lift (eqAt cx eq ty x y)
theorem eqAtS_snd (cx : Cx) {eqs : EqS} {eq : EqF} (h : ∀ t x y, Snd (eqs t x y) (eq t x y)) (ty : ATy) (x y : AV) : Snd (eqAtS cx eqs eq ty x y) (eqAt cx eq ty x y) := by
  unfold eqAtS
  split
  · rename_i fs hd
    simp only [eqAt, hd, eqAgg]
    exact Snd.cb_bool (Snd.bind (Snd.lift _) fun xs _ => Snd.bind (Snd.lift _) fun ys _ => eqFieldsS_snd cx h xs ys fs) (Snd.fail _)
  · rename_i n e hd
    simp only [eqAt, hd, eqAgg]
    exact Snd.cb_bool (Snd.bind (Snd.lift _) fun xs _ => Snd.bind (Snd.lift _) fun ys _ => Snd.bind (Snd.lift _) fun et _ => eqElemsS_snd cx h e et.size xs ys n 0) (Snd.fail _)
  · exact Snd.lift _
def eqS (cx : Cx) : Nat → EqS
  | 0, _, _, _ => S.fail
  | d + 1, t, x, y => S.bind (S.lift (cx.ty t)) fun ty => eqAtS cx (eqS cx d) (aEq cx d) ty x y
theorem eqS_snd (cx : Cx) : ∀ d t x y, Snd (eqS cx d t x y) (aEq cx d t x y) := by
  intro d
  induction d with
  | zero => intro t x y; exact Snd.fail _
  | succ d ih => intro t x y; exact Snd.bind (Snd.lift _) fun ty _ => eqAtS_snd cx ih ty x y

def binOtherS0 (cx : Cx) (op : BinOp) (t : TypeId) (x y : AV) : S AV :=
  match op with
  | .eql => S.bind (eqS cx 100 t x y) fun b => S.pure (.bool b)
  | .neq => S.bind (eqS cx 100 t x y) fun b => S.pure (.bool !b)
  | _ => S.fail
def binOtherS (cx : Cx) (op : BinOp) (t : TypeId) (x y : AV) : S AV :=
  match x with
  | .fsl nl _ _ => cb y.isNil (S.lift (fNil cx op t nl)) S.fail
  | x => match y with
    | .fsl nl _ _ => cb x.isNil (S.lift (fNil cx op t nl)) S.fail
    | y => binOtherS0 cx op t x y
theorem binOtherS0_snd (cx : Cx) (op : BinOp) (t : TypeId) (x y : AV) : Snd (binOtherS0 cx op t x y) (binOther0 cx op t x y) := by
  unfold binOtherS0 binOther0
  split
  · exact Snd.bind (eqS_snd cx 100 t x y) fun b _ => Snd.pure _
  · exact Snd.bind (eqS_snd cx 100 t x y) fun b _ => Snd.pure _
  · exact Snd.fail _
theorem binOtherS_snd (cx : Cx) (op : BinOp) (t : TypeId) (x y : AV) : Snd (binOtherS cx op t x y) (binOther cx op t x y) := by
  by_cases h : ∃ a b cs, x = .fsl a b cs
  · obtain ⟨a, b, cs, rfl⟩ := h; exact Snd.cb_bool (Snd.lift _) (Snd.fail _)
  · by_cases h2 : ∃ a b cs, y = .fsl a b cs
    · obtain ⟨a, b, cs, rfl⟩ := h2
      have e1 : binOtherS cx op t x (.fsl a b cs) = cb x.isNil (S.lift (fNil cx op t a)) S.fail := by cases x <;> first | rfl | exact absurd ⟨_, _, _, rfl⟩ h
      have e2 : binOther cx op t x (.fsl a b cs) = cb x.isNil (fNil cx op t a) none := by cases x <;> first | rfl | exact absurd ⟨_, _, _, rfl⟩ h
      rw [e1, e2]; exact Snd.cb_bool (Snd.lift _) (Snd.fail _)
    · have e1 : binOtherS cx op t x y = binOtherS0 cx op t x y := by cases x <;> first | exact absurd ⟨_, _, _, rfl⟩ h | (cases y <;> first | rfl | exact absurd ⟨_, _, _, rfl⟩ h2)
      have e2 : binOther cx op t x y = binOther0 cx op t x y := by cases x <;> first | exact absurd ⟨_, _, _, rfl⟩ h | (cases y <;> first | rfl | exact absurd ⟨_, _, _, rfl⟩ h2)
      rw [e1, e2]; exact binOtherS0_snd _ _ _ _ _
def binS (cx : Cx) (op : BinOp) (t : TypeId) (x y : AV) : S AV :=
  match x with
  | .int k a => S.bind (S.lift y.int?) fun b => binIntS op k a b.1 b.2
  | .str a => S.bind (S.lift y.str?) fun b => strS op a b
  | .any => S.fail
  | x => binOtherS cx op t x y
theorem binS_snd (cx : Cx) (op : BinOp) (t : TypeId) (x y : AV) : Snd (binS cx op t x y) (aBin cx op t x y) := by
  by_cases h1 : ∃ k a, x = .int k a
  · obtain ⟨k, a, rfl⟩ := h1; exact Snd.bind (Snd.lift _) fun b _ => binIntS_snd _ _ _ _ _
  by_cases h2 : ∃ a, x = .str a
  · obtain ⟨a, rfl⟩ := h2; exact Snd.bind (Snd.lift _) fun b _ => strS_snd _ _ _
  by_cases h3 : x = .any
  · subst h3; exact Snd.fail _
  have e1 : binS cx op t x y = binOtherS cx op t x y := by cases x <;> first | rfl | exact absurd ⟨_, _, rfl⟩ h1 | exact absurd ⟨_, rfl⟩ h2 | exact absurd rfl h3
  have e2 : aBin cx op t x y = binOther cx op t x y := by cases x <;> first | rfl | exact absurd ⟨_, _, rfl⟩ h1 | exact absurd ⟨_, rfl⟩ h2 | exact absurd rfl h3
  rw [e1, e2]; exact binOtherS_snd _ _ _ _ _
end Go.Ab
end
end

/- The symbolic machine: conversions, pieces, appends, maps; operations, regions, code, calls. -/
section
set_option autoImplicit false
set_option linter.unusedVariables false
set_option linter.unusedSimpArgs false
noncomputable section
namespace Go.Ab

/-! ### Conversions -/
def sliceStrS (cx : Cx) (e : TypeId) (x : AV) (H : Heap) : S AV :=
  S.bind (S.lift x.slice?) fun a => cb (isU8 cx e) (match a.1 with
    | none => S.pure (.str [])
    | some p => S.bind (cellsS H p a.2.1) fun cs => S.must (bytesOf cs).isSome (S.pure (.str ((bytesOf cs).getD [])))) S.fail
theorem sliceStrS_snd (cx : Cx) (e : TypeId) (x : AV) (H : Heap) : Snd (sliceStrS cx e x H) (sliceStr cx e x H) := by
  refine Snd.bind (Snd.lift _) fun a _ => Snd.cb_bool ?_ (Snd.fail _)
  cases a.1 with
  | none => exact Snd.pure _
  | some p =>
    refine Snd.bind (cellsS_snd H p _) fun cs _ => Snd.must fun h => ?_
    obtain ⟨l, hl⟩ := Option.isSome_iff_exists.1 h
    rw [hl]; exact Snd.pure _

def convStrS (cx : Cx) (s : ATy) (x : AV) (H : Heap) : S AV :=
  match s.desc with
  | .slice e => sliceStrS cx e x H
  | _ => S.lift (convStr cx s x H)
theorem convStrS_snd (cx : Cx) (s : ATy) (x : AV) (H : Heap) : Snd (convStrS cx s x H) (convStr cx s x H) := by
  unfold convStrS
  split
  · rename_i e h; simp only [convStr, h]; exact sliceStrS_snd _ _ _ _
  · exact Snd.lift _

def convSliceS (cx : Cx) (same : Bool) (s : ATy) (e : TypeId) (x : AV) (H : Heap) : S AV :=
  match s.desc with
  | .slice _ => S.bind (S.lift x.slice?) fun a => S.must (same && isU8 cx e && isOwn H a.1 && Nat.ble 1 a.2.1) (S.pure (.slice a.1 a.2.1 a.2.2))
  | _ => S.fail
theorem convSliceS_snd (cx : Cx) (same : Bool) (s : ATy) (e : TypeId) (x : AV) (H : Heap) : Snd (convSliceS cx same s e x H) (convSlice cx same s e x H) := by
  unfold convSliceS convSlice
  cases s.desc <;> (try simp only) <;> try exact Snd.fail _
  exact Snd.bind (Snd.lift _) fun a _ => Snd.cb_must fun _ => Snd.pure _

def convS0 (cx : Cx) (src dst : TypeId) (x : AV) (H : Heap) : S AV :=
  S.bind (S.lift (cx.ty src)) fun s => S.bind (S.lift (cx.ty dst)) fun d =>
    match d.desc with
    | .int k => S.lift (convInt k x)
    | .string => convStrS cx s x H
    | .slice e => convSliceS cx (decide (src = dst)) s e x H
    | _ => S.fail
theorem convS0_snd (cx : Cx) (src dst : TypeId) (x : AV) (H : Heap) : Snd (convS0 cx src dst x H) (aConv0 cx src dst x H) := by
  refine Snd.bind (Snd.lift _) fun s _ => Snd.bind (Snd.lift _) fun d _ => ?_
  cases d.desc <;> (try simp only) <;> try exact Snd.fail _
  · exact Snd.lift _
  · exact convStrS_snd _ _ _ _
  · exact convSliceS_snd _ _ _ _ _ _

def fStrS (cx : Cx) (src dst : TypeId) (nl : Bool) (len : Nat) (cs : List AV) : S AV :=
  S.bind (S.lift (cx.ty src)) fun s => S.bind (S.lift (cx.ty dst)) fun d =>
    match d.desc with
    | .string => match s.desc with
      | .slice e => cb (isU8 cx e) (S.must (Nat.beq cs.length len) (S.must (bytesOf cs).isSome (S.pure (.str ((bytesOf cs).getD []))))) S.fail
      | _ => S.fail
    | _ => S.fail
theorem fStrS_snd (cx : Cx) (src dst : TypeId) (nl : Bool) (len : Nat) (cs : List AV) : Snd (fStrS cx src dst nl len cs) (fStr cx src dst nl len cs) := by
  refine Snd.bind (Snd.lift _) fun s _ => Snd.bind (Snd.lift _) fun d _ => ?_
  cases d.desc <;> (try simp only) <;> try exact Snd.fail _
  cases s.desc <;> (try simp only) <;> try exact Snd.fail _
  rename_i e
  cases isU8 cx e with
  | false => exact Snd.fail _
  | true =>
    refine Snd.must fun h1 => Snd.must fun h2 => ?_
    obtain ⟨l, hl⟩ := Option.isSome_iff_exists.1 h2
    rw [h1, hl]; exact Snd.pure _
def convS (cx : Cx) (src dst : TypeId) (x : AV) (H : Heap) : S AV :=
  match x with
  | .fsl nl len cs => fStrS cx src dst nl len cs
  | x => convS0 cx src dst x H
theorem convS_snd (cx : Cx) (src dst : TypeId) (x : AV) (H : Heap) : Snd (convS cx src dst x H) (aConv cx src dst x H) := by
  by_cases h : ∃ a b cs, x = .fsl a b cs
  · obtain ⟨a, b, cs, rfl⟩ := h; exact fStrS_snd cx src dst a b cs
  · have e1 : convS cx src dst x H = convS0 cx src dst x H := by cases x <;> first | rfl | exact absurd ⟨_, _, _, rfl⟩ h
    have e2 : aConv cx src dst x H = aConv0 cx src dst x H := by cases x <;> first | rfl | exact absurd ⟨_, _, _, rfl⟩ h
    rw [e1, e2]; exact convS0_snd _ _ _ _ _

/-! ### Pieces -/
def boundIntS (i : Int) (most : Nat) : S Nat := S.must (ileB 0 i) (S.must (Nat.ble i.toNat most) (S.pure i.toNat))
theorem boundIntS_snd (i : Int) (most : Nat) : Snd (boundIntS i most) (boundInt i most) := by
  refine Snd.must fun h1 => Snd.must fun h2 => ?_
  cases i with
  | ofNat n => simp only [boundInt]; rw [show Nat.ble n most = true from h2, cb_true]; exact Snd.pure _
  | negSucc n => simp [ileB, iltB] at h1
def boundOfS (x : Option AV) (d most : Nat) : S Nat :=
  match x with
  | none => S.pure d
  | some v => S.bind (S.lift v.int?) fun a => boundIntS a.2 most
theorem boundOfS_snd (x : Option AV) (d most : Nat) : Snd (boundOfS x d most) (boundOf x d most) := by
  cases x with
  | none => exact Snd.pure _
  | some v => exact Snd.bind (Snd.lift _) fun a _ => boundIntS_snd _ _

def sliceStrAtS (s : List UInt8) (lo hi mx : Option AV) : S AV :=
  cb mx.isSome S.fail (S.bind (boundOfS hi s.length s.length) fun h => S.bind (boundOfS lo 0 h) fun l => S.pure (.str (List.take (h - l) (List.drop l s))))
def sliceRowS (size : Nat) (p : Option (Nat × Nat)) (len cap : Nat) (lo hi mx : Option AV) : S AV :=
  cb (mx.isSome && hi.isNone) S.fail (S.bind (boundOfS mx cap cap) fun m => S.bind (boundOfS hi len m) fun h => S.bind (boundOfS lo 0 h) fun l =>
    S.pure (.slice (p.map fun a => place a (l * size)) (h - l) (some (m - l))))
def sliceOpenS (size : Nat) (a : Nat × Nat) (len : Nat) (lo hi : Option AV) : S AV :=
  S.bind (boundOfS hi len len) fun h => S.bind (boundOfS lo 0 h) fun l => S.pure (.slice (some (place a (l * size))) (h - l) none)
def sliceSliceS (size : Nat) (x : Option (Nat × Nat) × Nat × Option Nat) (lo hi mx : Option AV) : S AV :=
  match x.2.2 with
  | some cap => sliceRowS size x.1 x.2.1 cap lo hi mx
  | none => match x.1 with
    | none => S.fail
    | some a => cb mx.isSome (sliceRowS size (some a) x.2.1 x.2.1 lo hi mx) (sliceOpenS size a x.2.1 lo hi)
theorem sliceStrAtS_snd (s : List UInt8) (lo hi mx : Option AV) : Snd (sliceStrAtS s lo hi mx) (sliceStrAt s lo hi mx) :=
  Snd.cb_bool (Snd.fail _) (Snd.bind (boundOfS_snd _ _ _) fun h _ => Snd.bind (boundOfS_snd _ _ _) fun l _ => Snd.pure _)
theorem sliceRowS_snd (size : Nat) (p : Option (Nat × Nat)) (len cap : Nat) (lo hi mx : Option AV) : Snd (sliceRowS size p len cap lo hi mx) (sliceRow size p len cap lo hi mx) :=
  Snd.cb_bool (Snd.fail _) (Snd.bind (boundOfS_snd _ _ _) fun m _ => Snd.bind (boundOfS_snd _ _ _) fun h _ => Snd.bind (boundOfS_snd _ _ _) fun l _ => Snd.pure _)
theorem sliceSliceS_snd (size : Nat) (x : Option (Nat × Nat) × Nat × Option Nat) (lo hi mx : Option AV) : Snd (sliceSliceS size x lo hi mx) (sliceSlice size x lo hi mx) := by
  obtain ⟨p, l, c⟩ := x
  cases c with
  | some c => exact sliceRowS_snd _ _ _ _ _ _ _
  | none => cases p with
    | none => exact Snd.fail _
    | some a => exact Snd.cb_bool (sliceRowS_snd _ _ _ _ _ _ _) (Snd.bind (boundOfS_snd _ _ _) fun h _ => Snd.bind (boundOfS_snd _ _ _) fun l _ => Snd.pure _)

def sliceS0 (cx : Cx) (t : TypeId) (x : AV) (lo hi mx : Option AV) : S AV :=
  S.bind (S.lift (cx.ty t)) fun ty =>
    match ty.desc with
    | .string => S.bind (S.lift x.str?) fun s => sliceStrAtS s lo hi mx
    | .slice e => S.bind (S.lift (cx.ty e)) fun et => S.bind (S.lift x.slice?) fun s => sliceSliceS et.size s lo hi mx
    | .array n e => S.bind (S.lift (cx.ty e)) fun et => S.bind (S.lift x.ptr?) fun p => cb p.isSome (sliceRowS et.size p n n lo hi mx) S.fail
    | _ => S.fail
theorem sliceS0_snd (cx : Cx) (t : TypeId) (x : AV) (lo hi mx : Option AV) : Snd (sliceS0 cx t x lo hi mx) (aSlice0 cx t x lo hi mx) := by
  refine Snd.bind (Snd.lift _) fun ty _ => ?_
  cases ty.desc <;> (try simp only) <;> try exact Snd.fail _
  · exact Snd.bind (Snd.lift _) fun s _ => sliceStrAtS_snd _ _ _ _
  · exact Snd.bind (Snd.lift _) fun et _ => Snd.bind (Snd.lift _) fun s _ => sliceSliceS_snd _ _ _ _ _
  · exact Snd.bind (Snd.lift _) fun et _ => Snd.bind (Snd.lift _) fun p _ => Snd.cb_bool (sliceRowS_snd _ _ _ _ _ _ _) (Snd.fail _)

def fCutS (size : Nat) (nl : Bool) (len : Nat) (cs : List AV) (lo hi mx : Option AV) : S AV :=
  cb mx.isSome S.fail (S.must (Nat.beq cs.length (Nat.mul len size)) (S.bind (boundOfS hi len len) fun h => S.bind (boundOfS lo 0 h) fun l => S.pure (.fsl nl (h - l) (rowCut cs (l * size) ((h - l) * size)))))
theorem fCutS_snd (size : Nat) (nl : Bool) (len : Nat) (cs : List AV) (lo hi mx : Option AV) : Snd (fCutS size nl len cs lo hi mx) (fCut size nl len cs lo hi mx) := by
  unfold fCutS fCut
  cases mx.isSome with
  | true => exact Snd.fail _
  | false =>
    refine Snd.must fun h => ?_
    rw [h]
    exact Snd.bind (boundOfS_snd _ _ _) fun h _ => Snd.bind (boundOfS_snd _ _ _) fun l _ => Snd.pure _
def fSliceS (cx : Cx) (t : TypeId) (nl : Bool) (len : Nat) (cs : List AV) (lo hi mx : Option AV) : S AV :=
  S.bind (S.lift (cx.ty t)) fun ty =>
    match ty.desc with
    | .slice e => S.bind (S.lift (cx.ty e)) fun et => fCutS et.size nl len cs lo hi mx
    | _ => S.fail
theorem fSliceS_snd (cx : Cx) (t : TypeId) (nl : Bool) (len : Nat) (cs : List AV) (lo hi mx : Option AV) : Snd (fSliceS cx t nl len cs lo hi mx) (fSlice cx t nl len cs lo hi mx) := by
  refine Snd.bind (Snd.lift _) fun ty _ => ?_
  cases ty.desc <;> (try simp only) <;> try exact Snd.fail _
  exact Snd.bind (Snd.lift _) fun et _ => fCutS_snd _ _ _ _ _ _ _
def sliceS (cx : Cx) (t : TypeId) (x : AV) (lo hi mx : Option AV) : S AV :=
  match x with
  | .fsl nl len cs => fSliceS cx t nl len cs lo hi mx
  | x => sliceS0 cx t x lo hi mx
theorem sliceS_snd (cx : Cx) (t : TypeId) (x : AV) (lo hi mx : Option AV) : Snd (sliceS cx t x lo hi mx) (aSlice cx t x lo hi mx) := by
  by_cases h : ∃ a b cs, x = .fsl a b cs
  · obtain ⟨a, b, cs, rfl⟩ := h; exact fSliceS_snd cx t a b cs lo hi mx
  · have e1 : sliceS cx t x lo hi mx = sliceS0 cx t x lo hi mx := by cases x <;> first | rfl | exact absurd ⟨_, _, _, rfl⟩ h
    have e2 : aSlice cx t x lo hi mx = aSlice0 cx t x lo hi mx := by cases x <;> first | rfl | exact absurd ⟨_, _, _, rfl⟩ h
    rw [e1, e2]; exact sliceS0_snd _ _ _ _ _ _

def addrS (cx : Cx) (e : TypeId) (p : Option (Nat × Nat)) (i : Int) (n : Nat) : S AV :=
  S.must (ileB 0 i) (S.must (Nat.ble (Nat.succ i.toNat) n) (S.bind (S.lift (cx.ty e)) fun et => S.bind (S.lift p) fun a => S.pure (.ptr (some (place a (i.toNat * et.size))))))
theorem inRange_of {i : Int} {n : Nat} (h1 : ileB 0 i = true) (h2 : Nat.ble (Nat.succ i.toNat) n = true) : inRange i n = true := by
  cases i with
  | ofNat m => exact h2
  | negSucc m => simp [ileB, iltB] at h1
theorem addrS_snd (cx : Cx) (e : TypeId) (p : Option (Nat × Nat)) (i : Int) (n : Nat) : Snd (addrS cx e p i n) (addrAt cx e p i n) := by
  refine Snd.must fun h1 => Snd.must fun h2 => ?_
  unfold addrAt
  rw [inRange_of h1 h2, cb_true]
  exact Snd.bind (Snd.lift _) fun et _ => Snd.bind (Snd.lift _) fun a _ => Snd.pure _

def indexAddrS0 (cx : Cx) (t : TypeId) (x i : AV) : S AV :=
  S.bind (S.lift i.int?) fun i => S.bind (S.lift (cx.ty t)) fun ty =>
    match ty.desc with
    | .slice e => S.bind (S.lift x.slice?) fun s => addrS cx e s.1 i.2 s.2.1
    | .array n e => S.bind (S.lift x.ptr?) fun p => addrS cx e p i.2 n
    | _ => S.fail
theorem indexAddrS0_snd (cx : Cx) (t : TypeId) (x i : AV) : Snd (indexAddrS0 cx t x i) (aIndexAddr0 cx t x i) := by
  refine Snd.bind (Snd.lift _) fun i _ => Snd.bind (Snd.lift _) fun ty _ => ?_
  cases ty.desc <;> (try simp only) <;> try exact Snd.fail _
  · exact Snd.bind (Snd.lift _) fun s _ => addrS_snd _ _ _ _ _
  · exact Snd.bind (Snd.lift _) fun s _ => addrS_snd _ _ _ _ _

def fIndexS (cx : Cx) (t : TypeId) (len : Nat) (cs : List AV) (i : AV) : S AV :=
  S.bind (S.lift i.int?) fun i => S.bind (S.lift (cx.ty t)) fun ty =>
    match ty.desc with
    | .slice e => S.bind (S.lift (cx.ty e)) fun et => S.must (ileB 0 i.2) (S.must (Nat.ble (Nat.succ i.2.toNat) len) (S.must (Nat.beq cs.length (Nat.mul len et.size)) (S.pure (.fptr (List.drop (i.2.toNat * et.size) cs)))))
    | _ => S.fail
theorem fIndexS_snd (cx : Cx) (t : TypeId) (len : Nat) (cs : List AV) (i : AV) : Snd (fIndexS cx t len cs i) (fIndex cx t len cs i) := by
  refine Snd.bind (Snd.lift _) fun i _ => Snd.bind (Snd.lift _) fun ty _ => ?_
  cases ty.desc <;> (try simp only) <;> try exact Snd.fail _
  refine Snd.bind (Snd.lift _) fun et _ => Snd.must fun h1 => Snd.must fun h2 => Snd.must fun h3 => ?_
  rw [inRange_of h1 h2, h3]; exact Snd.pure _
def indexAddrS (cx : Cx) (t : TypeId) (x i : AV) : S AV :=
  match x with
  | .fsl _ len cs => fIndexS cx t len cs i
  | x => indexAddrS0 cx t x i
theorem indexAddrS_snd (cx : Cx) (t : TypeId) (x i : AV) : Snd (indexAddrS cx t x i) (aIndexAddr cx t x i) := by
  by_cases h : ∃ a b cs, x = .fsl a b cs
  · obtain ⟨a, b, cs, rfl⟩ := h; exact fIndexS_snd cx t b cs i
  · have e1 : indexAddrS cx t x i = indexAddrS0 cx t x i := by cases x <;> first | rfl | exact absurd ⟨_, _, _, rfl⟩ h
    have e2 : aIndexAddr cx t x i = aIndexAddr0 cx t x i := by cases x <;> first | rfl | exact absurd ⟨_, _, _, rfl⟩ h
    rw [e1, e2]; exact indexAddrS0_snd _ _ _ _
def fFieldS (cx : Cx) (t : TypeId) (cs : List AV) (f : Nat) : S AV :=
  S.bind (S.lift (fieldsOf cx t)) fun fs => S.bind (S.lift (listAt fs f)) fun g => S.bind (S.lift (cx.ty g.2)) fun ft => S.must (Nat.ble 1 ft.size && Nat.ble (g.1 + ft.size) cs.length) (S.pure (.fptr (List.drop g.1 cs)))
theorem fFieldS_snd (cx : Cx) (t : TypeId) (cs : List AV) (f : Nat) : Snd (fFieldS cx t cs f) (fField cx t cs f) :=
  Snd.bind (Snd.lift _) fun fs _ => Snd.bind (Snd.lift _) fun g _ => Snd.bind (Snd.lift _) fun ft _ => Snd.cb_must fun _ => Snd.pure _
def fieldAddrS (cx : Cx) (t : TypeId) (x : AV) (f : Nat) : S AV :=
  match x with
  | .fptr cs => fFieldS cx t cs f
  | x => S.lift (aFieldAddr cx t x f)
theorem fieldAddrS_snd (cx : Cx) (t : TypeId) (x : AV) (f : Nat) : Snd (fieldAddrS cx t x f) (aFieldAddr cx t x f) := by
  by_cases h : ∃ cs, x = .fptr cs
  · obtain ⟨cs, rfl⟩ := h; exact fFieldS_snd cx t cs f
  · have e1 : fieldAddrS cx t x f = S.lift (aFieldAddr cx t x f) := by cases x <;> first | rfl | exact absurd ⟨_, rfl⟩ h
    rw [e1]; exact Snd.lift _

def strAtS (s : List UInt8) (i : Int) : S AV := S.must (ileB 0 i) (S.must (Nat.ble (Nat.succ i.toNat) s.length) (S.pure (.int .u8 ((listAt s i.toNat).getD 0).toNat)))
theorem strAtS_snd (s : List UInt8) (i : Int) : Snd (strAtS s i) (strAt s i) := by
  refine Snd.must fun h1 => Snd.must fun h2 => ?_
  unfold strAt
  have hlt : i.toNat < s.length := Nat.le_of_ble_eq_true h2
  rw [h1, cb_true, listAt_eq, List.getElem?_eq_getElem hlt]
  exact Snd.pure _
def indexS (cx : Cx) (t : TypeId) (x i : AV) : S AV :=
  S.bind (S.lift i.int?) fun i => S.bind (S.lift (cx.ty t)) fun ty =>
    match ty.desc with
    | .array n e => S.bind (S.lift x.agg?) fun cs => S.must (ileB 0 i.2) (S.must (Nat.ble (Nat.succ i.2.toNat) n) (S.bind (S.lift (cx.ty e)) fun et => partS cx e cs (i.2.toNat * et.size)))
    | .string => S.bind (S.lift x.str?) fun s => strAtS s i.2
    | _ => S.fail
theorem indexS_snd (cx : Cx) (t : TypeId) (x i : AV) : Snd (indexS cx t x i) (aIndex cx t x i) := by
  refine Snd.bind (Snd.lift _) fun i _ => Snd.bind (Snd.lift _) fun ty _ => ?_
  cases ty.desc <;> (try simp only) <;> try exact Snd.fail _
  · exact Snd.bind (Snd.lift _) fun s _ => strAtS_snd _ _
  · refine Snd.bind (Snd.lift _) fun cs _ => Snd.must fun h1 => Snd.must fun h2 => ?_
    rw [inRange_of h1 h2, cb_true]
    exact Snd.bind (Snd.lift _) fun et _ => partS_snd _ _ _ _

def fieldS (cx : Cx) (t : TypeId) (x : AV) (f : Nat) : S AV :=
  S.bind (S.lift (fieldsOf cx t)) fun fs => S.bind (S.lift (listAt fs f)) fun g => S.bind (S.lift x.agg?) fun cs => partS cx g.2 cs g.1
theorem fieldS_snd (cx : Cx) (t : TypeId) (x : AV) (f : Nat) : Snd (fieldS cx t x f) (aField cx t x f) :=
  Snd.bind (Snd.lift _) fun fs _ => Snd.bind (Snd.lift _) fun g _ => Snd.bind (Snd.lift _) fun cs _ => partS_snd _ _ _ _

/-! ### Append, copy -/
def srcS (size : Nat) (H : Heap) (x : AV) : S (Nat × List AV) :=
  match x with
  | .slice (some p) l _ => S.bind (cellsS H p (l * size)) fun cs => S.pure (l, cs)
  | .fsl _ len cs => S.must (Nat.beq cs.length (Nat.mul len size)) (S.pure (len, cs))
  | x => S.lift (srcCells size H x)
theorem srcS_snd (size : Nat) (H : Heap) (x : AV) : Snd (srcS size H x) (srcCells size H x) := by
  unfold srcS
  split
  · exact Snd.bind (cellsS_snd _ _ _) fun cs _ => Snd.pure _
  · exact Snd.cb_must fun _ => Snd.pure _
  · exact Snd.lift _
def zeroS (et : ATy) (x : AV) : S (Nat × List AV) :=
  S.bind (S.lift x.int?) fun a => S.must (ileB 0 a.2) (S.must (iltB a.2 9223372036854775808) (S.must (ileB (a.2 * et.bytes) 281474976710656) (S.pure (a.2.toNat, reps a.2.toNat et.zero.cells))))
theorem zeroS_snd (et : ATy) (x : AV) : Snd (zeroS et x) (zeroCells et x) := by
  refine Snd.bind (Snd.lift _) fun a _ => Snd.must fun h1 => Snd.must fun h2 => Snd.must fun h3 => ?_
  rw [ileB_eq] at h1 h3
  rw [iltB_eq] at h2
  rw [if_pos ⟨of_decide_eq_true h1, of_decide_eq_true h2, of_decide_eq_true h3⟩]
  exact Snd.pure _

def appOwnS (e : TypeId) (size : Nat) (a : Nat × Nat) (len : Nat) (nc : Nat × List AV) (H : Heap) : S (AV × Heap) :=
  match H.get a.1 with
  | .cells true e' n cs => cb (Nat.beq a.2 0 && Nat.beq e' e) (S.must (Nat.beq n (len * size)) (S.must (nc.2.all AV.isCell) (S.pure (appNew e (len + nc.1) (cs ++ nc.2) (H.put a.1 .dead))))) S.fail
  | _ => S.fail
theorem appOwnS_snd (e : TypeId) (size : Nat) (a : Nat × Nat) (len : Nat) (nc : Nat × List AV) (H : Heap) : Snd (appOwnS e size a len nc H) (appOwn e size a len nc H) := by
  unfold appOwnS appOwn
  cases hg : H.get a.1 <;> (try simp only) <;> try exact Snd.fail _
  rename_i own e' n cs
  cases own
  · exact Snd.fail _
  · try simp only
    cases hc : (Nat.beq a.2 0 && Nat.beq e' e) with
    | false => exact Snd.fail _
    | true =>
      rw [cb_true]
      rw [Bool.and_eq_true] at hc
      refine Snd.must fun h1 => Snd.must fun h2 => ?_
      rw [if_pos ⟨Nat.eq_of_beq_eq_true hc.1, Nat.eq_of_beq_eq_true hc.2, Nat.eq_of_beq_eq_true h1, h2⟩]
      exact Snd.pure _
def appToS (e : TypeId) (size : Nat) (s : Option (Nat × Nat) × Nat × Option Nat) (nc : Nat × List AV) (H : Heap) : S (AV × Heap) :=
  match s.1 with
  | none => S.lift (appTo e size s nc H)
  | some a => match s.2.2 with
    | none => appOwnS e size a s.2.1 nc H
    | some c => S.test (Nat.ble (Nat.succ c) (s.2.1 + nc.1)) (S.bind (cellsS H a (s.2.1 * size)) fun old => S.pure (appNew e (s.2.1 + nc.1) (old ++ nc.2) H))
        (S.bind (storeS H (place a (s.2.1 * size)) nc.2) fun H' => S.pure (.slice (some a) (s.2.1 + nc.1) (some c), H'))
theorem appToS_snd (e : TypeId) (size : Nat) (s : Option (Nat × Nat) × Nat × Option Nat) (nc : Nat × List AV) (H : Heap) : Snd (appToS e size s nc H) (appTo e size s nc H) := by
  obtain ⟨p, l, c⟩ := s
  cases p with
  | none => exact Snd.lift _
  | some a =>
    cases c with
    | none => exact appOwnS_snd _ _ _ _ _ _
    | some c =>
      refine Snd.test (fun h => ?_) (fun h => ?_)
      · have h' : c < l + nc.1 := Nat.le_of_ble_eq_true h
        simp only [appTo]
        rw [if_pos h']
        exact Snd.bind (cellsS_snd _ _ _) fun old _ => Snd.pure _
      · have h' : ¬ c < l + nc.1 := by
          intro hh
          have : Nat.ble (Nat.succ c) (l + nc.1) = true := Nat.ble_eq_true_of_le hh
          simp only at h
          rw [this] at h; cases h
        simp only [appTo]
        rw [if_neg h']
        exact Snd.bind (storeS_snd _ _ _) fun H' _ => Snd.pure _

def appendS (cx : Cx) (t u : TypeId) (s x : AV) (H : Heap) : S (AV × Heap) :=
  S.bind (S.lift (isSliceT cx t)) fun e => S.bind (S.lift (cx.ty e)) fun et => S.bind (S.lift s.slice?) fun s => S.bind (S.lift (isIntT cx u)) fun z => S.bind (cb z (zeroS et x) (srcS et.size H x)) fun nc =>
    S.test (Nat.beq nc.1 0) (S.pure (.slice s.1 s.2.1 s.2.2, H)) (cb (Nat.beq et.size 0) S.fail (S.must (appRoom et.bytes s.2.1 nc.1) (appToS e et.size s nc H)))
theorem appendS_snd (cx : Cx) (t u : TypeId) (s x : AV) (H : Heap) : Snd (appendS cx t u s x H) (aAppend cx t u s x H) := by
  refine Snd.bind (Snd.lift _) fun e _ => Snd.bind (Snd.lift _) fun et _ => Snd.bind (Snd.lift _) fun s _ => Snd.bind (Snd.lift _) fun z _ =>
    Snd.bind (Snd.cb_bool (zeroS_snd _ _) (srcS_snd _ _ _)) fun nc _ => Snd.test (fun h => ?_) (fun h => ?_)
  · rw [if_pos (Nat.eq_of_beq_eq_true h)]; exact Snd.pure _
  · rw [if_neg (fun e => by rw [nbeq, decide_eq_true e] at h; cases h)]
    cases hs : Nat.beq et.size 0 with
    | true => exact Snd.fail _
    | false =>
      rw [cb_false, if_neg (fun e => by rw [nbeq, decide_eq_true e] at hs; cases hs)]
      exact Snd.cb_must fun _ => appToS_snd _ _ _ _ _

def copyToS (p : Option (Nat × Nat)) (n : Nat) (cs : List AV) (H : Heap) : S (AV × Heap) := S.bind (S.lift p) fun a => S.bind (storeS H a cs) fun H' => S.pure (.int .i64 n, H')
theorem copyToS_snd (p : Option (Nat × Nat)) (n : Nat) (cs : List AV) (H : Heap) : Snd (copyToS p n cs H) (copyTo p n cs H) :=
  Snd.bind (Snd.lift _) fun a _ => Snd.bind (storeS_snd _ _ _) fun H' _ => Snd.pure _
def copyS (cx : Cx) (t : TypeId) (d s : AV) (H : Heap) : S (AV × Heap) :=
  S.bind (S.lift (isSliceT cx t)) fun e => S.bind (S.lift (cx.ty e)) fun et => S.bind (S.lift d.slice?) fun d =>
    match s with
    | .slice q m _ => S.test (Nat.beq (min m d.2.1) 0) (S.pure (.int .i64 0, H)) (S.bind (S.lift q) fun b => S.bind (cellsS H b (min m d.2.1 * et.size)) fun cs => copyToS d.1 (min m d.2.1) cs H)
    | .str l => cb (Nat.beq et.size 1) (S.test (Nat.beq (min l.length d.2.1) 0) (S.pure (.int .i64 0, H)) (copyToS d.1 (min l.length d.2.1) (ofBytes (l.take (min l.length d.2.1))) H)) S.fail
    | .fsl _ m cs => S.test (Nat.beq (min m d.2.1) 0) (S.pure (.int .i64 0, H)) (S.must (Nat.beq cs.length (Nat.mul m et.size)) (copyToS d.1 (min m d.2.1) (rowCut cs 0 (min m d.2.1 * et.size)) H))
    | _ => S.fail
theorem copyS_snd (cx : Cx) (t : TypeId) (d s : AV) (H : Heap) : Snd (copyS cx t d s H) (aCopy cx t d s H) := by
  refine Snd.bind (Snd.lift _) fun e _ => Snd.bind (Snd.lift _) fun et _ => Snd.bind (Snd.lift _) fun d _ => ?_
  cases s <;> (try simp only) <;> try exact Snd.fail _
  · rename_i l
    unfold copyStr
    cases hs : Nat.beq et.size 1 with
    | false => exact Snd.fail _
    | true =>
      rw [cb_true, if_pos (Nat.eq_of_beq_eq_true hs)]
      refine Snd.test (fun h => ?_) (fun h => ?_)
      · rw [if_pos (Nat.eq_of_beq_eq_true h)]; exact Snd.pure _
      · rw [if_neg (fun e => by rw [nbeq, decide_eq_true e] at h; cases h)]; exact copyToS_snd _ _ _ _
  · rename_i q m c
    unfold copySlice
    refine Snd.test (fun h => ?_) (fun h => ?_)
    · simp only
      rw [if_pos (Nat.eq_of_beq_eq_true h)]; exact Snd.pure _
    · simp only
      rw [if_neg (fun e => by rw [nbeq, decide_eq_true e] at h; cases h)]
      exact Snd.bind (Snd.lift _) fun b _ => Snd.bind (cellsS_snd _ _ _) fun cs _ => copyToS_snd _ _ _ _
  · rename_i nl m cs
    unfold copyFsl
    refine Snd.test (fun h => ?_) (fun h => ?_)
    · simp only
      rw [if_pos (Nat.eq_of_beq_eq_true h)]; exact Snd.pure _
    · simp only
      rw [if_neg (fun e => by rw [nbeq, decide_eq_true e] at h; cases h)]
      exact Snd.cb_must fun _ => copyToS_snd _ _ _ _

/-! ### Maps -/
def findS (cx : Cx) (t : TypeId) (k : AV) : List (AV × AV) → S (Option AV)
  | [] => S.pure none
  | e :: es => S.bind (S.lift (sameKey cx t k e.1)) fun b => S.test b (S.pure (some e.2)) (findS cx t k es)
def putS (cx : Cx) (t : TypeId) (k v : AV) : List (AV × AV) → S (List (AV × AV))
  | [] => S.pure [(k, v)]
  | e :: es => S.bind (S.lift (sameKey cx t k e.1)) fun b => S.test b (S.pure ((k, v) :: es)) (S.bind (putS cx t k v es) fun r => S.pure (e :: r))
def dropS (cx : Cx) (t : TypeId) (k : AV) : List (AV × AV) → S (List (AV × AV))
  | [] => S.pure []
  | e :: es => S.bind (S.lift (sameKey cx t k e.1)) fun b => S.test b (S.pure es) (S.bind (dropS cx t k es) fun r => S.pure (e :: r))
theorem findS_snd (cx : Cx) (t : TypeId) (k : AV) : ∀ es, Snd (findS cx t k es) (findKey cx t k es) := by
  intro es
  induction es with
  | nil => exact Snd.pure _
  | cons e es ih => exact Snd.bind (Snd.lift _) fun b _ => Snd.test (fun h => by rw [if_pos h]; exact Snd.pure _) (fun h => by rw [if_neg (by rw [h]; simp)]; exact ih)
theorem putS_snd (cx : Cx) (t : TypeId) (k v : AV) : ∀ es, Snd (putS cx t k v es) (putKey cx t k v es) := by
  intro es
  induction es with
  | nil => exact Snd.pure _
  | cons e es ih => exact Snd.bind (Snd.lift _) fun b _ => Snd.test (fun h => by rw [if_pos h]; exact Snd.pure _) (fun h => by rw [if_neg (by rw [h]; simp)]; exact Snd.bind ih fun r _ => Snd.pure _)
theorem dropS_snd (cx : Cx) (t : TypeId) (k : AV) : ∀ es, Snd (dropS cx t k es) (dropKey cx t k es) := by
  intro es
  induction es with
  | nil => exact Snd.pure _
  | cons e es ih => exact Snd.bind (Snd.lift _) fun b _ => Snd.test (fun h => by rw [if_pos h]; exact Snd.pure _) (fun h => by rw [if_neg (by rw [h]; simp)]; exact Snd.bind ih fun r _ => Snd.pure _)

def lookupS (cx : Cx) (t : TypeId) (x k : AV) (ok : Bool) (H : Heap) : S AV :=
  S.bind (S.lift (mapT cx t)) fun m => cb (isKeyT cx m.1 k) (S.bind (S.lift x.map?) fun r => S.bind (S.lift (entriesAt H r)) fun es => S.bind (findS cx m.1 k es) fun f => S.bind (S.lift (cx.ty m.2)) fun e =>
    S.pure (cb ok (.tuple [f.getD e.zero, .bool f.isSome]) (f.getD e.zero))) S.fail
theorem lookupS_snd (cx : Cx) (t : TypeId) (x k : AV) (ok : Bool) (H : Heap) : Snd (lookupS cx t x k ok H) (aLookup cx t x k ok H) :=
  Snd.bind (Snd.lift _) fun m _ => Snd.cb_bool (Snd.bind (Snd.lift _) fun r _ => Snd.bind (Snd.lift _) fun es _ => Snd.bind (findS_snd _ _ _ _) fun f _ => Snd.bind (Snd.lift _) fun e _ => Snd.pure _) (Snd.fail _)
def mapPutS (cx : Cx) (t : TypeId) (x k v : AV) (H : Heap) : S Heap :=
  S.bind (S.lift (mapT cx t)) fun m => cb (isKeyT cx m.1 k) (S.bind (S.lift x.map?) fun r => S.bind (S.lift r) fun r => S.bind (S.lift (entriesOf H r)) fun es => S.bind (putS cx m.1 k v es) fun es' => S.pure (H.put r (.entries es'))) S.fail
theorem mapPutS_snd (cx : Cx) (t : TypeId) (x k v : AV) (H : Heap) : Snd (mapPutS cx t x k v H) (aMapPut cx t x k v H) :=
  Snd.bind (Snd.lift _) fun m _ => Snd.cb_bool (Snd.bind (Snd.lift _) fun r _ => Snd.bind (Snd.lift _) fun r _ => Snd.bind (Snd.lift _) fun es _ => Snd.bind (putS_snd _ _ _ _ _) fun es' _ => Snd.pure _) (Snd.fail _)
def dropInS (cx : Cx) (t : TypeId) (k : AV) (H : Heap) (r : Option Nat) : S Heap :=
  match r with
  | none => S.pure H
  | some r => S.bind (S.lift (entriesOf H r)) fun es => S.bind (dropS cx t k es) fun es' => S.pure (H.put r (.entries es'))
def deleteS (cx : Cx) (t : TypeId) (x k : AV) (H : Heap) : S Heap :=
  S.bind (S.lift (mapT cx t)) fun m => cb (isKeyT cx m.1 k) (S.bind (S.lift x.map?) fun r => dropInS cx m.1 k H r) S.fail
theorem deleteS_snd (cx : Cx) (t : TypeId) (x k : AV) (H : Heap) : Snd (deleteS cx t x k H) (aDelete cx t x k H) :=
  Snd.bind (Snd.lift _) fun m _ => Snd.cb_bool (Snd.bind (Snd.lift _) fun r _ => by
    cases r with
    | none => exact Snd.pure _
    | some r =>
      show Snd (S.bind (S.lift (entriesOf H r)) fun es => S.bind (dropS cx m.1 k es) fun es' => S.pure (H.put r (.entries es'))) ((entriesOf H r).ob fun es => (dropKey cx m.1 k es).ob fun es' => some (H.put r (.entries es')))
      exact Snd.bind (Snd.lift _) fun es _ => Snd.bind (dropS_snd _ _ _ _) fun es' _ => Snd.pure _) (Snd.fail _)

/-! ### Operations -/
abbrev CallerS := Tgt → List AV → Heap → S (AV × Heap)

def madeS (cx : Cx) (o : Op) (g : Env) : S Made :=
  match o with
  | .buildSlice t n ps => S.bind (S.lift (evParts g ps.toList)) fun ps => buildSliceS cx t n ps
  | .makeSlice t l c => S.bind (S.lift (ev g l)) fun l => S.bind (S.lift (ev g c)) fun c => makeSliceS cx t l c
  | o => S.lift (aMade cx o g)
theorem madeS_snd (cx : Cx) (o : Op) (g : Env) : Snd (madeS cx o g) (aMade cx o g) := by
  unfold madeS
  split
  · exact Snd.bind (Snd.lift _) fun ps _ => buildSliceS_snd _ _ _ _
  · exact Snd.bind (Snd.lift _) fun l _ => Snd.bind (Snd.lift _) fun c _ => makeSliceS_snd _ _ _ _
  · exact Snd.lift _

def pickS (c a b : AV) : S AV := S.bind (S.lift c.bool?) fun c => S.test c (S.pure a) (S.pure b)
def ev2S {α : Type} (g : Env) (x y : Operand) (f : AV → AV → S α) : S α := S.bind (S.lift (ev g x)) fun x => S.bind (S.lift (ev g y)) fun y => f x y
theorem ev2S_snd {α : Type} {g : Env} {x y : Operand} {f : AV → AV → S α} {f' : AV → AV → Option α} (h : ∀ a b, Snd (f a b) (f' a b)) : Snd (ev2S g x y f) (ev2 g x y f') :=
  Snd.bind (Snd.lift _) fun a _ => Snd.bind (Snd.lift _) fun b _ => h a b

def quietS (cx : Cx) (o : Op) (g : Env) (H : Heap) : S AV :=
  match o with
  | .pick c a b => S.bind (S.lift (ev g c)) fun c => ev2S g a b (pickS c)
  | .build t ps => S.bind (S.lift (evParts g ps.toList)) (buildS cx t)
  | .load t a => S.bind (S.lift (ev g a)) (loadS cx t H)
  | .binOp op t x y _ => ev2S g x y (binS cx op t)
  | .convert s d x => S.bind (S.lift (ev g x)) fun x => convS cx s d x H
  | .slice t x lo hi mx => S.bind (S.lift (ev g x)) fun x => S.bind (S.lift (evO g lo)) fun lo => S.bind (S.lift (evO g hi)) fun hi => S.bind (S.lift (evO g mx)) fun mx => sliceS cx t x lo hi mx
  | .field t x f => S.bind (S.lift (ev g x)) fun x => fieldS cx t x f
  | .fieldAddr t x f => S.bind (S.lift (ev g x)) fun x => fieldAddrS cx t x f
  | .indexAddr t x i => ev2S g x i (indexAddrS cx t)
  | .index t x i => ev2S g x i (indexS cx t)
  | .lookup t x i ok => ev2S g x i fun x i => lookupS cx t x i ok H
  | o => S.lift (aQuiet cx o g H)
theorem quietS_snd (cx : Cx) (o : Op) (g : Env) (H : Heap) : Snd (quietS cx o g H) (aQuiet cx o g H) := by
  unfold quietS
  split
  · exact Snd.bind (Snd.lift _) fun c _ => ev2S_snd fun a b => Snd.bind (Snd.lift _) fun t _ => Snd.test (fun h => by rw [h]; exact Snd.pure _) (fun h => by rw [h]; exact Snd.pure _)
  · exact Snd.bind (Snd.lift _) fun ps _ => buildS_snd _ _ _
  · exact Snd.bind (Snd.lift _) fun x _ => loadS_snd _ _ _ _
  · exact ev2S_snd fun a b => binS_snd _ _ _ _ _
  · exact Snd.bind (Snd.lift _) fun x _ => convS_snd _ _ _ _ _
  · exact Snd.bind (Snd.lift _) fun x _ => Snd.bind (Snd.lift _) fun lo _ => Snd.bind (Snd.lift _) fun hi _ => Snd.bind (Snd.lift _) fun mx _ => sliceS_snd _ _ _ _ _ _
  · exact Snd.bind (Snd.lift _) fun x _ => fieldS_snd _ _ _ _
  · exact Snd.bind (Snd.lift _) fun x _ => fieldAddrS_snd _ _ _ _
  · exact ev2S_snd fun a b => indexAddrS_snd _ _ _ _
  · exact ev2S_snd fun a b => indexS_snd _ _ _ _
  · exact ev2S_snd fun a b => lookupS_snd _ _ _ _ _ _
  · exact Snd.lift _

def callVS (call : CallerS) (f : AV) (args : List AV) (H : Heap) : S (AV × Heap) :=
  match f with
  | .func g first captured => call (.fn g) (first ++ args ++ captured) H
  | .yield l => call (.yield l) args H
  | _ => S.fail
def lBuiltinS (cx : Cx) (b : Builtin) (ts : List TypeId) (l : List AV) (H : Heap) : S (AV × Heap) :=
  match b with
  | .append => match ts, l with
    | [t, u], [s, x] => appendS cx t u s x H
    | _, _ => S.fail
  | .copy => match ts, l with
    | [t, _], [d, s] => copyS cx t d s H
    | _, _ => S.fail
  | .delete => match ts, l with
    | [t, _], [m, k] => S.bind (deleteS cx t m k H) fun H' => S.pure (.tuple [], H')
    | _, _ => S.fail
  | _ => S.fail
theorem lBuiltinS_snd (cx : Cx) (b : Builtin) (ts : List TypeId) (l : List AV) (H : Heap) : Snd (lBuiltinS cx b ts l H) (lBuiltin cx b ts l H) := by
  unfold lBuiltinS
  split
  · split
    · exact appendS_snd _ _ _ _ _ _
    · exact Snd.fail _
  · split
    · exact copyS_snd _ _ _ _ _
    · exact Snd.fail _
  · split
    · exact Snd.bind (deleteS_snd _ _ _ _ _) fun H' _ => Snd.pure _
    · exact Snd.fail _
  · exact Snd.fail _
def lCallS (cx : Cx) (call : CallerS) (c : Call) (g : Env) (H : Heap) : S (AV × Heap) :=
  match c.callee with
  | .builtin b => S.bind (S.lift (evs g c.args.toList)) fun l => lBuiltinS cx b c.argTypes.toList l H
  | .value f => S.bind (S.lift (ev g f)) fun f => S.bind (S.lift (evs g c.args.toList)) fun l => callVS call f l H
  | .invoke _ _ => S.fail

/-- A caller in the monad goes with a plain one. -/
def SndC (cs : CallerS) (c : Caller) : Prop := ∀ t args H, Snd (cs t args H) (c t args H)

theorem lCallS_snd (cx : Cx) {cs : CallerS} {call : Caller} (h : SndC cs call) (c : Call) (g : Env) (H : Heap) : Snd (lCallS cx cs c g H) (lCall cx call c g H) := by
  unfold lCallS lCall
  cases c.callee <;> (try simp only)
  · exact Snd.bind (Snd.lift _) fun f _ => Snd.bind (Snd.lift _) fun l _ => by
      cases f <;> first | exact h _ _ _ | exact Snd.fail _
  · exact Snd.fail _
  · exact Snd.bind (Snd.lift _) fun l _ => lBuiltinS_snd _ _ _ _ _

def loudS (cx : Cx) (call : CallerS) (o : Op) (g : Env) (H : Heap) : S (AV × Heap) :=
  match o with
  | .store t a x => ev2S g a x fun a x => S.bind (aStoreS cx t H a x) fun H' => S.pure (.undef, H')
  | .mapUpdate t m k x => S.bind (S.lift (ev g m)) fun m => ev2S g k x fun k x => S.bind (mapPutS cx t m k x H) fun H' => S.pure (.undef, H')
  | .insert t m k x => S.bind (S.lift (ev g m)) fun m => ev2S g k x fun k x => S.bind (mapPutS cx t m k x H) fun H' => S.pure (.undef, H')
  | .call c => lCallS cx call c g H
  | _ => S.fail
theorem loudS_snd (cx : Cx) {cs : CallerS} {call : Caller} (h : SndC cs call) (o : Op) (g : Env) (H : Heap) : Snd (loudS cx cs o g H) (aLoud cx call o g H) := by
  unfold loudS
  split
  · exact ev2S_snd fun a x => Snd.bind (aStoreS_snd _ _ _ _ _) fun H' _ => Snd.pure _
  · exact Snd.bind (Snd.lift _) fun m _ => ev2S_snd fun k x => Snd.bind (mapPutS_snd _ _ _ _ _ _) fun H' _ => Snd.pure _
  · exact Snd.bind (Snd.lift _) fun m _ => ev2S_snd fun k x => Snd.bind (mapPutS_snd _ _ _ _ _ _) fun H' _ => Snd.pure _
  · exact lCallS_snd cx h _ _ _
  · exact Snd.fail _

def opS (cx : Cx) (call : CallerS) (o : Op) (g : Env) (H : Heap) : S (AV × Heap) :=
  match kindOf cx o with
  | .made => S.bind (madeS cx o g) fun r => S.pure (r.1 H.next, H.new r.2)
  | .quiet => S.bind (quietS cx o g H) fun v => S.pure (v, H)
  | .loud => loudS cx call o g H
theorem opS_snd (cx : Cx) {cs : CallerS} {call : Caller} (h : SndC cs call) (o : Op) (g : Env) (H : Heap) : Snd (opS cx cs o g H) (aOp cx call o g H) := by
  rw [aOp_eq]
  unfold opS aOpK
  cases kindOf cx o <;> (try simp only)
  · exact Snd.bind (madeS_snd _ _ _) fun r _ => Snd.pure _
  · exact Snd.bind (quietS_snd _ _ _ _) fun r _ => Snd.pure _
  · exact loudS_snd cx h _ _ _

/-- is the operation wanted? then this, else that. -/
def wantS {α : Type} (all : List Oper) (g : Env) (o : Oper) (y n : S α) : S α :=
  match o.guard with
  | none => y
  | some q => match (listAt all q.1).ob (·.dst) with
    | some t => match g t with
      | .bool b => S.test b (cb q.2 y n) (cb q.2 n y)
      | .any => S.fail
      | _ => n
    | none => n
theorem wantS_snd {α : Type} {all : List Oper} {g : Env} {o : Oper} {y n : S α} {p q : Option α} (hy : Snd y p) (hn : Snd n q) : Snd (wantS all g o y n) (cb (gknown all g o) (cb (aWanted all g o) p q) none) := by
  unfold wantS aWanted gknown
  cases o.guard with
  | none => exact hy
  | some r =>
    simp only [aGuard]
    cases (listAt all r.1).ob (·.dst) with
    | none => exact hn
    | some t =>
      simp only [guardHolds]
      cases g t <;> (try simp only [isAny]) <;> first | exact hn | exact Snd.fail _ | skip
      rename_i b
      show Snd _ (cb (b == r.2) p q)
      refine Snd.test (fun h => ?_) (fun h => ?_)
      · rw [h]
        cases r.2
        · exact hn
        · exact hy
      · rw [h]
        cases r.2
        · exact hy
        · exact hn

def stepS (cx : Cx) (call : CallerS) (all : List Oper) (o : Oper) (g : Env) (H : Heap) : S (AV × Heap) := wantS all g o (opS cx call o.op g H) (S.pure (.undef, H))
theorem stepS_snd (cx : Cx) {cs : CallerS} {call : Caller} (h : SndC cs call) (all : List Oper) (o : Oper) (g : Env) (H : Heap) : Snd (stepS cx cs all o g H) (aStep cx call all o g H) :=
  wantS_snd (opS_snd cx h _ _ _) (Snd.pure _)

def opsS (cx : Cx) (call : CallerS) (n : Nat) (all l : List Oper) : Fr → Heap → S (Fr × Heap) :=
  List.rec (motive := fun _ => Fr → Heap → S (Fr × Heap)) (fun fr H => S.pure (fr, H))
    (fun o _ go fr H => S.bind (stepS cx call all o fr.get H) fun r => S.bind (S.lift (fr.put n o.dst r.1)) fun fr' => go fr' r.2) l
theorem opsS_snd (cx : Cx) {cs : CallerS} {call : Caller} (h : SndC cs call) (n : Nat) (all : List Oper) : ∀ (l : List Oper) (fr : Fr) (H : Heap), Snd (opsS cx cs n all l fr H) (aOps cx call n all l fr H) := by
  intro l
  induction l with
  | nil => intro fr H; exact Snd.pure _
  | cons o l ih =>
    intro fr H
    rw [aOps_cons]
    show Snd (S.bind (stepS cx cs all o fr.get H) fun r => S.bind (S.lift (fr.put n o.dst r.1)) fun fr' => opsS cx cs n all l fr' r.2) _
    exact Snd.bind (stepS_snd cx h _ _ _ _) fun r _ => Snd.bind (Snd.lift _) fun fr' _ => ih _ _

/-! ### A region that draws its order -/
def drawRunS (cx : Cx) (call : CallerS) (n : Nat) (all : List Oper) : List Row → Fr → Heap → S (List Rec × List Heap × Fr)
  | [], fr, H => S.pure ([], [H], fr)
  | r :: rest, fr, H => S.bind (stepS cx call all r.o fr.get H) fun x => cb (Nat.ble H.next x.2.next) (S.bind (S.lift (fr.put n r.o.dst x.1)) fun fr' => S.bind (drawRunS cx call n all rest fr' x.2) fun y =>
      S.pure (⟨r, fr, x.1, H.next⟩ :: y.1, (if isLoudR r then H :: y.2.1 else y.2.1), y.2.2)) S.fail
theorem drawRunS_snd (cx : Cx) {cs : CallerS} {call : Caller} (h : SndC cs call) (n : Nat) (all : List Oper) : ∀ (l : List Row) (fr : Fr) (H : Heap), Snd (drawRunS cx cs n all l fr H) (drawRun cx call n all l fr H) := by
  intro l
  induction l with
  | nil => intro fr H; exact Snd.pure _
  | cons r l ih =>
    intro fr H
    exact Snd.bind (stepS_snd cx h _ _ _ _) fun x _ => Snd.cb_bool (Snd.bind (Snd.lift _) fun fr' _ => Snd.bind (ih _ _) fun y _ => Snd.pure _) (Snd.fail _)

/-- two values that must be the same. -/
def S.same {α : Type} (a b : AV) (k : S α) : S α := S.ask (cb (AV.beq a b) k S.fail) (S.note (.same a b) k) S.fail
theorem Snd.same {α : Type} {a b : AV} {k : S α} {o : Option α} (h : a = b → Snd k o) : Snd (S.same a b k) o := by
  refine Snd.ask ?_ (Snd.note h) (Snd.fail _)
  cases hb : AV.beq a b with
  | true => exact h (AV.beq_eq a b hb)
  | false => exact Snd.fail _
/-- a block like another one. -/
def sameBlkS (a b : Blk) : S Unit :=
  match a, b with
  | .cells o e n cs, .cells o' e' n' cs' => cb ((o == o') && decide (e = e')) (S.must (Nat.beq n n') (S.same (.agg cs) (.agg cs') (S.pure ()))) S.fail
  | .entries [], .entries [] => S.pure ()
  | _, _ => S.fail
def oneHoldsS (cx : Cx) (c : Rec) (H : Heap) : S Unit :=
  match c.r.k with
  | .loud => S.pure ()
  | .quiet => S.bind (quietS cx c.r.o.op c.g.get H) fun v => S.same v c.v (S.pure ())
  | .made => S.bind (madeS cx c.r.o.op c.g.get) fun m => cb (Nat.ble (Nat.succ c.id) H.next) (sameBlkS (H.get c.id) m.2) S.fail
def allS {α : Type} (f : α → S Unit) : List α → S Unit
  | [] => S.pure ()
  | a :: l => S.bind (f a) fun _ => allS f l
def recHoldsS (cx : Cx) (all : List Oper) (Hs : List Heap) (c : Rec) : S Unit :=
  wantS all c.g.get c.r.o (match c.r.k with | .loud => S.pure () | _ => allS (oneHoldsS cx c) ((Hs.take (c.r.hi + 1)).drop c.r.lo)) (S.pure ())

mutual
theorem AV.beq_refl : ∀ (a : AV), AV.beq a a = true
  | .undef => rfl
  | .int k n => by simp [AV.beq]
  | .bool b => by simp [AV.beq]
  | .str s => by simp [AV.beq]
  | .ptr p => by simp [AV.beq]
  | .slice p l c => by simp [AV.beq]
  | .map r => by simp [AV.beq]
  | .func f x y => by simp [AV.beq, AV.beqL_refl x, AV.beqL_refl y]
  | .yield l => by simp [AV.beq]
  | .nilFunc => rfl
  | .iface t v => by simp [AV.beq, AV.beq_refl v]
  | .nilIface => rfl
  | .agg cs => by simp [AV.beq, AV.beqL_refl cs]
  | .tuple cs => by simp [AV.beq, AV.beqL_refl cs]
  | .fsl n l cs => by simp [AV.beq, AV.beqL_refl cs]
  | .fptr cs => by simp [AV.beq, AV.beqL_refl cs]
  | .any => rfl
theorem AV.beqL_refl : ∀ (a : List AV), AV.beqL a a = true
  | [] => rfl
  | x :: xs => by simp [AV.beqL, AV.beq_refl x, AV.beqL_refl xs]
end

/-- A check as a run. -/
def chk (b : Bool) : Option Unit := cb b (some ()) none

theorem sameBlkS_snd (a b : Blk) : Snd (sameBlkS a b) (chk (Blk.same a b)) := by
  unfold sameBlkS
  split
  · rename_i o e n cs o' e' n' cs'
    cases hc : ((o == o') && decide (e = e')) with
    | false => exact Snd.fail _
    | true =>
      refine Snd.must fun h => Snd.same fun h2 => ?_
      have h2 : AV.agg cs = AV.agg cs' := h2
      injection h2 with h2
      have h := Nat.eq_of_beq_eq_true h
      have : Blk.same (.cells o e n cs) (.cells o' e' n' cs') = true := by
        simp only [Blk.same, hc, h, h2, AV.beqL_refl, decide_true, Bool.and_true]
      rw [this]; exact Snd.pure _
  · exact Snd.pure _
  · exact Snd.fail _

theorem allS_snd {α : Type} {f : α → S Unit} {p : α → Bool} (h : ∀ a, Snd (f a) (chk (p a))) : ∀ l : List α, Snd (allS f l) (chk (l.all p)) := by
  intro l
  induction l with
  | nil => exact Snd.pure _
  | cons a l ih =>
    have e : chk ((a :: l).all p) = (chk (p a)).ob fun _ => chk (l.all p) := by
      simp only [List.all_cons, chk]
      cases p a <;> rfl
    rw [e]
    exact Snd.bind (h a) fun _ _ => ih

theorem recHoldsS_snd (cx : Cx) (all : List Oper) (Hs : List Heap) (c : Rec) : Snd (recHoldsS cx all Hs c) (chk (recHolds cx all Hs c)) := by
  have quiet : ∀ H : Heap, Snd (S.bind (quietS cx c.r.o.op c.g.get H) fun v => S.same v c.v (S.pure ())) (chk (match aQuiet cx c.r.o.op c.g.get H with | some v => AV.beq v c.v | none => false)) := by
    intro H
    have e : chk (match aQuiet cx c.r.o.op c.g.get H with | some v => AV.beq v c.v | none => false) = (aQuiet cx c.r.o.op c.g.get H).ob fun v => chk (AV.beq v c.v) := by
      cases aQuiet cx c.r.o.op c.g.get H <;> rfl
    rw [e]
    refine Snd.bind (quietS_snd _ _ _ _) fun v _ => Snd.same fun h => ?_
    have h : v = c.v := h
    rw [h, AV.beq_refl]; exact Snd.pure _
  have made : ∀ H : Heap, Snd (S.bind (madeS cx c.r.o.op c.g.get) fun m => cb (Nat.ble (Nat.succ c.id) H.next) (sameBlkS (H.get c.id) m.2) S.fail) (chk (match aMade cx c.r.o.op c.g.get with | some m => Nat.ble (Nat.succ c.id) H.next && Blk.same (H.get c.id) m.2 | none => false)) := by
    intro H
    have e : chk (match aMade cx c.r.o.op c.g.get with | some m => Nat.ble (Nat.succ c.id) H.next && Blk.same (H.get c.id) m.2 | none => false) = (aMade cx c.r.o.op c.g.get).ob fun m => cb (Nat.ble (Nat.succ c.id) H.next) (chk (Blk.same (H.get c.id) m.2)) none := by
      cases aMade cx c.r.o.op c.g.get with
      | none => rfl
      | some m => simp only [ob_some]; cases Nat.ble (Nat.succ c.id) H.next <;> rfl
    rw [e]
    exact Snd.bind (madeS_snd _ _ _) fun m _ => Snd.cb_bool (sameBlkS_snd _ _) (Snd.fail _)
  unfold recHoldsS
  have e : chk (recHolds cx all Hs c) = cb (aWanted all c.g.get c.r.o) (chk (match c.r.k with
      | .loud => true
      | .quiet => ((Hs.take (c.r.hi + 1)).drop c.r.lo).all fun H => match aQuiet cx c.r.o.op c.g.get H with
        | some v => AV.beq v c.v
        | none => false
      | .made => ((Hs.take (c.r.hi + 1)).drop c.r.lo).all fun H => match aMade cx c.r.o.op c.g.get with
        | some m => Nat.ble (Nat.succ c.id) H.next && Blk.same (H.get c.id) m.2
        | none => false)) (some ()) := by
    unfold recHolds
    cases aWanted all c.g.get c.r.o with
    | true => rw [if_pos rfl]; rfl
    | false => rw [if_neg (by simp)]; rfl
  rw [e]
  have drop : ∀ {m : S Unit} {b : Bool} {o : Option Unit}, Snd m (cb b o none) → Snd m o := by
    intro m b o hm q r q' c' h1 h2
    have := hm q r q' c' h1 h2
    cases b with
    | true => exact this
    | false => cases this
  refine drop (wantS_snd ?_ (Snd.pure _))
  cases hk : c.r.k with
  | loud => exact Snd.pure _
  | quiet =>
    simp only
    refine allS_snd (fun H => ?_) _
    unfold oneHoldsS
    rw [hk]; exact quiet H
  | made =>
    simp only
    refine allS_snd (fun H => ?_) _
    unfold oneHoldsS
    rw [hk]; exact made H

def drawS (cx : Cx) (call : CallerS) (n : Nat) (ops : List Oper) (fr : Fr) (H : Heap) : S (Fr × Heap) :=
  S.bind (S.lift (mkPlan cx ops)) fun p => S.bind (drawRunS cx call n ops p.plan fr H) fun y =>
    cb (allQuiet p.rows) (S.pure (y.2.2, y.2.1.getLastD H)) (S.bind (allS (recHoldsS cx ops y.2.1) y.1) fun _ => S.pure (y.2.2, y.2.1.getLastD H))
theorem drawS_snd (cx : Cx) {cs : CallerS} {call : Caller} (h : SndC cs call) (n : Nat) (ops : List Oper) (fr : Fr) (H : Heap) : Snd (drawS cx cs n ops fr H) (aDraw cx call n ops fr H) := by
  refine Snd.bind (Snd.lift _) fun p _ => Snd.bind (drawRunS_snd cx h _ _ _ _ _) fun y _ => ?_
  cases hq : allQuiet p.rows with
  | true => rw [if_pos (by simp)]; exact Snd.pure _
  | false =>
    have e : (if (false || y.1.all (recHolds cx ops y.2.1)) = true then some (y.2.2, y.2.1.getLastD H) else none) = (chk (y.1.all (recHolds cx ops y.2.1))).ob fun _ => some (y.2.2, y.2.1.getLastD H) := by
      cases y.1.all (recHolds cx ops y.2.1) <;> rfl
    rw [e]
    exact Snd.bind (allS_snd (fun c => recHoldsS_snd cx ops y.2.1 c) _) fun _ _ => Snd.pure _

/-! ### Code -/
abbrev RunS := Code → St → S (AX × St)
def regionS (cx : Cx) (call : CallerS) (n : Nat) (ops : List Oper) (draw : Bool) (s : St) : S (AX × St) :=
  S.bind (cb draw (drawS cx call n ops s.fr s.H) (opsS cx call n ops ops s.fr s.H)) fun r => S.pure (.normal, ⟨r.1, s.ds, r.2⟩)
def thenS (run : St → S (AX × St)) (r : AX × St) : S (AX × St) :=
  match r.1 with
  | .normal => run r.2
  | x => S.pure (x, r.2)
def condS (run : RunS) (x : Operand) (a b : Code) (s : St) : S (AX × St) :=
  S.bind (S.lift (ev s.fr.get x)) fun v => S.bind (S.lift v.bool?) fun t => S.test t (run a s) (run b s)
def rangeS (call : CallerS) (fn : FuncId) (around : Option Nat) (n : Nat) (x : Operand) (ps : List Tmp) (asg body : Code) (s : St) : S (AX × St) :=
  S.bind (S.lift (ev s.fr.get x)) fun v =>
    match v with
    | .func g first captured => S.bind (S.lift (cDefers around s)) fun q =>
        S.bind (call (.fn g) (first ++ [AV.yield q.2.2.next] ++ captured) (q.2.2.new (.loop fn n s.fr ps asg body q.1 .ready))) fun r => S.lift (cEnd s.fr q.2.1 q.2.2.next r.2)
    | _ => S.fail
/-- what is known of blocks of code, in the monad. -/
abbrev LoopS := FuncId → Nat → Option (Code × (Nat → St → S (AX × St)))
def code1S (cx : Cx) (sl : LoopS) (call : CallerS) (fn : FuncId) (around : Option Nat) (n : Nat) (run : RunS) : RunS := fun c s =>
  match c with
  | .skip => S.pure (.normal, s)
  | .region _ ops draw => regionS cx call n ops.toList draw s
  | .seq a b => S.bind (run a s) (thenS (run b))
  | .cond x a b => condS run x a b s
  | .block id b => match sl fn id with
    | none => S.bind (run b s) fun r => S.lift (cBlock id r)
    | some m => S.note (.code b m.1) (m.2 n s)
  | .loop b => S.bind (run b s) (thenS (run (.loop b)))
  | .exit id => S.pure (.exit id, s)
  | .ret => S.pure (.ret, s)
  | .rangeFunc x ps asg body => rangeS call fn around n x ps.toList asg body s
  | _ => S.fail
def codeS (cx : Cx) (sl : LoopS) (call : CallerS) (fn : FuncId) (around : Option Nat) (n f : Nat) : RunS :=
  Nat.rec (motive := fun _ => RunS) (fun _ _ => S.fail) (fun _ run => code1S cx sl call fn around n run) f

theorem thenS_snd {run : St → S (AX × St)} {run' : St → Option (AX × St)} (h : ∀ s, Snd (run s) (run' s)) (r : AX × St) : Snd (thenS run r) (cThen run' r) := by
  unfold thenS cThen
  cases r.1 <;> first | exact h _ | exact Snd.pure _
structure LoopsSOK (cx : Cx) (sl : LoopS) : Prop where
  yes : ∀ fn id m, sl fn id = some m → ∃ L, cx.loop fn id = some L ∧ L.code = m.1 ∧ ∀ n s, Snd (m.2 n s) (L.run n s)
  no : ∀ fn id, sl fn id = none → cx.loop fn id = none
theorem codeS_snd (cx : Cx) {sl : LoopS} (hl : LoopsSOK cx sl) {cs : CallerS} {call : Caller} (h : SndC cs call) (fn : FuncId) (around : Option Nat) (n : Nat) : ∀ (f : Nat) (c : Code) (s : St), Snd (codeS cx sl cs fn around n f c s) (aCode cx call fn around n f c s) := by
  intro f
  induction f with
  | zero => intro c s; exact Snd.fail _
  | succ f ih =>
    intro c s
    rw [aCode_succ]
    show Snd (code1S cx sl cs fn around n (codeS cx sl cs fn around n f) c s) _
    unfold code1S aCode1
    cases c <;> (try simp only) <;> try exact Snd.fail _
    case skip => exact Snd.pure _
    case region id ops draw => exact Snd.bind (Snd.cb_bool (drawS_snd cx h _ _ _ _) (opsS_snd cx h _ _ _ _ _)) fun r _ => Snd.pure _
    case seq a b => exact Snd.bind (ih _ _) fun r _ => thenS_snd (fun s => ih _ _) r
    case cond x a b =>
      refine Snd.bind (Snd.lift _) fun v _ => Snd.bind (Snd.lift _) fun t _ => Snd.test (fun e => ?_) (fun e => ?_)
      · rw [e]; exact ih _ _
      · rw [e]; exact ih _ _
    case block id b =>
      cases hm : sl fn id with
      | none =>
        rw [hl.no fn id hm]
        exact Snd.bind (ih _ _) fun r _ => Snd.lift _
      | some m =>
        obtain ⟨L, h1, h2, h3⟩ := hl.yes fn id m hm
        rw [h1]
        refine Snd.note fun hb => ?_
        have hb : b = L.code := by rw [h2]; exact hb
        simp only [hook]
        rw [if_pos hb]
        intro q r q' c' hr hc
        rw [h3 n s q r q' c' hr hc]
    case loop b => exact Snd.bind (ih _ _) fun r _ => thenS_snd (fun s => ih _ _) r
    case exit id => exact Snd.pure _
    case ret => exact Snd.pure _
    case rangeFunc x ps asg body =>
      refine Snd.bind (Snd.lift _) fun v _ => ?_
      cases v <;> (try simp only) <;> try exact Snd.fail _
      exact Snd.bind (Snd.lift _) fun q _ => Snd.bind (h _ _ _) fun r _ => Snd.lift _

/-! ### Calls -/
def resultS (cx : Cx) (fr : Fr) (H : Heap) : ResultVar → S AV
  | .tmp t => S.lift (known (fr.get t))
  | .cell a t => loadS cx t H (fr.get a)
def resultsS (cx : Cx) (fr : Fr) (H : Heap) : List ResultVar → S (List AV)
  | [] => S.pure []
  | r :: rs => S.bind (resultS cx fr H r) fun v => S.bind (resultsS cx fr H rs) fun vs => S.pure (v :: vs)
theorem resultsS_snd (cx : Cx) (fr : Fr) (H : Heap) : ∀ rs, Snd (resultsS cx fr H rs) (aResults cx fr H rs) := by
  intro rs
  induction rs with
  | nil => exact Snd.pure _
  | cons r rs ih =>
    refine Snd.bind ?_ fun v _ => Snd.bind ih fun vs _ => Snd.pure _
    cases r
    · exact Snd.lift _
    · exact loadS_snd _ _ _ _
def endS (cx : Cx) (fn : Func) (r : AX × St) : S (AV × Heap) :=
  match r.1 with
  | .exit _ => S.fail
  | _ => S.bind (S.lift (shut r.2.ds r.2.H)) fun H' => S.bind (resultsS cx r.2.fr H' fn.results.toList) fun vs => S.pure (single vs, H')
theorem endS_snd (cx : Cx) (fn : Func) (r : AX × St) : Snd (endS cx fn r) (callEnd cx fn r) := by
  unfold endS callEnd
  cases r.1
  · exact Snd.bind (Snd.lift _) fun H' _ => Snd.bind (resultsS_snd _ _ _ _) fun vs _ => Snd.pure _
  · exact Snd.fail _
  · exact Snd.bind (Snd.lift _) fun H' _ => Snd.bind (resultsS_snd _ _ _ _) fun vs _ => Snd.pure _
def bodyS (cx : Cx) (sl : LoopS) (call : CallerS) (f : Nat) (g : FuncId) (fn : Func) (args : List AV) (H : Heap) : S (AV × Heap) :=
  S.bind (S.lift fn.body) fun body => cb (Nat.ble args.length fn.ntmps) (S.bind (codeS cx sl call g none fn.ntmps f body ⟨ofList 0 args .nil, [], H⟩) (endS cx fn)) S.fail
theorem bodyS_snd (cx : Cx) {sl : LoopS} (hl : LoopsSOK cx sl) {cs : CallerS} {call : Caller} (h : SndC cs call) (f : Nat) (g : FuncId) (fn : Func) (args : List AV) (H : Heap) : Snd (bodyS cx sl cs f g fn args H) (callBody cx call f g fn args H) := by
  refine Snd.bind (Snd.lift _) fun body _ => ?_
  cases hb : Nat.ble args.length fn.ntmps with
  | false => exact Snd.fail _
  | true =>
    rw [if_pos (Nat.le_of_ble_eq_true hb)]
    exact Snd.bind (codeS_snd cx hl h _ _ _ _ _ _) fun r _ => endS_snd cx fn r

/-- Summaries in the monad: what is said of some functions; of the others nothing. -/
structure SumS where
  fn : FuncId → Option (List AV → Heap → S (AV × Heap))
  loop : LoopS := fun _ _ => none
def callFnS (cx : Cx) (sums : SumS) (call : CallerS) (f : Nat) (g : FuncId) (args : List AV) (H : Heap) : S (AV × Heap) :=
  S.bind (S.lift (cx.fn g)) fun fn => match sums.fn g with
    | some m => m args H
    | none => bodyS cx sums.loop call f g fn args H
/-- The summaries in the monad go with the plain ones; of which it has none there are none. -/
structure SumsOK (cx : Cx) (sums : SumS) : Prop where
  yes : ∀ g m args H, sums.fn g = some m → Snd (m args H) (cx.sum g args H)
  no : ∀ g args H, sums.fn g = none → cx.sum g args H = none
  loops : LoopsSOK cx sums.loop

def roundEndS (l : Nat) (q : AX × St) : S (AV × Heap) := S.lift (roundEnd l q)
def roundBodyS (cx : Cx) (sl : LoopS) (call : CallerS) (f : Nat) (l fn n : Nat) (body : Code) (r : AX × St) : S (AV × Heap) :=
  cb (r.1.isNormal && isReady r.2.H l) (S.bind (codeS cx sl call fn (some l) n f body ⟨r.2.fr, r.2.ds, r.2.H.put l (Blk.setLS .busy (r.2.H.get l))⟩) (roundEndS l)) S.fail
def yieldS (cx : Cx) (sl : LoopS) (call : CallerS) (f : Nat) (l : Nat) (args : List AV) (H : Heap) : S (AV × Heap) :=
  match H.get l with
  | .loop fn n fr ps asg body d .ready => S.bind (S.lift (putAll n ps args fr)) fun fr' =>
      S.bind (codeS cx sl call fn (some l) n f asg ⟨fr', [], H⟩) (roundBodyS cx sl call f l fn n body)
  | _ => S.fail
theorem yieldS_snd (cx : Cx) {sl : LoopS} (hl : LoopsSOK cx sl) {cs : CallerS} {call : Caller} (h : SndC cs call) (f : Nat) (l : Nat) (args : List AV) (H : Heap) : Snd (yieldS cx sl cs f l args H) (callYield cx call f l args H) := by
  unfold yieldS callYield
  cases H.get l <;> (try simp only) <;> try exact Snd.fail _
  rename_i fn n fr ps asg body d st
  cases st <;> (try simp only) <;> try exact Snd.fail _
  refine Snd.bind (Snd.lift _) fun fr' _ => Snd.bind (codeS_snd cx hl h _ _ _ _ _ _) fun r _ => Snd.cb_bool (Snd.bind (codeS_snd cx hl h _ _ _ _ _ _) fun q _ => Snd.lift _) (Snd.fail _)

def call1S (cx : Cx) (sums : SumS) (call : CallerS) (f : Nat) (t : Tgt) (args : List AV) (H : Heap) : S (AV × Heap) :=
  match t with
  | .fn g => callFnS cx sums call f g args H
  | .yield l => yieldS cx sums.loop call f l args H
def callS (cx : Cx) (sums : SumS) (f : Nat) : CallerS :=
  Nat.rec (motive := fun _ => CallerS) (fun _ _ _ => S.fail) (fun f call => call1S cx sums call f) f

/-- **The symbolic machine is sound for the abstract one.** -/
theorem callS_snd (cx : Cx) {sums : SumS} (hs : SumsOK cx sums) : ∀ f, SndC (callS cx sums f) (aCall cx f) := by
  intro f
  induction f with
  | zero => intro t args H; exact Snd.fail _
  | succ f ih =>
    intro t args H
    rw [aCall_succ]
    show Snd (call1S cx sums (callS cx sums f) f t args H) (aCall1 cx (aCall cx f) f t args H)
    cases t with
    | fn g =>
      show Snd (callFnS cx sums (callS cx sums f) f g args H) (callFn cx (aCall cx f) f g args H)
      unfold callFnS callFn
      refine Snd.bind (Snd.lift _) fun fn _ => ?_
      cases hg : sums.fn g with
      | none => rw [hs.no g args H hg]; exact bodyS_snd cx hs.loops ih _ _ _ _ _
      | some m =>
        have := hs.yes g m args H hg
        intro q r q' c h1 h2
        rw [this q r q' c h1 h2]
    | yield l => exact yieldS_snd cx hs.loops ih _ _ _ _

/-- What a symbolic run says. -/
theorem aCall_of {cx : Cx} {sums : SumS} (hs : SumsOK cx sums) {f : Nat} {t : Tgt} {args : List AV} {H H' : Heap} {v : AV} {q q' : List Ans} {c : List Cnd}
    (h : callS cx sums f t args H q = some ((v, H'), q', c)) (hc : HoldsL c) : aCall cx f t args H = some (v, H') := callS_snd cx hs f t args H q (v, H') q' c h hc
end Go.Ab
end
end

/- Summaries: what a function does by itself, it does wherever it is called. -/
section
section
set_option autoImplicit false
set_option linter.unusedVariables false
set_option linter.unusedSimpArgs false
set_option linter.unusedSectionVars false
namespace Go.Ab
open Go.RowKit

mutual
/-- a value that leads nowhere. -/
def AV.plain : AV → Bool
  | .undef | .int _ _ | .bool _ | .str _ | .nilFunc | .nilIface => true
  | .ptr p => p.isNone
  | .slice p _ _ => p.isNone
  | .map r => r.isNone
  | .func _ x y => AV.plainL x && AV.plainL y
  | .yield _ => false
  | .iface _ v => v.plain
  | .agg cs => AV.plainL cs
  | .tuple cs => AV.plainL cs
  | .fsl _ _ cs => AV.plainL cs
  | .fptr cs => AV.plainL cs
  | .any => true
def AV.plainL : List AV → Bool
  | [] => true
  | v :: vs => v.plain && AV.plainL vs
end

mutual
theorem RelV.move {μ μ' : Inj} (hz : ∀ k arr, μ.fz k = some arr → μ'.fz k = some arr) : ∀ {v : AV} {x : Value}, v.plain = true → RelV μ v x → RelV μ' v x
  | _, _, _, .undef => .undef
  | _, _, _, .any => .any
  | _, _, _, .int k n => .int k n
  | _, _, _, .bool b => .bool b
  | _, _, _, .str s => .str s
  | _, _, _, .ptrN => .ptrN
  | _, _, h, .ptr _ => by simp [AV.plain] at h
  | _, _, _, .sliceN => .sliceN
  | _, _, h, .slice _ _ _ => by simp [AV.plain] at h
  | _, _, h, .sliceU _ _ _ _ => by simp [AV.plain] at h
  | _, _, _, .mapN => .mapN
  | _, _, h, .map _ => by simp [AV.plain] at h
  | _, _, h, .func a b => by
    simp only [AV.plain, Bool.and_eq_true] at h
    exact .func (RelL.move hz h.1 a) (RelL.move hz h.2 b)
  | _, _, h, .yield _ => by simp [AV.plain] at h
  | _, _, _, .nilFunc => .nilFunc
  | _, _, _, .nilIface => .nilIface
  | _, _, h, .iface a => by
    simp only [AV.plain] at h
    exact .iface (RelV.move hz h a)
  | _, _, h, .agg a => by
    simp only [AV.plain] at h
    exact .agg (RelL.move hz h a)
  | _, _, h, .tuple a => by
    simp only [AV.plain] at h
    exact .tuple (RelL.move hz h a)
  | _, _, _, .fslN => .fslN
  | _, _, h, .fsl a b c d => by
    simp only [AV.plain] at h
    exact .fsl (fun hn => ⟨(a hn).1, hz _ _ (a hn).2⟩) (RelL.move hz h b) c d
  | _, _, h, .fptr a b c => by
    simp only [AV.plain] at h
    exact .fptr (fun hn => ⟨(a hn).1, hz _ _ (a hn).2⟩) (RelL.move hz h b) c
theorem RelL.move {μ μ' : Inj} (hz : ∀ k arr, μ.fz k = some arr → μ'.fz k = some arr) : ∀ {v : List AV} {x : List Value}, AV.plainL v = true → RelL μ v x → RelL μ' v x
  | _, _, _, .nil => .nil
  | _, _, h, .cons a b => by
    simp only [AV.plainL, Bool.and_eq_true] at h
    exact .cons (RelV.move hz h.1 a) (RelL.move hz h.2 b)
end

/-- Sound wherever. -/
structure SumAll (P : Program) (cx : Cx) : Prop where
  sum : ∀ base w0, SumOK P cx base w0
  loop : ∀ base w0, LoopsOK P cx base w0

theorem sumAll_none {P : Program} {tys : TypeId → Option ATy} {fns : FuncId → Option Func} : SumAll P { ty := tys, fn := fns, sum := fun _ _ _ => none } :=
  ⟨fun base w0 => sum_none rfl, fun base w0 => loop_none rfl⟩

/-- What is frozen alone. -/
def Inj.frozen (μ : Inj) (lo : Nat) : Inj := ⟨fun _ => none, μ.fz, lo⟩
theorem RelW.frozen {sz : TypeId → Nat} {base : Nat → Prop} {w0 w : World} {μ : Inj} {H : Heap} (h : RelW sz base w0 μ H w) : RelW sz (Old w) w (μ.frozen w.heap.size) H0 w :=
  ⟨Keep.refl _ _, fun _ h => h, fun _ _ e => (by cases e), fun _ _ e => (by cases e), fun _ _ _ _ e => (by cases e), h.froz, fun _ _ _ _ e => (by cases e), Nat.le_refl _⟩

/-- **A function of plain values, to plain values**: run by itself, in an empty heap. -/
theorem sum_plain {P : Program} {cx : Cx} (hcx : CxOK P cx) (hs : SumAll P cx) {f : Nat} {g : FuncId} {args : List AV} {v : AV} {h' : Heap} (h : aCall cx f (.fn g) args H0 = some (v, h')) (ha : AV.plainL args = true) (hv : v.plain = true)
    {base : Nat → Prop} {w0 w : World} {μ : Inj} {H : Heap} {xs : List Value} (hw : RelW (szOf cx) base w0 μ H w) (hr : RelL μ args xs) (r : Option Nat) (n : Nat) :
    CallsIn (FF r) n P g xs.toArray w fun e w' => ∃ Z, e = .returned Z ∧ Keep (Old w) w w' ∧ ∃ μ', Grow 0 (μ.frozen w.heap.size) μ' ∧ RelV μ' v Z ∧ RelW (szOf cx) (Old w) w μ' h' w' := by
  have h1 := ((aCall_sound hcx (hs.sum (Old w) w) (hs.loop (Old w) w) f).fn h hw.frozen (RelL.move (μ := μ) (μ' := μ.frozen w.heap.size) (fun _ _ e => e) ha hr)).2 r n
  refine h1.mono ?_
  rintro e w' ⟨Z, rfl, _, μ', hg, hz, hw'⟩
  exact ⟨Z, rfl, hw'.below, μ', ⟨fun b hb => by omega, hg.fz, hg.lo, hg.fzn⟩, hz, hw'⟩
end Go.Ab
end
end

/- A run in a small heap, taken to a larger one: values under other numbers; what is kept, what is new. -/
section
set_option autoImplicit false
set_option linter.unusedVariables false
set_option linter.unusedSimpArgs false
set_option linter.unusedSectionVars false
noncomputable section
namespace Go.Ab
open Go.RowKit

mutual
/-- the same value, of other blocks. -/
def AV.ren (ρ : Nat → Nat) : AV → AV
  | .ptr p => .ptr (p.map fun a => (ρ a.1, a.2))
  | .slice p l c => .slice (p.map fun a => (ρ a.1, a.2)) l c
  | .map r => .map (r.map ρ)
  | .func f x y => .func f (AV.renL ρ x) (AV.renL ρ y)
  | .yield l => .yield (ρ l)
  | .iface t v => .iface t (v.ren ρ)
  | .agg cs => .agg (AV.renL ρ cs)
  | .tuple cs => .tuple (AV.renL ρ cs)
  | .fsl n l cs => .fsl n l (AV.renL ρ cs)
  | .fptr cs => .fptr (AV.renL ρ cs)
  | v => v
def AV.renL (ρ : Nat → Nat) : List AV → List AV
  | [] => []
  | v :: vs => v.ren ρ :: AV.renL ρ vs
end
theorem AV.renL_length (ρ : Nat → Nat) (l : List AV) : (AV.renL ρ l).length = l.length := by
  induction l with
  | nil => rfl
  | cons v vs ih => simp [AV.renL, ih]
theorem AV.renL_map (ρ : Nat → Nat) (l : List AV) : AV.renL ρ l = l.map (AV.ren ρ) := by
  induction l with
  | nil => rfl
  | cons v vs ih => simp [AV.renL, ih]

mutual
/-- are all its blocks of a set? nf: is nothing of it frozen? -/
def AV.ok (nf : Bool) (p : Nat → Bool) : AV → Bool
  | .ptr a => match a with | none => true | some a => p a.1
  | .slice a _ _ => match a with | none => true | some a => p a.1
  | .map r => match r with | none => true | some r => p r
  | .func _ x y => AV.okL nf p x && AV.okL nf p y
  | .yield l => p l
  | .iface _ v => v.ok nf p
  | .agg cs => AV.okL nf p cs
  | .tuple cs => AV.okL nf p cs
  | .fsl _ _ cs => !nf && AV.okL nf p cs
  | .fptr cs => !nf && AV.okL nf p cs
  | _ => true
def AV.okL (nf : Bool) (p : Nat → Bool) : List AV → Bool
  | [] => true
  | v :: vs => v.ok nf p && AV.okL nf p vs
end

mutual
theorem RelV.ren {nf : Bool} {p : Nat → Bool} {ρ : Nat → Nat} {μ μ' : Inj} (hm : ∀ b i, p b = true → μ b = some i → μ' (ρ b) = some i) (hz : nf = false → ∀ k arr, μ.fz k = some arr → μ'.fz k = some arr) :
    ∀ {v : AV} {x : Value}, v.ok nf p = true → RelV μ v x → RelV μ' (v.ren ρ) x
  | _, _, _, .undef => .undef
  | _, _, _, .any => .any
  | _, _, _, .int k n => .int k n
  | _, _, _, .bool b => .bool b
  | _, _, _, .str s => .str s
  | _, _, _, .ptrN => .ptrN
  | _, _, h, .ptr e => .ptr (hm _ _ (by simpa [AV.ok] using h) e)
  | _, _, _, .sliceN => .sliceN
  | _, _, h, .slice e a b => .slice (hm _ _ (by simpa [AV.ok] using h) e) a b
  | _, _, h, .sliceU e a b c => .sliceU (hm _ _ (by simpa [AV.ok] using h) e) a b c
  | _, _, _, .mapN => .mapN
  | _, _, h, .map e => .map (hm _ _ (by simpa [AV.ok] using h) e)
  | _, _, h, .func a b => by
    simp only [AV.ok, Bool.and_eq_true] at h
    exact .func (RelL.ren hm hz h.1 a) (RelL.ren hm hz h.2 b)
  | _, _, h, .yield e => .yield (hm _ _ (by simpa [AV.ok] using h) e)
  | _, _, _, .nilFunc => .nilFunc
  | _, _, _, .nilIface => .nilIface
  | _, _, h, .iface a => .iface (RelV.ren hm hz (by simpa [AV.ok] using h) a)
  | _, _, h, .agg a => .agg (RelL.ren hm hz (by simpa [AV.ok] using h) a)
  | _, _, h, .tuple a => .tuple (RelL.ren hm hz (by simpa [AV.ok] using h) a)
  | _, _, _, .fslN => .fslN
  | .fsl _ _ cs, _, h, .fsl a b c d => by
    simp only [AV.ok, Bool.and_eq_true, Bool.not_eq_true'] at h
    refine .fsl (fun hn => ⟨(a fun e => hn (by rw [e]; rfl)).1, hz h.1 _ _ (a fun e => hn (by rw [e]; rfl)).2⟩) (RelL.ren hm hz h.2 b) c d
  | .fptr cs, _, h, .fptr a b c => by
    simp only [AV.ok, Bool.and_eq_true, Bool.not_eq_true'] at h
    refine .fptr (fun hn => ⟨(a fun e => hn (by rw [e]; rfl)).1, hz h.1 _ _ (a fun e => hn (by rw [e]; rfl)).2⟩) (RelL.ren hm hz h.2 b) c
theorem RelL.ren {nf : Bool} {p : Nat → Bool} {ρ : Nat → Nat} {μ μ' : Inj} (hm : ∀ b i, p b = true → μ b = some i → μ' (ρ b) = some i) (hz : nf = false → ∀ k arr, μ.fz k = some arr → μ'.fz k = some arr) :
    ∀ {v : List AV} {x : List Value}, AV.okL nf p v = true → RelL μ v x → RelL μ' (AV.renL ρ v) x
  | _, _, _, .nil => .nil
  | _, _, h, .cons a b => by
    simp only [AV.okL, Bool.and_eq_true] at h
    exact .cons (RelV.ren hm hz h.1 a) (RelL.ren hm hz h.2 b)
end

theorem AV.okL_get {nf : Bool} {p : Nat → Bool} : ∀ {cs : List AV} {k : Nat} {u : AV}, AV.okL nf p cs = true → cs[k]? = some u → u.ok nf p = true := by
  intro cs
  induction cs with
  | nil => intro k u _ h; cases h
  | cons c cs ih =>
    intro k u hc hx
    simp only [AV.okL, Bool.and_eq_true] at hc
    cases k with
    | zero => simp at hx; subst hx; exact hc.1
    | succ k => exact ih hc.2 (by simpa using hx)

/-- a block of cells, of other blocks. -/
def Blk.ren (ρ : Nat → Nat) : Blk → Blk
  | .cells o e n cs => .cells o e n (AV.renL ρ cs)
  | _ => .dead
/-- may a block of its own be taken over? -/
def Blk.ok (nf : Bool) (p : Nat → Bool) : Blk → Bool
  | .cells o _ _ cs => o && AV.okL nf p cs
  | _ => false

theorem RelB.ren {sz : TypeId → Nat} {base base' : Nat → Prop} {nf : Bool} {p : Nat → Bool} {ρ : Nat → Nat} {μ μ' : Inj} (hm : ∀ b i, p b = true → μ b = some i → μ' (ρ b) = some i) (hz : nf = false → ∀ k arr, μ.fz k = some arr → μ'.fz k = some arr)
    {i : BI} {w : World} {b : Blk} (hb : b.ok nf p = true) (hbase : base' i.blk → base i.blk) (h : RelB sz base μ i w b) : RelB sz base' μ' i w (b.ren ρ) := by
  cases b <;> simp only [Blk.ok] at hb <;> try (cases hb; done)
  rename_i o e n cs
  simp only [Bool.and_eq_true] at hb
  obtain ⟨ho, hc⟩ := hb
  obtain ⟨hl, arr, e', fr, ha, hcs, hown⟩ := h
  refine ⟨by rw [AV.renL_length]; exact hl, arr, e', fr, ha, fun k v hv => ?_, fun h => ?_⟩
  · rw [AV.renL_map, List.getElem?_map] at hv
    cases hx : cs[k]? with
    | none => rw [hx] at hv; cases hv
    | some u =>
      rw [hx] at hv
      injection hv with hv; subst hv
      obtain ⟨x, h1, h2⟩ := hcs k u hx
      exact ⟨x, h1, RelV.ren hm hz (AV.okL_get hc hx) h2⟩
  · obtain ⟨h1, h2⟩ := hown h
    exact ⟨fun hh => h1 (hbase hh), h2⟩

section
variable {sz : TypeId → Nat} {prot prot' : Nat → Prop} {w0 w w' : World} {μ μs : Inj} {H Hs : Heap}

/-- The injection of the larger heap behind a run in the small one. -/
def Inj.join (μ μs : Inj) (n : Nat) (sel : List Nat) (fz : Nat → Option (Array Value)) : Inj :=
  ⟨fun c => if c < n then μ c else (sel[c - n]?).bind fun j => μs j, fz, μ.lo⟩

set_option maxHeartbeats 1000000 in
/-- **What a run in a small heap leaves, in the larger one**: sel: the blocks that are new; per: those of the larger heap that it wrote. -/
theorem rebuild (hw : RelW sz prot w0 μ H w) (hs : RelW sz prot' w μs Hs w') (nf : Bool) (keep : Nat → Bool) (ρ : Nat → Nat) (sel : List Nat) (per : Nat → Option Nat) (fz : Nat → Option (Array Value)) (H' : Heap)
    (hpp : ∀ k, prot k → prot' k)
    (hfz : ∀ k arr, μ.fz k = some arr → fz k = some arr) (hfz2 : ∀ k arr, fz k = some arr → μs.fz k = some arr) (hfz3 : ∀ k arr, fz k = some arr → μ.fz k = some arr ∨ w.heap.size ≤ k) (hnf : nf = false → ∀ k arr, μs.fz k = some arr → fz k = some arr)
    (hnext : H'.next = H.next + sel.length) (hnd : ∀ (l l' j : Nat), sel[l]? = some j → sel[l']? = some j → l = l')
    (hkeep : ∀ j, keep j = true → (∃ l, sel[l]? = some j ∧ ρ j = H.next + l) ∨ (ρ j < H.next ∧ μs j = μ (ρ j)))
    (hold : ∀ c, c < H.next → H'.get c = .dead ∨ (per c = none ∧ H'.get c = H.get c ∧ ∀ i, μ c = some i → (H.get c).live = true → prot' i.blk) ∨
      ∃ j, per c = some j ∧ μs j = μ c ∧ H'.get c = (Hs.get j).ren ρ ∧ (Hs.get j).ok nf keep = true ∧ j ∉ sel)
    (hper : ∀ c c' j, per c = some j → per c' = some j → c = c')
    (hnew : ∀ (l j : Nat), sel[l]? = some j → H'.get (H.next + l) = (Hs.get j).ren ρ ∧ (Hs.get j).ok nf keep = true) :
    RelW sz prot w0 (Inj.join μ μs H.next sel fz) H' w' ∧ (∀ b i, keep b = true → μs b = some i → Inj.join μ μs H.next sel fz (ρ b) = some i) ∧ Grow H.next μ (Inj.join μ μs H.next sel fz) := by
  have hlo : ∀ k arr, fz k = some arr → μ.fz k = some arr ∨ μ.lo ≤ k := fun k arr e => (hfz3 k arr e).imp id fun h => Nat.le_trans hw.lo h
  have hold_lt : ∀ c, c < H.next → Inj.join μ μs H.next sel fz c = μ c := fun c hc => by show (if _ then _ else _) = _; rw [if_pos hc]
  have hnew_at : ∀ l, Inj.join μ μs H.next sel fz (H.next + l) = (sel[l]?).bind fun j => μs j := fun l => by
    show (if _ then _ else _) = _
    rw [if_neg (by omega)]; congr 2; omega
  have hm : ∀ b i, keep b = true → μs b = some i → Inj.join μ μs H.next sel fz (ρ b) = some i := by
    intro b i hk hb
    rcases hkeep b hk with ⟨l, hl, he⟩ | ⟨h1, h2⟩
    · rw [he, hnew_at, hl]; exact hb
    · rw [hold_lt _ h1, ← h2]; exact hb
  have hext : Ext μ (Inj.join μ μs H.next sel fz) := ⟨fun b i e => by rw [hold_lt b (hw.fresh b i e)]; exact e, hfz⟩
  -- the kinds of blocks: as it was; of the small run
  have kinds : ∀ c i, Inj.join μ μs H.next sel fz c = some i → (H'.get c).live = true → (c < H.next ∧ μ c = some i ∧ H'.get c = H.get c ∧ prot' i.blk) ∨
      ∃ j, μs j = some i ∧ H'.get c = (Hs.get j).ren ρ ∧ (Hs.get j).ok nf keep = true ∧ (per c = some j ∧ c < H.next ∧ j ∉ sel ∨ ∃ l, c = H.next + l ∧ sel[l]? = some j) := by
    intro c i hc hl
    by_cases hlt : c < H.next
    · rw [hold_lt c hlt] at hc
      rcases hold c hlt with h | ⟨h0, h1, h2⟩ | ⟨j, h1, h2, h3, h4, h5⟩
      · rw [h] at hl; cases hl
      · exact .inl ⟨hlt, hc, h1, h2 i hc (by rw [← h1]; exact hl)⟩
      · exact .inr ⟨j, by rw [h2]; exact hc, h3, h4, .inl ⟨h1, hlt, h5⟩⟩
    · obtain ⟨l, rfl⟩ : ∃ l, c = H.next + l := ⟨c - H.next, by omega⟩
      rw [hnew_at] at hc
      cases hs' : sel[l]? with
      | none => rw [hs'] at hc; cases hc
      | some j =>
        rw [hs'] at hc
        obtain ⟨h1, h2⟩ := hnew l j hs'
        exact .inr ⟨j, hc, h1, h2, .inr ⟨l, rfl, hs'⟩⟩
  have okw : ∀ j, (Hs.get j).ok nf keep = true → (Hs.get j).writes = true ∧ (Hs.get j).live = true := by
    intro j h
    cases hx : Hs.get j <;> rw [hx] at h <;> simp only [Blk.ok] at h <;> try (cases h; done)
    simp only [Bool.and_eq_true] at h
    exact ⟨h.1, rfl⟩
  have live_of : ∀ b : Blk, b.writes = true → b.live = true := by intro b h; cases b <;> simp_all [Blk.writes, Blk.live]
  have smalls : ∀ c j, (per c = some j ∧ c < H.next ∧ j ∉ sel ∨ ∃ l, c = H.next + l ∧ sel[l]? = some j) → ∀ c', (per c' = some j ∧ c' < H.next ∧ j ∉ sel ∨ ∃ l, c' = H.next + l ∧ sel[l]? = some j) → c = c' := by
    rintro c j (⟨h1, h2, h3⟩ | ⟨l, rfl, h1⟩) c' (⟨h1', h2', h3'⟩ | ⟨l', rfl, h1'⟩)
    · exact hper c c' j h1 h1'
    · exact absurd (List.mem_of_getElem? h1') h3
    · exact absurd (List.mem_of_getElem? h1) h3'
    · rw [hnd l l' j h1 h1']
  refine ⟨⟨hw.below.trans (hs.below.mono hpp), fun k hk => Nat.lt_of_lt_of_le (hw.baseLe k hk) hs.below.size, fun c i hc => ?_, fun c i hc => ?_, fun c c' i i' hc hc' hne hcw hcl => ?_, fun k arr e => hs.froz k arr (hfz2 k arr e), fun c i k arr hc hcw e => ?_, Nat.le_trans hw.lo hs.below.size⟩, hm,
    ⟨fun b hb => hold_lt b hb, hfz, rfl, hlo⟩⟩
  · rw [hnext]
    by_cases hlt : c < H.next
    · omega
    · obtain ⟨l, rfl⟩ : ∃ l, c = H.next + l := ⟨c - H.next, by omega⟩
      rw [hnew_at] at hc
      cases hs' : sel[l]? with
      | none => rw [hs'] at hc; cases hc
      | some j => have := (List.getElem?_eq_some_iff.1 hs').1; omega
  · by_cases hl : (H'.get c).live = true
    · rcases kinds c i hc hl with ⟨h1, h2, h3, h4⟩ | ⟨j, h1, h2, h3, _⟩
      · rw [h3]
        exact ((hw.blk c i h2).mono hext).same fun _ => hs.below.block _ h4
      · rw [h2]
        exact RelB.ren hm hnf h3 (fun h => hpp _ h) (hs.blk j i h1)
    · have : H'.get c = .dead := by cases hx : H'.get c <;> rw [hx] at hl <;> simp [Blk.live] at hl
      rw [this]; trivial
  · have hcl0 := live_of _ hcw
    rcases kinds c i hc hcl0 with ⟨h1, h2, h3, h4⟩ | ⟨j, h1, h2, h3, h5⟩ <;> rcases kinds c' i' hc' hcl with ⟨h1', h2', h3', h4'⟩ | ⟨j', h1', h2', h3', h5'⟩
    · rw [h3] at hcw; rw [h3'] at hcl
      exact hw.apart c c' i i' h2 h2' hne hcw hcl
    · have := (hs.blk j' i' h1').base (okw j' h3').1
      intro e; rw [e] at h4; exact this h4
    · have := (hs.blk j i h1).base (okw j h3).1
      intro e; rw [← e] at h4'; exact this h4'
    · have hjj : j ≠ j' := by
        intro e; subst e
        exact hne (smalls c j h5 c' h5')
      exact hs.apart j j' i i' h1 h1' hjj (okw j h3).1 (okw j' h3').2
  · have hcl0 := live_of _ hcw
    rcases kinds c i hc hcl0 with ⟨h1, h2, h3, h4⟩ | ⟨j, h1, h2, h3, h5⟩
    · rw [h3] at hcw
      rcases hfz3 k arr e with e | e
      · exact hw.frozApart c i k arr h2 hcw e
      · have := (hw.blk c i h2).lt (live_of _ hcw)
        omega
    · exact hs.frozApart j i k arr h1 (okw j h3).1 (hfz2 k arr e)
end
end Go.Ab
end
end

/- What is known of blocks of code: loops that leave the heap as it is; by rounds. -/
section
set_option autoImplicit false
set_option linter.unusedVariables false
set_option linter.unusedSimpArgs false
set_option linter.unusedSectionVars false
noncomputable section
namespace Go.Ab
open Go.RowKit

/-! ### Frames of which a few slots are known -/
def anys (n : Nat) : Fr := ofList 0 (List.replicate n .any) .nil
def frameOf (n : Nat) (l : List (Nat × AV)) : Fr := List.rec (motive := fun _ => Fr) (anys n) (fun p _ r => T.set .undef r p.1 p.2) l
theorem frameOf_get (n : Nat) (l : List (Nat × AV)) (t : Nat) : (frameOf n l).get t = (((l.find? fun p => p.1 == t).map (·.2)).getD (if t < n then .any else .undef)) := by
  induction l with
  | nil =>
    show (ofList 0 (List.replicate n .any) .nil).get t = _
    rw [ofList_get]
    by_cases h : t < n
    · rw [if_pos ⟨Nat.zero_le _, by simpa using h⟩, if_pos h]; simp [h]
    · rw [if_neg (by simp; omega), if_neg h]; rfl
  | cons p l ih =>
    show T.get .undef (T.set .undef (frameOf n l) p.1 p.2) t = _
    rw [T.get_set]
    by_cases h : t = p.1
    · rw [if_pos h]; simp [h]
    · rw [if_neg h]
      have : (p.1 == t) = false := by simpa using Ne.symm h
      rw [List.find?_cons, this]
      exact ih
theorem relF_frameOf {μ : Inj} {fr : Fr} {tmps : Array Value} {n : Nat} (hf : RelF μ fr.get tmps) (hs : tmps.size = n) (l : List (Nat × AV)) (h : ∀ q ∈ l, q.2 = .any ∨ fr.get q.1 = q.2) : RelF μ (frameOf n l).get tmps := by
  intro t
  rw [frameOf_get]
  cases hx : l.find? fun p => p.1 == t with
  | some q =>
    have hm := List.mem_of_find?_eq_some hx
    have he := List.find?_some hx
    simp only [Option.map_some, Option.getD_some]
    rcases h q hm with h | h
    · rw [h]; exact .any
    · rw [← h, eq_of_beq he]; exact hf t
  | none =>
    simp only [Option.map_none, Option.getD_none]
    split
    · exact .any
    · rename_i ht
      rw [Array.getD_eq_getD_getElem?, Array.getElem?_eq_none (by omega)]
      exact .undef

/-! ### What is said of a block of code -/
/-- from a state the code comes to another one; n0: the numbers that stay. -/
structure CodeOK (P : Program) (cx : Cx) (nn n0 : Nat) (c : Code) (s : St) (X : AX) (s' : St) : Prop where
  ok : ∀ {base : Nat → Prop} {w0 : World} {r : Option Nat} {n : Nat} {μ : Inj} {a : Act} {w : World} {Q : Exit → Act → World → Prop},
    RelF μ s.fr.get a.tmps → a.tmps.size = nn → RelD μ s.ds a.defers → RelW (szOf cx) base w0 μ s.H w →
    (∀ a' w', (∃ μ', Grow n0 μ μ' ∧ RelF μ' s'.fr.get a'.tmps ∧ RelD μ' s'.ds a'.defers ∧ RelW (szOf cx) base w0 μ' s'.H w') → a'.tmps.size = nn → Q (exOf X) a' w') → c.wpIn (FF r) n P Q a w

/-- a state is told with less. -/
structure Weak (P : Program) (cx : Cx) (nn n0 : Nat) (s s' : St) : Prop where
  ok : ∀ {base : Nat → Prop} {w0 w : World} {μ : Inj} {tmps : Array Value} {es : List Deferred}, RelF μ s.fr.get tmps → tmps.size = nn → RelD μ s.ds es → RelW (szOf cx) base w0 μ s.H w →
    ∃ μ', Grow n0 μ μ' ∧ RelF μ' s'.fr.get tmps ∧ RelD μ' s'.ds es ∧ RelW (szOf cx) base w0 μ' s'.H w

theorem Weak.refl {P : Program} {cx : Cx} {nn n0 : Nat} (s : St) : Weak P cx nn n0 s s := ⟨fun h1 _ h3 h4 => ⟨_, Grow.refl _ _, h1, h3, h4⟩⟩
theorem Weak.trans {P : Program} {cx : Cx} {nn n0 : Nat} {a b c : St} (h : Weak P cx nn n0 a b) (k : Weak P cx nn n0 b c) : Weak P cx nn n0 a c := ⟨fun h1 h2 h3 h4 => by
  obtain ⟨μ1, g1, f1, d1, w1⟩ := h.ok h1 h2 h3 h4
  obtain ⟨μ2, g2, f2, d2, w2⟩ := k.ok f1 h2 d1 w1
  exact ⟨μ2, g1.trans g2 (Nat.le_refl _), f2, d2, w2⟩⟩

/-! ### What was there before looks at what was there before -/
mutual
theorem RelV.back {μ μ' : Inj} (ext : ∀ b i, μ b = some i → μ' b = some i) : ∀ {v : AV} {x y : Value}, RelV μ v x → RelV μ' v y → RelV ⟨μ.map, μ'.fz, μ.lo⟩ v y
  | .undef, _, _, _, .undef => .undef
  | .any, _, _, _, .any => .any
  | .int _ _, _, _, _, .int k n => .int k n
  | .bool _, _, _, _, .bool b => .bool b
  | .str _, _, _, _, .str s => .str s
  | .ptr none, _, _, _, .ptrN => .ptrN
  | .ptr (some (b, o)), _, _, .ptr e, .ptr e' => by
    rw [ext _ _ e] at e'; cases e'; exact .ptr e
  | .slice none _ _, _, _, _, .sliceN => .sliceN
  | .slice (some (b, o)) _ (some _), _, _, .slice e _ _, .slice e' h1 h2 => by
    rw [ext _ _ e] at e'; cases e'; exact .slice e h1 h2
  | .slice (some (b, o)) _ none, _, _, .sliceU e _ _ _, .sliceU e' h1 h2 h3 => by
    rw [ext _ _ e] at e'; cases e'; exact .sliceU e h1 h2 h3
  | .map none, _, _, _, .mapN => .mapN
  | .map (some r), _, _, .map e, .map e' => by
    rw [ext _ _ e] at e'; cases e'; exact .map e
  | .func _ _ _, _, _, .func a b, .func a' b' => .func (RelL.back ext a a') (RelL.back ext b b')
  | .yield _, _, _, .yield e, .yield e' => by
    rw [ext _ _ e] at e'; cases e'; exact .yield e
  | .nilFunc, _, _, _, .nilFunc => .nilFunc
  | .nilIface, _, _, _, .nilIface => .nilIface
  | .iface _ _, _, _, .iface a, .iface a' => .iface (RelV.back ext a a')
  | .agg _, _, _, .agg a, .agg a' => .agg (RelL.back ext a a')
  | .tuple _, _, _, .tuple a, .tuple a' => .tuple (RelL.back ext a a')
  | .fsl true _ _, _, _, _, .fslN => .fslN
  | .fsl false _ cs, _, _, .fsl _ a _ _, .fsl h1 a' h2 h3 => .fsl h1 (RelL.back ext a a') h2 h3
  | .fptr cs, _, _, .fptr _ a _, .fptr h1 a' h2 => .fptr h1 (RelL.back ext a a') h2
theorem RelL.back {μ μ' : Inj} (ext : ∀ b i, μ b = some i → μ' b = some i) : ∀ {v : List AV} {x y : List Value}, RelL μ v x → RelL μ' v y → RelL ⟨μ.map, μ'.fz, μ.lo⟩ v y
  | [], _, _, _, .nil => .nil
  | _ :: _, _, _, .cons a b, .cons a' b' => .cons (RelV.back ext a a') (RelL.back ext b b')
end
theorem RelE.back {μ μ' : Inj} (ext : ∀ b i, μ b = some i → μ' b = some i) : ∀ {es : List (AV × AV)} {x y : List MapEntry}, RelE μ es x → RelE μ' es y → RelE ⟨μ.map, μ'.fz, μ.lo⟩ es y := by
  intro es
  induction es with
  | nil => intro x y _ h; cases h; exact .nil
  | cons e es ih =>
    intro x y h h'
    cases h with
    | cons a b c => cases h' with
      | cons a' b' c' => exact .cons (a.back ext a') (b.back ext b') (ih c c')

theorem roundsIn_more {F : Fence} {n : Nat} {P : Program} {c : Code} {Q : Exit → Act → World → Prop} : ∀ {m m' : Nat} {a : Act} {w : World}, Code.roundsIn F n P c Q m a w → m ≤ m' → Code.roundsIn F n P c Q m' a w := by
  intro m
  induction m with
  | zero => intro m' a w h; exact h.elim
  | succ m ih =>
    intro m' a w h hm
    obtain ⟨k, rfl⟩ : ∃ k, m' = k + 1 := ⟨m' - 1, by omega⟩
    rw [roundsIn_succ] at h ⊢
    refine Code.wpIn_mono (fun e a w he => ?_) h
    cases e <;> first | exact he | exact ih he (by omega)

section
variable {P : Program} {cx : Cx} {nn n0 : Nat}

theorem Grow.mono {n m : Nat} {μ μ' : Inj} (h : Grow n μ μ') (hm : m ≤ n) : Grow m μ μ' := ⟨fun b hb => h.same b (by omega), h.fz, h.lo, h.fzn⟩

theorem EndOK.code {base : Nat → Prop} {w0 : World} {μ : Inj} {H : Heap} {s' : St} {a' : Act} {w' : World} (h : EndOK cx base w0 nn μ H s' a' w') (hn : n0 ≤ H.next) : ∃ μ', Grow n0 μ μ' ∧ RelF μ' s'.fr.get a'.tmps ∧ RelD μ' s'.ds a'.defers ∧ RelW (szOf cx) base w0 μ' s'.H w' := by
  obtain ⟨e1, ⟨μ', e2, e3, e4, e5⟩, e6⟩ := h
  exact ⟨μ', e2.mono hn, e3, e4, e5⟩

/-- A run of code without a loop over a function. -/
theorem CodeOK.run (hcx : CxOK P cx) (hs : SumAll P cx) {g f : Nat} {fn : FuncId} {c : Code} {s s' : St} {X : AX} (h : aCode cx (aCall cx g) fn none nn f c s = some (X, s')) (hn : n0 ≤ s.H.next) (hr : noRange c = true) : CodeOK P cx nn n0 c s X s' := by
  refine ⟨fun {base w0 r n μ a w Q} h1 h2 h3 h4 hq => ?_⟩
  exact aCode_sound hcx (aCall_sound hcx (hs.sum base w0) (hs.loop base w0) g) (hs.loop base w0) f c s s' X μ a w Q h h1 h2 h3 h4 (.inl hr) fun a' w' e => hq a' w' (e.code hn) e.size

theorem CodeOK.weak {c : Code} {s s1 s2 : St} {X : AX} (h : CodeOK P cx nn n0 c s X s1) (hw : Weak P cx nn n0 s1 s2) : CodeOK P cx nn n0 c s X s2 := by
  refine ⟨fun {base w0 r n μ a w Q} h1 h2 h3 h4 hq => ?_⟩
  refine h.ok h1 h2 h3 h4 fun a' w' ⟨μ1, g1, f1, d1, w1⟩ hs => ?_
  obtain ⟨μ2, g2, f2, d2, w2⟩ := hw.ok f1 hs d1 w1
  exact hq a' w' ⟨μ2, g1.trans g2 (Nat.le_refl _), f2, d2, w2⟩ hs

/-- **Rounds**: each one goes on to a state that is less, with the same end, or ends. -/
theorem CodeOK.loop {α : Type} {b : Code} (S : α → St) (F : α → AX × St) (m : α → Nat)
    (step : ∀ p, (∃ p', CodeOK P cx nn n0 b (S p) .normal (S p') ∧ F p' = F p ∧ m p' < m p) ∨ (CodeOK P cx nn n0 b (S p) (F p).1 (F p).2 ∧ (F p).1 ≠ .normal)) : ∀ p, CodeOK P cx nn n0 (.loop b) (S p) (F p).1 (F p).2 := by
  intro p
  obtain ⟨k, hk⟩ : ∃ k, k = m p := ⟨_, rfl⟩
  refine ⟨fun {base w0 r n μ a w Q} h1 h2 h3 h4 hq => ?_⟩
  refine wpIn_loop_rounds (k + 1) ?_
  revert p μ a w
  induction k using Nat.strongRecOn with
  | ind k ih =>
    intro p hk μ a w h1 h2 h3 h4 hq
    rw [roundsIn_succ]
    rcases step p with ⟨p', hc, hF, hm⟩ | ⟨hc, hX⟩
    · refine hc.ok h1 h2 h3 h4 fun a' w' ⟨μ1, g1, f1, d1, w1⟩ hs => ?_
      have := ih (m p') (by omega) p' rfl f1 hs d1 w1 (by
        rw [hF]
        intro a2 w2 ⟨μ2, g2, f2, d2, w2'⟩ hs2
        exact hq a2 w2 ⟨μ2, g1.trans g2 (Nat.le_refl _), f2, d2, w2'⟩ hs2)
      exact roundsIn_more this (by omega)
    · refine hc.ok h1 h2 h3 h4 fun a' w' he hs => ?_
      have := hq a' w' he hs
      cases hx : (F p).1 with
      | normal => exact absurd hx hX
      | exit id => rw [hx] at this; exact this
      | ret => rw [hx] at this; exact this

/-- a block around. -/
def AX.inBlock (id : Nat) (X : AX) : AX :=
  match X with
  | .exit id' => if id' = id then .normal else .exit id'
  | x => x
theorem CodeOK.block {b : Code} {s s' : St} {X : AX} (id : Nat) (h : CodeOK P cx nn n0 b s X s') : CodeOK P cx nn n0 (.block id b) s (AX.inBlock id X) s' := by
  refine ⟨fun {base w0 r n μ a w Q} h1 h2 h3 h4 hq => ?_⟩
  refine wpIn_block (h.ok h1 h2 h3 h4 fun a' w' he hs => ?_)
  have := hq a' w' he hs
  unfold AX.inBlock at this
  cases X with
  | normal => exact this
  | ret => exact this
  | exit id' =>
    simp only at this
    simp only [exOf, Exit.inBlock]
    split at this
    · rename_i h; rw [if_pos h]; exact this
    · rename_i h; rw [if_neg h]; exact this

/-! ### Loops that leave the heap as it is -/
/-- What lies below a number is as it was; the rest is forgotten. -/
theorem RelW.cut {sz : TypeId → Nat} {base : Nat → Prop} {w0 w w' : World} {μ μ' : Inj} {H H1 : Heap} (hw : RelW sz base w0 μ H w) (hw' : RelW sz base w0 μ' H1 w') (hg : Grow H.next μ μ') (hsame : ∀ b, b < H.next → H1.get b = H.get b) :
    RelW sz base w0 ⟨μ.map, μ'.fz, μ.lo⟩ H w' := by
  have ext : ∀ b i, μ b = some i → μ' b = some i := fun b i e => (hg.same b (hw.fresh b i e)).trans e
  refine ⟨hw'.below, hw'.baseLe, hw.fresh, fun b i e => ?_, fun b b' i i' e e' => ?_, hw'.froz, fun b i k arr e hwr hz => ?_, by have := hw'.lo; rw [hg.lo] at this; exact this⟩
  · have h1 := hw'.blk b i (ext b i e)
    have h0 := hw.blk b i e
    rw [hsame b (hw.fresh b i e)] at h1
    cases hb : H.get b <;> rw [hb] at h0 h1 <;> first | trivial | skip
    · obtain ⟨hl, arr, e', fr, ha, hc, ho⟩ := h1
      obtain ⟨_, _, _, _, _, hc0, _⟩ := h0
      refine ⟨hl, arr, e', fr, ha, fun k v hv => ?_, ho⟩
      obtain ⟨x, hx, hr⟩ := hc k v hv
      obtain ⟨x0, _, hr0⟩ := hc0 k v hv
      exact ⟨x, hx, RelV.back ext hr0 hr⟩
    · obtain ⟨hb1, fs, clock, hh, hr⟩ := h1
      obtain ⟨_, fs0, _, _, hr0⟩ := h0
      exact ⟨hb1, fs, clock, hh, RelE.back ext hr0 hr⟩
    · obtain ⟨hb1, tmps, di, ls, pe, fn', hh, hd, hn, hf, hst⟩ := h1
      obtain ⟨_, tmps0, di0, _, _, _, _, hd0, _, hf0, _⟩ := h0
      have : di = di0 := by have := ext _ _ hd0; rw [hd] at this; injection this
      subst this
      exact ⟨hb1, tmps, di, ls, pe, fn', hh, hd0, hn, fun t => RelV.back ext (hf0 t) (hf t), hst⟩
  · intro hne hcw hcl
    exact hw'.apart b b' i i' (ext b i e) (ext b' i' e') hne (by rw [hsame b (hw.fresh b i e)]; exact hcw) (by rw [hsame b' (hw.fresh b' i' e')]; exact hcl)
  · exact hw'.frozApart b i k arr (ext b i e) (by rw [hsame b (hw.fresh b i e)]; exact hwr) hz

theorem RelD.back {μ μ' : Inj} (ext : ∀ b i, μ b = some i → μ' b = some i) {ds : List Nat} {es es' : List Deferred} (h : RelD μ ds es) (h' : RelD μ' ds es') : RelD ⟨μ.map, μ'.fz, μ.lo⟩ ds es' := by
  induction h generalizing es' with
  | nil => cases h'; exact .nil
  | cons a _ ih => cases h' with
    | cons a' b' =>
      rw [ext _ _ a] at a'; cases a'
      exact .cons a (ih b')

/-- A run that leaves the heap as it was; what it made is forgotten. -/
theorem CodeOK.pure (hcx : CxOK P cx) (hs : SumAll P cx) {g f : Nat} {fn : FuncId} {c : Code} {s s1 : St} {X : AX} (h : aCode cx (aCall cx g) fn none nn f c s = some (X, s1)) (hr : noRange c = true) (hds : s1.ds = s.ds) (hsame : ∀ b, b < s.H.next → s1.H.get b = s.H.get b)
    (l : List (Nat × AV)) (hl : ∀ q ∈ l, q.2 = .any ∨ (s1.fr.get q.1 = q.2 ∧ (q.2.plain = true ∨ ∃ t, s.fr.get t = q.2))) : CodeOK P cx nn s.H.next c s X ⟨frameOf nn l, s.ds, s.H⟩ := by
  refine ⟨fun {base w0 r n μ a w Q} h1 h2 h3 h4 hq => ?_⟩
  refine aCode_sound hcx (aCall_sound hcx (hs.sum base w0) (hs.loop base w0) g) (hs.loop base w0) f c s s1 X μ a w Q h h1 h2 h3 h4 (.inl hr) fun a' w' e => ?_
  obtain ⟨e1, ⟨μ', e2, e3, e4, e5⟩, e6⟩ := e
  have ext : ∀ b i, μ b = some i → μ' b = some i := fun b i e => (e2.same b (h4.fresh b i e)).trans e
  refine hq a' w' ⟨⟨μ.map, μ'.fz, μ.lo⟩, ⟨fun _ _ => rfl, e2.fz, rfl, e2.fzn⟩, ?_, ?_, RelW.cut h4 e5 e2 hsame⟩ e6
  · intro t
    rw [frameOf_get]
    cases hx : l.find? fun p => p.1 == t with
    | some q =>
      have hm := List.mem_of_find?_eq_some hx
      have he := List.find?_some hx
      simp only [beq_iff_eq] at he
      simp only [Option.map_some, Option.getD_some]
      rcases hl q hm with h | ⟨h, h'⟩
      · rw [h]; exact .any
      · have hv := e3 t
        rw [← he, h] at hv
        rw [← he]
        rcases h' with h' | ⟨t', h'⟩
        · exact RelV.move (μ := μ') (μ' := ⟨μ.map, μ'.fz, μ.lo⟩) (fun _ _ e => e) h' hv
        · have h0 := h1 t'
          rw [h'] at h0
          exact RelV.back ext h0 hv
    | none =>
      simp only [Option.map_none, Option.getD_none]
      split
      · exact .any
      · rename_i ht
        rw [Array.getD_eq_getD_getElem?, Array.getElem?_eq_none (by omega)]
        exact .undef
  · rw [hds] at e4
    exact RelD.back ext h3 e4

/-- fewer slots are told. -/
theorem Weak.slots (s : St) (l : List (Nat × AV)) (h : ∀ q ∈ l, q.2 = .any ∨ s.fr.get q.1 = q.2) : Weak P cx nn n0 s ⟨frameOf nn l, s.ds, s.H⟩ := ⟨fun h1 h2 h3 h4 => ⟨_, Grow.refl _ _, relF_frameOf h1 h2 l h, h3, h4⟩⟩
end

/-- Conditions. -/
def allTrue (l : List Bool) : Bool := List.rec (motive := fun _ => Bool) true (fun b _ r => cb b r false) l
def musts {α : Type} (l : List Bool) (k : S α) : S α := List.rec (motive := fun _ => S α) k (fun b _ r => S.must b r) l
theorem musts_snd {α : Type} {k : S α} {o : Option α} (h : Snd k o) : ∀ l : List Bool, Snd (musts l k) (cb (allTrue l) o none) := by
  intro l
  induction l with
  | nil => exact h
  | cons b l ih =>
    show Snd (S.must b (musts l k)) (cb (cb b (allTrue l) false) o none)
    exact Snd.must fun hb => by rw [hb]; exact ih
theorem allTrue_cons {b : Bool} {l : List Bool} : allTrue (b :: l) = true ↔ b = true ∧ allTrue l = true := by
  show cb b (allTrue l) false = true ↔ _
  cases b <;> simp

/-- What a loop does that leaves the heap as it is: slots, their values ahead of it: conditions, the end, their values behind it. -/
structure PLoop where
  nn : Nat
  code : Code
  slots : List Nat
  m : List AV → Option (List Bool × AX × List AV)
def PLoop.lsum (L : PLoop) : LSum where
  code := L.code
  run nn s := cb (Nat.beq nn L.nn) ((L.m (L.slots.map s.fr.get)).ob fun r => cb (allTrue r.1) (some (r.2.1, ⟨frameOf L.nn (L.slots.zip r.2.2), s.ds, s.H⟩)) none) none
def PLoop.lsumS (L : PLoop) : Code × (Nat → St → S (AX × St)) :=
  (L.code, fun nn s => cb (Nat.beq nn L.nn) (S.bind (S.lift (L.m (L.slots.map s.fr.get))) fun r => musts r.1 (S.pure (r.2.1, ⟨frameOf L.nn (L.slots.zip r.2.2), s.ds, s.H⟩))) S.fail)
theorem PLoop.snd (L : PLoop) (nn : Nat) (s : St) : Snd (L.lsumS.2 nn s) (L.lsum.run nn s) := Snd.cb_bool (Snd.bind (Snd.lift _) fun r _ => musts_snd (Snd.pure _) _) (Snd.fail _)

/-- what is owed for it. -/
def PLoop.OK (P : Program) (cx : Cx) (id : Nat) (L : PLoop) : Prop :=
  ∀ vs conds X vs', L.m vs = some (conds, X, vs') → allTrue conds = true → vs.length = L.slots.length → ∀ ds H, CodeOK P cx L.nn H.next (.block id L.code) ⟨frameOf L.nn (L.slots.zip vs), ds, H⟩ X ⟨frameOf L.nn (L.slots.zip vs'), ds, H⟩

/-- What is known of blocks of code, by a list. -/
abbrev LTab := List ((FuncId × Nat) × PLoop)
def ltFind (l : LTab) (fn : FuncId) (id : Nat) : Option PLoop := List.rec (motive := fun _ => Option PLoop) none (fun p _ r => cb (Nat.beq fn p.1.1 && Nat.beq id p.1.2) (some p.2) r) l
theorem ltFind_mem {l : LTab} {fn : FuncId} {id : Nat} {L : PLoop} (h : ltFind l fn id = some L) : ((fn, id), L) ∈ l := by
  induction l with
  | nil => cases h
  | cons p l ih =>
    change cb (Nat.beq fn p.1.1 && Nat.beq id p.1.2) (some p.2) (ltFind l fn id) = some L at h
    cases hb : (Nat.beq fn p.1.1 && Nat.beq id p.1.2) with
    | true =>
      rw [hb, cb_true] at h
      injection h with h
      rw [Bool.and_eq_true] at hb
      have h1 := Nat.eq_of_beq_eq_true hb.1
      have h2 := Nat.eq_of_beq_eq_true hb.2
      subst h1; subst h2; subst h
      obtain ⟨⟨a, b⟩, c⟩ := p
      simp
    | false =>
      rw [hb, cb_false] at h
      simp [ih h]
def ltLoop (l : LTab) : FuncId → Nat → Option LSum := fun fn id => (ltFind l fn id).ob fun L => some L.lsum
def ltLoopS (l : LTab) : LoopS := fun fn id => (ltFind l fn id).ob fun L => some L.lsumS

theorem ltLoops_snd {cx : Cx} {l : LTab} (h : cx.loop = ltLoop l) : LoopsSOK cx (ltLoopS l) := by
  refine ⟨fun fn id m hm => ?_, fun fn id hm => ?_⟩
  · unfold ltLoopS at hm
    replace hm := ob_eq hm; obtain ⟨L, hL, hm⟩ := hm
    injection hm with hm; subst hm
    exact ⟨L.lsum, by rw [h, ltLoop, hL]; rfl, rfl, fun n s => L.snd n s⟩
  · unfold ltLoopS at hm
    rw [h, ltLoop]
    cases hL : ltFind l fn id with
    | none => rfl
    | some L => rw [hL] at hm; cases hm

/-- **A list of loops is sound**, if each is what its code does. -/
theorem ltLoops_ok {P : Program} {cx : Cx} {l : LTab} (h : cx.loop = ltLoop l) (hl : ∀ p ∈ l, p.2.OK P cx p.1.2) (base : Nat → Prop) (w0 : World) : LoopsOK P cx base w0 := by
  intro fn id L hL nn r n s s' X μ a w Q hrun h1 h2 h3 h4 hq
  rw [h, ltLoop] at hL
  replace hL := ob_eq hL; obtain ⟨L0, hL0, hL⟩ := hL
  injection hL with hL; subst hL
  have hok := hl _ (ltFind_mem hL0)
  simp only [PLoop.lsum] at hrun
  cases hnn : Nat.beq nn L0.nn with
  | false => rw [hnn] at hrun; cases hrun
  | true =>
    rw [hnn, cb_true] at hrun
    have hnn := Nat.eq_of_beq_eq_true hnn
    subst hnn
    replace hrun := ob_eq hrun; obtain ⟨⟨conds, X0, vs'⟩, hm, hrun⟩ := hrun
    simp only at hrun
    cases hc : allTrue conds with
    | false => rw [hc] at hrun; cases hrun
    | true =>
      rw [hc, cb_true] at hrun
      injection hrun with hrun; injection hrun with e1 e2
      subst e1; subst e2
      have hk : CodeOK P cx L0.nn s.H.next (.block id L0.code) ⟨frameOf L0.nn (L0.slots.zip (L0.slots.map s.fr.get)), s.ds, s.H⟩ X0 ⟨frameOf L0.nn (L0.slots.zip vs'), s.ds, s.H⟩ := hok _ _ _ _ hm hc (by simp) s.ds s.H
      refine hk.ok (Q := Q) (relF_frameOf h1 h2 _ fun q hq => ?_) h2 h3 h4 fun a' w' ⟨μ', g, f, d, w1⟩ hs => hq a' w' ⟨Nat.le_refl _, ⟨μ', g, f, d, w1⟩, hs⟩
      right
      obtain ⟨i, hi⟩ := List.getElem?_of_mem hq
      rw [List.getElem?_zip_eq_some] at hi
      obtain ⟨i1, i2⟩ := hi
      rw [List.getElem?_map, i1] at i2
      simpa using i2
end Go.Ab
end
end

/- What is known of functions that change nothing: their arguments are looked at as they stand; what is new, is new. -/
section
set_option autoImplicit false
set_option linter.unusedVariables false
set_option linter.unusedSimpArgs false
set_option linter.unusedSectionVars false
noncomputable section
namespace Go.Ab
open Go.RowKit

/-! ### How arguments stand -/
def vInt (b : Bool) (v : AV) : Option (List Bool × AV) := some ([], v)
/-- a value without blocks, or a row of values without blocks as a frozen one. -/
def view1 (cx : Cx) (H : Heap) (nf : Bool) (v : AV) : Option (List Bool × AV) :=
  match v with
  | .int k n => some ([], .int k n)
  | .bool b => some ([], .bool b)
  | .str s => some ([], .str s)
  | .ptr p => cb p.isNone (some ([], .ptr none)) none
  | .map r => cb r.isNone (some ([], .map none)) none
  | .nilFunc => some ([], .nilFunc)
  | .nilIface => some ([], .nilIface)
  | .fsl n l cs => some ([AV.plainL cs], .fsl n l cs)
  | .fptr cs => some ([AV.plainL cs], .fptr cs)
  | .slice p len c => match p with
    | none => some ([], .fsl true 0 [])
    | some p => cb nf (match H.get p.1 with
      | .cells _ e n cs => some ([Nat.ble (p.2 + len * szOf cx e) n, AV.plainL cs], .fsl false len (rowCut cs p.2 (len * szOf cx e)))
      | _ => none) none
  | _ => none
def views1 (cx : Cx) (H : Heap) (nf : Bool) (l : List AV) : Option (List Bool × List AV) :=
  List.rec (motive := fun _ => Option (List Bool × List AV)) (some ([], [])) (fun v _ r => (view1 cx H nf v).ob fun a => r.ob fun b => some (a.1 ++ b.1, a.2 :: b.2)) l
def viewV (cx : Cx) (H : Heap) (nf : Bool) (v : AV) : Option (List Bool × AV) :=
  match v with
  | .agg cs => (views1 cx H nf cs).ob fun r => some (r.1, .agg r.2)
  | .func f x y => (views1 cx H nf x).ob fun a => (views1 cx H nf y).ob fun b => some (a.1 ++ b.1, .func f a.2 b.2)
  | .ptr p => match p with
    | none => some ([], .ptr none)
    | some p => cb nf (match H.get p.1 with
      | .cells _ e n cs => (views1 cx H nf (List.drop p.2 cs)).ob fun r => some (r.1, .fptr r.2)
      | _ => none) none
  | v => view1 cx H nf v
def viewsV (cx : Cx) (H : Heap) (nf : Bool) (l : List AV) : Option (List Bool × List AV) :=
  List.rec (motive := fun _ => Option (List Bool × List AV)) (some ([], [])) (fun v _ r => (viewV cx H nf v).ob fun a => r.ob fun b => some (a.1 ++ b.1, a.2 :: b.2)) l

/-- all rows of the world as they stand. -/
def fzAll (w : World) : Nat → Option (Array Value) := fun k => match w.heap[k]? with
  | some (.cells arr _ _) => some arr
  | _ => none
/-- the injection by which a function is looked at. -/
def Inj.seen (μ : Inj) (nf : Bool) (w : World) : Inj := ⟨fun _ => none, cb nf (fzAll w) μ.fz, w.heap.size⟩

theorem allTrue_append {a b : List Bool} : allTrue (a ++ b) = true ↔ allTrue a = true ∧ allTrue b = true := by
  induction a with
  | nil => simp [allTrue]
  | cons x a ih => rw [List.cons_append, allTrue_cons, allTrue_cons, ih, and_assoc]

section
variable {P : Program} {cx : Cx} {base : Nat → Prop} {w0 w : World} {μ : Inj} {H : Heap} (hw : RelW (szOf cx) base w0 μ H w) {nf : Bool}

include hw in
theorem seen_fz : ∀ k arr, μ.fz k = some arr → (μ.seen nf w).fz k = some arr := by
  intro k arr h
  cases nf with
  | false => exact h
  | true =>
    obtain ⟨e, fr, hk⟩ := hw.froz k arr h
    show fzAll w k = some arr
    unfold fzAll
    rw [hk]
include hw in
theorem relW_seen : RelW (szOf cx) (Old w) w (μ.seen nf w) H0 w := by
  refine ⟨Keep.refl _ _, fun _ h => h, fun _ _ e => (by cases e), fun _ _ e => (by cases e), fun _ _ _ _ e => (by cases e), fun k arr e => ?_, fun _ _ _ _ e => (by cases e), Nat.le_refl _⟩
  cases nf with
  | false => exact hw.froz k arr e
  | true =>
    have e : fzAll w k = some arr := e
    unfold fzAll at e
    split at e
    · rename_i arr' t fr hk
      injection e with e; subst e
      exact ⟨t, fr, hk⟩
    · cases e

theorem plainL_cut {cs : List AV} (h : AV.plainL cs = true) (o n : Nat) : AV.plainL (rowCut cs o n) = true := by
  have key : ∀ l : List AV, AV.plainL l = true ↔ ∀ v ∈ l, v.plain = true := by
    intro l
    induction l with
    | nil => simp [AV.plainL]
    | cons v l ih => simp [AV.plainL, ih]
  rw [key] at h ⊢
  intro v hv
  exact h v (List.mem_of_mem_drop (List.mem_of_mem_take hv))

include hw in
theorem view1_sound {v u : AV} {c : List Bool} {x : Value} (h : view1 cx H nf v = some (c, u)) (hc : allTrue c = true) (hr : RelV μ v x) : RelV (μ.seen nf w) u x := by
  cases v <;> simp only [view1] at h <;> try (cases h; done)
  case int k n => injection h with h; injection h with h1 h2; subst h2; cases hr; exact .int _ _
  case bool b => injection h with h; injection h with h1 h2; subst h2; cases hr; exact .bool _
  case str s => injection h with h; injection h with h1 h2; subst h2; cases hr; exact .str _
  case nilFunc => injection h with h; injection h with h1 h2; subst h2; cases hr; exact .nilFunc
  case nilIface => injection h with h; injection h with h1 h2; subst h2; cases hr; exact .nilIface
  case ptr p =>
    cases p with
    | none => injection h with h; injection h with h1 h2; subst h2; cases hr; exact .ptrN
    | some p => cases h
  case map r =>
    cases r with
    | none => injection h with h; injection h with h1 h2; subst h2; cases hr; exact .mapN
    | some p => cases h
  case fsl n l cs =>
    injection h with h; injection h with h1 h2; subst h1; subst h2
    rw [allTrue_cons] at hc
    exact RelV.move (seen_fz hw) (by simpa [AV.plain] using hc.1) hr
  case fptr cs =>
    injection h with h; injection h with h1 h2; subst h1; subst h2
    rw [allTrue_cons] at hc
    exact RelV.move (seen_fz hw) (by simpa [AV.plain] using hc.1) hr
  case slice p len cp =>
    cases p with
    | none =>
      injection h with h; injection h with h1 h2; subst h2
      obtain ⟨rfl, rfl, rfl⟩ := rel_slice_none hr
      exact .fslN
    | some p =>
      cases nf with
      | false => cases h
      | true =>
        simp only [cb_true] at h
        split at h
        · rename_i own e n cs hg
          injection h with h; injection h with h1 h2; subst h1; subst h2
          rw [allTrue_cons, allTrue_cons] at hc
          obtain ⟨hle, hpl, _⟩ := hc
          have hle := Nat.le_of_ble_eq_true hle
          obtain ⟨i, ad, k, hi, rfl, hlk, had, _⟩ := rel_slice hr
          obtain ⟨hl, arr, e', fr, harr, hcs, _⟩ := hw.row hi hg
          have hcut : cellsAt H p (len * szOf cx e) = some (rowCut cs p.2 (len * szOf cx e)) := by
            unfold cellsAt
            rw [hg]
            simp only
            rw [if_pos hle]
          obtain ⟨xs, hrx, hxl, hxc⟩ := cells_read hw hcut hi
          refine RelV.fsl (arr := arr) (vs := xs) (fun hne => ?_) (RelL.move (seen_fz hw) (plainL_cut hpl _ _) hrx) (fun j y hj => ?_) hlk
          · have hk : k ≠ 0 := by
              intro hk
              apply hne
              have : len = 0 := by omega
              rw [this]; simp [rowCut]
            rw [had hk]
            refine ⟨rfl, ?_⟩
            show fzAll w i.blk = some arr
            unfold fzAll
            rw [harr]
          · have hj' : j < xs.length := (List.getElem?_eq_some_iff.1 hj).1
            have hk : k ≠ 0 := by
              intro hk
              have : len = 0 := by omega
              rw [hxl, this] at hj'; simp at hj'
            have := hxc j y hj
            rw [had hk]
            simpa [World.cell?, harr] using this
        · cases h

include hw in
theorem views1_sound : ∀ {vs us : List AV} {c : List Bool} {xs : List Value}, views1 cx H nf vs = some (c, us) → allTrue c = true → RelL μ vs xs → RelL (μ.seen nf w) us xs := by
  intro vs
  induction vs with
  | nil => intro us c xs h hc hr; cases hr; injection h with h; injection h with h1 h2; subst h2; exact .nil
  | cons v vs ih =>
    intro us c xs h hc hr
    cases hr with
    | cons a b =>
      change ((view1 cx H nf v).ob fun a => (views1 cx H nf vs).ob fun b => some (a.1 ++ b.1, a.2 :: b.2)) = some (c, us) at h
      replace h := ob_eq h; obtain ⟨⟨c1, u⟩, h1, h⟩ := h
      replace h := ob_eq h; obtain ⟨⟨c2, us'⟩, h2, h⟩ := h
      injection h with h; injection h with e1 e2; subst e1; subst e2
      rw [allTrue_append] at hc
      exact .cons (view1_sound hw h1 hc.1 a) (ih h2 hc.2 b)

include hw in
theorem viewV_sound {v u : AV} {c : List Bool} {x : Value} (h : viewV cx H nf v = some (c, u)) (hc : allTrue c = true) (hr : RelV μ v x) : RelV (μ.seen nf w) u x := by
  cases v
  case agg cs =>
    simp only [viewV] at h
    replace h := ob_eq h; obtain ⟨⟨c1, us⟩, h1, h⟩ := h
    injection h with h; injection h with e1 e2; subst e1; subst e2
    obtain ⟨xs, rfl, hx⟩ := rel_agg hr
    exact .agg (views1_sound hw h1 hc hx)
  case func f a b =>
    simp only [viewV] at h
    replace h := ob_eq h; obtain ⟨⟨c1, us⟩, h1, h⟩ := h
    replace h := ob_eq h; obtain ⟨⟨c2, vs⟩, h2, h⟩ := h
    injection h with h; injection h with e1 e2; subst e1; subst e2
    rw [allTrue_append] at hc
    cases hr with
    | func r1 r2 => exact .func (views1_sound hw h1 hc.1 r1) (views1_sound hw h2 hc.2 r2)
  case ptr p =>
    cases p with
    | none => simp only [viewV] at h; injection h with h; injection h with h1 h2; subst h2; cases hr; exact .ptrN
    | some p =>
      cases nf with
      | false => simp only [viewV, cb_false] at h; cases h
      | true =>
        simp only [viewV, cb_true] at h
        split at h
        · rename_i own e n cs hg
          replace h := ob_eq h; obtain ⟨⟨c1, us⟩, h1, h⟩ := h
          injection h with h; injection h with e1 e2; subst e1; subst e2
          obtain ⟨i, hi, rfl⟩ := rel_ptr hr
          obtain ⟨hl, arr, e', fr, harr, hcs, _⟩ := hw.row hi hg
          have hrx : RelL μ (cs.drop p.2) ((List.range (cs.length - p.2)).map fun j => (arr[i.off + p.2 + j]?).getD Go.undef) := by
            refine RelL.of_get (by simp) fun k v x hv hx => ?_
            rw [List.getElem?_drop] at hv
            obtain ⟨y, hy, r⟩ := hcs _ v hv
            have hk : k < cs.length - p.2 := by have := (List.getElem?_eq_some_iff.1 hv).1; omega
            simp [hk] at hx
            subst hx
            rw [Nat.add_assoc, hy]; exact r
          refine RelV.fptr (arr := arr) (fun hne => ⟨rfl, ?_⟩) (views1_sound hw h1 hc hrx) (fun j y hj => ?_)
          · show fzAll w i.blk = some arr
            unfold fzAll
            rw [harr]
          · have hj' := (List.getElem?_eq_some_iff.1 hj).1
            simp at hj'
            have hlt : p.2 + j < cs.length := by omega
            obtain ⟨y', hy', _⟩ := hcs (p.2 + j) _ (List.getElem?_eq_getElem hlt)
            simp [hj'] at hj
            rw [show i.off + p.2 + j = i.off + (p.2 + j) from by omega] at hj ⊢
            rw [hy'] at hj ⊢
            simp at hj; rw [hj]
        · cases h
  all_goals
    simp only [viewV] at h
    exact view1_sound hw h hc hr

include hw in
theorem viewsV_sound : ∀ {vs us : List AV} {c : List Bool} {xs : List Value}, viewsV cx H nf vs = some (c, us) → allTrue c = true → RelL μ vs xs → RelL (μ.seen nf w) us xs := by
  intro vs
  induction vs with
  | nil => intro us c xs h hc hr; cases hr; injection h with h; injection h with h1 h2; subst h2; exact .nil
  | cons v vs ih =>
    intro us c xs h hc hr
    cases hr with
    | cons a b =>
      change ((viewV cx H nf v).ob fun a => (viewsV cx H nf vs).ob fun b => some (a.1 ++ b.1, a.2 :: b.2)) = some (c, us) at h
      replace h := ob_eq h; obtain ⟨⟨c1, u⟩, h1, h⟩ := h
      replace h := ob_eq h; obtain ⟨⟨c2, us'⟩, h2, h⟩ := h
      injection h with h; injection h with e1 e2; subst e1; subst e2
      rw [allTrue_append] at hc
      exact .cons (viewV_sound hw h1 hc.1 a) (ih h2 hc.2 b)
end

/-! ### What is said of a function -/
/-- nf: arguments are looked at, and nothing of them is in the result; m: of what they look like: the conditions; the value and the new blocks, by the first new number. -/
structure RSum where
  nf : Bool
  m : List AV → Option (List Bool × (Nat → AV × List Blk))
def newAll (bs : List Blk) : Heap → Heap := List.rec (motive := fun _ => Heap → Heap) (fun H => H) (fun b _ r H => r (H.new b)) bs
theorem newAll_next (bs : List Blk) : ∀ H : Heap, (newAll bs H).next = H.next + bs.length := by
  induction bs with
  | nil => intro H; rfl
  | cons b bs ih => intro H; show (newAll bs (H.new b)).next = _; rw [ih]; simp; omega
theorem newAll_get (bs : List Blk) : ∀ (H : Heap) (c : Nat), (newAll bs H).get c = if c < H.next then H.get c else (bs[c - H.next]?).getD (H.get c) := by
  induction bs with
  | nil => intro H c; show H.get c = _; split <;> simp
  | cons b bs ih =>
    intro H c
    show (newAll bs (H.new b)).get c = _
    have hn : (H.new b).next = H.next + 1 := rfl
    rw [ih, Heap.get_new, hn]
    by_cases h : c < H.next
    · have h2 : c < H.next + 1 := by omega
      have h3 : c ≠ H.next := by omega
      simp [h, h2, h3]
    · by_cases h2 : c = H.next
      · subst h2; simp
      · obtain ⟨k, rfl⟩ : ∃ k, c = H.next + 1 + k := ⟨c - H.next - 1, by omega⟩
        have h3 : ¬ H.next + 1 + k < H.next + 1 := by omega
        have h4 : H.next + 1 + k - (H.next + 1) = k := by omega
        have h5 : H.next + 1 + k - H.next = k + 1 := by omega
        rw [if_neg h3, if_neg h, if_neg h2, h4, h5, List.getElem?_cons_succ]

abbrev FTab := List (FuncId × RSum)
def ftFind (l : FTab) (g : FuncId) : Option RSum := List.rec (motive := fun _ => Option RSum) none (fun p _ r => cb (Nat.beq g p.1) (some p.2) r) l
theorem ftFind_mem {l : FTab} {g : FuncId} {s : RSum} (h : ftFind l g = some s) : (g, s) ∈ l := by
  induction l with
  | nil => cases h
  | cons p l ih =>
    change cb (Nat.beq g p.1) (some p.2) (ftFind l g) = some s at h
    cases hb : Nat.beq g p.1 with
    | true =>
      rw [hb, cb_true] at h
      injection h with h
      have := Nat.eq_of_beq_eq_true hb
      subst this; subst h
      obtain ⟨a, b⟩ := p
      simp
    | false =>
      rw [hb, cb_false] at h
      simp [ih h]
/-- the heap's types alone are looked at. -/
def tyCx (ty : TypeId → Option ATy) : Cx := { ty := ty, fn := fun _ => none, sum := fun _ _ _ => none }
def ftSum (ty : TypeId → Option ATy) (l : FTab) : FuncId → List AV → Heap → Option (AV × Heap) := fun g args H =>
  (ftFind l g).ob fun s => (viewsV (tyCx ty) H s.nf args).ob fun r => (s.m r.2).ob fun q => cb (allTrue (r.1 ++ q.1)) (some ((q.2 H.next).1, newAll (q.2 H.next).2 H)) none
def ftSumS (ty : TypeId → Option ATy) (l : FTab) : FuncId → Option (List AV → Heap → S (AV × Heap)) := fun g =>
  (ftFind l g).ob fun s => some fun args H => S.bind (S.lift (viewsV (tyCx ty) H s.nf args)) fun r => S.bind (S.lift (s.m r.2)) fun q => musts (r.1 ++ q.1) (S.pure ((q.2 H.next).1, newAll (q.2 H.next).2 H))

/-- a value is told with less. -/
def AV.Le (u v : AV) : Prop := ∀ (μ : Inj) (x : Value), RelV μ u x → RelV μ v x
theorem AV.Le.refl (v : AV) : AV.Le v v := fun _ _ h => h
theorem AV.Le.of_eq {u v : AV} (h : u = v) : AV.Le u v := h ▸ AV.Le.refl _
/-- **What is owed for a function**: a run by itself in an empty heap; sel: the blocks that are left, in order. -/
def RSum.OK (cx : Cx) (g : FuncId) (s : RSum) : Prop :=
  ∀ us c q, s.m us = some (c, q) → allTrue c = true → ∃ (f : Nat) (v : AV) (h' : Heap) (sel : List Nat), aCall cx f (.fn g) us H0 = some (v, h') ∧ v.ok s.nf (fun b => sel.contains b) = true ∧ (∀ (l l' j : Nat), sel[l]? = some j → sel[l']? = some j → l = l') ∧
    ∀ (n : Nat) (ρ : Nat → Nat), (∀ (l j : Nat), sel[l]? = some j → ρ j = n + l) → AV.Le (v.ren ρ) (q n).1 ∧ (q n).2.length = sel.length ∧ ∀ (l j : Nat) (b : Blk), sel[l]? = some j → (q n).2[l]? = some b → (h'.get j).ren ρ = b ∧ (h'.get j).ok s.nf (fun b => sel.contains b) = true

theorem ftSums_ok {P : Program} {cx cx' : Cx} {l : FTab} (hcx : CxOK P cx) (hs : SumAll P cx) (hty : cx'.ty = cx.ty) (h : cx'.sum = ftSum cx.ty l) (hl : ∀ p ∈ l, p.2.OK cx p.1) (base : Nat → Prop) (w0 : World) : SumOK P cx' base w0 := by
  intro g args H H' v μ w xs hsum hw hr r n
  have hsz : szOf cx' = szOf cx := by funext e; simp [szOf, hty]
  have hszT : szOf (tyCx cx.ty) = szOf cx := rfl
  have hw1 : RelW (szOf cx) base w0 μ H w := hsz ▸ hw
  have hwT : RelW (szOf (tyCx cx.ty)) base w0 μ H w := hw1
  rw [h] at hsum
  unfold ftSum at hsum
  replace hsum := ob_eq hsum; obtain ⟨s, hf, hsum⟩ := hsum
  replace hsum := ob_eq hsum; obtain ⟨⟨c1, us⟩, hv, hsum⟩ := hsum
  replace hsum := ob_eq hsum; obtain ⟨⟨c2, q⟩, hm, hsum⟩ := hsum
  simp only at hsum hm
  cases hc : allTrue (c1 ++ c2) with
  | false => rw [hc] at hsum; cases hsum
  | true =>
    rw [hc, cb_true] at hsum
    injection hsum with hsum; injection hsum with e1 e2
    rw [allTrue_append] at hc
    obtain ⟨f, v0, h', sel, hrun, hvok, hnd, hsel⟩ := hl _ (ftFind_mem hf) us c2 q hm hc.2
    have hus := viewsV_sound hwT hv hc.1 hr
    have h1 := ((aCall_sound hcx (hs.sum (Old w) w) (hs.loop (Old w) w) f).fn hrun (relW_seen (cx := cx) (nf := s.nf) hw1) hus).2 r n
    refine h1.mono ?_
    rintro e w' ⟨Z, rfl, _, μ', hg, hz, hw'⟩
    let ρ : Nat → Nat := fun b => H.next + sel.idxOf b
    have hρ : ∀ (l j : Nat), sel[l]? = some j → ρ j = H.next + l := by
      intro l j hlj
      have hlt := (List.getElem?_eq_some_iff.1 hlj).1
      have hmem := List.mem_of_getElem? hlj
      have hi : sel.idxOf j < sel.length := List.idxOf_lt_length_of_mem hmem
      have := hnd (sel.idxOf j) l j (by rw [List.getElem?_eq_getElem hi, List.getElem_idxOf]) hlj
      show H.next + sel.idxOf j = _
      rw [this]
    obtain ⟨k1, k2, k3⟩ := hsel H.next ρ hρ
    let fz : Nat → Option (Array Value) := cb s.nf μ.fz μ'.fz
    have hzz : ∀ k arr, μ.fz k = some arr → μ'.fz k = some arr := fun k arr e => hg.fz k arr (seen_fz hw1 k arr e)
    obtain ⟨r1, r2, r3⟩ := rebuild hw1 hw' s.nf (fun b => sel.contains b) ρ sel (fun _ => none) fz H' (fun k hk => hw1.baseLe k hk)
      (by
        intro k arr e
        cases hnf : s.nf with
        | true => simp only [fz, hnf, cb_true]; exact e
        | false => simp only [fz, hnf, cb_false]; exact hzz k arr e)
      (by
        intro k arr e
        cases hnf : s.nf with
        | true => simp only [fz, hnf, cb_true] at e; exact hzz k arr e
        | false => simp only [fz, hnf, cb_false] at e; exact e)
      (by
        intro k arr e
        cases hnf : s.nf with
        | true => simp only [fz, hnf, cb_true] at e; exact .inl e
        | false =>
          simp only [fz, hnf, cb_false] at e
          rcases hg.fzn k arr e with e | e
          · rw [hnf] at e; exact .inl e
          · exact .inr e)
      (by
        intro hnf k arr e
        simp only [fz, hnf, cb_false]; exact e)
      (by rw [← e2, newAll_next, k2])
      hnd
      (by
        intro j hj
        have hj : j ∈ sel := by simpa using hj
        obtain ⟨l, hl⟩ := List.getElem?_of_mem hj
        exact .inl ⟨l, hl, hρ l j hl⟩)
      (by
        intro c hc
        right; left
        refine ⟨rfl, ?_, fun i hi hlive => ?_⟩
        · rw [← e2, newAll_get, if_pos hc]
        · exact (hw1.blk c i hi).lt hlive)
      (by intro c c' j hj; cases hj)
      (by
        intro l j hlj
        have hlt := (List.getElem?_eq_some_iff.1 hlj).1
        have hb : (q H.next).2[l]? = some (q H.next).2[l] := List.getElem?_eq_getElem (by omega)
        obtain ⟨m1, m2⟩ := k3 l j _ hlj hb
        refine ⟨?_, m2⟩
        rw [← e2, newAll_get, if_neg (by omega), show H.next + l - H.next = l by omega, hb, m1]; rfl)
    have hgr : Grow H.next μ (Inj.join μ μ' H.next sel fz) := r3
    refine ⟨Z, rfl, ?_, Inj.join μ μ' H.next sel fz, hgr, ?_, ?_⟩
    · rw [← e2, newAll_next]; omega
    · rw [← e1]
      refine k1 _ _ ?_
      refine RelV.ren (nf := s.nf) (p := fun b => sel.contains b) (fun b i hb e => r2 b i hb e) (fun hnf k arr e => ?_) hvok hz
      show fz k = some arr
      simp only [fz, hnf, cb_false]; exact e
    · rw [hsz]; exact r1

theorem ftSums_snd {cx : Cx} {l : FTab} {ls : LoopS} (h : cx.sum = ftSum cx.ty l) (hl : LoopsSOK cx ls) : SumsOK cx { fn := ftSumS cx.ty l, loop := ls } := by
  refine ⟨fun g m args H hm => ?_, fun g args H hm => ?_, hl⟩
  · simp only [ftSumS] at hm
    replace hm := ob_eq hm; obtain ⟨s, hs, hm⟩ := hm
    injection hm with hm; subst hm
    rw [h, ftSum, hs, ob_some]
    exact Snd.bind (Snd.lift _) fun r _ => Snd.bind (Snd.lift _) fun q _ => musts_snd (Snd.pure _) _
  · simp only [ftSumS] at hm
    rw [h, ftSum]
    cases hs : ftFind l g with
    | none => rfl
    | some s => rw [hs] at hm; cases hm
end Go.Ab
end
end

/- The machine with what is known of functions and of loops; runs that tell a part of what comes. -/
section
set_option autoImplicit false
set_option linter.unusedVariables false
set_option linter.unusedSimpArgs false
set_option linter.unusedSectionVars false
noncomputable section
namespace Go.Ab
open Go.RowKit

def mkCx (ty : TypeId → Option ATy) (fn : FuncId → Option Func) (ft : FTab) (lt : LTab) : Cx := { ty := ty, fn := fn, sum := ftSum ty ft, loop := ltLoop lt }
def mkS (ty : TypeId → Option ATy) (ft : FTab) (lt : LTab) : SumS := { fn := ftSumS ty ft, loop := ltLoopS lt }
theorem mkS_ok (ty : TypeId → Option ATy) (fn : FuncId → Option Func) (ft : FTab) (lt : LTab) : SumsOK (mkCx ty fn ft lt) (mkS ty ft lt) :=
  ftSums_snd (cx := mkCx ty fn ft lt) rfl (ltLoops_snd rfl)

/-- What is known of a function is so, by itself. -/
def RSum.Sound (P : Program) (ty : TypeId → Option ATy) (g : FuncId) (s : RSum) : Prop :=
  ∀ base w0, SumOK P { ty := ty, fn := fun _ => none, sum := ftSum ty [(g, s)] } base w0
theorem ftSum_one {ty : TypeId → Option ATy} {l : FTab} {g : FuncId} {args : List AV} {H : Heap} {r : AV × Heap} (h : ftSum ty l g args H = some r) : ∃ s, (g, s) ∈ l ∧ ftSum ty [(g, s)] g args H = some r := by
  unfold ftSum at h
  replace h := ob_eq h; obtain ⟨s, hs, h⟩ := h
  refine ⟨s, ftFind_mem hs, ?_⟩
  have : ftFind [(g, s)] g = some s := by
    show cb (Nat.beq g g) (some s) none = _
    simp
  unfold ftSum
  rw [this]; exact h
theorem sums_all {P : Program} {ty : TypeId → Option ATy} {fn : FuncId → Option Func} {ft : FTab} {lt : LTab} (hf : ∀ p ∈ ft, RSum.Sound P ty p.1 p.2) (hl : ∀ p ∈ lt, p.2.OK P (tyCx ty) p.1.2) : SumAll P (mkCx ty fn ft lt) := by
  refine ⟨fun base w0 => ?_, fun base w0 => ltLoops_ok (cx := mkCx ty fn ft lt) rfl (fun p hp vs conds X vs' h1 h2 h3 ds H => ⟨fun {_ _ _ _ _ _ _ _} => (hl p hp vs conds X vs' h1 h2 h3 ds H).ok⟩) base w0⟩
  intro g args H H' v μ w xs hsum hw hr r n
  obtain ⟨s, hs, hsum⟩ := ftSum_one hsum
  exact hf _ hs base w0 hsum hw hr r n
/-- A row of a function, by a run with what was known before. -/
theorem RSum.sound {P : Program} {ty : TypeId → Option ATy} {fn : FuncId → Option Func} {ft : FTab} {lt : LTab} (hcx : CxOK P (mkCx ty fn ft lt)) (hs : SumAll P (mkCx ty fn ft lt)) {g : FuncId} {s : RSum} (h : s.OK (mkCx ty fn ft lt) g) : RSum.Sound P ty g s := by
  intro base w0
  exact ftSums_ok hcx hs (cx' := { ty := ty, fn := fun _ => none, sum := ftSum ty [(g, s)] }) rfl rfl (fun p hp => by
    have : p = (g, s) := by simpa using hp
    subst this; exact h) base w0

/-! ### Runs -/
/-- so many closed tests, and others behind them. -/
def oc (n : Nat) (q : List Ans) : List Ans := Nat.rec (motive := fun _ => List Ans) q (fun _ r => .c :: r) n
def cs (n : Nat) (q : List Ans) : List Ans := Nat.rec (motive := fun _ => List Ans) q (fun _ r => .c :: r) n
/-- what a symbolic run comes to: a part of it, and what it took. -/
def part {α β : Type} (p : α → β) (o : Out α) : Option (β × List Cnd) := Option.rec (motive := fun _ => Option (β × List Cnd)) none (fun r => some (p r.1, r.2.2)) o
theorem part_eq {α β : Type} {p : α → β} {o : Out α} {b : β} {c : List Cnd} (h : part p o = some (b, c)) : ∃ a q, o = some (a, q, c) ∧ p a = b := by
  cases o with
  | none => cases h
  | some r =>
    obtain ⟨a, q, c'⟩ := r
    change some (p a, c') = some (b, c) at h
    injection h with h; injection h with h1 h2; subst h1; subst h2
    exact ⟨a, q, rfl, rfl⟩

/-- a call's value and some of its blocks. -/
def pCallB (ids : List Nat) (r : AV × Heap) : AV × List Blk := (r.1, ids.map r.2.get)
theorem call_run {ty : TypeId → Option ATy} {fn : FuncId → Option Func} {ft : FTab} {lt : LTab} {f : Nat} {t : Tgt} {args : List AV} {H : Heap} {v : AV} {ids : List Nat} {bs : List Blk} {q : List Ans} {c : List Cnd}
    (h : part (pCallB ids) (callS (mkCx ty fn ft lt) (mkS ty ft lt) f t args H q) = some ((v, bs), c)) (hc : HoldsL c) : ∃ h', aCall (mkCx ty fn ft lt) f t args H = some (v, h') ∧ ids.map h'.get = bs := by
  obtain ⟨⟨v', h'⟩, q', h1, h2⟩ := part_eq h
  injection h2 with h2 h3
  subst h2
  exact ⟨h', callS_snd _ (mkS_ok ty fn ft lt) f t args H q _ q' c h1 hc, h3⟩

/-- code: its end, some slots, the heap's next number, some blocks. -/
def pCode (sl ids : List Nat) (r : AX × St) : AX × List AV × List Nat × Nat × List Blk := (r.1, sl.map r.2.fr.get, r.2.ds, r.2.H.next, ids.map r.2.H.get)
theorem code_run {ty : TypeId → Option ATy} {fn : FuncId → Option Func} {ft : FTab} {lt : LTab} {g f : Nat} {k : FuncId} {nn : Nat} {b : Code} {s : St} {X : AX} {sl ids : List Nat} {vs : List AV} {ds : List Nat} {nx : Nat} {bs : List Blk} {q : List Ans} {c : List Cnd}
    (h : part (pCode sl ids) (codeS (mkCx ty fn ft lt) (ltLoopS lt) (callS (mkCx ty fn ft lt) (mkS ty ft lt) g) k none nn f b s q) = some ((X, vs, ds, nx, bs), c)) (hc : HoldsL c) :
    ∃ s1, aCode (mkCx ty fn ft lt) (aCall (mkCx ty fn ft lt) g) k none nn f b s = some (X, s1) ∧ sl.map s1.fr.get = vs ∧ s1.ds = ds ∧ s1.H.next = nx ∧ ids.map s1.H.get = bs := by
  obtain ⟨⟨X', s1⟩, q', h1, h2⟩ := part_eq h
  unfold pCode at h2
  injection h2 with e1 h2; injection h2 with e2 h2; injection h2 with e3 h2; injection h2 with e4 e5
  simp only at e1
  subst e1
  exact ⟨s1, codeS_snd _ (ltLoops_snd rfl) (callS_snd _ (mkS_ok ty fn ft lt) g) k none nn f b s q _ q' c h1 hc, e2, e3, e4, e5⟩

/-- code that leaves the heap. -/
def pPure (sl : List Nat) (r : AX × St) : AX × List AV × List Nat × Heap := (r.1, sl.map r.2.fr.get, r.2.ds, r.2.H)
theorem pure_run {P : Program} {ty : TypeId → Option ATy} {fn : FuncId → Option Func} {ft : FTab} {lt : LTab} (hcx : CxOK P (mkCx ty fn ft lt)) (hs : SumAll P (mkCx ty fn ft lt)) {g f : Nat} {k : FuncId} {nn : Nat} {b : Code} {fr : Fr} {H : Heap} {X : AX} {sl : List Nat} {vs : List AV} {ds : List Nat} {q : List Ans} {c : List Cnd}
    (h : part (pPure sl) (codeS (mkCx ty fn ft lt) (ltLoopS lt) (callS (mkCx ty fn ft lt) (mkS ty ft lt) g) k none nn f b ⟨fr, ds, H⟩ q) = some ((X, vs, ds, H), c)) (hc : HoldsL c) (hr : noRange b = true) (hv : AV.plainL vs = true) :
    CodeOK P (tyCx ty) nn H.next b ⟨fr, ds, H⟩ X ⟨frameOf nn (sl.zip vs), ds, H⟩ := by
  obtain ⟨⟨X', s1⟩, q', h1, h2⟩ := part_eq h
  unfold pPure at h2
  injection h2 with e1 h2; injection h2 with e2 h2; injection h2 with e3 e4
  simp only at e1
  subst e1
  have hrun := codeS_snd _ (ltLoops_snd rfl) (callS_snd _ (mkS_ok ty fn ft lt) g) k none nn f b ⟨fr, ds, H⟩ q _ q' c h1 hc
  have key := CodeOK.pure (cx := mkCx ty fn ft lt) hcx hs hrun hr e3 (fun b _ => by rw [e4]) (sl.zip vs) ?_
  · exact ⟨fun {_ _ _ _ _ _ _ _} => key.ok⟩
  intro p hp
  refine .inr ?_
  obtain ⟨i, hi⟩ := List.getElem?_of_mem hp
  rw [List.getElem?_zip_eq_some] at hi
  obtain ⟨i1, i2⟩ := hi
  refine ⟨?_, .inl ?_⟩
  · rw [← e2, List.getElem?_map, i1] at i2
    simpa using i2
  · have key : ∀ (l : List AV) (i : Nat) (v : AV), AV.plainL l = true → l[i]? = some v → v.plain = true := by
      intro l
      induction l with
      | nil => intro i v _ h; cases h
      | cons a l ih =>
        intro i v hl h
        simp only [AV.plainL, Bool.and_eq_true] at hl
        cases i with
        | zero => simp at h; subst h; exact hl.1
        | succ i => exact ih i v hl.2 (by simpa using h)
    exact key vs i p.2 hv i2

/-- the block of code of a number. -/
def findBlock (id : Nat) : Code → Option Code
  | .seq a b => match findBlock id a with
    | some c => some c
    | none => findBlock id b
  | .cond _ a b => match findBlock id a with
    | some c => some c
    | none => findBlock id b
  | .block id' b => if id = id' then some b else findBlock id b
  | .loop b => findBlock id b
  | .rangeFunc _ _ a b => match findBlock id a with
    | some c => some c
    | none => findBlock id b
  | _ => none
def blockOf (f : Func) (id : Nat) : Code := (f.body.bind (findBlock id)).getD .skip
/-- what a loop goes round. -/
def roundOf (c : Code) : Code :=
  match c with
  | .loop b => b
  | c => c
end Go.Ab
end
end

/- How a law's arguments come in: as they stand in the world. -/
section
section
set_option autoImplicit false
set_option linter.unusedVariables false
set_option linter.unusedSimpArgs false
set_option linter.unusedSectionVars false
namespace Go.Ab
open Go.RowKit

noncomputable def Inj.start (w : World) : Inj := ⟨fun _ => none, fzAll w, w.heap.size⟩
theorem relW_start (sz : TypeId → Nat) (w : World) : RelW sz (Old w) w (Inj.start w) H0 w := by
  refine ⟨Keep.refl _ _, fun _ h => h, fun _ _ e => (by cases e), fun _ _ e => (by cases e), fun _ _ _ _ e => (by cases e), fun k arr e => ?_, fun _ _ _ _ e => (by cases e), Nat.le_refl _⟩
  have e : fzAll w k = some arr := e
  unfold fzAll at e
  split at e
  · rename_i arr' t fr hk
    injection e with e; subst e
    exact ⟨t, fr, hk⟩
  · cases e

/-- **A law**: the run by itself says what the call does. -/
theorem law_calls {P : Program} {cx : Cx} (hcx : CxOK P cx) (hs : SumAll P cx) {f : Nat} {g : FuncId} {us : List AV} {h' : Heap} {w : World} {xs : List Value}
    (h : aCall cx f (.fn g) us H0 = some (.bool true, h')) (hr : RelL (Inj.start w) us xs) : Calls P g xs.toArray w fun e w' => e = .returned (.bool true) ∧ Below w.heap.size w w' := by
  refine (calls_of_aCall hcx (hs.sum _ _) (hs.loop _ _) h (relW_start _ w) hr).mono ?_
  rintro e w' ⟨Z, μ, rfl, hz, hb⟩
  cases hz
  exact ⟨rfl, hb⟩

theorem cell_spot {w : World} {a : Addr} {v : Value} (h : w.cell? a = some v) : a.spot = none ∧ ∃ arr e fr, w.heap[a.block]? = some (.cells arr e fr) ∧ arr[a.off]? = some v := by
  unfold World.cell? at h
  split at h
  · rename_i c e fr hc
    split at h
    · cases h
    · rename_i hs
      exact ⟨by simpa using hs, c, e, fr, hc, h⟩
  · cases h

/-- A slice of integers. -/
theorem row_in {w : World} {k : IntKind} {a : Option Addr} {len cap : Nat} {zs : List Int}
    (h : (a = none ∧ len = 0 ∧ cap = 0 ∧ zs = []) ∨ ∃ x, a = some x ∧ len ≤ cap ∧ cap ≤ maxLen ∧ zs.length = cap ∧ (∀ i, i < zs.length → w.cell? (x.add i) = some (.int k (zs.getD i 0))) ∧ ∀ n ∈ zs, (Lit.int k n).wf = true) :
    ∃ nl, RelV (Inj.start w) (.fsl nl len ((zs.take len).map (AV.int k))) (.slice a len cap) ∧ (zs.take len).length = len ∧ (nl = true → len = 0) ∧ len ≤ maxLen ∧ ∀ n ∈ zs.take len, (Lit.int k n).wf = true := by
  rcases h with ⟨rfl, rfl, rfl, rfl⟩ | ⟨x, rfl, h1, h2, h3, h4, h5⟩
  · exact ⟨true, .fslN, rfl, fun _ => rfl, Nat.zero_le _, fun n hn => by cases hn⟩
  · have hlen : (zs.take len).length = len := by rw [List.length_take]; omega
    refine ⟨false, ?_, hlen, (fun h => by cases h), by omega, fun n hn => h5 n (List.mem_of_mem_take hn)⟩
    have hfz : len ≠ 0 → x.spot = none ∧ ∃ arr e fr, w.heap[x.block]? = some (.cells arr e fr) := by
      intro hl
      have h0 := h4 0 (by omega)
      have : x.add 0 = x := by simp [Addr.add]
      rw [this] at h0
      obtain ⟨s1, arr, e, fr, s2, _⟩ := cell_spot h0
      exact ⟨s1, arr, e, fr, s2⟩
    by_cases hl : len = 0
    · subst hl
      exact .fsl (arr := #[]) (vs := []) (fun hn => absurd rfl hn) .nil (fun k x hx => by cases hx) (Nat.zero_le _)
    · obtain ⟨s1, arr, e, fr, s2⟩ := hfz hl
      refine .fsl (arr := arr) (vs := (zs.take len).map (Value.int k)) (fun _ => ⟨s1, ?_⟩) ?_ (fun j y hj => ?_) h1
      · show fzAll w x.block = some arr
        unfold fzAll; rw [s2]
      · refine RelL.of_get (by simp) fun j v y hv hy => ?_
        rw [List.getElem?_map] at hv hy
        cases hz : (zs.take len)[j]? with
        | none => rw [hz] at hv; cases hv
        | some z => rw [hz] at hv hy; cases hv; cases hy; exact .int _ _
      · rw [List.getElem?_map] at hj
        cases hz : (zs.take len)[j]? with
        | none => rw [hz] at hj; cases hj
        | some z =>
          rw [hz] at hj; cases hj
          have hjl : j < len := by have := (List.getElem?_eq_some_iff.1 hz).1; omega
          rw [List.getElem?_take, if_pos hjl] at hz
          have h0 := h4 j (by omega)
          have hg : zs.getD j 0 = z := by rw [List.getD_eq_getElem?_getD, hz]; rfl
          rw [hg] at h0
          obtain ⟨_, arr', e', fr', t2, t3⟩ := cell_spot h0
          have hb : (x.add j).block = x.block ∧ (x.add j).off = x.off + j := ⟨(addr_add_off x j).1, (addr_add_off x j).2.1⟩
          rw [hb.1, s2] at t2
          injection t2 with t2; injection t2 with t2 _ _; subst t2
          rw [hb.2] at t3; exact t3

theorem int_range {k : IntKind} {n : Int} (h : (Lit.int k n).wf = true) : k.min ≤ n ∧ n ≤ k.max := by
  simpa [Lit.wf] using h
theorem u8_range {n : Int} (h : (Lit.int .u8 n).wf = true) : 0 ≤ n ∧ n < 256 := by
  have := int_range h
  simp [IntKind.min, IntKind.max, IntKind.signed, IntKind.bits] at this
  omega
theorem bytes_of_ints {zs : List Int} (h : ∀ n ∈ zs, (Lit.int .u8 n).wf = true) : ∃ l : List UInt8, l.length = zs.length ∧ zs.map (AV.int .u8) = ofBytes l := by
  induction zs with
  | nil => exact ⟨[], rfl, rfl⟩
  | cons z zs ih =>
    obtain ⟨l, h1, h2⟩ := ih fun n hn => h n (by simp [hn])
    obtain ⟨r1, r2⟩ := u8_range (h z (by simp))
    refine ⟨UInt8.ofNat z.toNat :: l, by simp [h1], ?_⟩
    simp only [List.map_cons, h2, ofBytes]
    congr 2
    have : (UInt8.ofNat z.toNat).toNat = z.toNat % 256 := by simp
    rw [this]
    omega
end Go.Ab
end
end

/- Rows of functions: of plain values; of new blocks. -/
section
set_option autoImplicit false
set_option linter.unusedVariables false
set_option linter.unusedSimpArgs false
set_option linter.unusedSectionVars false
noncomputable section
namespace Go.Ab
open Go.RowKit

mutual
theorem AV.ren_id {nf : Bool} {ρ : Nat → Nat} : ∀ {v : AV}, v.ok nf (fun _ => false) = true → v.ren ρ = v
  | .undef, _ => rfl
  | .any, _ => rfl
  | .int _ _, _ => rfl
  | .bool _, _ => rfl
  | .str _, _ => rfl
  | .ptr none, _ => rfl
  | .ptr (some _), h => by simp [AV.ok] at h
  | .slice none _ _, _ => rfl
  | .slice (some _) _ _, h => by simp [AV.ok] at h
  | .map none, _ => rfl
  | .map (some _), h => by simp [AV.ok] at h
  | .func f x y, h => by
    simp only [AV.ok, Bool.and_eq_true] at h
    simp only [AV.ren, AV.renL_id h.1, AV.renL_id h.2]
  | .yield _, h => by simp [AV.ok] at h
  | .nilFunc, _ => rfl
  | .nilIface, _ => rfl
  | .iface _ v, h => by simp only [AV.ok] at h; simp only [AV.ren, AV.ren_id h]
  | .agg cs, h => by simp only [AV.ok] at h; simp only [AV.ren, AV.renL_id h]
  | .tuple cs, h => by simp only [AV.ok] at h; simp only [AV.ren, AV.renL_id h]
  | .fsl _ _ cs, h => by simp only [AV.ok, Bool.and_eq_true] at h; simp only [AV.ren, AV.renL_id h.2]
  | .fptr cs, h => by simp only [AV.ok, Bool.and_eq_true] at h; simp only [AV.ren, AV.renL_id h.2]
theorem AV.renL_id {nf : Bool} {ρ : Nat → Nat} : ∀ {v : List AV}, AV.okL nf (fun _ => false) v = true → AV.renL ρ v = v
  | [], _ => rfl
  | v :: vs, h => by
    simp only [AV.okL, Bool.and_eq_true] at h
    simp only [AV.renL, AV.ren_id h.1, AV.renL_id h.2]
end
mutual
theorem AV.ok_mono {nf : Bool} {p q : Nat → Bool} (hpq : ∀ b, p b = true → q b = true) : ∀ {v : AV}, v.ok nf p = true → v.ok nf q = true
  | .undef, _ => rfl
  | .any, _ => rfl
  | .int _ _, _ => rfl
  | .bool _, _ => rfl
  | .str _, _ => rfl
  | .ptr none, _ => rfl
  | .ptr (some a), h => hpq _ h
  | .slice none _ _, _ => rfl
  | .slice (some _) _ _, h => hpq _ h
  | .map none, _ => rfl
  | .map (some _), h => hpq _ h
  | .func f x y, h => by
    simp only [AV.ok, Bool.and_eq_true] at h ⊢
    exact ⟨AV.okL_mono hpq h.1, AV.okL_mono hpq h.2⟩
  | .yield _, h => hpq _ h
  | .nilFunc, _ => rfl
  | .nilIface, _ => rfl
  | .iface _ v, h => AV.ok_mono (v := v) hpq h
  | .agg cs, h => AV.okL_mono (v := cs) hpq h
  | .tuple cs, h => AV.okL_mono (v := cs) hpq h
  | .fsl _ _ cs, h => by simp only [AV.ok, Bool.and_eq_true] at h ⊢; exact ⟨h.1, AV.okL_mono hpq h.2⟩
  | .fptr cs, h => by simp only [AV.ok, Bool.and_eq_true] at h ⊢; exact ⟨h.1, AV.okL_mono hpq h.2⟩
theorem AV.okL_mono {nf : Bool} {p q : Nat → Bool} (hpq : ∀ b, p b = true → q b = true) : ∀ {v : List AV}, AV.okL nf p v = true → AV.okL nf q v = true
  | [], _ => rfl
  | v :: vs, h => by
    simp only [AV.okL, Bool.and_eq_true] at h ⊢
    exact ⟨AV.ok_mono hpq h.1, AV.okL_mono hpq h.2⟩
end

/-- a plain result. -/
def RSum.pl (nf : Bool) (m : List AV → Option (List Bool × AV)) : RSum := ⟨nf, fun us => (m us).ob fun r => some (r.1, fun _ => (r.2, []))⟩
theorem RSum.pl_ok {cx : Cx} {g : FuncId} {nf : Bool} {m : List AV → Option (List Bool × AV)}
    (h : ∀ us c v, m us = some (c, v) → allTrue c = true → v.ok nf (fun _ => false) = true ∧ ∃ f h', aCall cx f (.fn g) us H0 = some (v, h')) : (RSum.pl nf m).OK cx g := by
  intro us c q hq hc
  simp only [RSum.pl] at hq
  replace hq := ob_eq hq; obtain ⟨⟨c', v⟩, hm, hq⟩ := hq
  injection hq with hq; injection hq with e1 e2; subst e1; subst e2
  obtain ⟨hv, f, h', hrun⟩ := h us c' v hm hc
  refine ⟨f, v, h', [], hrun, AV.ok_mono (fun b hb => by cases hb) hv, (fun l l' j e => by cases e), fun n ρ hρ => ⟨AV.Le.of_eq (AV.ren_id hv), rfl, fun l j b e => by cases e⟩⟩

/-- a result in new blocks of plain cells; the value by the first number. -/
def RSum.nb (nf : Bool) (m : List AV → Option (List Bool × (Nat → AV) × List Blk)) : RSum := ⟨nf, fun us => (m us).ob fun r => some (r.1, fun n => (r.2.1 n, r.2.2))⟩
def Blk.plainOwn (nf : Bool) : Blk → Bool
  | .cells o _ _ cs => o && AV.okL nf (fun _ => false) cs
  | _ => false
theorem RSum.nb_ok {cx : Cx} {g : FuncId} {nf : Bool} {m : List AV → Option (List Bool × (Nat → AV) × List Blk)}
    (h : ∀ us c v bs, m us = some (c, v, bs) → allTrue c = true → (∀ b ∈ bs, b.plainOwn nf = true) ∧ ∃ (f : Nat) (h' : Heap) (sel : List Nat) (v0 : AV), aCall cx f (.fn g) us H0 = some (v0, h') ∧ sel.map h'.get = bs ∧
      (∀ (l l' j : Nat), sel[l]? = some j → sel[l']? = some j → l = l') ∧ v0.ok nf (fun b => sel.contains b) = true ∧ ∀ (n : Nat) (ρ : Nat → Nat), (∀ (l j : Nat), sel[l]? = some j → ρ j = n + l) → AV.Le (v0.ren ρ) (v n)) : (RSum.nb nf m).OK cx g := by
  intro us c q hq hc
  simp only [RSum.nb] at hq
  replace hq := ob_eq hq; obtain ⟨⟨c', v, bs⟩, hm, hq⟩ := hq
  injection hq with hq; injection hq with e1 e2; subst e1; subst e2
  obtain ⟨hb, f, h', sel, v0, hrun, hsel, hnd, hok, hren⟩ := h us c' v bs hm hc
  refine ⟨f, v0, h', sel, hrun, hok, hnd, fun n ρ hρ => ⟨hren n ρ hρ, by rw [← hsel]; simp, fun l j b e eb => ?_⟩⟩
  have hb1 : h'.get j = b := by
    simp only [← hsel, List.getElem?_map, e] at eb
    simpa using eb
  have hb2 := hb b (List.mem_of_getElem? eb)
  rw [hb1]
  cases b <;> simp only [Blk.plainOwn] at hb2 <;> try (cases hb2; done)
  simp only [Bool.and_eq_true] at hb2
  refine ⟨?_, ?_⟩
  · simp only [Blk.ren]; rw [AV.renL_id hb2.2]
  · simp only [Blk.ok, Bool.and_eq_true]; exact ⟨hb2.1, AV.okL_mono (fun b hb => by cases hb) hb2.2⟩

/-- a function without arguments. -/
def RSum.const (v : AV) : RSum := RSum.pl true fun us => match us with
  | [] => some ([], v)
  | _ => none
theorem RSum.const_ok {cx : Cx} {g : FuncId} {v : AV} (hv : v.ok true (fun _ => false) = true) {f : Nat} (h : ∃ h', aCall cx f (.fn g) [] H0 = some (v, h')) : (RSum.const v).OK cx g := by
  refine RSum.pl_ok fun us c u hm hc => ?_
  split at hm
  · injection hm with hm; injection hm with e1 e2; subst e2
    obtain ⟨h', h⟩ := h
    exact ⟨hv, f, h', h⟩
  · cases hm
/-- of a row of no cells the capacity isn't told. -/
theorem AV.Le.empty (b : Nat) : AV.Le (.slice (some (b, 0)) 0 (some 0)) (.slice (some (b, 0)) 0 none) := by
  intro μ x h
  cases h with
  | slice e h1 h2 => exact .sliceU e h1 h2 (fun _ => by simp)
/-- one block. -/
theorem sel_one (k : Nat) : ∀ (l l' j : Nat), [k][l]? = some j → [k][l']? = some j → l = l' := by
  intro l l' j h h'
  cases l with
  | zero => cases l' with
    | zero => rfl
    | succ l' => simp at h'
  | succ l => simp at h

/-- **A loop that leaves the heap, by rounds**: enc: the slots' values of a state; fin: how it ends from there. -/
theorem PLoop.ok_by {P : Program} {ty : TypeId → Option ATy} {L : PLoop} {id : Nat} {b : Code} (hb : L.code = .loop b) {α : Type} (enc : α → List AV) (fin : α → AX × List AV) (ok : α → Prop) (meas : α → Nat)
    (hm : ∀ vs conds X vs', L.m vs = some (conds, X, vs') → allTrue conds = true → ∃ p, ok p ∧ vs = enc p ∧ X = AX.inBlock id (fin p).1 ∧ vs' = (fin p).2)
    (step : ∀ p, ok p → ∀ ds H, (∃ p', ok p' ∧ fin p' = fin p ∧ meas p' < meas p ∧ CodeOK P (tyCx ty) L.nn H.next b ⟨frameOf L.nn (L.slots.zip (enc p)), ds, H⟩ .normal ⟨frameOf L.nn (L.slots.zip (enc p')), ds, H⟩) ∨
      ((fin p).1 ≠ .normal ∧ CodeOK P (tyCx ty) L.nn H.next b ⟨frameOf L.nn (L.slots.zip (enc p)), ds, H⟩ (fin p).1 ⟨frameOf L.nn (L.slots.zip (fin p).2), ds, H⟩)) : L.OK P (tyCx ty) id := by
  intro vs conds X vs' h hc _ ds H
  obtain ⟨p, hp, rfl, rfl, rfl⟩ := hm vs conds X vs' h hc
  have key := CodeOK.loop (P := P) (cx := tyCx ty) (nn := L.nn) (n0 := H.next) (b := b) (fun q : {q // ok q} => ⟨frameOf L.nn (L.slots.zip (enc q.1)), ds, H⟩) (fun q => ((fin q.1).1, ⟨frameOf L.nn (L.slots.zip (fin q.1).2), ds, H⟩)) (fun q => meas q.1) (fun q => by
    rcases step q.1 q.2 ds H with ⟨p', h1, h2, h3, h4⟩ | ⟨h1, h2⟩
    · exact .inl ⟨⟨p', h1⟩, h4, by simp only [h2], h3⟩
    · exact .inr ⟨h2, h1⟩) ⟨p, hp⟩
  rw [hb]
  exact CodeOK.block id key
end Go.Ab
end
end

/- The seat's machine, with what is known. -/
section
set_option autoImplicit false
set_option linter.unusedVariables false
set_option maxRecDepth 100000
noncomputable section
namespace Go.Proofs.Ytecncappdnhbaaa
open Go.Ab
abbrev tys := T.get none atys
abbrev fns := T.get none afns
/-- nothing is known. -/
abbrev C0 := mkCx tys fns [] []
abbrev S0 := mkS tys [] []
theorem all0 : SumAll Try.prog C0 := sums_all (fun _ h => by cases h) (fun _ h => by cases h)
end Go.Proofs.Ytecncappdnhbaaa
end
end

/- Words that are turned: plain laws. -/
section
section
set_option autoImplicit false
set_option linter.unusedVariables false
set_option linter.unusedSimpArgs false
namespace Go.Ab
def rotI (b : Nat) (x n : Int) : Int := (((BitVec.ofInt b x).rotateLeft (n % (b : Int)).toNat).toNat : Int)
theorem turn_mod (b n : Int) (hb : 0 < b) (hb2 : b ≤ 64) : (wrapA .i64 ((n.tmod b).add b)).tmod b = n % b := by
  have h1 : n.tmod b = n % b - if 0 ≤ n ∨ b ∣ n then 0 else b.natAbs := Int.tmod_eq_emod
  have h2 := Int.emod_nonneg n (by omega : b ≠ 0)
  have h3 := Int.emod_lt_of_pos n hb
  have h4 : (n.tmod b).add b = n.tmod b + b := rfl
  rw [wrapA_eq, h4, IntWalk.i64_in _ (by rw [h1]; split <;> omega)]
  rw [Int.tmod_eq_emod_of_nonneg (by rw [h1]; split <;> omega), Int.add_emod_right, Int.tmod_def, Int.sub_mul_emod_self_left]

/-- the kinds of words. -/
theorem turn_val (k : IntKind) (b : Nat) (hk : k.signed = false) (hb : k.bits = b) (hb8 : 8 ≤ b) (hb64 : b ≤ 64) (x n : Int) (hx : 0 ≤ x) (hx2 : x < 2 ^ b) (hm : n % (b : Int) ≠ 0) :
    orN k (shlN k x (shN k (n % (b : Int)).toNat)) (shrN x (shN k (wrapA .i64 ((b : Int).sub (n % (b : Int)))).toNat)) = rotI b x n := by
  have h2 := Int.emod_nonneg n (by omega : (b : Int) ≠ 0)
  have h3 := Int.emod_lt_of_pos n (by omega : (0 : Int) < b)
  obtain ⟨m, hm'⟩ : ∃ m : Nat, n % (b : Int) = m := ⟨(n % (b : Int)).toNat, by omega⟩
  obtain ⟨y, rfl⟩ : ∃ y : Nat, x = y := ⟨x.toNat, by omega⟩
  rw [hm'] at hm h2 h3 ⊢
  have e1 : wrapA .i64 ((b : Int).sub (m : Int)) = ((b - m : Nat) : Int) := by
    rw [wrapA_eq]
    have : (b : Int).sub (m : Int) = ((b - m : Nat) : Int) := by show (b : Int) - m = _; omega
    rw [this, IntWalk.i64_in _ (by omega)]
  rw [e1, shN_eq, shN_eq, hb, shlN_eq, shrN_eq]
  simp only [Int.toNat_natCast]
  rw [Nat.min_eq_left (by omega), Nat.min_eq_left (by omega)]
  have ewrap : ∀ z : Nat, k.wrap (z : Int) = ((z % 2 ^ b : Nat) : Int) := by
    intro z
    unfold IntKind.wrap
    rw [hk, hb]
    simp
  have hy : y < 2 ^ b := by exact_mod_cast hx2
  have e2 : k.wrap ((y : Int) * 2 ^ m) = (((y * 2 ^ m) % 2 ^ b : Nat) : Int) := by rw [← ewrap]; congr 1
  have epow : ((2 : Int) ^ (b - m)) = ((2 ^ (b - m) : Nat) : Int) := by simp
  have e3 : Int.fdiv (y : Int) (2 ^ (b - m)) = ((y / 2 ^ (b - m) : Nat) : Int) := by
    rw [epow, Int.fdiv_eq_ediv_of_nonneg _ (Int.natCast_nonneg _)]; simp
  rw [e2, e3]
  have l1 : y * 2 ^ m % 2 ^ b < 2 ^ b := Nat.mod_lt _ (Nat.two_pow_pos b)
  have l2 : y / 2 ^ (b - m) < 2 ^ b := Nat.lt_of_le_of_lt (Nat.div_le_self _ _) hy
  have e4 : ∀ u v : Nat, u < 2 ^ b → v < 2 ^ b → orN k (u : Int) (v : Int) = ((u ||| v : Nat) : Int) := by
    intro u v hu hv
    have := iOr_eq k (u : Int) (v : Int)
    unfold iOr at this
    injection this with _ this
    rw [this, ewrap]
    have hof : ∀ z : Nat, z < 2 ^ b → (BitVec.ofInt k.bits (z : Int)).toNat = z := by
      intro z hz
      rw [BitVec.toNat_ofInt, hb]
      have : ((z : Int) % ((2 ^ b : Nat) : Int)) = z := Int.emod_eq_of_lt (by omega) (by omega)
      rw [this]; simp
    rw [BitVec.toNat_or, hof u hu, hof v hv, Nat.mod_eq_of_lt (Nat.or_lt_two_pow hu hv)]
  rw [e4 _ _ l1 l2]
  unfold rotI
  rw [hm', BitVec.toNat_rotateLeft]
  have hof : (BitVec.ofInt b (y : Int)).toNat = y := by
    rw [BitVec.toNat_ofInt]
    have : ((y : Int) % ((2 ^ b : Nat) : Int)) = y := Int.emod_eq_of_lt (by omega) (by omega)
    rw [this]; simp
  rw [hof, Int.toNat_natCast, Nat.mod_eq_of_lt (by omega : m < b), Nat.shiftLeft_eq, Nat.shiftRight_eq_div_pow]

theorem rot_zero (b : Nat) (x n : Int) (hx : 0 ≤ x) (hx2 : x < 2 ^ b) (hm : n % (b : Int) = 0) : rotI b x n = x := by
  unfold rotI
  rw [hm]
  obtain ⟨y, rfl⟩ : ∃ y : Nat, x = y := ⟨x.toNat, by omega⟩
  have hy : y < 2 ^ b := by exact_mod_cast hx2
  rw [BitVec.toNat_rotateLeft]
  simp only [Int.toNat_zero, Nat.zero_mod, Nat.shiftLeft_zero, Nat.sub_zero]
  rw [BitVec.toNat_ofInt]
  have : ((y : Int) % ((2 ^ b : Nat) : Int)) = y := Int.emod_eq_of_lt (by omega) (by omega)
  rw [this, Int.toNat_natCast, Nat.mod_eq_of_lt hy, Nat.shiftRight_eq_div_pow, Nat.div_eq_of_lt hy]; simp

theorem rot_range (b : Nat) (x n : Int) : 0 ≤ rotI b x n ∧ rotI b x n < 2 ^ b := by
  unfold rotI
  have := ((BitVec.ofInt b x).rotateLeft (n % (b : Int)).toNat).isLt
  constructor
  · omega
  · exact_mod_cast this

theorem rot_rot (b : Nat) (hb : 0 < b) (x n m : Int) : rotI b (rotI b x n) m = rotI b x (n + m) := by
  unfold rotI
  generalize hz : (BitVec.ofInt b x) = z
  rw [show BitVec.ofInt b (((z.rotateLeft (n % (b : Int)).toNat).toNat : Nat) : Int) = z.rotateLeft (n % (b : Int)).toNat from by
    rw [BitVec.ofInt_natCast, BitVec.ofNat_toNat, BitVec.setWidth_eq]]
  congr 2
  have h2 := Int.emod_nonneg n (by omega : (b : Int) ≠ 0)
  have h3 := Int.emod_lt_of_pos n (by omega : (0 : Int) < b)
  have h4 := Int.emod_nonneg m (by omega : (b : Int) ≠ 0)
  have h5 := Int.emod_lt_of_pos m (by omega : (0 : Int) < b)
  have h6 : (n + m) % (b : Int) = (n % b + m % b) % b := by rw [Int.emod_add_emod, Int.add_emod_emod]
  obtain ⟨p, hp⟩ : ∃ p : Nat, n % (b : Int) = p := ⟨(n % (b : Int)).toNat, by omega⟩
  obtain ⟨q, hq⟩ : ∃ q : Nat, m % (b : Int) = q := ⟨(m % (b : Int)).toNat, by omega⟩
  rw [h6, hp, hq]
  rw [hp] at h3; rw [hq] at h5
  have hp' : p < b := by omega
  have hq' : q < b := by omega
  have e : ((p : Int) + q) % b = (((p + q) % b : Nat) : Int) := by simp
  rw [e]
  simp only [Int.toNat_natCast]
  rw [BitVec.rotateLeft_mod_eq_rotateLeft]
  apply BitVec.eq_of_getLsbD_eq
  intro i hi
  rw [BitVec.getLsbD_rotateLeft, BitVec.getLsbD_rotateLeft, BitVec.getLsbD_rotateLeft, BitVec.getLsbD_rotateLeft]
  rw [Nat.mod_eq_of_lt hp', Nat.mod_eq_of_lt hq']
  have hr : (p + q) % b = if p + q < b then p + q else p + q - b := by
    split
    · exact Nat.mod_eq_of_lt (by omega)
    · rw [Nat.mod_eq_sub_mod (by omega), Nat.mod_eq_of_lt (by omega)]
  have same : ∀ j j' : Nat, j = j' → z.getLsbD j = z.getLsbD j' := fun j j' h => by rw [h]
  by_cases h1 : i < q
  · by_cases h7 : b - q + i < p
    · have c1 : i < (p + q) % b := by rw [hr]; split <;> omega
      simp only [h1, h7, c1, decide_true, cond_true]
      exact same _ _ (by rw [hr]; split <;> omega)
    · by_cases h8 : p + q < b
      · have c1 : i < (p + q) % b := by rw [hr, if_pos h8]; omega
        have c2 : b - q + i < b := by omega
        simp only [h1, h7, c1, c2, decide_true, decide_false, cond_true, cond_false, Bool.true_and]
        exact same _ _ (by rw [hr, if_pos h8]; omega)
      · have c1 : ¬ i < (p + q) % b := by rw [hr, if_neg h8]; omega
        have c2 : b - q + i < b := by omega
        simp only [h1, h7, c1, c2, hi, decide_true, decide_false, cond_true, cond_false, Bool.true_and]
        exact same _ _ (by rw [hr, if_neg h8]; omega)
  · by_cases h7 : i - q < p
    · by_cases h8 : p + q < b
      · have c1 : i < (p + q) % b := by rw [hr, if_pos h8]; omega
        simp only [h1, h7, c1, hi, decide_true, decide_false, cond_true, cond_false, Bool.true_and]
        exact same _ _ (by rw [hr, if_pos h8]; omega)
      · have c1 : ¬ i < (p + q) % b := by rw [hr, if_neg h8]; omega
        simp only [h1, h7, c1, hi, decide_true, decide_false, cond_true, cond_false, Bool.true_and]
        exact same _ _ (by rw [hr, if_neg h8]; omega)
    · have h8 : p + q < b := by omega
      have c1 : ¬ i < (p + q) % b := by rw [hr, if_pos h8]; omega
      have c2 : i - q < b := by omega
      simp only [h1, h7, c1, c2, hi, decide_true, decide_false, cond_true, cond_false, Bool.true_and]
      exact same _ _ (by rw [hr, if_pos h8]; omega)
end Go.Ab
end
end

/- Bits of words: plain laws. -/
section
section
set_option autoImplicit false
set_option linter.unusedVariables false
set_option linter.unusedSimpArgs false
namespace Go.Ab
def sumN (f : Nat → Nat) : Nat → Nat
  | 0 => 0
  | n + 1 => sumN f n + f n
def bitN (x i : Nat) : Nat := x / 2 ^ i % 2
def pc (b x : Nat) : Nat := sumN (bitN x) b

theorem sumN_congr {f g : Nat → Nat} : ∀ n, (∀ i, i < n → f i = g i) → sumN f n = sumN g n := by
  intro n
  induction n with
  | zero => intro _; rfl
  | succ n ih => intro h; simp only [sumN]; rw [ih fun i hi => h i (by omega), h n (by omega)]
theorem sumN_front (f : Nat → Nat) (n : Nat) : sumN f (n + 1) = f 0 + sumN (fun i => f (i + 1)) n := by
  induction n with
  | zero => simp [sumN]
  | succ n ih => rw [sumN, ih, sumN]; omega
theorem sumN_add (f : Nat → Nat) (a b : Nat) : sumN f (a + b) = sumN f a + sumN (fun i => f (a + i)) b := by
  induction b with
  | zero => simp [sumN]
  | succ b ih => rw [← Nat.add_assoc, sumN, ih, sumN]; omega
theorem bitN_succ (x i : Nat) : bitN x (i + 1) = bitN (x / 2) i := by
  unfold bitN
  rw [Nat.pow_succ, Nat.mul_comm, Nat.div_div_eq_div_mul]
theorem bitN_lt (x i : Nat) : bitN x i < 2 := Nat.mod_lt _ (by decide)
theorem bitN_test (x i : Nat) : bitN x i = (x.testBit i).toNat := by rw [Nat.toNat_testBit]; rfl
theorem pc_succ (b x : Nat) : pc (b + 1) x = x % 2 + pc b (x / 2) := by
  unfold pc
  rw [sumN_front]
  have : bitN x 0 = x % 2 := by simp [bitN]
  rw [this]
  congr 1
  exact sumN_congr _ fun i _ => bitN_succ x i
theorem pc_zero (b : Nat) : pc b 0 = 0 := by
  induction b with
  | zero => rfl
  | succ b ih => rw [pc_succ]; simpa using ih
theorem pc_le (b x : Nat) : pc b x ≤ b := by
  induction b generalizing x with
  | zero => exact Nat.le_refl _
  | succ b ih => rw [pc_succ]; have := ih (x / 2); have := Nat.mod_lt x (by decide : 0 < 2); omega
/-- the lowest bit goes. -/
theorem pc_drop : ∀ (b x : Nat), 0 < x → x < 2 ^ b → pc b (x &&& (x - 1)) + 1 = pc b x := by
  intro b
  induction b with
  | zero => intro x h h2; omega
  | succ b ih =>
    intro x h h2
    rw [pc_succ, pc_succ, Nat.and_div_two]
    have hm : (x &&& (x - 1)) % 2 = x % 2 &&& (x - 1) % 2 := by
      have := @Nat.and_mod_two_pow x (x - 1) 1
      simpa using this
    rw [hm]
    rcases Nat.mod_two_eq_zero_or_one x with e | e
    · have e1 : (x - 1) / 2 = x / 2 - 1 := by omega
      rw [e, e1, Nat.zero_and]
      have := ih (x / 2) (by omega) (by rw [Nat.pow_succ] at h2; omega)
      omega
    · have e1 : (x - 1) / 2 = x / 2 := by omega
      have e2 : (x - 1) % 2 = 0 := by omega
      rw [e, e1, e2, Nat.and_zero, Nat.and_self]; omega
theorem mod_bits (x i : Nat) : x % 2 ^ (i + 1) = x % 2 ^ i + bitN x i * 2 ^ i := by
  unfold bitN
  rw [Nat.pow_succ, Nat.mod_mul]
  rw [Nat.mul_comm]

/-- a word, turned left by m. -/
def rotN (b x m : Nat) : Nat := ((BitVec.ofNat b x).rotateLeft m).toNat
theorem rotI_nat (b x : Nat) (n : Int) : rotI b (x : Int) n = (rotN b x (n % (b : Int)).toNat : Nat) := by
  unfold rotI rotN
  rw [BitVec.ofInt_natCast]
theorem rotN_lt (b x m : Nat) : rotN b x m < 2 ^ b := (BitVec.isLt _)
theorem rotN_bit (b x m i : Nat) (hx : x < 2 ^ b) (hm : m < b) (hi : i < b) : bitN (rotN b x m) i = bitN x (if i < m then b - m + i else i - m) := by
  rw [bitN_test, bitN_test]
  congr 1
  have h1 : (rotN b x m).testBit i = ((BitVec.ofNat b x).rotateLeft m).getLsbD i := rfl
  have h2 : ∀ j, j < b → (BitVec.ofNat b x).getLsbD j = x.testBit j := by
    intro j hj
    rw [BitVec.getLsbD_ofNat]; simp [hj]
  rw [h1, BitVec.getLsbD_rotateLeft, Nat.mod_eq_of_lt hm]
  by_cases h : i < m
  · simp only [h, decide_true, cond_true, if_true]; exact h2 _ (by omega)
  · simp only [h, decide_false, cond_false, if_false, hi, decide_true, Bool.true_and]; exact h2 _ (by omega)
theorem pc_rot (b x m : Nat) (hx : x < 2 ^ b) (hm : m < b) : pc b (rotN b x m) = pc b x := by
  obtain ⟨k, rfl⟩ : ∃ k, b = m + k := ⟨b - m, by omega⟩
  have e1 : pc (m + k) (rotN (m + k) x m) = sumN (fun i => bitN x (k + i)) m + sumN (fun i => bitN x i) k := by
    unfold pc
    rw [sumN_add]
    congr 1
    · exact sumN_congr _ fun i hi => by rw [rotN_bit _ _ _ _ hx hm (by omega), if_pos hi]; congr 1; omega
    · exact sumN_congr _ fun i hi => by rw [rotN_bit _ _ _ _ hx hm (by omega), if_neg (by omega)]; congr 1; omega
  have e2 : pc (m + k) x = sumN (fun i => bitN x i) k + sumN (fun i => bitN x (k + i)) m := by
    unfold pc
    rw [Nat.add_comm m k, sumN_add]
  omega

/-! ### Words as natural numbers -/
theorem wrapA_nat (k : IntKind) (m : Nat) (h : m < topK k) : wrapA k (m : Int) = m := by rw [wrapA_eq]; exact wrap_small k m h
theorem andN_nat (k : IntKind) (x y : Nat) (hx : x < topK k) (hy : y < topK k) : andN k (x : Int) (y : Int) = ((x &&& y : Nat) : Int) := by
  have h := iAnd_eq k (x : Int) (y : Int)
  unfold iAnd at h
  injection h with _ h
  rw [h, BitVec.toNat_and, ofInt_small k x hx, ofInt_small k y hy]
  exact wrap_small k _ (Nat.lt_of_le_of_lt Nat.and_le_left hx)
theorem orN_nat (k : IntKind) (x y : Nat) (hx : x < topK k) (hy : y < topK k) : orN k (x : Int) (y : Int) = ((x ||| y : Nat) : Int) := by
  have h := iOr_eq k (x : Int) (y : Int)
  unfold iOr at h
  injection h with _ h
  rw [h, BitVec.toNat_or, ofInt_small k x hx, ofInt_small k y hy]
  obtain ⟨j, hj, _⟩ := topK_pow k
  refine wrap_small k _ ?_
  rw [hj] at hx hy ⊢
  exact Nat.or_lt_two_pow hx hy
theorem xorN_nat (k : IntKind) (x y : Nat) (hx : x < topK k) (hy : y < topK k) : xorN k (x : Int) (y : Int) = ((x ^^^ y : Nat) : Int) := by
  have h := iXor_eq k (x : Int) (y : Int)
  unfold iXor at h
  injection h with _ h
  rw [h, BitVec.toNat_xor, ofInt_small k x hx, ofInt_small k y hy]
  obtain ⟨j, hj, _⟩ := topK_pow k
  refine wrap_small k _ ?_
  rw [hj] at hx hy ⊢
  exact Nat.xor_lt_two_pow hx hy
theorem i64_add (a b : Nat) (h : a + b < 9223372036854775808) : wrapA .i64 (Int.add (a : Int) (b : Int)) = ((a + b : Nat) : Int) := by
  have : Int.add (a : Int) (b : Int) = ((a + b : Nat) : Int) := by show (a : Int) + b = _; omega
  rw [this]; exact wrapA_nat .i64 _ h
theorem i64_sub (a b : Nat) (h : b ≤ a) (h2 : a < 9223372036854775808) : wrapA .i64 (Int.sub (a : Int) (b : Int)) = ((a - b : Nat) : Int) := by
  have : Int.sub (a : Int) (b : Int) = ((a - b : Nat) : Int) := by show (a : Int) - b = _; omega
  rw [this]; exact wrapA_nat .i64 _ (by show _ < 9223372036854775808; omega)
theorem nat_of {x : Int} (h : ileB 0 x = true) : ∃ y : Nat, x = y := by
  rw [ileB_eq] at h
  exact ⟨x.toNat, by have := of_decide_eq_true h; omega⟩
theorem lt_of {x y : Nat} (h : iltB (x : Int) (y : Int) = true) : x < y := by
  rw [iltB_eq] at h
  have := of_decide_eq_true h; omega
/-- one round of the count of a word's bits. -/
theorem count_round (k : IntKind) (b : Nat) (hk : topK k = 2 ^ b) (x : Nat) (hx : x < 2 ^ b) (h0 : 0 < x) : andN k (x : Int) (wrapA k (Int.sub (x : Int) (Int.ofNat 1))) = ((x &&& (x - 1) : Nat) : Int) := by
  have e : Int.sub (x : Int) (Int.ofNat 1) = ((x - 1 : Nat) : Int) := by show (x : Int) - 1 = _; omega
  rw [e, wrapA_nat k _ (by omega), andN_nat k _ _ (by omega) (by omega)]
end Go.Ab
end
end

/- The bits of words: what the functions that count them do. -/
section
set_option autoImplicit false
set_option linter.unusedVariables false
set_option linter.unusedSimpArgs false
set_option maxRecDepth 100000
noncomputable section
namespace Go.Proofs.Ytecncappdnhbaaa
open Go Go.Ab
end Go.Proofs.Ytecncappdnhbaaa
namespace Go.Ab.M
def pcI (b : Nat) (x : Int) : Int := (pc b x.toNat : Nat)
theorem pcI_nat (b x : Nat) : pcI b (x : Int) = (pc b x : Nat) := rfl
def shrI (x n : Int) : Int := (x.toNat / 2 ^ n.toNat : Nat)
end Go.Ab.M
namespace Go.Proofs.Ytecncappdnhbaaa
open Go.Ab.M Go.Ab Go
theorem cntu8A (x : Int) (n : Int) (H : Heap) (ds : List Nat) (h0 : (!ieqB x (Int.ofNat 0)) = true) :
    CodeOK Try.prog (tyCx tys) 13 H.next (roundOf (blockOf Try.f69 0)) { fr := frameOf 13 ([0, 3].zip [AV.int IntKind.u8 x, AV.int IntKind.i64 n]), ds := ds, H := H } (AX.normal) ⟨frameOf 13 ([0, 3].zip [AV.int IntKind.u8 (andN IntKind.u8 x (wrapA IntKind.u8 (x.sub (Int.ofNat 1)))), AV.int IntKind.i64 (wrapA IntKind.i64 (n.add (Int.ofNat 1)))]), ds, H⟩ :=
  pure_run (g := 30) (k := 69) (f := 30) (cx_goes _ _) all0 (q := (.y :: [])) (c := [.tst _ true]) (by kernel_rfl) ⟨h0, trivial⟩ (by kernel_rfl) (by first | kernel_rfl | rfl | simp [AV.plainL, AV.plain])
theorem cntu8B (x : Int) (n : Int) (H : Heap) (ds : List Nat) (h0 : (!ieqB x (Int.ofNat 0)) = false) :
    CodeOK Try.prog (tyCx tys) 13 H.next (roundOf (blockOf Try.f69 0)) { fr := frameOf 13 ([0, 3].zip [AV.int IntKind.u8 x, AV.int IntKind.i64 n]), ds := ds, H := H } (AX.exit 0) ⟨frameOf 13 ([0, 3].zip [AV.int IntKind.u8 x, AV.int IntKind.i64 n]), ds, H⟩ :=
  pure_run (g := 30) (k := 69) (f := 30) (cx_goes _ _) all0 (q := (.z :: [])) (c := [.tst _ false]) (by kernel_rfl) ⟨h0, trivial⟩ (by kernel_rfl) (by first | kernel_rfl | rfl | simp [AV.plainL, AV.plain])
noncomputable def cntLu8 : PLoop := ⟨13, blockOf Try.f69 0, [0, 3], fun vs => match vs with
  | [.int .u8 x, .int .i64 n] => some ([ileB 0 x, iltB x 256, ileB 0 n, iltB n 1099511627776], .normal, [.int .u8 0, .int .i64 (n + pcI 8 x)])
  | _ => none⟩
theorem cntLu8_ok : cntLu8.OK Try.prog (tyCx tys) 0 := by
  refine PLoop.ok_by (b := roundOf (blockOf Try.f69 0)) (by kernel_rfl) (α := Nat × Nat) (fun p => [.int .u8 (p.1 : Int), .int .i64 (p.2 : Int)]) (fun p => (.exit 0, [.int .u8 0, .int .i64 ((p.2 + pc 8 p.1 : Nat) : Int)])) (fun p => p.1 < 256 ∧ p.2 + pc 8 p.1 < 1099511627776 + 65) (fun p => p.1) ?_ ?_
  · intro vs conds X vs' h hc
    simp only [cntLu8] at h
    split at h
    · rename_i x n
      injection h with h; injection h with e1 h; injection h with e2 e3
      subst e1; subst e2; subst e3
      simp only [allTrue_cons] at hc
      obtain ⟨c1, c2, c3, c4, _⟩ := hc
      obtain ⟨x, rfl⟩ := nat_of c1
      obtain ⟨n, rfl⟩ := nat_of c3
      have := pc_le 8 x
      refine ⟨(x, n), ⟨lt_of c2, by have : n < 1099511627776 := lt_of c4; simp only; omega⟩, rfl, rfl, ?_⟩
      simp only [pcI_nat]; congr 3
    · cases h
  · rintro ⟨x, n⟩ ⟨h1, h2⟩ ds H
    simp only at h1 h2
    by_cases h0 : x = 0
    · subst h0
      right
      refine ⟨by simp, ?_⟩
      have := cntu8B 0 n H ds (by rfl)
      rw [pc_zero]; exact this
    · left
      have hd := pc_drop 8 x (by omega) h1
      refine ⟨(x &&& (x - 1), n + 1), ⟨Nat.lt_of_le_of_lt Nat.and_le_left h1, by simp only; omega⟩, ?_, ?_, ?_⟩
      · simp only; congr 5; omega
      · simp only
        have : x &&& (x - 1) ≤ x - 1 := Nat.and_le_right
        omega
      · have := cntu8A x n H ds (by rw [ieqB_eq]; simp; omega)
        rw [count_round .u8 8 rfl x h1 (by omega)] at this
        rw [show (Int.ofNat 1) = ((1 : Nat) : Int) from rfl, i64_add n 1 (by omega)] at this
        exact this
theorem cntu16A (x : Int) (n : Int) (H : Heap) (ds : List Nat) (h0 : (!ieqB x (Int.ofNat 0)) = true) :
    CodeOK Try.prog (tyCx tys) 13 H.next (roundOf (blockOf Try.f71 0)) { fr := frameOf 13 ([0, 3].zip [AV.int IntKind.u16 x, AV.int IntKind.i64 n]), ds := ds, H := H } (AX.normal) ⟨frameOf 13 ([0, 3].zip [AV.int IntKind.u16 (andN IntKind.u16 x (wrapA IntKind.u16 (x.sub (Int.ofNat 1)))), AV.int IntKind.i64 (wrapA IntKind.i64 (n.add (Int.ofNat 1)))]), ds, H⟩ :=
  pure_run (g := 30) (k := 71) (f := 30) (cx_goes _ _) all0 (q := (.y :: [])) (c := [.tst _ true]) (by kernel_rfl) ⟨h0, trivial⟩ (by kernel_rfl) (by first | kernel_rfl | rfl | simp [AV.plainL, AV.plain])
theorem cntu16B (x : Int) (n : Int) (H : Heap) (ds : List Nat) (h0 : (!ieqB x (Int.ofNat 0)) = false) :
    CodeOK Try.prog (tyCx tys) 13 H.next (roundOf (blockOf Try.f71 0)) { fr := frameOf 13 ([0, 3].zip [AV.int IntKind.u16 x, AV.int IntKind.i64 n]), ds := ds, H := H } (AX.exit 0) ⟨frameOf 13 ([0, 3].zip [AV.int IntKind.u16 x, AV.int IntKind.i64 n]), ds, H⟩ :=
  pure_run (g := 30) (k := 71) (f := 30) (cx_goes _ _) all0 (q := (.z :: [])) (c := [.tst _ false]) (by kernel_rfl) ⟨h0, trivial⟩ (by kernel_rfl) (by first | kernel_rfl | rfl | simp [AV.plainL, AV.plain])
noncomputable def cntLu16 : PLoop := ⟨13, blockOf Try.f71 0, [0, 3], fun vs => match vs with
  | [.int .u16 x, .int .i64 n] => some ([ileB 0 x, iltB x 65536, ileB 0 n, iltB n 1099511627776], .normal, [.int .u16 0, .int .i64 (n + pcI 16 x)])
  | _ => none⟩
theorem cntLu16_ok : cntLu16.OK Try.prog (tyCx tys) 0 := by
  refine PLoop.ok_by (b := roundOf (blockOf Try.f71 0)) (by kernel_rfl) (α := Nat × Nat) (fun p => [.int .u16 (p.1 : Int), .int .i64 (p.2 : Int)]) (fun p => (.exit 0, [.int .u16 0, .int .i64 ((p.2 + pc 16 p.1 : Nat) : Int)])) (fun p => p.1 < 65536 ∧ p.2 + pc 16 p.1 < 1099511627776 + 65) (fun p => p.1) ?_ ?_
  · intro vs conds X vs' h hc
    simp only [cntLu16] at h
    split at h
    · rename_i x n
      injection h with h; injection h with e1 h; injection h with e2 e3
      subst e1; subst e2; subst e3
      simp only [allTrue_cons] at hc
      obtain ⟨c1, c2, c3, c4, _⟩ := hc
      obtain ⟨x, rfl⟩ := nat_of c1
      obtain ⟨n, rfl⟩ := nat_of c3
      have := pc_le 16 x
      refine ⟨(x, n), ⟨lt_of c2, by have : n < 1099511627776 := lt_of c4; simp only; omega⟩, rfl, rfl, ?_⟩
      simp only [pcI_nat]; congr 3
    · cases h
  · rintro ⟨x, n⟩ ⟨h1, h2⟩ ds H
    simp only at h1 h2
    by_cases h0 : x = 0
    · subst h0
      right
      refine ⟨by simp, ?_⟩
      have := cntu16B 0 n H ds (by rfl)
      rw [pc_zero]; exact this
    · left
      have hd := pc_drop 16 x (by omega) h1
      refine ⟨(x &&& (x - 1), n + 1), ⟨Nat.lt_of_le_of_lt Nat.and_le_left h1, by simp only; omega⟩, ?_, ?_, ?_⟩
      · simp only; congr 5; omega
      · simp only
        have : x &&& (x - 1) ≤ x - 1 := Nat.and_le_right
        omega
      · have := cntu16A x n H ds (by rw [ieqB_eq]; simp; omega)
        rw [count_round .u16 16 rfl x h1 (by omega)] at this
        rw [show (Int.ofNat 1) = ((1 : Nat) : Int) from rfl, i64_add n 1 (by omega)] at this
        exact this
theorem cntu32A (x : Int) (n : Int) (H : Heap) (ds : List Nat) (h0 : (!ieqB x (Int.ofNat 0)) = true) :
    CodeOK Try.prog (tyCx tys) 13 H.next (roundOf (blockOf Try.f72 0)) { fr := frameOf 13 ([0, 3].zip [AV.int IntKind.u32 x, AV.int IntKind.i64 n]), ds := ds, H := H } (AX.normal) ⟨frameOf 13 ([0, 3].zip [AV.int IntKind.u32 (andN IntKind.u32 x (wrapA IntKind.u32 (x.sub (Int.ofNat 1)))), AV.int IntKind.i64 (wrapA IntKind.i64 (n.add (Int.ofNat 1)))]), ds, H⟩ :=
  pure_run (g := 30) (k := 72) (f := 30) (cx_goes _ _) all0 (q := (.y :: [])) (c := [.tst _ true]) (by kernel_rfl) ⟨h0, trivial⟩ (by kernel_rfl) (by first | kernel_rfl | rfl | simp [AV.plainL, AV.plain])
theorem cntu32B (x : Int) (n : Int) (H : Heap) (ds : List Nat) (h0 : (!ieqB x (Int.ofNat 0)) = false) :
    CodeOK Try.prog (tyCx tys) 13 H.next (roundOf (blockOf Try.f72 0)) { fr := frameOf 13 ([0, 3].zip [AV.int IntKind.u32 x, AV.int IntKind.i64 n]), ds := ds, H := H } (AX.exit 0) ⟨frameOf 13 ([0, 3].zip [AV.int IntKind.u32 x, AV.int IntKind.i64 n]), ds, H⟩ :=
  pure_run (g := 30) (k := 72) (f := 30) (cx_goes _ _) all0 (q := (.z :: [])) (c := [.tst _ false]) (by kernel_rfl) ⟨h0, trivial⟩ (by kernel_rfl) (by first | kernel_rfl | rfl | simp [AV.plainL, AV.plain])
noncomputable def cntLu32 : PLoop := ⟨13, blockOf Try.f72 0, [0, 3], fun vs => match vs with
  | [.int .u32 x, .int .i64 n] => some ([ileB 0 x, iltB x 4294967296, ileB 0 n, iltB n 1099511627776], .normal, [.int .u32 0, .int .i64 (n + pcI 32 x)])
  | _ => none⟩
theorem cntLu32_ok : cntLu32.OK Try.prog (tyCx tys) 0 := by
  refine PLoop.ok_by (b := roundOf (blockOf Try.f72 0)) (by kernel_rfl) (α := Nat × Nat) (fun p => [.int .u32 (p.1 : Int), .int .i64 (p.2 : Int)]) (fun p => (.exit 0, [.int .u32 0, .int .i64 ((p.2 + pc 32 p.1 : Nat) : Int)])) (fun p => p.1 < 4294967296 ∧ p.2 + pc 32 p.1 < 1099511627776 + 65) (fun p => p.1) ?_ ?_
  · intro vs conds X vs' h hc
    simp only [cntLu32] at h
    split at h
    · rename_i x n
      injection h with h; injection h with e1 h; injection h with e2 e3
      subst e1; subst e2; subst e3
      simp only [allTrue_cons] at hc
      obtain ⟨c1, c2, c3, c4, _⟩ := hc
      obtain ⟨x, rfl⟩ := nat_of c1
      obtain ⟨n, rfl⟩ := nat_of c3
      have := pc_le 32 x
      refine ⟨(x, n), ⟨lt_of c2, by have : n < 1099511627776 := lt_of c4; simp only; omega⟩, rfl, rfl, ?_⟩
      simp only [pcI_nat]; congr 3
    · cases h
  · rintro ⟨x, n⟩ ⟨h1, h2⟩ ds H
    simp only at h1 h2
    by_cases h0 : x = 0
    · subst h0
      right
      refine ⟨by simp, ?_⟩
      have := cntu32B 0 n H ds (by rfl)
      rw [pc_zero]; exact this
    · left
      have hd := pc_drop 32 x (by omega) h1
      refine ⟨(x &&& (x - 1), n + 1), ⟨Nat.lt_of_le_of_lt Nat.and_le_left h1, by simp only; omega⟩, ?_, ?_, ?_⟩
      · simp only; congr 5; omega
      · simp only
        have : x &&& (x - 1) ≤ x - 1 := Nat.and_le_right
        omega
      · have := cntu32A x n H ds (by rw [ieqB_eq]; simp; omega)
        rw [count_round .u32 32 rfl x h1 (by omega)] at this
        rw [show (Int.ofNat 1) = ((1 : Nat) : Int) from rfl, i64_add n 1 (by omega)] at this
        exact this
theorem cntu64A (x : Int) (n : Int) (H : Heap) (ds : List Nat) (h0 : (!ieqB x (Int.ofNat 0)) = true) :
    CodeOK Try.prog (tyCx tys) 13 H.next (roundOf (blockOf Try.f73 0)) { fr := frameOf 13 ([0, 3].zip [AV.int IntKind.u64 x, AV.int IntKind.i64 n]), ds := ds, H := H } (AX.normal) ⟨frameOf 13 ([0, 3].zip [AV.int IntKind.u64 (andN IntKind.u64 x (wrapA IntKind.u64 (x.sub (Int.ofNat 1)))), AV.int IntKind.i64 (wrapA IntKind.i64 (n.add (Int.ofNat 1)))]), ds, H⟩ :=
  pure_run (g := 30) (k := 73) (f := 30) (cx_goes _ _) all0 (q := (.y :: [])) (c := [.tst _ true]) (by kernel_rfl) ⟨h0, trivial⟩ (by kernel_rfl) (by first | kernel_rfl | rfl | simp [AV.plainL, AV.plain])
theorem cntu64B (x : Int) (n : Int) (H : Heap) (ds : List Nat) (h0 : (!ieqB x (Int.ofNat 0)) = false) :
    CodeOK Try.prog (tyCx tys) 13 H.next (roundOf (blockOf Try.f73 0)) { fr := frameOf 13 ([0, 3].zip [AV.int IntKind.u64 x, AV.int IntKind.i64 n]), ds := ds, H := H } (AX.exit 0) ⟨frameOf 13 ([0, 3].zip [AV.int IntKind.u64 x, AV.int IntKind.i64 n]), ds, H⟩ :=
  pure_run (g := 30) (k := 73) (f := 30) (cx_goes _ _) all0 (q := (.z :: [])) (c := [.tst _ false]) (by kernel_rfl) ⟨h0, trivial⟩ (by kernel_rfl) (by first | kernel_rfl | rfl | simp [AV.plainL, AV.plain])
noncomputable def cntLu64 : PLoop := ⟨13, blockOf Try.f73 0, [0, 3], fun vs => match vs with
  | [.int .u64 x, .int .i64 n] => some ([ileB 0 x, iltB x 18446744073709551616, ileB 0 n, iltB n 1099511627776], .normal, [.int .u64 0, .int .i64 (n + pcI 64 x)])
  | _ => none⟩
theorem cntLu64_ok : cntLu64.OK Try.prog (tyCx tys) 0 := by
  refine PLoop.ok_by (b := roundOf (blockOf Try.f73 0)) (by kernel_rfl) (α := Nat × Nat) (fun p => [.int .u64 (p.1 : Int), .int .i64 (p.2 : Int)]) (fun p => (.exit 0, [.int .u64 0, .int .i64 ((p.2 + pc 64 p.1 : Nat) : Int)])) (fun p => p.1 < 18446744073709551616 ∧ p.2 + pc 64 p.1 < 1099511627776 + 65) (fun p => p.1) ?_ ?_
  · intro vs conds X vs' h hc
    simp only [cntLu64] at h
    split at h
    · rename_i x n
      injection h with h; injection h with e1 h; injection h with e2 e3
      subst e1; subst e2; subst e3
      simp only [allTrue_cons] at hc
      obtain ⟨c1, c2, c3, c4, _⟩ := hc
      obtain ⟨x, rfl⟩ := nat_of c1
      obtain ⟨n, rfl⟩ := nat_of c3
      have := pc_le 64 x
      refine ⟨(x, n), ⟨lt_of c2, by have : n < 1099511627776 := lt_of c4; simp only; omega⟩, rfl, rfl, ?_⟩
      simp only [pcI_nat]; congr 3
    · cases h
  · rintro ⟨x, n⟩ ⟨h1, h2⟩ ds H
    simp only at h1 h2
    by_cases h0 : x = 0
    · subst h0
      right
      refine ⟨by simp, ?_⟩
      have := cntu64B 0 n H ds (by rfl)
      rw [pc_zero]; exact this
    · left
      have hd := pc_drop 64 x (by omega) h1
      refine ⟨(x &&& (x - 1), n + 1), ⟨Nat.lt_of_le_of_lt Nat.and_le_left h1, by simp only; omega⟩, ?_, ?_, ?_⟩
      · simp only; congr 5; omega
      · simp only
        have : x &&& (x - 1) ≤ x - 1 := Nat.and_le_right
        omega
      · have := cntu64A x n H ds (by rw [ieqB_eq]; simp; omega)
        rw [count_round .u64 64 rfl x h1 (by omega)] at this
        rw [show (Int.ofNat 1) = ((1 : Nat) : Int) from rfl, i64_add n 1 (by omega)] at this
        exact this
theorem bitA (x : Int) (n : Int) (H : Heap) (ds : List Nat) (h0 : (iltB (Int.ofNat 0) n) = true) :
    CodeOK Try.prog (tyCx tys) 13 H.next (roundOf (blockOf Try.f100 0)) { fr := frameOf 13 ([0, 1].zip [AV.int IntKind.u64 x, AV.int IntKind.i64 n]), ds := ds, H := H } (AX.normal) ⟨frameOf 13 ([0, 1].zip [AV.int IntKind.u64 (wrapA IntKind.u64 (x.tdiv (Int.ofNat 2))), AV.int IntKind.i64 (wrapA IntKind.i64 (n.sub (Int.ofNat 1)))]), ds, H⟩ :=
  pure_run (g := 30) (k := 100) (f := 30) (cx_goes _ _) all0 (q := (.y :: (cs 1 []))) (c := [.tst _ true]) (by kernel_rfl) ⟨h0, trivial⟩ (by kernel_rfl) (by first | kernel_rfl | rfl | simp [AV.plainL, AV.plain])
theorem bitB (x : Int) (n : Int) (H : Heap) (ds : List Nat) (h0 : (iltB (Int.ofNat 0) n) = false) :
    CodeOK Try.prog (tyCx tys) 13 H.next (roundOf (blockOf Try.f100 0)) { fr := frameOf 13 ([0, 1].zip [AV.int IntKind.u64 x, AV.int IntKind.i64 n]), ds := ds, H := H } (AX.exit 0) ⟨frameOf 13 ([0, 1].zip [AV.int IntKind.u64 x, AV.int IntKind.i64 n]), ds, H⟩ :=
  pure_run (g := 30) (k := 100) (f := 30) (cx_goes _ _) all0 (q := (.z :: [])) (c := [.tst _ false]) (by kernel_rfl) ⟨h0, trivial⟩ (by kernel_rfl) (by first | kernel_rfl | rfl | simp [AV.plainL, AV.plain])
noncomputable def bitL : PLoop := ⟨13, blockOf Try.f100 0, [0, 1], fun vs => match vs with
  | [.int .u64 x, .int .i64 n] => some ([ileB 0 x, iltB x 18446744073709551616, ileB 0 n, iltB n 1099511627776], .normal, [.int .u64 (shrI x n), .int .i64 0])
  | _ => none⟩
theorem bitL_ok : bitL.OK Try.prog (tyCx tys) 0 := by
  refine PLoop.ok_by (b := roundOf (blockOf Try.f100 0)) (by kernel_rfl) (α := Nat × Nat) (fun p => [.int .u64 (p.1 : Int), .int .i64 (p.2 : Int)]) (fun p => (.exit 0, [.int .u64 ((p.1 / 2 ^ p.2 : Nat) : Int), .int .i64 0])) (fun p => p.1 < 18446744073709551616 ∧ p.2 < 1099511627776) (fun p => p.2) ?_ ?_
  · intro vs conds X vs' h hc
    simp only [bitL] at h
    split at h
    · rename_i x n
      injection h with h; injection h with e1 h; injection h with e2 e3
      subst e1; subst e2; subst e3
      simp only [allTrue_cons] at hc
      obtain ⟨c1, c2, c3, c4, _⟩ := hc
      obtain ⟨x, rfl⟩ := nat_of c1
      obtain ⟨n, rfl⟩ := nat_of c3
      exact ⟨(x, n), ⟨lt_of c2, lt_of c4⟩, rfl, rfl, rfl⟩
    · cases h
  · rintro ⟨x, n⟩ ⟨h1, h2⟩ ds H
    simp only at h1 h2
    by_cases h0 : n = 0
    · subst h0
      right
      refine ⟨by simp, ?_⟩
      have := bitB x 0 H ds (by rfl)
      rw [Nat.pow_zero, Nat.div_one]; exact this
    · left
      obtain ⟨m, rfl⟩ : ∃ m, n = m + 1 := ⟨n - 1, by omega⟩
      refine ⟨(x / 2, m), ⟨by show x / 2 < _; omega, by show m < _; omega⟩, ?_, by show m < m + 1; omega, ?_⟩
      · have e : x / 2 ^ (m + 1) = x / 2 / 2 ^ m := by rw [Nat.pow_succ, Nat.mul_comm, Nat.div_div_eq_div_mul]
        simp only [e]
      · have := bitA x ((m + 1 : Nat) : Int) H ds (by rw [iltB_eq]; first | (simp; done) | (simp; omega))
        rw [show (Int.ofNat 1) = ((1 : Nat) : Int) from rfl, i64_sub (m + 1) 1 (by omega) (by omega)] at this
        have e : (x : Int).tdiv (Int.ofNat 2) = ((x / 2 : Nat) : Int) := rfl
        rw [e, wrapA_nat .u64 _ (by show _ < 18446744073709551616; omega)] at this
        exact this
end Go.Proofs.Ytecncappdnhbaaa
end
end

/- Words: rows of the functions that count, turn, tell a bit. -/
section
set_option autoImplicit false
set_option linter.unusedVariables false
set_option linter.unusedSimpArgs false
set_option maxRecDepth 100000
noncomputable section
namespace Go.Ab.M
def bitI (x n : Int) : Int := (bitN x.toNat n.toNat : Nat)
end Go.Ab.M
namespace Go.Proofs.Ytecncappdnhbaaa
open Go.Ab.M Go.Ab Go
abbrev L02 : LTab := [((69, 0), cntLu8), ((71, 0), cntLu16), ((72, 0), cntLu32), ((73, 0), cntLu64), ((100, 0), bitL)]
abbrev C02a := mkCx tys fns [] L02
abbrev S02a := mkS tys [] L02
/-- how many bits a word has; the chapter's example. -/
abbrev F01 : FTab := [(63, RSum.const (.int .i64 (Int.ofNat 8))), (64, RSum.const (.int .i64 (Int.ofNat 16))), (65, RSum.const (.int .i64 (Int.ofNat 32))), (66, RSum.const (.int .i64 (Int.ofNat 64))), (15, RSum.const (.bool true))]
abbrev C01 := mkCx tys fns F01 []
abbrev S01 := mkS tys F01 []
theorem bits_u8 :
    ∃ h', aCall C0 100 (Tgt.fn 63) [] H0 = some (AV.int IntKind.i64 (Int.ofNat 8), h') ∧ [].map h'.get = [] :=
  call_run (q := (cs 17 [])) (c := []) (by kernel_rfl) trivial
theorem bits_u16 :
    ∃ h', aCall C0 100 (Tgt.fn 64) [] H0 = some (AV.int IntKind.i64 (Int.ofNat 16), h') ∧ [].map h'.get = [] :=
  call_run (q := (cs 33 [])) (c := []) (by kernel_rfl) trivial
theorem bits_u32 :
    ∃ h', aCall C0 100 (Tgt.fn 65) [] H0 = some (AV.int IntKind.i64 (Int.ofNat 32), h') ∧ [].map h'.get = [] :=
  call_run (q := (cs 65 [])) (c := []) (by kernel_rfl) trivial
theorem bits_u64 :
    ∃ h', aCall C0 100 (Tgt.fn 66) [] H0 = some (AV.int IntKind.i64 (Int.ofNat 64), h') ∧ [].map h'.get = [] :=
  call_run (q := (cs 129 [])) (c := []) (by kernel_rfl) trivial
theorem lives01 :
    ∃ h', aCall C0 100 (Tgt.fn 15) [] H0 = some (AV.bool true, h') ∧ [].map h'.get = [] :=
  call_run (q := (cs 80 [])) (c := []) (by kernel_rfl) trivial
theorem f01_ok : ∀ p ∈ F01, RSum.Sound Try.prog tys p.1 p.2 := by
  intro p h
  simp only [F01, List.mem_cons, List.not_mem_nil, or_false] at h
  rcases h with rfl | rfl | rfl | rfl | rfl
  · exact RSum.sound (cx_goes _ _) all0 (RSum.const_ok rfl (let ⟨h', h, _⟩ := bits_u8; ⟨h', h⟩))
  · exact RSum.sound (cx_goes _ _) all0 (RSum.const_ok rfl (let ⟨h', h, _⟩ := bits_u16; ⟨h', h⟩))
  · exact RSum.sound (cx_goes _ _) all0 (RSum.const_ok rfl (let ⟨h', h, _⟩ := bits_u32; ⟨h', h⟩))
  · exact RSum.sound (cx_goes _ _) all0 (RSum.const_ok rfl (let ⟨h', h, _⟩ := bits_u64; ⟨h', h⟩))
  · exact RSum.sound (cx_goes _ _) all0 (RSum.const_ok rfl (let ⟨h', h, _⟩ := lives01; ⟨h', h⟩))
theorem all01 : SumAll Try.prog C01 := sums_all f01_ok (fun _ h => by cases h)
theorem l02_ok : ∀ p ∈ L02, p.2.OK Try.prog (tyCx tys) p.1.2 := by
  intro p h
  simp only [L02, List.mem_cons, List.not_mem_nil, or_false] at h
  rcases h with rfl | rfl | rfl | rfl | rfl
  · exact cntLu8_ok
  · exact cntLu16_ok
  · exact cntLu32_ok
  · exact cntLu64_ok
  · exact bitL_ok
theorem all02a : SumAll Try.prog C02a := sums_all (fun _ h => by cases h) l02_ok
theorem count_u8 (x : Int) (h0 : (ileB (Int.ofNat 0) x) = true) (h1 : (iltB x (Int.ofNat 256)) = true) :
    ∃ h', aCall C02a 60 (Tgt.fn 69) [AV.int IntKind.u8 x] H0 = some (AV.int IntKind.i64 (Int.ofNat 0 + pcI 8 x), h') ∧ [].map h'.get = [] :=
  call_run (q := (.y :: (.y :: (cs 2 [])))) (c := [Cnd.code ((69, 0), cntLu8).snd.lsumS.fst ((69, 0), cntLu8).snd.lsumS.fst, .tst _ true, .tst _ true]) (by kernel_rfl) ⟨rfl, h0, h1, trivial⟩
def cntRu8 : RSum := RSum.pl true fun us => match us with
  | [.int .u8 x] => some ([ileB 0 x, iltB x 256], .int .i64 (pcI 8 x))
  | _ => none
theorem cntRu8_ok : RSum.Sound Try.prog tys 69 cntRu8 := by
  refine RSum.sound (cx_goes _ _) all02a (RSum.pl_ok fun us c v hm hc => ?_)
  split at hm
  · injection hm with hm; injection hm with e1 e2; subst e1; subst e2
    simp only [allTrue_cons] at hc
    obtain ⟨h', h, _⟩ := count_u8 _ hc.1 hc.2.1
    rw [show (Int.ofNat 0 : Int) = 0 from rfl, Int.zero_add] at h
    exact ⟨rfl, 60, h', h⟩
  · cases hm
theorem count_u16 (x : Int) (h0 : (ileB (Int.ofNat 0) x) = true) (h1 : (iltB x (Int.ofNat 65536)) = true) :
    ∃ h', aCall C02a 60 (Tgt.fn 71) [AV.int IntKind.u16 x] H0 = some (AV.int IntKind.i64 (Int.ofNat 0 + pcI 16 x), h') ∧ [].map h'.get = [] :=
  call_run (q := (.y :: (.y :: (cs 2 [])))) (c := [Cnd.code ((71, 0), cntLu16).snd.lsumS.fst ((71, 0), cntLu16).snd.lsumS.fst, .tst _ true, .tst _ true]) (by kernel_rfl) ⟨rfl, h0, h1, trivial⟩
def cntRu16 : RSum := RSum.pl true fun us => match us with
  | [.int .u16 x] => some ([ileB 0 x, iltB x 65536], .int .i64 (pcI 16 x))
  | _ => none
theorem cntRu16_ok : RSum.Sound Try.prog tys 71 cntRu16 := by
  refine RSum.sound (cx_goes _ _) all02a (RSum.pl_ok fun us c v hm hc => ?_)
  split at hm
  · injection hm with hm; injection hm with e1 e2; subst e1; subst e2
    simp only [allTrue_cons] at hc
    obtain ⟨h', h, _⟩ := count_u16 _ hc.1 hc.2.1
    rw [show (Int.ofNat 0 : Int) = 0 from rfl, Int.zero_add] at h
    exact ⟨rfl, 60, h', h⟩
  · cases hm
theorem count_u32 (x : Int) (h0 : (ileB (Int.ofNat 0) x) = true) (h1 : (iltB x (Int.ofNat 4294967296)) = true) :
    ∃ h', aCall C02a 60 (Tgt.fn 72) [AV.int IntKind.u32 x] H0 = some (AV.int IntKind.i64 (Int.ofNat 0 + pcI 32 x), h') ∧ [].map h'.get = [] :=
  call_run (q := (.y :: (.y :: (cs 2 [])))) (c := [Cnd.code ((72, 0), cntLu32).snd.lsumS.fst ((72, 0), cntLu32).snd.lsumS.fst, .tst _ true, .tst _ true]) (by kernel_rfl) ⟨rfl, h0, h1, trivial⟩
def cntRu32 : RSum := RSum.pl true fun us => match us with
  | [.int .u32 x] => some ([ileB 0 x, iltB x 4294967296], .int .i64 (pcI 32 x))
  | _ => none
theorem cntRu32_ok : RSum.Sound Try.prog tys 72 cntRu32 := by
  refine RSum.sound (cx_goes _ _) all02a (RSum.pl_ok fun us c v hm hc => ?_)
  split at hm
  · injection hm with hm; injection hm with e1 e2; subst e1; subst e2
    simp only [allTrue_cons] at hc
    obtain ⟨h', h, _⟩ := count_u32 _ hc.1 hc.2.1
    rw [show (Int.ofNat 0 : Int) = 0 from rfl, Int.zero_add] at h
    exact ⟨rfl, 60, h', h⟩
  · cases hm
theorem count_u64 (x : Int) (h0 : (ileB (Int.ofNat 0) x) = true) (h1 : (iltB x (Int.ofNat 18446744073709551616)) = true) :
    ∃ h', aCall C02a 60 (Tgt.fn 73) [AV.int IntKind.u64 x] H0 = some (AV.int IntKind.i64 (Int.ofNat 0 + pcI 64 x), h') ∧ [].map h'.get = [] :=
  call_run (q := (.y :: (.y :: (cs 2 [])))) (c := [Cnd.code ((73, 0), cntLu64).snd.lsumS.fst ((73, 0), cntLu64).snd.lsumS.fst, .tst _ true, .tst _ true]) (by kernel_rfl) ⟨rfl, h0, h1, trivial⟩
def cntRu64 : RSum := RSum.pl true fun us => match us with
  | [.int .u64 x] => some ([ileB 0 x, iltB x 18446744073709551616], .int .i64 (pcI 64 x))
  | _ => none
theorem cntRu64_ok : RSum.Sound Try.prog tys 73 cntRu64 := by
  refine RSum.sound (cx_goes _ _) all02a (RSum.pl_ok fun us c v hm hc => ?_)
  split at hm
  · injection hm with hm; injection hm with e1 e2; subst e1; subst e2
    simp only [allTrue_cons] at hc
    obtain ⟨h', h, _⟩ := count_u64 _ hc.1 hc.2.1
    rw [show (Int.ofNat 0 : Int) = 0 from rfl, Int.zero_add] at h
    exact ⟨rfl, 60, h', h⟩
  · cases hm
theorem bit_run (x : Int) (n : Int) (h0 : (ileB (Int.ofNat 0) x) = true) (h1 : (iltB x (Int.ofNat 18446744073709551616)) = true) (h2 : (ileB (Int.ofNat 0) n) = true) (h3 : (iltB n (Int.ofNat 1099511627776)) = true) :
    ∃ h', aCall C02a 60 (Tgt.fn 100) [AV.int IntKind.u64 x, AV.int IntKind.i64 n] H0 = some (AV.int IntKind.u64 ((shrI x n).tmod (Int.ofNat 2)), h') ∧ [].map h'.get = [] :=
  call_run (q := (.y :: (.y :: (.y :: (.y :: (cs 1 [])))))) (c := [Cnd.code ((100, 0), bitL).snd.lsumS.fst ((100, 0), bitL).snd.lsumS.fst, .tst _ true, .tst _ true, .tst _ true, .tst _ true]) (by kernel_rfl) ⟨rfl, h0, h1, h2, h3, trivial⟩
def bitR : RSum := RSum.pl true fun us => match us with
  | [.int .u64 x, .int .i64 n] => some ([ileB 0 x, iltB x 18446744073709551616, ileB 0 n, iltB n 1099511627776], .int .u64 (bitI x n))
  | _ => none
theorem bitR_ok : RSum.Sound Try.prog tys 100 bitR := by
  refine RSum.sound (cx_goes _ _) all02a (RSum.pl_ok fun us c v hm hc => ?_)
  split at hm
  · injection hm with hm; injection hm with e1 e2; subst e1; subst e2
    simp only [allTrue_cons] at hc
    obtain ⟨h', h, _⟩ := bit_run _ _ hc.1 hc.2.1 hc.2.2.1 hc.2.2.2.1
    exact ⟨rfl, 60, h', h⟩
  · cases hm
theorem turnu8A (x : Int) (n : Int) (h0 : (ieqB ((wrapA IntKind.i64 ((n.tmod (Int.ofNat 8)).add (Int.ofNat 8))).tmod (Int.ofNat 8)) (Int.ofNat 0)) = true) :
    ∃ h', aCall C01 100 (Tgt.fn 16) [AV.int IntKind.u8 x, AV.int IntKind.i64 n] H0 = some (AV.int IntKind.u8 x, h') ∧ [].map h'.get = [] :=
  call_run (q := (cs 2 (.y :: []))) (c := [.tst _ true]) (by kernel_rfl) ⟨h0, trivial⟩
theorem turnu8B (x : Int) (n : Int) (h0 : (ieqB ((wrapA IntKind.i64 ((n.tmod (Int.ofNat 8)).add (Int.ofNat 8))).tmod (Int.ofNat 8)) (Int.ofNat 0)) = false) (h1 : (!iltB ((wrapA IntKind.i64 ((n.tmod (Int.ofNat 8)).add (Int.ofNat 8))).tmod (Int.ofNat 8)) (Int.ofNat 0)) = true) (h2 : (!iltB (wrapA IntKind.i64 ((Int.ofNat 8).sub ((wrapA IntKind.i64 ((n.tmod (Int.ofNat 8)).add (Int.ofNat 8))).tmod (Int.ofNat 8)))) (Int.ofNat 0)) = true) :
    ∃ h', aCall C01 100 (Tgt.fn 16) [AV.int IntKind.u8 x, AV.int IntKind.i64 n] H0 = some (AV.int IntKind.u8 (orN IntKind.u8 (shlN IntKind.u8 x (shN IntKind.u8 ((wrapA IntKind.i64 ((n.tmod (Int.ofNat 8)).add (Int.ofNat 8))).tmod (Int.ofNat 8)).toNat)) (shrN x (shN IntKind.u8 (wrapA IntKind.i64 ((Int.ofNat 8).sub ((wrapA IntKind.i64 ((n.tmod (Int.ofNat 8)).add (Int.ofNat 8))).tmod (Int.ofNat 8)))).toNat))), h') ∧ [].map h'.get = [] :=
  call_run (q := (cs 2 (.z :: (.y :: (.y :: []))))) (c := [.tst _ false, .tst _ true, .tst _ true]) (by kernel_rfl) ⟨h0, h1, h2, trivial⟩
theorem turn_u8 (x n : Int) (hx : 0 ≤ x) (hx2 : x < 2 ^ 8) : ∃ h', aCall C01 100 (.fn 16) [.int .u8 x, .int .i64 n] H0 = some (.int .u8 (rotI 8 x n), h') := by
  have e := turn_mod 8 n (by omega) (by omega)
  have p := Int.emod_nonneg n (by omega : (8 : Int) ≠ 0)
  have q := Int.emod_lt_of_pos n (by omega : (0 : Int) < 8)
  have e' : (wrapA .i64 ((n.tmod (Int.ofNat 8)).add (Int.ofNat 8))).tmod (Int.ofNat 8) = n % 8 := e
  by_cases hm : n % 8 = 0
  · obtain ⟨h', h, _⟩ := turnu8A x n (by rw [e', ieqB_eq, hm]; rfl)
    rw [rot_zero 8 x n hx hx2 (by simpa using hm)]; exact ⟨h', h⟩
  · have e3 : wrapA .i64 ((Int.ofNat 8).sub (n % 8)) = 8 - n % 8 := by
      rw [wrapA_eq]; exact IntWalk.i64_in _ (by constructor <;> (show _ ≤ _; first | omega | (show _ ≤ (8 : Int) - n % 8; omega) | (show (8 : Int) - n % 8 ≤ _; omega)))
    obtain ⟨h', h, _⟩ := turnu8B x n (by rw [e', ieqB_eq]; simpa using hm) (by rw [e', iltB_eq]; simp; omega) (by rw [e', e3, iltB_eq]; simp; omega)
    rw [e'] at h
    have := turn_val .u8 8 rfl rfl (by omega) (by omega) x n hx hx2 (by simpa using hm)
    exact ⟨h', h.trans (congrArg (fun z => some (AV.int _ z, h')) this)⟩
def turnRu8 : RSum := RSum.pl true fun us => match us with
  | [.int .u8 x, .int .i64 n] => some ([ileB 0 x, iltB x 256], .int .u8 (rotI 8 x n))
  | _ => none
theorem turnRu8_ok : RSum.Sound Try.prog tys 16 turnRu8 := by
  refine RSum.sound (cx_goes _ _) all01 (RSum.pl_ok fun us c v hm hc => ?_)
  split at hm
  · injection hm with hm; injection hm with e1 e2; subst e1; subst e2
    simp only [allTrue_cons, ileB_eq, iltB_eq, decide_eq_true_eq] at hc
    obtain ⟨h', h⟩ := turn_u8 _ _ hc.1 (by simpa using hc.2.1)
    exact ⟨rfl, 100, h', h⟩
  · cases hm
theorem turnu16A (x : Int) (n : Int) (h0 : (ieqB ((wrapA IntKind.i64 ((n.tmod (Int.ofNat 16)).add (Int.ofNat 16))).tmod (Int.ofNat 16)) (Int.ofNat 0)) = true) :
    ∃ h', aCall C01 100 (Tgt.fn 17) [AV.int IntKind.u16 x, AV.int IntKind.i64 n] H0 = some (AV.int IntKind.u16 x, h') ∧ [].map h'.get = [] :=
  call_run (q := (cs 2 (.y :: []))) (c := [.tst _ true]) (by kernel_rfl) ⟨h0, trivial⟩
theorem turnu16B (x : Int) (n : Int) (h0 : (ieqB ((wrapA IntKind.i64 ((n.tmod (Int.ofNat 16)).add (Int.ofNat 16))).tmod (Int.ofNat 16)) (Int.ofNat 0)) = false) (h1 : (!iltB ((wrapA IntKind.i64 ((n.tmod (Int.ofNat 16)).add (Int.ofNat 16))).tmod (Int.ofNat 16)) (Int.ofNat 0)) = true) (h2 : (!iltB (wrapA IntKind.i64 ((Int.ofNat 16).sub ((wrapA IntKind.i64 ((n.tmod (Int.ofNat 16)).add (Int.ofNat 16))).tmod (Int.ofNat 16)))) (Int.ofNat 0)) = true) :
    ∃ h', aCall C01 100 (Tgt.fn 17) [AV.int IntKind.u16 x, AV.int IntKind.i64 n] H0 = some (AV.int IntKind.u16 (orN IntKind.u16 (shlN IntKind.u16 x (shN IntKind.u16 ((wrapA IntKind.i64 ((n.tmod (Int.ofNat 16)).add (Int.ofNat 16))).tmod (Int.ofNat 16)).toNat)) (shrN x (shN IntKind.u16 (wrapA IntKind.i64 ((Int.ofNat 16).sub ((wrapA IntKind.i64 ((n.tmod (Int.ofNat 16)).add (Int.ofNat 16))).tmod (Int.ofNat 16)))).toNat))), h') ∧ [].map h'.get = [] :=
  call_run (q := (cs 2 (.z :: (.y :: (.y :: []))))) (c := [.tst _ false, .tst _ true, .tst _ true]) (by kernel_rfl) ⟨h0, h1, h2, trivial⟩
theorem turn_u16 (x n : Int) (hx : 0 ≤ x) (hx2 : x < 2 ^ 16) : ∃ h', aCall C01 100 (.fn 17) [.int .u16 x, .int .i64 n] H0 = some (.int .u16 (rotI 16 x n), h') := by
  have e := turn_mod 16 n (by omega) (by omega)
  have p := Int.emod_nonneg n (by omega : (16 : Int) ≠ 0)
  have q := Int.emod_lt_of_pos n (by omega : (0 : Int) < 16)
  have e' : (wrapA .i64 ((n.tmod (Int.ofNat 16)).add (Int.ofNat 16))).tmod (Int.ofNat 16) = n % 16 := e
  by_cases hm : n % 16 = 0
  · obtain ⟨h', h, _⟩ := turnu16A x n (by rw [e', ieqB_eq, hm]; rfl)
    rw [rot_zero 16 x n hx hx2 (by simpa using hm)]; exact ⟨h', h⟩
  · have e3 : wrapA .i64 ((Int.ofNat 16).sub (n % 16)) = 16 - n % 16 := by
      rw [wrapA_eq]; exact IntWalk.i64_in _ (by constructor <;> (show _ ≤ _; first | omega | (show _ ≤ (16 : Int) - n % 16; omega) | (show (16 : Int) - n % 16 ≤ _; omega)))
    obtain ⟨h', h, _⟩ := turnu16B x n (by rw [e', ieqB_eq]; simpa using hm) (by rw [e', iltB_eq]; simp; omega) (by rw [e', e3, iltB_eq]; simp; omega)
    rw [e'] at h
    have := turn_val .u16 16 rfl rfl (by omega) (by omega) x n hx hx2 (by simpa using hm)
    exact ⟨h', h.trans (congrArg (fun z => some (AV.int _ z, h')) this)⟩
def turnRu16 : RSum := RSum.pl true fun us => match us with
  | [.int .u16 x, .int .i64 n] => some ([ileB 0 x, iltB x 65536], .int .u16 (rotI 16 x n))
  | _ => none
theorem turnRu16_ok : RSum.Sound Try.prog tys 17 turnRu16 := by
  refine RSum.sound (cx_goes _ _) all01 (RSum.pl_ok fun us c v hm hc => ?_)
  split at hm
  · injection hm with hm; injection hm with e1 e2; subst e1; subst e2
    simp only [allTrue_cons, ileB_eq, iltB_eq, decide_eq_true_eq] at hc
    obtain ⟨h', h⟩ := turn_u16 _ _ hc.1 (by simpa using hc.2.1)
    exact ⟨rfl, 100, h', h⟩
  · cases hm
theorem turnu32A (x : Int) (n : Int) (h0 : (ieqB ((wrapA IntKind.i64 ((n.tmod (Int.ofNat 32)).add (Int.ofNat 32))).tmod (Int.ofNat 32)) (Int.ofNat 0)) = true) :
    ∃ h', aCall C01 100 (Tgt.fn 18) [AV.int IntKind.u32 x, AV.int IntKind.i64 n] H0 = some (AV.int IntKind.u32 x, h') ∧ [].map h'.get = [] :=
  call_run (q := (cs 2 (.y :: []))) (c := [.tst _ true]) (by kernel_rfl) ⟨h0, trivial⟩
theorem turnu32B (x : Int) (n : Int) (h0 : (ieqB ((wrapA IntKind.i64 ((n.tmod (Int.ofNat 32)).add (Int.ofNat 32))).tmod (Int.ofNat 32)) (Int.ofNat 0)) = false) (h1 : (!iltB ((wrapA IntKind.i64 ((n.tmod (Int.ofNat 32)).add (Int.ofNat 32))).tmod (Int.ofNat 32)) (Int.ofNat 0)) = true) (h2 : (!iltB (wrapA IntKind.i64 ((Int.ofNat 32).sub ((wrapA IntKind.i64 ((n.tmod (Int.ofNat 32)).add (Int.ofNat 32))).tmod (Int.ofNat 32)))) (Int.ofNat 0)) = true) :
    ∃ h', aCall C01 100 (Tgt.fn 18) [AV.int IntKind.u32 x, AV.int IntKind.i64 n] H0 = some (AV.int IntKind.u32 (orN IntKind.u32 (shlN IntKind.u32 x (shN IntKind.u32 ((wrapA IntKind.i64 ((n.tmod (Int.ofNat 32)).add (Int.ofNat 32))).tmod (Int.ofNat 32)).toNat)) (shrN x (shN IntKind.u32 (wrapA IntKind.i64 ((Int.ofNat 32).sub ((wrapA IntKind.i64 ((n.tmod (Int.ofNat 32)).add (Int.ofNat 32))).tmod (Int.ofNat 32)))).toNat))), h') ∧ [].map h'.get = [] :=
  call_run (q := (cs 2 (.z :: (.y :: (.y :: []))))) (c := [.tst _ false, .tst _ true, .tst _ true]) (by kernel_rfl) ⟨h0, h1, h2, trivial⟩
theorem turn_u32 (x n : Int) (hx : 0 ≤ x) (hx2 : x < 2 ^ 32) : ∃ h', aCall C01 100 (.fn 18) [.int .u32 x, .int .i64 n] H0 = some (.int .u32 (rotI 32 x n), h') := by
  have e := turn_mod 32 n (by omega) (by omega)
  have p := Int.emod_nonneg n (by omega : (32 : Int) ≠ 0)
  have q := Int.emod_lt_of_pos n (by omega : (0 : Int) < 32)
  have e' : (wrapA .i64 ((n.tmod (Int.ofNat 32)).add (Int.ofNat 32))).tmod (Int.ofNat 32) = n % 32 := e
  by_cases hm : n % 32 = 0
  · obtain ⟨h', h, _⟩ := turnu32A x n (by rw [e', ieqB_eq, hm]; rfl)
    rw [rot_zero 32 x n hx hx2 (by simpa using hm)]; exact ⟨h', h⟩
  · have e3 : wrapA .i64 ((Int.ofNat 32).sub (n % 32)) = 32 - n % 32 := by
      rw [wrapA_eq]; exact IntWalk.i64_in _ (by constructor <;> (show _ ≤ _; first | omega | (show _ ≤ (32 : Int) - n % 32; omega) | (show (32 : Int) - n % 32 ≤ _; omega)))
    obtain ⟨h', h, _⟩ := turnu32B x n (by rw [e', ieqB_eq]; simpa using hm) (by rw [e', iltB_eq]; simp; omega) (by rw [e', e3, iltB_eq]; simp; omega)
    rw [e'] at h
    have := turn_val .u32 32 rfl rfl (by omega) (by omega) x n hx hx2 (by simpa using hm)
    exact ⟨h', h.trans (congrArg (fun z => some (AV.int _ z, h')) this)⟩
def turnRu32 : RSum := RSum.pl true fun us => match us with
  | [.int .u32 x, .int .i64 n] => some ([ileB 0 x, iltB x 4294967296], .int .u32 (rotI 32 x n))
  | _ => none
theorem turnRu32_ok : RSum.Sound Try.prog tys 18 turnRu32 := by
  refine RSum.sound (cx_goes _ _) all01 (RSum.pl_ok fun us c v hm hc => ?_)
  split at hm
  · injection hm with hm; injection hm with e1 e2; subst e1; subst e2
    simp only [allTrue_cons, ileB_eq, iltB_eq, decide_eq_true_eq] at hc
    obtain ⟨h', h⟩ := turn_u32 _ _ hc.1 (by simpa using hc.2.1)
    exact ⟨rfl, 100, h', h⟩
  · cases hm
theorem turnu64A (x : Int) (n : Int) (h0 : (ieqB ((wrapA IntKind.i64 ((n.tmod (Int.ofNat 64)).add (Int.ofNat 64))).tmod (Int.ofNat 64)) (Int.ofNat 0)) = true) :
    ∃ h', aCall C01 100 (Tgt.fn 19) [AV.int IntKind.u64 x, AV.int IntKind.i64 n] H0 = some (AV.int IntKind.u64 x, h') ∧ [].map h'.get = [] :=
  call_run (q := (cs 2 (.y :: []))) (c := [.tst _ true]) (by kernel_rfl) ⟨h0, trivial⟩
theorem turnu64B (x : Int) (n : Int) (h0 : (ieqB ((wrapA IntKind.i64 ((n.tmod (Int.ofNat 64)).add (Int.ofNat 64))).tmod (Int.ofNat 64)) (Int.ofNat 0)) = false) (h1 : (!iltB ((wrapA IntKind.i64 ((n.tmod (Int.ofNat 64)).add (Int.ofNat 64))).tmod (Int.ofNat 64)) (Int.ofNat 0)) = true) (h2 : (!iltB (wrapA IntKind.i64 ((Int.ofNat 64).sub ((wrapA IntKind.i64 ((n.tmod (Int.ofNat 64)).add (Int.ofNat 64))).tmod (Int.ofNat 64)))) (Int.ofNat 0)) = true) :
    ∃ h', aCall C01 100 (Tgt.fn 19) [AV.int IntKind.u64 x, AV.int IntKind.i64 n] H0 = some (AV.int IntKind.u64 (orN IntKind.u64 (shlN IntKind.u64 x (shN IntKind.u64 ((wrapA IntKind.i64 ((n.tmod (Int.ofNat 64)).add (Int.ofNat 64))).tmod (Int.ofNat 64)).toNat)) (shrN x (shN IntKind.u64 (wrapA IntKind.i64 ((Int.ofNat 64).sub ((wrapA IntKind.i64 ((n.tmod (Int.ofNat 64)).add (Int.ofNat 64))).tmod (Int.ofNat 64)))).toNat))), h') ∧ [].map h'.get = [] :=
  call_run (q := (cs 2 (.z :: (.y :: (.y :: []))))) (c := [.tst _ false, .tst _ true, .tst _ true]) (by kernel_rfl) ⟨h0, h1, h2, trivial⟩
theorem turn_u64 (x n : Int) (hx : 0 ≤ x) (hx2 : x < 2 ^ 64) : ∃ h', aCall C01 100 (.fn 19) [.int .u64 x, .int .i64 n] H0 = some (.int .u64 (rotI 64 x n), h') := by
  have e := turn_mod 64 n (by omega) (by omega)
  have p := Int.emod_nonneg n (by omega : (64 : Int) ≠ 0)
  have q := Int.emod_lt_of_pos n (by omega : (0 : Int) < 64)
  have e' : (wrapA .i64 ((n.tmod (Int.ofNat 64)).add (Int.ofNat 64))).tmod (Int.ofNat 64) = n % 64 := e
  by_cases hm : n % 64 = 0
  · obtain ⟨h', h, _⟩ := turnu64A x n (by rw [e', ieqB_eq, hm]; rfl)
    rw [rot_zero 64 x n hx hx2 (by simpa using hm)]; exact ⟨h', h⟩
  · have e3 : wrapA .i64 ((Int.ofNat 64).sub (n % 64)) = 64 - n % 64 := by
      rw [wrapA_eq]; exact IntWalk.i64_in _ (by constructor <;> (show _ ≤ _; first | omega | (show _ ≤ (64 : Int) - n % 64; omega) | (show (64 : Int) - n % 64 ≤ _; omega)))
    obtain ⟨h', h, _⟩ := turnu64B x n (by rw [e', ieqB_eq]; simpa using hm) (by rw [e', iltB_eq]; simp; omega) (by rw [e', e3, iltB_eq]; simp; omega)
    rw [e'] at h
    have := turn_val .u64 64 rfl rfl (by omega) (by omega) x n hx hx2 (by simpa using hm)
    exact ⟨h', h.trans (congrArg (fun z => some (AV.int _ z, h')) this)⟩
def turnRu64 : RSum := RSum.pl true fun us => match us with
  | [.int .u64 x, .int .i64 n] => some ([ileB 0 x, iltB x 18446744073709551616], .int .u64 (rotI 64 x n))
  | _ => none
theorem turnRu64_ok : RSum.Sound Try.prog tys 19 turnRu64 := by
  refine RSum.sound (cx_goes _ _) all01 (RSum.pl_ok fun us c v hm hc => ?_)
  split at hm
  · injection hm with hm; injection hm with e1 e2; subst e1; subst e2
    simp only [allTrue_cons, ileB_eq, iltB_eq, decide_eq_true_eq] at hc
    obtain ⟨h', h⟩ := turn_u64 _ _ hc.1 (by simpa using hc.2.1)
    exact ⟨rfl, 100, h', h⟩
  · cases hm
end Go.Proofs.Ytecncappdnhbaaa
end
end

/- Rows of bytes: plain laws. -/
section
set_option autoImplicit false
set_option linter.unusedVariables false
set_option linter.unusedSimpArgs false
noncomputable section
namespace Go.Ab
namespace M
/-- a value that a run does not look into. -/
def kept {α : Type} (a : α) : α := Classical.choose (⟨a, rfl⟩ : ∃ x, x = a)
theorem kept_eq {α : Type} (a : α) : kept a = a := Classical.choose_spec (⟨a, rfl⟩ : ∃ x, x = a)
/-- is a cell a byte? -/
def u8 : AV → Bool
  | .int k n => decide (k = .u8) && ileB 0 n && iltB n 256
  | _ => false
def u8L (l : List AV) : Bool := List.rec (motive := fun _ => Bool) true (fun v _ r => cb (u8 v) r false) l
def byte (v : AV) : UInt8 := UInt8.ofNat v.intOf.toNat
def bytesL (l : List AV) : List UInt8 := l.map byte
/-- a number as so many bytes, the highest first. -/
def putB (w x : Nat) : List UInt8 := (List.range w).map fun i => UInt8.ofNat (x / 256 ^ (w - 1 - i))
/-- the number that bytes write. -/
def getN (l : List UInt8) : Nat := l.foldl (fun x b => x * 256 + b.toNat) 0
end M
open M
theorem u8_iff {v : AV} : M.u8 v = true ↔ ∃ b : UInt8, v = .int .u8 b.toNat := by
  constructor
  · intro h
    cases v <;> simp only [M.u8] at h <;> try (cases h; done)
    rename_i k n
    simp only [Bool.and_eq_true, decide_eq_true_eq, ileB_eq, iltB_eq] at h
    obtain ⟨⟨rfl, h1⟩, h2⟩ := h
    refine ⟨UInt8.ofNat n.toNat, ?_⟩
    congr 1
    have : (UInt8.ofNat n.toNat).toNat = n.toNat % 256 := by simp
    rw [this]; omega
  · rintro ⟨b, rfl⟩
    have := b.toNat_lt
    simp only [M.u8, Bool.and_eq_true, decide_eq_true_eq, ileB_eq, iltB_eq]
    refine ⟨⟨trivial, by omega⟩, by omega⟩
theorem u8L_nil : u8L [] = true := rfl
theorem u8L_cons (v : AV) (l : List AV) : u8L (v :: l) = (M.u8 v && u8L l) := by
  show cb (M.u8 v) (u8L l) false = _
  cases M.u8 v <;> rfl
theorem u8L_append (a b : List AV) : u8L (a ++ b) = (u8L a && u8L b) := by
  induction a with
  | nil => simp [u8L_nil]
  | cons v a ih => rw [List.cons_append, u8L_cons, u8L_cons, ih, Bool.and_assoc]
theorem ofBytes_nil : ofBytes [] = [] := rfl
theorem ofBytes_cons (b : UInt8) (l : List UInt8) : ofBytes (b :: l) = .int .u8 b.toNat :: ofBytes l := rfl
theorem ofBytes_append (a b : List UInt8) : ofBytes (a ++ b) = ofBytes a ++ ofBytes b := by simp [ofBytes]
theorem ofBytes_length (l : List UInt8) : (ofBytes l).length = l.length := by simp [ofBytes]
theorem u8L_ofBytes (l : List UInt8) : u8L (ofBytes l) = true := by
  induction l with
  | nil => rfl
  | cons b l ih => rw [ofBytes_cons, u8L_cons, ih, Bool.and_true]; exact u8_iff.2 ⟨b, rfl⟩
theorem u8L_iff {cs : List AV} : u8L cs = true ↔ ∃ l, cs = ofBytes l := by
  constructor
  · intro h
    induction cs with
    | nil => exact ⟨[], rfl⟩
    | cons v cs ih =>
      rw [u8L_cons, Bool.and_eq_true] at h
      obtain ⟨b, rfl⟩ := u8_iff.1 h.1
      obtain ⟨l, rfl⟩ := ih h.2
      exact ⟨b :: l, rfl⟩
  · rintro ⟨l, rfl⟩; exact u8L_ofBytes l
theorem byte_int (b : UInt8) : M.byte (.int .u8 b.toNat) = b := by
  show UInt8.ofNat ((b.toNat : Int).toNat) = b
  simp
theorem bytesL_ofBytes (l : List UInt8) : bytesL (ofBytes l) = l := by
  induction l with
  | nil => rfl
  | cons b l ih =>
    show M.byte _ :: bytesL (ofBytes l) = _
    rw [ih, byte_int]
theorem bytesL_append (a b : List AV) : bytesL (a ++ b) = bytesL a ++ bytesL b := by simp [bytesL]
theorem bytesOf_ofBytes (l : List UInt8) : bytesOf (ofBytes l) = some l := by
  induction l with
  | nil => rfl
  | cons b l ih =>
    rw [ofBytes_cons]
    show ((byteOf (.int .u8 b.toNat)).ob fun c => (bytesOf (ofBytes l)).ob fun r => some (c :: r)) = _
    rw [ih]
    show some (UInt8.ofNat ((b.toNat : Int).toNat) :: l) = _
    simp
theorem ofBytes_plain (nf : Bool) (l : List UInt8) : AV.okL nf (fun _ => false) (ofBytes l) = true := by
  induction l with
  | nil => rfl
  | cons b l ih => rw [ofBytes_cons]; simp only [AV.okL, AV.ok, Bool.true_and]; exact ih
theorem ofBytes_plainL (l : List UInt8) : AV.plainL (ofBytes l) = true := by
  induction l with
  | nil => rfl
  | cons b l ih => rw [ofBytes_cons]; simp only [AV.plainL, AV.plain, Bool.true_and]; exact ih
theorem ofBytes_cells (l : List UInt8) : (ofBytes l).all AV.isCell = true := by
  induction l with
  | nil => rfl
  | cons b l ih => rw [ofBytes_cons, List.all_cons, ih]; rfl
theorem ofBytes_take (l : List UInt8) (n : Nat) : (ofBytes l).take n = ofBytes (l.take n) := by simp [ofBytes, List.map_take]
theorem ofBytes_drop (l : List UInt8) (n : Nat) : (ofBytes l).drop n = ofBytes (l.drop n) := by simp [ofBytes, List.map_drop]
theorem rowCut_ofBytes (l : List UInt8) (o n : Nat) : rowCut (ofBytes l) o n = ofBytes ((l.drop o).take n) := by
  unfold rowCut; rw [ofBytes_drop, ofBytes_take]
theorem listAt_ofBytes (l : List UInt8) (i : Nat) (h : i < l.length) : listAt (ofBytes l) i = some (.int .u8 (l[i]).toNat) := by
  rw [listAt_eq]; simp [ofBytes, List.getElem?_map, h]
theorem putB_length (w x : Nat) : (putB w x).length = w := by simp [putB]
theorem getN_append (a : List UInt8) (b : UInt8) : getN (a ++ [b]) = getN a * 256 + b.toNat := by simp [getN]
theorem rev_ind {α : Type} {P : List α → Prop} (h0 : P []) (h : ∀ l a, P l → P (l ++ [a])) (l : List α) : P l := by
  have key : ∀ m : List α, P m.reverse := by
    intro m
    induction m with
    | nil => exact h0
    | cons a m ih => rw [List.reverse_cons]; exact h _ _ ih
  have := key l.reverse
  rwa [List.reverse_reverse] at this
theorem getN_lt (l : List UInt8) : getN l < 256 ^ l.length := by
  induction l using rev_ind with
  | h0 => simp [getN]
  | h l b ih =>
    rw [getN_append, List.length_append, List.length_singleton, Nat.pow_succ]
    have := b.toNat_lt
    have : getN l + 1 ≤ 256 ^ l.length := ih
    calc getN l * 256 + b.toNat < (getN l + 1) * 256 := by omega
      _ ≤ 256 ^ l.length * 256 := Nat.mul_le_mul_right _ this
theorem putB_succ (w x : Nat) : putB (w + 1) x = putB w (x / 256) ++ [UInt8.ofNat x] := by
  unfold putB
  rw [List.range_succ, List.map_append]
  congr 1
  · apply List.map_congr_left
    intro i hi
    have hi : i < w := List.mem_range.1 hi
    congr 1
    rw [show w + 1 - 1 - i = (w - 1 - i) + 1 by omega, Nat.pow_succ, Nat.mul_comm, Nat.div_div_eq_div_mul]
  · simp
theorem getN_putB (w x : Nat) (h : x < 256 ^ w) : getN (putB w x) = x := by
  induction w generalizing x with
  | zero => simp at h; subst h; rfl
  | succ w ih =>
    rw [putB_succ, getN_append, ih (x / 256) (by rw [Nat.pow_succ] at h; omega)]
    have : (UInt8.ofNat x).toNat = x % 256 := by simp
    rw [this]; omega
theorem putB_getN (l : List UInt8) : putB l.length (getN l) = l := by
  induction l using rev_ind with
  | h0 => rfl
  | h l b ih =>
    rw [List.length_append, List.length_singleton, putB_succ, getN_append]
    have hb := b.toNat_lt
    have e : (getN l * 256 + b.toNat) / 256 = getN l := by omega
    rw [e, ih]
    congr 2
    apply UInt8.toNat_inj.1
    have : (UInt8.ofNat (getN l * 256 + b.toNat)).toNat = (getN l * 256 + b.toNat) % 256 := by simp
    rw [this]; omega
end Go.Ab
end
end

/- Bytes: copies; words written behind bytes. -/
section
set_option autoImplicit false
set_option linter.unusedVariables false
set_option linter.unusedSimpArgs false
set_option maxRecDepth 100000
noncomputable section
namespace Go.Ab
theorem shr_byte (x j : Nat) : wrapA .u8 (shrN (x : Int) (8 * j)) = ((UInt8.ofNat (x / 256 ^ j)).toNat : Int) := by
  have e : shrN (x : Int) (8 * j) = ((x / 2 ^ (8 * j) : Nat) : Int) := rfl
  rw [e, wrapA_eq]
  simp only [IntKind.wrap, IntKind.signed, IntKind.bits, Bool.false_and, Bool.false_eq_true, if_false]
  have h : (UInt8.ofNat (x / 256 ^ j)).toNat = x / 256 ^ j % 256 := by simp
  have h2 : (2 : Nat) ^ (8 * j) = 256 ^ j := by rw [Nat.pow_mul]
  rw [h, h2]; simp
theorem room_of {len k : Nat} (h : len ≤ 1099511627776) (hk : k ≤ 1099511627776) : appRoom 1 len k = true := by
  unfold appRoom; exact decide_eq_true (by omega)
theorem beq_of {a b : Nat} (h : a = b) : Nat.beq a b = true := by rw [nbeq]; exact decide_eq_true h
theorem beq_of1 {a b : Nat} (h : a = b) : Nat.beq a (Nat.mul b 1) = true := by rw [nbeq]; exact decide_eq_true (by show a = b * 1; omega)
theorem ble_of {a b : Nat} (h : a ≤ b) : Nat.ble a b = true := by rw [nble]; exact decide_eq_true h
theorem eq_of_beq' {a b : Nat} (h : Nat.beq a b = true) : a = b := Nat.eq_of_beq_eq_true h
theorem le_of_ble' {a b : Nat} (h : Nat.ble a b = true) : a ≤ b := Nat.le_of_ble_eq_true h
end Go.Ab
namespace Go.Proofs.Ytecncappdnhbaaa
open Go.Ab.M Go.Ab Go
/-- a copy of bytes. -/
def cloneR : RSum := RSum.nb true fun us => match us with
  | [.fsl true 0 []] => some ([], fun _ => .slice none 0 (some 0), [])
  | [.fsl false len cs] => some ([Nat.beq cs.length len, u8L cs, Nat.ble len 1099511627776], fun n => .slice (some (n, 0)) len none, [.cells true 5 len cs])
  | _ => none
abbrev F03a : FTab := [(67, cloneR)] ++ F01
abbrev C03a := mkCx tys fns F03a []
abbrev S03a := mkS tys F03a []
theorem cloneN :
    ∃ h', aCall C0 60 (Tgt.fn 67) [AV.fsl true 0 []] H0 = some (AV.slice none 0 (some 0), h') ∧ [].map h'.get = [] :=
  call_run (q := (oc 1 [])) (c := ([])) (by kernel_rfl) trivial
theorem clone0 (len : Nat) (cs : List AV) (h0 : (cs.length.beq (len.mul 1)) = true) (h1 : (len.beq 0) = true) :
    ∃ h', aCall C0 60 (Tgt.fn 67) [AV.fsl false len cs] H0 = some (AV.slice (some (0, 0)) 0 (some 0), h') ∧ [0].map h'.get = [Blk.cells true 5 0 []] :=
  call_run (q := (oc 2 (.y :: (.y :: [])))) (c := (Cnd.tst _ true :: Cnd.tst _ true :: [])) (by kernel_rfl) ⟨h0, h1, trivial⟩
theorem clone1 (len : Nat) (cs : List AV) (h0 : (cs.length.beq (len.mul 1)) = true) (h1 : (len.beq 0) = false) (h2 : (appRoom 1 0 len) = true) (h3 : (Nat.ble 1 (0 + len)) = true) :
    ∃ h', aCall C0 60 (Tgt.fn 67) [AV.fsl false len cs] H0 = some (AV.slice (some (1, 0)) (0 + len) none, h') ∧ [1].map h'.get = [Blk.cells true 5 ([] ++ cs).length ([] ++ cs)] :=
  call_run (q := (oc 2 (.y :: (.z :: (.y :: (.y :: (oc 1 []))))))) (c := (Cnd.tst _ true :: Cnd.tst _ false :: Cnd.tst _ true :: Cnd.tst _ true :: [])) (by kernel_rfl) ⟨h0, h1, h2, h3, trivial⟩
theorem cloneR_ok : RSum.Sound Try.prog tys 67 cloneR := by
  refine RSum.sound (cx_goes _ _) all0 (RSum.nb_ok fun us c v bs hm hc => ?_)
  split at hm
  · injection hm with hm; injection hm with e1 hm; injection hm with e2 e3; subst e1; subst e2; subst e3
    obtain ⟨h', h, _⟩ := cloneN
    exact ⟨(fun b hb => by cases hb), 60, h', [], _, h, rfl, (fun l l' j e => by cases e), rfl, fun n ρ hρ => AV.Le.refl _⟩
  · rename_i len cs
    injection hm with hm; injection hm with e1 hm; injection hm with e2 e3; subst e1; subst e2; subst e3
    simp only [allTrue_cons] at hc
    obtain ⟨c1, c2, c3, _⟩ := hc
    have c1 := eq_of_beq' c1
    have c3 := le_of_ble' c3
    obtain ⟨l, rfl⟩ := u8L_iff.1 c2
    refine ⟨fun b hb => ?_, ?_⟩
    · have : b = .cells true 5 len (ofBytes l) := by simpa using hb
      subst this
      simp only [Blk.plainOwn, ofBytes_plain, Bool.and_self]
    · by_cases h0 : len = 0
      · obtain ⟨h', h, hb⟩ := clone0 len (ofBytes l) (beq_of1 c1) (beq_of h0)
        refine ⟨60, h', [0], _, h, ?_, sel_one 0, rfl, fun n ρ hρ => ?_⟩
        · rw [hb, h0]
          have : ofBytes l = [] := List.eq_nil_of_length_eq_zero (by omega)
          rw [this]
        · have := hρ 0 0 rfl
          simp only [AV.ren, Option.map_some, this, Nat.add_zero, h0]
          exact AV.Le.empty n
      · obtain ⟨h', h, hb⟩ := clone1 len (ofBytes l) (beq_of1 c1) (by rw [nbeq]; exact decide_eq_false h0) (room_of (by omega) c3) (ble_of (by omega))
        refine ⟨60, h', [1], _, h, ?_, sel_one 1, rfl, fun n ρ hρ => ?_⟩
        · rw [hb, List.nil_append, c1]
        · have := hρ 0 1 rfl
          simp only [AV.ren, Option.map_some, this, Nat.add_zero, Nat.zero_add]
          exact AV.Le.refl _
  · cases hm
theorem f03a_ok : ∀ p ∈ F03a, RSum.Sound Try.prog tys p.1 p.2 := by
  intro p h
  rcases List.mem_cons.1 h with rfl | h
  · exact cloneR_ok
  · exact f01_ok p h
theorem all03a : SumAll Try.prog C03a := sums_all f03a_ok (fun _ h => by cases h)
theorem putu8N (x : Int) :
    ∃ h', aCall C03a 60 (Tgt.fn 74) [AV.fsl true 0 [], AV.int IntKind.u8 x] H0 = some (AV.slice (some (1, 0)) 1 none, h') ∧ [1].map h'.get = [Blk.cells true 5 1 [AV.int IntKind.u8 (shrN x 0)]] :=
  call_run (q := (oc 10 [])) (c := ([])) (by kernel_rfl) trivial
theorem putu8 (x : Int) (len : Nat) (cs : List AV) (h0 : (AV.plainL cs) = true) (h1 : (cs.length.beq len) = true) (h2 : (u8L cs) = true) (h3 : (len.ble 1099511627776) = true) (h4 : (appRoom 1 len 1) = true) (h5 : (len.beq (len * 1)) = true) :
    ∃ h', aCall C03a 60 (Tgt.fn 74) [AV.fsl false len cs, AV.int IntKind.u8 x] H0 = some (AV.slice (some (2, 0)) (len + 1) none, h') ∧ [2].map h'.get = [Blk.cells true 5 (cs ++ [AV.int IntKind.u8 (shrN x 0)]).length (cs ++ [AV.int IntKind.u8 (shrN x 0)])] :=
  call_run (q := (.y :: (.y :: (.y :: (.y :: (oc 7 (.y :: (.y :: (oc 2 []))))))))) (c := (Cnd.tst _ true :: Cnd.tst _ true :: Cnd.tst _ true :: Cnd.tst _ true :: Cnd.tst _ true :: Cnd.tst _ true :: [])) (by kernel_rfl) ⟨h0, h1, h2, h3, h4, h5, trivial⟩
theorem cells_u8 (x : Nat) (hx : x < 256) : [AV.int .u8 (shrN (x : Int) 0)] = ofBytes (putB 1 x) := by
  have h : ofBytes (putB 1 x) = [.int .u8 ((UInt8.ofNat (x / 256 ^ 0)).toNat : Int)] := rfl
  have h2 : (UInt8.ofNat (x / 256 ^ 0)).toNat = x / 256 ^ 0 % 256 := by simp
  have e : shrN (x : Int) 0 = ((x / 2 ^ 0 : Nat) : Int) := rfl
  rw [h, h2, e]; congr 3; omega
def putRu8 : RSum := RSum.nb true fun us => match us with
  | [.fsl true 0 [], .int .u8 x] => some ([ileB 0 x, iltB x 256], fun n => .slice (some (n, 0)) 1 none, [.cells true 5 1 (kept (ofBytes (putB 1 x.toNat)))])
  | [.fsl false len cs, .int .u8 x] => some ([Nat.beq cs.length len, u8L cs, Nat.ble len 1000000000000, ileB 0 x, iltB x 256], fun n => .slice (some (n, 0)) (len + 1) none, [.cells true 5 (len + 1) (cs ++ kept (ofBytes (putB 1 x.toNat)))])
  | _ => none
theorem putRu8_ok : RSum.Sound Try.prog tys 74 putRu8 := by
  refine RSum.sound (cx_goes _ _) all03a (RSum.nb_ok fun us c v bs hm hc => ?_)
  split at hm
  · injection hm with hm; injection hm with e1 hm; injection hm with e2 e3; rw [kept_eq] at e3; subst e1; subst e2; subst e3
    simp only [allTrue_cons] at hc
    obtain ⟨c1, c2, _⟩ := hc
    obtain ⟨x, rfl⟩ := nat_of c1
    have c2 : x < 256 := lt_of c2
    obtain ⟨h', h, hb⟩ := putu8N x
    refine ⟨fun b hb => ?_, 60, h', [1], _, h, ?_, sel_one 1, rfl, fun n ρ hρ => ?_⟩
    · have : b = .cells true 5 1 (ofBytes (putB 1 x)) := by simpa using hb
      subst this
      simp only [Blk.plainOwn, ofBytes_plain, Bool.and_self]
    · rw [hb, cells_u8 x c2]; rfl
    · have := hρ 0 1 rfl
      simp only [AV.ren, Option.map_some, this, Nat.add_zero]
      exact AV.Le.refl _
  · rename_i len cs x
    injection hm with hm; injection hm with e1 hm; injection hm with e2 e3; rw [kept_eq] at e3; subst e1; subst e2; subst e3
    simp only [allTrue_cons] at hc
    obtain ⟨c1, c2, c3, c4, c5, _⟩ := hc
    have c1 := eq_of_beq' c1
    have c3 := le_of_ble' c3
    obtain ⟨l, rfl⟩ := u8L_iff.1 c2
    obtain ⟨x, rfl⟩ := nat_of c4
    have c5 : x < 256 := lt_of c5
    obtain ⟨h', h, hb⟩ := putu8 x len (ofBytes l) (ofBytes_plainL l) (beq_of c1) c2 (ble_of (by omega)) (room_of (by omega) (by omega)) (beq_of (by simp only [ofBytes_length, List.length_append, List.length_cons, List.length_nil] at c1 ⊢; omega))
    refine ⟨fun b hb => ?_, 60, h', [2], _, h, ?_, sel_one 2, rfl, fun n ρ hρ => ?_⟩
    · have : b = .cells true 5 (len + 1) (ofBytes l ++ ofBytes (putB 1 x)) := by simpa using hb
      subst this
      rw [← ofBytes_append]
      simp only [Blk.plainOwn, ofBytes_plain, Bool.and_self]
    · rw [hb]
      try simp only [List.append_assoc, List.cons_append, List.nil_append]
      rw [cells_u8 x c5, List.length_append, c1, ofBytes_length, putB_length]; rfl
    · have := hρ 0 2 rfl
      simp only [AV.ren, Option.map_some, this, Nat.add_zero]
      exact AV.Le.refl _
  · cases hm
theorem putu16N (x : Int) :
    ∃ h', aCall C03a 60 (Tgt.fn 62) [AV.fsl true 0 [], AV.int IntKind.u16 x] H0 = some (AV.slice (some (3, 0)) 2 none, h') ∧ [3].map h'.get = [Blk.cells true 5 2 [AV.int IntKind.u8 (wrapA IntKind.u8 (shrN x 8)), AV.int IntKind.u8 (wrapA IntKind.u8 (shrN x 0))]] :=
  call_run (q := (oc 20 [])) (c := ([])) (by kernel_rfl) trivial
theorem putu16 (x : Int) (len : Nat) (cs : List AV) (h0 : (AV.plainL cs) = true) (h1 : (cs.length.beq len) = true) (h2 : (u8L cs) = true) (h3 : (len.ble 1099511627776) = true) (h4 : (appRoom 1 len 1) = true) (h5 : (len.beq (len * 1)) = true) (h6 : (appRoom 1 (len + 1) 1) = true) (h7 : ((cs ++ [AV.int IntKind.u8 (wrapA IntKind.u8 (shrN x 8))]).length.beq ((len + 1) * 1)) = true) :
    ∃ h', aCall C03a 60 (Tgt.fn 62) [AV.fsl false len cs, AV.int IntKind.u16 x] H0 = some (AV.slice (some (4, 0)) (len + 1 + 1) none, h') ∧ [4].map h'.get = [Blk.cells true 5 (cs ++ [AV.int IntKind.u8 (wrapA IntKind.u8 (shrN x 8))] ++ [AV.int IntKind.u8 (wrapA IntKind.u8 (shrN x 0))]).length (cs ++ [AV.int IntKind.u8 (wrapA IntKind.u8 (shrN x 8))] ++ [AV.int IntKind.u8 (wrapA IntKind.u8 (shrN x 0))])] :=
  call_run (q := (.y :: (.y :: (.y :: (.y :: (oc 7 (.y :: (.y :: (oc 8 (.y :: (.y :: (oc 2 [])))))))))))) (c := (Cnd.tst _ true :: Cnd.tst _ true :: Cnd.tst _ true :: Cnd.tst _ true :: Cnd.tst _ true :: Cnd.tst _ true :: Cnd.tst _ true :: Cnd.tst _ true :: [])) (by kernel_rfl) ⟨h0, h1, h2, h3, h4, h5, h6, h7, trivial⟩
theorem cells_u16 (x : Nat) (hx : x < 65536) : [AV.int .u8 (wrapA .u8 (shrN (x : Int) 8)), AV.int .u8 (wrapA .u8 (shrN (x : Int) 0))] = ofBytes (putB 2 x) := by
  have h : ofBytes (putB 2 x) = [.int .u8 ((UInt8.ofNat (x / 256 ^ 1)).toNat : Int), .int .u8 ((UInt8.ofNat (x / 256 ^ 0)).toNat : Int)] := rfl
  rw [h]
  have s : ∀ j, wrapA .u8 (shrN (x : Int) (8 * j)) = ((UInt8.ofNat (x / 256 ^ j)).toNat : Int) := shr_byte x
  have s0 := s 0
  have s1 := s 1
  simp only [← s0, ← s1]
def putRu16 : RSum := RSum.nb true fun us => match us with
  | [.fsl true 0 [], .int .u16 x] => some ([ileB 0 x, iltB x 65536], fun n => .slice (some (n, 0)) 2 none, [.cells true 5 2 (kept (ofBytes (putB 2 x.toNat)))])
  | [.fsl false len cs, .int .u16 x] => some ([Nat.beq cs.length len, u8L cs, Nat.ble len 1000000000000, ileB 0 x, iltB x 65536], fun n => .slice (some (n, 0)) (len + 2) none, [.cells true 5 (len + 2) (cs ++ kept (ofBytes (putB 2 x.toNat)))])
  | _ => none
theorem putRu16_ok : RSum.Sound Try.prog tys 62 putRu16 := by
  refine RSum.sound (cx_goes _ _) all03a (RSum.nb_ok fun us c v bs hm hc => ?_)
  split at hm
  · injection hm with hm; injection hm with e1 hm; injection hm with e2 e3; rw [kept_eq] at e3; subst e1; subst e2; subst e3
    simp only [allTrue_cons] at hc
    obtain ⟨c1, c2, _⟩ := hc
    obtain ⟨x, rfl⟩ := nat_of c1
    have c2 : x < 65536 := lt_of c2
    obtain ⟨h', h, hb⟩ := putu16N x
    refine ⟨fun b hb => ?_, 60, h', [3], _, h, ?_, sel_one 3, rfl, fun n ρ hρ => ?_⟩
    · have : b = .cells true 5 2 (ofBytes (putB 2 x)) := by simpa using hb
      subst this
      simp only [Blk.plainOwn, ofBytes_plain, Bool.and_self]
    · rw [hb, cells_u16 x c2]; rfl
    · have := hρ 0 3 rfl
      simp only [AV.ren, Option.map_some, this, Nat.add_zero]
      exact AV.Le.refl _
  · rename_i len cs x
    injection hm with hm; injection hm with e1 hm; injection hm with e2 e3; rw [kept_eq] at e3; subst e1; subst e2; subst e3
    simp only [allTrue_cons] at hc
    obtain ⟨c1, c2, c3, c4, c5, _⟩ := hc
    have c1 := eq_of_beq' c1
    have c3 := le_of_ble' c3
    obtain ⟨l, rfl⟩ := u8L_iff.1 c2
    obtain ⟨x, rfl⟩ := nat_of c4
    have c5 : x < 65536 := lt_of c5
    obtain ⟨h', h, hb⟩ := putu16 x len (ofBytes l) (ofBytes_plainL l) (beq_of c1) c2 (ble_of (by omega)) (room_of (by omega) (by omega)) (beq_of (by simp only [ofBytes_length, List.length_append, List.length_cons, List.length_nil] at c1 ⊢; omega)) (room_of (by omega) (by omega)) (beq_of (by simp only [ofBytes_length, List.length_append, List.length_cons, List.length_nil] at c1 ⊢; omega))
    refine ⟨fun b hb => ?_, 60, h', [4], _, h, ?_, sel_one 4, rfl, fun n ρ hρ => ?_⟩
    · have : b = .cells true 5 (len + 2) (ofBytes l ++ ofBytes (putB 2 x)) := by simpa using hb
      subst this
      rw [← ofBytes_append]
      simp only [Blk.plainOwn, ofBytes_plain, Bool.and_self]
    · rw [hb]
      try simp only [List.append_assoc, List.cons_append, List.nil_append]
      rw [cells_u16 x c5, List.length_append, c1, ofBytes_length, putB_length]; rfl
    · have := hρ 0 4 rfl
      simp only [AV.ren, Option.map_some, this, Nat.add_zero]
      exact AV.Le.refl _
  · cases hm
theorem putu32N (x : Int) :
    ∃ h', aCall C03a 60 (Tgt.fn 78) [AV.fsl true 0 [], AV.int IntKind.u32 x] H0 = some (AV.slice (some (7, 0)) 4 none, h') ∧ [7].map h'.get = [Blk.cells true 5 4 [AV.int IntKind.u8 (wrapA IntKind.u8 (shrN x 24)), AV.int IntKind.u8 (wrapA IntKind.u8 (shrN x 16)), AV.int IntKind.u8 (wrapA IntKind.u8 (shrN x 8)), AV.int IntKind.u8 (wrapA IntKind.u8 (shrN x 0))]] :=
  call_run (q := (oc 40 [])) (c := ([])) (by kernel_rfl) trivial
theorem putu32 (x : Int) (len : Nat) (cs : List AV) (h0 : (AV.plainL cs) = true) (h1 : (cs.length.beq len) = true) (h2 : (u8L cs) = true) (h3 : (len.ble 1099511627776) = true) (h4 : (appRoom 1 len 1) = true) (h5 : (len.beq (len * 1)) = true) (h6 : (appRoom 1 (len + 1) 1) = true) (h7 : ((cs ++ [AV.int IntKind.u8 (wrapA IntKind.u8 (shrN x 24))]).length.beq ((len + 1) * 1)) = true) (h8 : (appRoom 1 (len + 1 + 1) 1) = true) (h9 : ((cs ++ [AV.int IntKind.u8 (wrapA IntKind.u8 (shrN x 24))] ++ [AV.int IntKind.u8 (wrapA IntKind.u8 (shrN x 16))]).length.beq ((len + 1 + 1) * 1)) = true) (h10 : (appRoom 1 (len + 1 + 1 + 1) 1) = true) (h11 : ((cs ++ [AV.int IntKind.u8 (wrapA IntKind.u8 (shrN x 24))] ++ [AV.int IntKind.u8 (wrapA IntKind.u8 (shrN x 16))] ++ [AV.int IntKind.u8 (wrapA IntKind.u8 (shrN x 8))]).length.beq ((len + 1 + 1 + 1) * 1)) = true) :
    ∃ h', aCall C03a 60 (Tgt.fn 78) [AV.fsl false len cs, AV.int IntKind.u32 x] H0 = some (AV.slice (some (8, 0)) (len + 1 + 1 + 1 + 1) none, h') ∧ [8].map h'.get = [Blk.cells true 5 (cs ++ [AV.int IntKind.u8 (wrapA IntKind.u8 (shrN x 24))] ++ [AV.int IntKind.u8 (wrapA IntKind.u8 (shrN x 16))] ++ [AV.int IntKind.u8 (wrapA IntKind.u8 (shrN x 8))] ++ [AV.int IntKind.u8 (wrapA IntKind.u8 (shrN x 0))]).length (cs ++ [AV.int IntKind.u8 (wrapA IntKind.u8 (shrN x 24))] ++ [AV.int IntKind.u8 (wrapA IntKind.u8 (shrN x 16))] ++ [AV.int IntKind.u8 (wrapA IntKind.u8 (shrN x 8))] ++ [AV.int IntKind.u8 (wrapA IntKind.u8 (shrN x 0))])] :=
  call_run (q := (.y :: (.y :: (.y :: (.y :: (oc 7 (.y :: (.y :: (oc 8 (.y :: (.y :: (oc 8 (.y :: (.y :: (oc 8 (.y :: (.y :: (oc 2 [])))))))))))))))))) (c := (Cnd.tst _ true :: Cnd.tst _ true :: Cnd.tst _ true :: Cnd.tst _ true :: Cnd.tst _ true :: Cnd.tst _ true :: Cnd.tst _ true :: Cnd.tst _ true :: Cnd.tst _ true :: Cnd.tst _ true :: Cnd.tst _ true :: Cnd.tst _ true :: [])) (by kernel_rfl) ⟨h0, h1, h2, h3, h4, h5, h6, h7, h8, h9, h10, h11, trivial⟩
theorem cells_u32 (x : Nat) (hx : x < 4294967296) : [AV.int .u8 (wrapA .u8 (shrN (x : Int) 24)), AV.int .u8 (wrapA .u8 (shrN (x : Int) 16)), AV.int .u8 (wrapA .u8 (shrN (x : Int) 8)), AV.int .u8 (wrapA .u8 (shrN (x : Int) 0))] = ofBytes (putB 4 x) := by
  have h : ofBytes (putB 4 x) = [.int .u8 ((UInt8.ofNat (x / 256 ^ 3)).toNat : Int), .int .u8 ((UInt8.ofNat (x / 256 ^ 2)).toNat : Int), .int .u8 ((UInt8.ofNat (x / 256 ^ 1)).toNat : Int), .int .u8 ((UInt8.ofNat (x / 256 ^ 0)).toNat : Int)] := rfl
  rw [h]
  have s : ∀ j, wrapA .u8 (shrN (x : Int) (8 * j)) = ((UInt8.ofNat (x / 256 ^ j)).toNat : Int) := shr_byte x
  have s0 := s 0
  have s1 := s 1
  have s2 := s 2
  have s3 := s 3
  simp only [← s0, ← s1, ← s2, ← s3]
def putRu32 : RSum := RSum.nb true fun us => match us with
  | [.fsl true 0 [], .int .u32 x] => some ([ileB 0 x, iltB x 4294967296], fun n => .slice (some (n, 0)) 4 none, [.cells true 5 4 (kept (ofBytes (putB 4 x.toNat)))])
  | [.fsl false len cs, .int .u32 x] => some ([Nat.beq cs.length len, u8L cs, Nat.ble len 1000000000000, ileB 0 x, iltB x 4294967296], fun n => .slice (some (n, 0)) (len + 4) none, [.cells true 5 (len + 4) (cs ++ kept (ofBytes (putB 4 x.toNat)))])
  | _ => none
theorem putRu32_ok : RSum.Sound Try.prog tys 78 putRu32 := by
  refine RSum.sound (cx_goes _ _) all03a (RSum.nb_ok fun us c v bs hm hc => ?_)
  split at hm
  · injection hm with hm; injection hm with e1 hm; injection hm with e2 e3; rw [kept_eq] at e3; subst e1; subst e2; subst e3
    simp only [allTrue_cons] at hc
    obtain ⟨c1, c2, _⟩ := hc
    obtain ⟨x, rfl⟩ := nat_of c1
    have c2 : x < 4294967296 := lt_of c2
    obtain ⟨h', h, hb⟩ := putu32N x
    refine ⟨fun b hb => ?_, 60, h', [7], _, h, ?_, sel_one 7, rfl, fun n ρ hρ => ?_⟩
    · have : b = .cells true 5 4 (ofBytes (putB 4 x)) := by simpa using hb
      subst this
      simp only [Blk.plainOwn, ofBytes_plain, Bool.and_self]
    · rw [hb, cells_u32 x c2]; rfl
    · have := hρ 0 7 rfl
      simp only [AV.ren, Option.map_some, this, Nat.add_zero]
      exact AV.Le.refl _
  · rename_i len cs x
    injection hm with hm; injection hm with e1 hm; injection hm with e2 e3; rw [kept_eq] at e3; subst e1; subst e2; subst e3
    simp only [allTrue_cons] at hc
    obtain ⟨c1, c2, c3, c4, c5, _⟩ := hc
    have c1 := eq_of_beq' c1
    have c3 := le_of_ble' c3
    obtain ⟨l, rfl⟩ := u8L_iff.1 c2
    obtain ⟨x, rfl⟩ := nat_of c4
    have c5 : x < 4294967296 := lt_of c5
    obtain ⟨h', h, hb⟩ := putu32 x len (ofBytes l) (ofBytes_plainL l) (beq_of c1) c2 (ble_of (by omega)) (room_of (by omega) (by omega)) (beq_of (by simp only [ofBytes_length, List.length_append, List.length_cons, List.length_nil] at c1 ⊢; omega)) (room_of (by omega) (by omega)) (beq_of (by simp only [ofBytes_length, List.length_append, List.length_cons, List.length_nil] at c1 ⊢; omega)) (room_of (by omega) (by omega)) (beq_of (by simp only [ofBytes_length, List.length_append, List.length_cons, List.length_nil] at c1 ⊢; omega)) (room_of (by omega) (by omega)) (beq_of (by simp only [ofBytes_length, List.length_append, List.length_cons, List.length_nil] at c1 ⊢; omega))
    refine ⟨fun b hb => ?_, 60, h', [8], _, h, ?_, sel_one 8, rfl, fun n ρ hρ => ?_⟩
    · have : b = .cells true 5 (len + 4) (ofBytes l ++ ofBytes (putB 4 x)) := by simpa using hb
      subst this
      rw [← ofBytes_append]
      simp only [Blk.plainOwn, ofBytes_plain, Bool.and_self]
    · rw [hb]
      try simp only [List.append_assoc, List.cons_append, List.nil_append]
      rw [cells_u32 x c5, List.length_append, c1, ofBytes_length, putB_length]; rfl
    · have := hρ 0 8 rfl
      simp only [AV.ren, Option.map_some, this, Nat.add_zero]
      exact AV.Le.refl _
  · cases hm
theorem putu64N (x : Int) :
    ∃ h', aCall C03a 60 (Tgt.fn 80) [AV.fsl true 0 [], AV.int IntKind.u64 x] H0 = some (AV.slice (some (15, 0)) 8 none, h') ∧ [15].map h'.get = [Blk.cells true 5 8 [AV.int IntKind.u8 (wrapA IntKind.u8 (shrN x 56)), AV.int IntKind.u8 (wrapA IntKind.u8 (shrN x 48)), AV.int IntKind.u8 (wrapA IntKind.u8 (shrN x 40)), AV.int IntKind.u8 (wrapA IntKind.u8 (shrN x 32)), AV.int IntKind.u8 (wrapA IntKind.u8 (shrN x 24)), AV.int IntKind.u8 (wrapA IntKind.u8 (shrN x 16)), AV.int IntKind.u8 (wrapA IntKind.u8 (shrN x 8)), AV.int IntKind.u8 (wrapA IntKind.u8 (shrN x 0))]] :=
  call_run (q := (oc 80 [])) (c := ([])) (by kernel_rfl) trivial
theorem putu64 (x : Int) (len : Nat) (cs : List AV) (h0 : (AV.plainL cs) = true) (h1 : (cs.length.beq len) = true) (h2 : (u8L cs) = true) (h3 : (len.ble 1099511627776) = true) (h4 : (appRoom 1 len 1) = true) (h5 : (len.beq (len * 1)) = true) (h6 : (appRoom 1 (len + 1) 1) = true) (h7 : ((cs ++ [AV.int IntKind.u8 (wrapA IntKind.u8 (shrN x 56))]).length.beq ((len + 1) * 1)) = true) (h8 : (appRoom 1 (len + 1 + 1) 1) = true) (h9 : ((cs ++ [AV.int IntKind.u8 (wrapA IntKind.u8 (shrN x 56))] ++ [AV.int IntKind.u8 (wrapA IntKind.u8 (shrN x 48))]).length.beq ((len + 1 + 1) * 1)) = true) (h10 : (appRoom 1 (len + 1 + 1 + 1) 1) = true) (h11 : ((cs ++ [AV.int IntKind.u8 (wrapA IntKind.u8 (shrN x 56))] ++ [AV.int IntKind.u8 (wrapA IntKind.u8 (shrN x 48))] ++ [AV.int IntKind.u8 (wrapA IntKind.u8 (shrN x 40))]).length.beq ((len + 1 + 1 + 1) * 1)) = true) (h12 : (appRoom 1 (len + 1 + 1 + 1 + 1) 1) = true) (h13 : ((cs ++ [AV.int IntKind.u8 (wrapA IntKind.u8 (shrN x 56))] ++ [AV.int IntKind.u8 (wrapA IntKind.u8 (shrN x 48))] ++ [AV.int IntKind.u8 (wrapA IntKind.u8 (shrN x 40))] ++ [AV.int IntKind.u8 (wrapA IntKind.u8 (shrN x 32))]).length.beq ((len + 1 + 1 + 1 + 1) * 1)) = true) (h14 : (appRoom 1 (len + 1 + 1 + 1 + 1 + 1) 1) = true) (h15 : ((cs ++ [AV.int IntKind.u8 (wrapA IntKind.u8 (shrN x 56))] ++ [AV.int IntKind.u8 (wrapA IntKind.u8 (shrN x 48))] ++ [AV.int IntKind.u8 (wrapA IntKind.u8 (shrN x 40))] ++ [AV.int IntKind.u8 (wrapA IntKind.u8 (shrN x 32))] ++ [AV.int IntKind.u8 (wrapA IntKind.u8 (shrN x 24))]).length.beq ((len + 1 + 1 + 1 + 1 + 1) * 1)) = true) (h16 : (appRoom 1 (len + 1 + 1 + 1 + 1 + 1 + 1) 1) = true) (h17 : ((cs ++ [AV.int IntKind.u8 (wrapA IntKind.u8 (shrN x 56))] ++ [AV.int IntKind.u8 (wrapA IntKind.u8 (shrN x 48))] ++ [AV.int IntKind.u8 (wrapA IntKind.u8 (shrN x 40))] ++ [AV.int IntKind.u8 (wrapA IntKind.u8 (shrN x 32))] ++ [AV.int IntKind.u8 (wrapA IntKind.u8 (shrN x 24))] ++ [AV.int IntKind.u8 (wrapA IntKind.u8 (shrN x 16))]).length.beq ((len + 1 + 1 + 1 + 1 + 1 + 1) * 1)) = true) (h18 : (appRoom 1 (len + 1 + 1 + 1 + 1 + 1 + 1 + 1) 1) = true) (h19 : ((cs ++ [AV.int IntKind.u8 (wrapA IntKind.u8 (shrN x 56))] ++ [AV.int IntKind.u8 (wrapA IntKind.u8 (shrN x 48))] ++ [AV.int IntKind.u8 (wrapA IntKind.u8 (shrN x 40))] ++ [AV.int IntKind.u8 (wrapA IntKind.u8 (shrN x 32))] ++ [AV.int IntKind.u8 (wrapA IntKind.u8 (shrN x 24))] ++ [AV.int IntKind.u8 (wrapA IntKind.u8 (shrN x 16))] ++ [AV.int IntKind.u8 (wrapA IntKind.u8 (shrN x 8))]).length.beq ((len + 1 + 1 + 1 + 1 + 1 + 1 + 1) * 1)) = true) :
    ∃ h', aCall C03a 60 (Tgt.fn 80) [AV.fsl false len cs, AV.int IntKind.u64 x] H0 = some (AV.slice (some (16, 0)) (len + 1 + 1 + 1 + 1 + 1 + 1 + 1 + 1) none, h') ∧ [16].map h'.get = [Blk.cells true 5 (cs ++ [AV.int IntKind.u8 (wrapA IntKind.u8 (shrN x 56))] ++ [AV.int IntKind.u8 (wrapA IntKind.u8 (shrN x 48))] ++ [AV.int IntKind.u8 (wrapA IntKind.u8 (shrN x 40))] ++ [AV.int IntKind.u8 (wrapA IntKind.u8 (shrN x 32))] ++ [AV.int IntKind.u8 (wrapA IntKind.u8 (shrN x 24))] ++ [AV.int IntKind.u8 (wrapA IntKind.u8 (shrN x 16))] ++ [AV.int IntKind.u8 (wrapA IntKind.u8 (shrN x 8))] ++ [AV.int IntKind.u8 (wrapA IntKind.u8 (shrN x 0))]).length (cs ++ [AV.int IntKind.u8 (wrapA IntKind.u8 (shrN x 56))] ++ [AV.int IntKind.u8 (wrapA IntKind.u8 (shrN x 48))] ++ [AV.int IntKind.u8 (wrapA IntKind.u8 (shrN x 40))] ++ [AV.int IntKind.u8 (wrapA IntKind.u8 (shrN x 32))] ++ [AV.int IntKind.u8 (wrapA IntKind.u8 (shrN x 24))] ++ [AV.int IntKind.u8 (wrapA IntKind.u8 (shrN x 16))] ++ [AV.int IntKind.u8 (wrapA IntKind.u8 (shrN x 8))] ++ [AV.int IntKind.u8 (wrapA IntKind.u8 (shrN x 0))])] :=
  call_run (q := (.y :: (.y :: (.y :: (.y :: (oc 7 (.y :: (.y :: (oc 8 (.y :: (.y :: (oc 8 (.y :: (.y :: (oc 8 (.y :: (.y :: (oc 8 (.y :: (.y :: (oc 8 (.y :: (.y :: (oc 8 (.y :: (.y :: (oc 8 (.y :: (.y :: (oc 2 [])))))))))))))))))))))))))))))) (c := (Cnd.tst _ true :: Cnd.tst _ true :: Cnd.tst _ true :: Cnd.tst _ true :: Cnd.tst _ true :: Cnd.tst _ true :: Cnd.tst _ true :: Cnd.tst _ true :: Cnd.tst _ true :: Cnd.tst _ true :: Cnd.tst _ true :: Cnd.tst _ true :: Cnd.tst _ true :: Cnd.tst _ true :: Cnd.tst _ true :: Cnd.tst _ true :: Cnd.tst _ true :: Cnd.tst _ true :: Cnd.tst _ true :: Cnd.tst _ true :: [])) (by kernel_rfl) ⟨h0, h1, h2, h3, h4, h5, h6, h7, h8, h9, h10, h11, h12, h13, h14, h15, h16, h17, h18, h19, trivial⟩
theorem cells_u64 (x : Nat) (hx : x < 18446744073709551616) : [AV.int .u8 (wrapA .u8 (shrN (x : Int) 56)), AV.int .u8 (wrapA .u8 (shrN (x : Int) 48)), AV.int .u8 (wrapA .u8 (shrN (x : Int) 40)), AV.int .u8 (wrapA .u8 (shrN (x : Int) 32)), AV.int .u8 (wrapA .u8 (shrN (x : Int) 24)), AV.int .u8 (wrapA .u8 (shrN (x : Int) 16)), AV.int .u8 (wrapA .u8 (shrN (x : Int) 8)), AV.int .u8 (wrapA .u8 (shrN (x : Int) 0))] = ofBytes (putB 8 x) := by
  have h : ofBytes (putB 8 x) = [.int .u8 ((UInt8.ofNat (x / 256 ^ 7)).toNat : Int), .int .u8 ((UInt8.ofNat (x / 256 ^ 6)).toNat : Int), .int .u8 ((UInt8.ofNat (x / 256 ^ 5)).toNat : Int), .int .u8 ((UInt8.ofNat (x / 256 ^ 4)).toNat : Int), .int .u8 ((UInt8.ofNat (x / 256 ^ 3)).toNat : Int), .int .u8 ((UInt8.ofNat (x / 256 ^ 2)).toNat : Int), .int .u8 ((UInt8.ofNat (x / 256 ^ 1)).toNat : Int), .int .u8 ((UInt8.ofNat (x / 256 ^ 0)).toNat : Int)] := rfl
  rw [h]
  have s : ∀ j, wrapA .u8 (shrN (x : Int) (8 * j)) = ((UInt8.ofNat (x / 256 ^ j)).toNat : Int) := shr_byte x
  have s0 := s 0
  have s1 := s 1
  have s2 := s 2
  have s3 := s 3
  have s4 := s 4
  have s5 := s 5
  have s6 := s 6
  have s7 := s 7
  simp only [← s0, ← s1, ← s2, ← s3, ← s4, ← s5, ← s6, ← s7]
def putRu64 : RSum := RSum.nb true fun us => match us with
  | [.fsl true 0 [], .int .u64 x] => some ([ileB 0 x, iltB x 18446744073709551616], fun n => .slice (some (n, 0)) 8 none, [.cells true 5 8 (kept (ofBytes (putB 8 x.toNat)))])
  | [.fsl false len cs, .int .u64 x] => some ([Nat.beq cs.length len, u8L cs, Nat.ble len 1000000000000, ileB 0 x, iltB x 18446744073709551616], fun n => .slice (some (n, 0)) (len + 8) none, [.cells true 5 (len + 8) (cs ++ kept (ofBytes (putB 8 x.toNat)))])
  | _ => none
theorem putRu64_ok : RSum.Sound Try.prog tys 80 putRu64 := by
  refine RSum.sound (cx_goes _ _) all03a (RSum.nb_ok fun us c v bs hm hc => ?_)
  split at hm
  · injection hm with hm; injection hm with e1 hm; injection hm with e2 e3; rw [kept_eq] at e3; subst e1; subst e2; subst e3
    simp only [allTrue_cons] at hc
    obtain ⟨c1, c2, _⟩ := hc
    obtain ⟨x, rfl⟩ := nat_of c1
    have c2 : x < 18446744073709551616 := lt_of c2
    obtain ⟨h', h, hb⟩ := putu64N x
    refine ⟨fun b hb => ?_, 60, h', [15], _, h, ?_, sel_one 15, rfl, fun n ρ hρ => ?_⟩
    · have : b = .cells true 5 8 (ofBytes (putB 8 x)) := by simpa using hb
      subst this
      simp only [Blk.plainOwn, ofBytes_plain, Bool.and_self]
    · rw [hb, cells_u64 x c2]; rfl
    · have := hρ 0 15 rfl
      simp only [AV.ren, Option.map_some, this, Nat.add_zero]
      exact AV.Le.refl _
  · rename_i len cs x
    injection hm with hm; injection hm with e1 hm; injection hm with e2 e3; rw [kept_eq] at e3; subst e1; subst e2; subst e3
    simp only [allTrue_cons] at hc
    obtain ⟨c1, c2, c3, c4, c5, _⟩ := hc
    have c1 := eq_of_beq' c1
    have c3 := le_of_ble' c3
    obtain ⟨l, rfl⟩ := u8L_iff.1 c2
    obtain ⟨x, rfl⟩ := nat_of c4
    have c5 : x < 18446744073709551616 := lt_of c5
    obtain ⟨h', h, hb⟩ := putu64 x len (ofBytes l) (ofBytes_plainL l) (beq_of c1) c2 (ble_of (by omega)) (room_of (by omega) (by omega)) (beq_of (by simp only [ofBytes_length, List.length_append, List.length_cons, List.length_nil] at c1 ⊢; omega)) (room_of (by omega) (by omega)) (beq_of (by simp only [ofBytes_length, List.length_append, List.length_cons, List.length_nil] at c1 ⊢; omega)) (room_of (by omega) (by omega)) (beq_of (by simp only [ofBytes_length, List.length_append, List.length_cons, List.length_nil] at c1 ⊢; omega)) (room_of (by omega) (by omega)) (beq_of (by simp only [ofBytes_length, List.length_append, List.length_cons, List.length_nil] at c1 ⊢; omega)) (room_of (by omega) (by omega)) (beq_of (by simp only [ofBytes_length, List.length_append, List.length_cons, List.length_nil] at c1 ⊢; omega)) (room_of (by omega) (by omega)) (beq_of (by simp only [ofBytes_length, List.length_append, List.length_cons, List.length_nil] at c1 ⊢; omega)) (room_of (by omega) (by omega)) (beq_of (by simp only [ofBytes_length, List.length_append, List.length_cons, List.length_nil] at c1 ⊢; omega)) (room_of (by omega) (by omega)) (beq_of (by simp only [ofBytes_length, List.length_append, List.length_cons, List.length_nil] at c1 ⊢; omega))
    refine ⟨fun b hb => ?_, 60, h', [16], _, h, ?_, sel_one 16, rfl, fun n ρ hρ => ?_⟩
    · have : b = .cells true 5 (len + 8) (ofBytes l ++ ofBytes (putB 8 x)) := by simpa using hb
      subst this
      rw [← ofBytes_append]
      simp only [Blk.plainOwn, ofBytes_plain, Bool.and_self]
    · rw [hb]
      try simp only [List.append_assoc, List.cons_append, List.nil_append]
      rw [cells_u64 x c5, List.length_append, c1, ofBytes_length, putB_length]; rfl
    · have := hρ 0 16 rfl
      simp only [AV.ren, Option.map_some, this, Nat.add_zero]
      exact AV.Le.refl _
  · cases hm
abbrev F03b : FTab := [(74, putRu8), (62, putRu16), (78, putRu32), (80, putRu64)] ++ F03a
theorem f03b_ok : ∀ p ∈ F03b, RSum.Sound Try.prog tys p.1 p.2 := by
  intro p h
  rcases List.mem_append.1 h with h | h
  · simp only [List.mem_cons, List.not_mem_nil, or_false] at h
    rcases h with rfl | rfl | rfl | rfl
    · exact putRu8_ok
    · exact putRu16_ok
    · exact putRu32_ok
    · exact putRu64_ok
  · exact f03a_ok p h
end Go.Proofs.Ytecncappdnhbaaa
end
end

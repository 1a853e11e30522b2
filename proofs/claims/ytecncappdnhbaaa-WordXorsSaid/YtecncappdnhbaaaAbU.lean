/- The symbolic machine: conversions, pieces, appends, maps; operations, regions, code, calls. -/
import Derived.Test.YtecncappdnhbaaaAbT
set_option autoImplicit false
set_option linter.unusedVariables false
set_option linter.unusedSimpArgs false
noncomputable section
namespace Go.Ab

/-! ### Conversions -/
def sliceStrS (cx : Cx) (e : TypeId) (x : AV) (H : Heap) : S AV :=
  S.bind (S.lift x.slice?) fun a => cb (isU8 cx e) (match a.1 with
    | none => S.pure (.str [])
    | some p => S.bind (cellsS H p a.2.1) fun cs => S.must (bytesOf cs).isSome (S.pure (.str ((bytesOf cs).getD [])))) S.fail
theorem sliceStrS_snd (cx : Cx) (e : TypeId) (x : AV) (H : Heap) : Snd (sliceStrS cx e x H) (sliceStr cx e x H) := by
  refine Snd.bind (Snd.lift _) fun a _ => Snd.cb_bool ?_ (Snd.fail _)
  cases a.1 with
  | none => exact Snd.pure _
  | some p =>
    refine Snd.bind (cellsS_snd H p _) fun cs _ => Snd.must fun h => ?_
    obtain ⟨l, hl⟩ := Option.isSome_iff_exists.1 h
    rw [hl]; exact Snd.pure _

def convStrS (cx : Cx) (s : ATy) (x : AV) (H : Heap) : S AV :=
  match s.desc with
  | .slice e => sliceStrS cx e x H
  | _ => S.lift (convStr cx s x H)
theorem convStrS_snd (cx : Cx) (s : ATy) (x : AV) (H : Heap) : Snd (convStrS cx s x H) (convStr cx s x H) := by
  unfold convStrS
  split
  · rename_i e h; simp only [convStr, h]; exact sliceStrS_snd _ _ _ _
  · exact Snd.lift _

def convSliceS (cx : Cx) (same : Bool) (s : ATy) (e : TypeId) (x : AV) (H : Heap) : S AV :=
  match s.desc with
  | .slice _ => S.bind (S.lift x.slice?) fun a => S.must (same && isU8 cx e && isOwn H a.1 && Nat.ble 1 a.2.1) (S.pure (.slice a.1 a.2.1 a.2.2))
  | _ => S.fail
theorem convSliceS_snd (cx : Cx) (same : Bool) (s : ATy) (e : TypeId) (x : AV) (H : Heap) : Snd (convSliceS cx same s e x H) (convSlice cx same s e x H) := by
  unfold convSliceS convSlice
  cases s.desc <;> (try simp only) <;> try exact Snd.fail _
  exact Snd.bind (Snd.lift _) fun a _ => Snd.cb_must fun _ => Snd.pure _

def convS0 (cx : Cx) (src dst : TypeId) (x : AV) (H : Heap) : S AV :=
  S.bind (S.lift (cx.ty src)) fun s => S.bind (S.lift (cx.ty dst)) fun d =>
    match d.desc with
    | .int k => S.lift (convInt k x)
    | .string => convStrS cx s x H
    | .slice e => convSliceS cx (decide (src = dst)) s e x H
    | _ => S.fail
theorem convS0_snd (cx : Cx) (src dst : TypeId) (x : AV) (H : Heap) : Snd (convS0 cx src dst x H) (aConv0 cx src dst x H) := by
  refine Snd.bind (Snd.lift _) fun s _ => Snd.bind (Snd.lift _) fun d _ => ?_
  cases d.desc <;> (try simp only) <;> try exact Snd.fail _
  · exact Snd.lift _
  · exact convStrS_snd _ _ _ _
  · exact convSliceS_snd _ _ _ _ _ _

def fStrS (cx : Cx) (src dst : TypeId) (nl : Bool) (len : Nat) (cs : List AV) : S AV :=
  S.bind (S.lift (cx.ty src)) fun s => S.bind (S.lift (cx.ty dst)) fun d =>
    match d.desc with
    | .string => match s.desc with
      | .slice e => cb (isU8 cx e) (S.must (Nat.beq cs.length len) (S.must (bytesOf cs).isSome (S.pure (.str ((bytesOf cs).getD []))))) S.fail
      | _ => S.fail
    | _ => S.fail
theorem fStrS_snd (cx : Cx) (src dst : TypeId) (nl : Bool) (len : Nat) (cs : List AV) : Snd (fStrS cx src dst nl len cs) (fStr cx src dst nl len cs) := by
  refine Snd.bind (Snd.lift _) fun s _ => Snd.bind (Snd.lift _) fun d _ => ?_
  cases d.desc <;> (try simp only) <;> try exact Snd.fail _
  cases s.desc <;> (try simp only) <;> try exact Snd.fail _
  rename_i e
  cases isU8 cx e with
  | false => exact Snd.fail _
  | true =>
    refine Snd.must fun h1 => Snd.must fun h2 => ?_
    obtain ⟨l, hl⟩ := Option.isSome_iff_exists.1 h2
    rw [h1, hl]; exact Snd.pure _
def convS (cx : Cx) (src dst : TypeId) (x : AV) (H : Heap) : S AV :=
  match x with
  | .fsl nl len cs => fStrS cx src dst nl len cs
  | x => convS0 cx src dst x H
theorem convS_snd (cx : Cx) (src dst : TypeId) (x : AV) (H : Heap) : Snd (convS cx src dst x H) (aConv cx src dst x H) := by
  by_cases h : ∃ a b cs, x = .fsl a b cs
  · obtain ⟨a, b, cs, rfl⟩ := h; exact fStrS_snd cx src dst a b cs
  · have e1 : convS cx src dst x H = convS0 cx src dst x H := by cases x <;> first | rfl | exact absurd ⟨_, _, _, rfl⟩ h
    have e2 : aConv cx src dst x H = aConv0 cx src dst x H := by cases x <;> first | rfl | exact absurd ⟨_, _, _, rfl⟩ h
    rw [e1, e2]; exact convS0_snd _ _ _ _ _

/-! ### Pieces -/
def boundIntS (i : Int) (most : Nat) : S Nat := S.must (ileB 0 i) (S.must (Nat.ble i.toNat most) (S.pure i.toNat))
theorem boundIntS_snd (i : Int) (most : Nat) : Snd (boundIntS i most) (boundInt i most) := by
  refine Snd.must fun h1 => Snd.must fun h2 => ?_
  cases i with
  | ofNat n => simp only [boundInt]; rw [show Nat.ble n most = true from h2, cb_true]; exact Snd.pure _
  | negSucc n => simp [ileB, iltB] at h1
def boundOfS (x : Option AV) (d most : Nat) : S Nat :=
  match x with
  | none => S.pure d
  | some v => S.bind (S.lift v.int?) fun a => boundIntS a.2 most
theorem boundOfS_snd (x : Option AV) (d most : Nat) : Snd (boundOfS x d most) (boundOf x d most) := by
  cases x with
  | none => exact Snd.pure _
  | some v => exact Snd.bind (Snd.lift _) fun a _ => boundIntS_snd _ _

def sliceStrAtS (s : List UInt8) (lo hi mx : Option AV) : S AV :=
  cb mx.isSome S.fail (S.bind (boundOfS hi s.length s.length) fun h => S.bind (boundOfS lo 0 h) fun l => S.pure (.str (List.take (h - l) (List.drop l s))))
def sliceRowS (size : Nat) (p : Option (Nat × Nat)) (len cap : Nat) (lo hi mx : Option AV) : S AV :=
  cb (mx.isSome && hi.isNone) S.fail (S.bind (boundOfS mx cap cap) fun m => S.bind (boundOfS hi len m) fun h => S.bind (boundOfS lo 0 h) fun l =>
    S.pure (.slice (p.map fun a => place a (l * size)) (h - l) (some (m - l))))
def sliceOpenS (size : Nat) (a : Nat × Nat) (len : Nat) (lo hi : Option AV) : S AV :=
  S.bind (boundOfS hi len len) fun h => S.bind (boundOfS lo 0 h) fun l => S.pure (.slice (some (place a (l * size))) (h - l) none)
def sliceSliceS (size : Nat) (x : Option (Nat × Nat) × Nat × Option Nat) (lo hi mx : Option AV) : S AV :=
  match x.2.2 with
  | some cap => sliceRowS size x.1 x.2.1 cap lo hi mx
  | none => match x.1 with
    | none => S.fail
    | some a => cb mx.isSome (sliceRowS size (some a) x.2.1 x.2.1 lo hi mx) (sliceOpenS size a x.2.1 lo hi)
theorem sliceStrAtS_snd (s : List UInt8) (lo hi mx : Option AV) : Snd (sliceStrAtS s lo hi mx) (sliceStrAt s lo hi mx) :=
  Snd.cb_bool (Snd.fail _) (Snd.bind (boundOfS_snd _ _ _) fun h _ => Snd.bind (boundOfS_snd _ _ _) fun l _ => Snd.pure _)
theorem sliceRowS_snd (size : Nat) (p : Option (Nat × Nat)) (len cap : Nat) (lo hi mx : Option AV) : Snd (sliceRowS size p len cap lo hi mx) (sliceRow size p len cap lo hi mx) :=
  Snd.cb_bool (Snd.fail _) (Snd.bind (boundOfS_snd _ _ _) fun m _ => Snd.bind (boundOfS_snd _ _ _) fun h _ => Snd.bind (boundOfS_snd _ _ _) fun l _ => Snd.pure _)
theorem sliceSliceS_snd (size : Nat) (x : Option (Nat × Nat) × Nat × Option Nat) (lo hi mx : Option AV) : Snd (sliceSliceS size x lo hi mx) (sliceSlice size x lo hi mx) := by
  obtain ⟨p, l, c⟩ := x
  cases c with
  | some c => exact sliceRowS_snd _ _ _ _ _ _ _
  | none => cases p with
    | none => exact Snd.fail _
    | some a => exact Snd.cb_bool (sliceRowS_snd _ _ _ _ _ _ _) (Snd.bind (boundOfS_snd _ _ _) fun h _ => Snd.bind (boundOfS_snd _ _ _) fun l _ => Snd.pure _)

def sliceS0 (cx : Cx) (t : TypeId) (x : AV) (lo hi mx : Option AV) : S AV :=
  S.bind (S.lift (cx.ty t)) fun ty =>
    match ty.desc with
    | .string => S.bind (S.lift x.str?) fun s => sliceStrAtS s lo hi mx
    | .slice e => S.bind (S.lift (cx.ty e)) fun et => S.bind (S.lift x.slice?) fun s => sliceSliceS et.size s lo hi mx
    | .array n e => S.bind (S.lift (cx.ty e)) fun et => S.bind (S.lift x.ptr?) fun p => cb p.isSome (sliceRowS et.size p n n lo hi mx) S.fail
    | _ => S.fail
theorem sliceS0_snd (cx : Cx) (t : TypeId) (x : AV) (lo hi mx : Option AV) : Snd (sliceS0 cx t x lo hi mx) (aSlice0 cx t x lo hi mx) := by
  refine Snd.bind (Snd.lift _) fun ty _ => ?_
  cases ty.desc <;> (try simp only) <;> try exact Snd.fail _
  · exact Snd.bind (Snd.lift _) fun s _ => sliceStrAtS_snd _ _ _ _
  · exact Snd.bind (Snd.lift _) fun et _ => Snd.bind (Snd.lift _) fun s _ => sliceSliceS_snd _ _ _ _ _
  · exact Snd.bind (Snd.lift _) fun et _ => Snd.bind (Snd.lift _) fun p _ => Snd.cb_bool (sliceRowS_snd _ _ _ _ _ _ _) (Snd.fail _)

def fCutS (size : Nat) (nl : Bool) (len : Nat) (cs : List AV) (lo hi mx : Option AV) : S AV :=
  cb mx.isSome S.fail (S.must (Nat.beq cs.length (Nat.mul len size)) (S.bind (boundOfS hi len len) fun h => S.bind (boundOfS lo 0 h) fun l => S.pure (.fsl nl (h - l) (rowCut cs (l * size) ((h - l) * size)))))
theorem fCutS_snd (size : Nat) (nl : Bool) (len : Nat) (cs : List AV) (lo hi mx : Option AV) : Snd (fCutS size nl len cs lo hi mx) (fCut size nl len cs lo hi mx) := by
  unfold fCutS fCut
  cases mx.isSome with
  | true => exact Snd.fail _
  | false =>
    refine Snd.must fun h => ?_
    rw [h]
    exact Snd.bind (boundOfS_snd _ _ _) fun h _ => Snd.bind (boundOfS_snd _ _ _) fun l _ => Snd.pure _
def fSliceS (cx : Cx) (t : TypeId) (nl : Bool) (len : Nat) (cs : List AV) (lo hi mx : Option AV) : S AV :=
  S.bind (S.lift (cx.ty t)) fun ty =>
    match ty.desc with
    | .slice e => S.bind (S.lift (cx.ty e)) fun et => fCutS et.size nl len cs lo hi mx
    | _ => S.fail
theorem fSliceS_snd (cx : Cx) (t : TypeId) (nl : Bool) (len : Nat) (cs : List AV) (lo hi mx : Option AV) : Snd (fSliceS cx t nl len cs lo hi mx) (fSlice cx t nl len cs lo hi mx) := by
  refine Snd.bind (Snd.lift _) fun ty _ => ?_
  cases ty.desc <;> (try simp only) <;> try exact Snd.fail _
  exact Snd.bind (Snd.lift _) fun et _ => fCutS_snd _ _ _ _ _ _ _
def sliceS (cx : Cx) (t : TypeId) (x : AV) (lo hi mx : Option AV) : S AV :=
  match x with
  | .fsl nl len cs => fSliceS cx t nl len cs lo hi mx
  | x => sliceS0 cx t x lo hi mx
theorem sliceS_snd (cx : Cx) (t : TypeId) (x : AV) (lo hi mx : Option AV) : Snd (sliceS cx t x lo hi mx) (aSlice cx t x lo hi mx) := by
  by_cases h : ∃ a b cs, x = .fsl a b cs
  · obtain ⟨a, b, cs, rfl⟩ := h; exact fSliceS_snd cx t a b cs lo hi mx
  · have e1 : sliceS cx t x lo hi mx = sliceS0 cx t x lo hi mx := by cases x <;> first | rfl | exact absurd ⟨_, _, _, rfl⟩ h
    have e2 : aSlice cx t x lo hi mx = aSlice0 cx t x lo hi mx := by cases x <;> first | rfl | exact absurd ⟨_, _, _, rfl⟩ h
    rw [e1, e2]; exact sliceS0_snd _ _ _ _ _ _

def addrS (cx : Cx) (e : TypeId) (p : Option (Nat × Nat)) (i : Int) (n : Nat) : S AV :=
  S.must (ileB 0 i) (S.must (Nat.ble (Nat.succ i.toNat) n) (S.bind (S.lift (cx.ty e)) fun et => S.bind (S.lift p) fun a => S.pure (.ptr (some (place a (i.toNat * et.size))))))
theorem inRange_of {i : Int} {n : Nat} (h1 : ileB 0 i = true) (h2 : Nat.ble (Nat.succ i.toNat) n = true) : inRange i n = true := by
  cases i with
  | ofNat m => exact h2
  | negSucc m => simp [ileB, iltB] at h1
theorem addrS_snd (cx : Cx) (e : TypeId) (p : Option (Nat × Nat)) (i : Int) (n : Nat) : Snd (addrS cx e p i n) (addrAt cx e p i n) := by
  refine Snd.must fun h1 => Snd.must fun h2 => ?_
  unfold addrAt
  rw [inRange_of h1 h2, cb_true]
  exact Snd.bind (Snd.lift _) fun et _ => Snd.bind (Snd.lift _) fun a _ => Snd.pure _

def indexAddrS0 (cx : Cx) (t : TypeId) (x i : AV) : S AV :=
  S.bind (S.lift i.int?) fun i => S.bind (S.lift (cx.ty t)) fun ty =>
    match ty.desc with
    | .slice e => S.bind (S.lift x.slice?) fun s => addrS cx e s.1 i.2 s.2.1
    | .array n e => S.bind (S.lift x.ptr?) fun p => addrS cx e p i.2 n
    | _ => S.fail
theorem indexAddrS0_snd (cx : Cx) (t : TypeId) (x i : AV) : Snd (indexAddrS0 cx t x i) (aIndexAddr0 cx t x i) := by
  refine Snd.bind (Snd.lift _) fun i _ => Snd.bind (Snd.lift _) fun ty _ => ?_
  cases ty.desc <;> (try simp only) <;> try exact Snd.fail _
  · exact Snd.bind (Snd.lift _) fun s _ => addrS_snd _ _ _ _ _
  · exact Snd.bind (Snd.lift _) fun s _ => addrS_snd _ _ _ _ _

def fIndexS (cx : Cx) (t : TypeId) (len : Nat) (cs : List AV) (i : AV) : S AV :=
  S.bind (S.lift i.int?) fun i => S.bind (S.lift (cx.ty t)) fun ty =>
    match ty.desc with
    | .slice e => S.bind (S.lift (cx.ty e)) fun et => S.must (ileB 0 i.2) (S.must (Nat.ble (Nat.succ i.2.toNat) len) (S.must (Nat.beq cs.length (Nat.mul len et.size)) (S.pure (.fptr (List.drop (i.2.toNat * et.size) cs)))))
    | _ => S.fail
theorem fIndexS_snd (cx : Cx) (t : TypeId) (len : Nat) (cs : List AV) (i : AV) : Snd (fIndexS cx t len cs i) (fIndex cx t len cs i) := by
  refine Snd.bind (Snd.lift _) fun i _ => Snd.bind (Snd.lift _) fun ty _ => ?_
  cases ty.desc <;> (try simp only) <;> try exact Snd.fail _
  refine Snd.bind (Snd.lift _) fun et _ => Snd.must fun h1 => Snd.must fun h2 => Snd.must fun h3 => ?_
  rw [inRange_of h1 h2, h3]; exact Snd.pure _
def indexAddrS (cx : Cx) (t : TypeId) (x i : AV) : S AV :=
  match x with
  | .fsl _ len cs => fIndexS cx t len cs i
  | x => indexAddrS0 cx t x i
theorem indexAddrS_snd (cx : Cx) (t : TypeId) (x i : AV) : Snd (indexAddrS cx t x i) (aIndexAddr cx t x i) := by
  by_cases h : ∃ a b cs, x = .fsl a b cs
  · obtain ⟨a, b, cs, rfl⟩ := h; exact fIndexS_snd cx t b cs i
  · have e1 : indexAddrS cx t x i = indexAddrS0 cx t x i := by cases x <;> first | rfl | exact absurd ⟨_, _, _, rfl⟩ h
    have e2 : aIndexAddr cx t x i = aIndexAddr0 cx t x i := by cases x <;> first | rfl | exact absurd ⟨_, _, _, rfl⟩ h
    rw [e1, e2]; exact indexAddrS0_snd _ _ _ _
def fFieldS (cx : Cx) (t : TypeId) (cs : List AV) (f : Nat) : S AV :=
  S.bind (S.lift (fieldsOf cx t)) fun fs => S.bind (S.lift (listAt fs f)) fun g => S.bind (S.lift (cx.ty g.2)) fun ft => S.must (Nat.ble 1 ft.size && Nat.ble (g.1 + ft.size) cs.length) (S.pure (.fptr (List.drop g.1 cs)))
theorem fFieldS_snd (cx : Cx) (t : TypeId) (cs : List AV) (f : Nat) : Snd (fFieldS cx t cs f) (fField cx t cs f) :=
  Snd.bind (Snd.lift _) fun fs _ => Snd.bind (Snd.lift _) fun g _ => Snd.bind (Snd.lift _) fun ft _ => Snd.cb_must fun _ => Snd.pure _
def fieldAddrS (cx : Cx) (t : TypeId) (x : AV) (f : Nat) : S AV :=
  match x with
  | .fptr cs => fFieldS cx t cs f
  | x => S.lift (aFieldAddr cx t x f)
theorem fieldAddrS_snd (cx : Cx) (t : TypeId) (x : AV) (f : Nat) : Snd (fieldAddrS cx t x f) (aFieldAddr cx t x f) := by
  by_cases h : ∃ cs, x = .fptr cs
  · obtain ⟨cs, rfl⟩ := h; exact fFieldS_snd cx t cs f
  · have e1 : fieldAddrS cx t x f = S.lift (aFieldAddr cx t x f) := by cases x <;> first | rfl | exact absurd ⟨_, rfl⟩ h
    rw [e1]; exact Snd.lift _

def strAtS (s : List UInt8) (i : Int) : S AV := S.must (ileB 0 i) (S.must (Nat.ble (Nat.succ i.toNat) s.length) (S.pure (.int .u8 ((listAt s i.toNat).getD 0).toNat)))
theorem strAtS_snd (s : List UInt8) (i : Int) : Snd (strAtS s i) (strAt s i) := by
  refine Snd.must fun h1 => Snd.must fun h2 => ?_
  unfold strAt
  have hlt : i.toNat < s.length := Nat.le_of_ble_eq_true h2
  rw [h1, cb_true, listAt_eq, List.getElem?_eq_getElem hlt]
  exact Snd.pure _
def indexS (cx : Cx) (t : TypeId) (x i : AV) : S AV :=
  S.bind (S.lift i.int?) fun i => S.bind (S.lift (cx.ty t)) fun ty =>
    match ty.desc with
    | .array n e => S.bind (S.lift x.agg?) fun cs => S.must (ileB 0 i.2) (S.must (Nat.ble (Nat.succ i.2.toNat) n) (S.bind (S.lift (cx.ty e)) fun et => partS cx e cs (i.2.toNat * et.size)))
    | .string => S.bind (S.lift x.str?) fun s => strAtS s i.2
    | _ => S.fail
theorem indexS_snd (cx : Cx) (t : TypeId) (x i : AV) : Snd (indexS cx t x i) (aIndex cx t x i) := by
  refine Snd.bind (Snd.lift _) fun i _ => Snd.bind (Snd.lift _) fun ty _ => ?_
  cases ty.desc <;> (try simp only) <;> try exact Snd.fail _
  · exact Snd.bind (Snd.lift _) fun s _ => strAtS_snd _ _
  · refine Snd.bind (Snd.lift _) fun cs _ => Snd.must fun h1 => Snd.must fun h2 => ?_
    rw [inRange_of h1 h2, cb_true]
    exact Snd.bind (Snd.lift _) fun et _ => partS_snd _ _ _ _

def fieldS (cx : Cx) (t : TypeId) (x : AV) (f : Nat) : S AV :=
  S.bind (S.lift (fieldsOf cx t)) fun fs => S.bind (S.lift (listAt fs f)) fun g => S.bind (S.lift x.agg?) fun cs => partS cx g.2 cs g.1
theorem fieldS_snd (cx : Cx) (t : TypeId) (x : AV) (f : Nat) : Snd (fieldS cx t x f) (aField cx t x f) :=
  Snd.bind (Snd.lift _) fun fs _ => Snd.bind (Snd.lift _) fun g _ => Snd.bind (Snd.lift _) fun cs _ => partS_snd _ _ _ _

/-! ### Append, copy -/
def srcS (size : Nat) (H : Heap) (x : AV) : S (Nat × List AV) :=
  match x with
  | .slice (some p) l _ => S.bind (cellsS H p (l * size)) fun cs => S.pure (l, cs)
  | .fsl _ len cs => S.must (Nat.beq cs.length (Nat.mul len size)) (S.pure (len, cs))
  | x => S.lift (srcCells size H x)
theorem srcS_snd (size : Nat) (H : Heap) (x : AV) : Snd (srcS size H x) (srcCells size H x) := by
  unfold srcS
  split
  · exact Snd.bind (cellsS_snd _ _ _) fun cs _ => Snd.pure _
  · exact Snd.cb_must fun _ => Snd.pure _
  · exact Snd.lift _
def zeroS (et : ATy) (x : AV) : S (Nat × List AV) :=
  S.bind (S.lift x.int?) fun a => S.must (ileB 0 a.2) (S.must (iltB a.2 9223372036854775808) (S.must (ileB (a.2 * et.bytes) 281474976710656) (S.pure (a.2.toNat, reps a.2.toNat et.zero.cells))))
theorem zeroS_snd (et : ATy) (x : AV) : Snd (zeroS et x) (zeroCells et x) := by
  refine Snd.bind (Snd.lift _) fun a _ => Snd.must fun h1 => Snd.must fun h2 => Snd.must fun h3 => ?_
  rw [ileB_eq] at h1 h3
  rw [iltB_eq] at h2
  rw [if_pos ⟨of_decide_eq_true h1, of_decide_eq_true h2, of_decide_eq_true h3⟩]
  exact Snd.pure _

def appOwnS (e : TypeId) (size : Nat) (a : Nat × Nat) (len : Nat) (nc : Nat × List AV) (H : Heap) : S (AV × Heap) :=
  match H.get a.1 with
  | .cells true e' n cs => cb (Nat.beq a.2 0 && Nat.beq e' e) (S.must (Nat.beq n (len * size)) (S.must (nc.2.all AV.isCell) (S.pure (appNew e (len + nc.1) (cs ++ nc.2) (H.put a.1 .dead))))) S.fail
  | _ => S.fail
theorem appOwnS_snd (e : TypeId) (size : Nat) (a : Nat × Nat) (len : Nat) (nc : Nat × List AV) (H : Heap) : Snd (appOwnS e size a len nc H) (appOwn e size a len nc H) := by
  unfold appOwnS appOwn
  cases hg : H.get a.1 <;> (try simp only) <;> try exact Snd.fail _
  rename_i own e' n cs
  cases own
  · exact Snd.fail _
  · try simp only
    cases hc : (Nat.beq a.2 0 && Nat.beq e' e) with
    | false => exact Snd.fail _
    | true =>
      rw [cb_true]
      rw [Bool.and_eq_true] at hc
      refine Snd.must fun h1 => Snd.must fun h2 => ?_
      rw [if_pos ⟨Nat.eq_of_beq_eq_true hc.1, Nat.eq_of_beq_eq_true hc.2, Nat.eq_of_beq_eq_true h1, h2⟩]
      exact Snd.pure _
def appToS (e : TypeId) (size : Nat) (s : Option (Nat × Nat) × Nat × Option Nat) (nc : Nat × List AV) (H : Heap) : S (AV × Heap) :=
  match s.1 with
  | none => S.lift (appTo e size s nc H)
  | some a => match s.2.2 with
    | none => appOwnS e size a s.2.1 nc H
    | some c => S.test (Nat.ble (Nat.succ c) (s.2.1 + nc.1)) (S.bind (cellsS H a (s.2.1 * size)) fun old => S.pure (appNew e (s.2.1 + nc.1) (old ++ nc.2) H))
        (S.bind (storeS H (place a (s.2.1 * size)) nc.2) fun H' => S.pure (.slice (some a) (s.2.1 + nc.1) (some c), H'))
theorem appToS_snd (e : TypeId) (size : Nat) (s : Option (Nat × Nat) × Nat × Option Nat) (nc : Nat × List AV) (H : Heap) : Snd (appToS e size s nc H) (appTo e size s nc H) := by
  obtain ⟨p, l, c⟩ := s
  cases p with
  | none => exact Snd.lift _
  | some a =>
    cases c with
    | none => exact appOwnS_snd _ _ _ _ _ _
    | some c =>
      refine Snd.test (fun h => ?_) (fun h => ?_)
      · have h' : c < l + nc.1 := Nat.le_of_ble_eq_true h
        simp only [appTo]
        rw [if_pos h']
        exact Snd.bind (cellsS_snd _ _ _) fun old _ => Snd.pure _
      · have h' : ¬ c < l + nc.1 := by
          intro hh
          have : Nat.ble (Nat.succ c) (l + nc.1) = true := Nat.ble_eq_true_of_le hh
          simp only at h
          rw [this] at h; cases h
        simp only [appTo]
        rw [if_neg h']
        exact Snd.bind (storeS_snd _ _ _) fun H' _ => Snd.pure _

def appendS (cx : Cx) (t u : TypeId) (s x : AV) (H : Heap) : S (AV × Heap) :=
  S.bind (S.lift (isSliceT cx t)) fun e => S.bind (S.lift (cx.ty e)) fun et => S.bind (S.lift s.slice?) fun s => S.bind (S.lift (isIntT cx u)) fun z => S.bind (cb z (zeroS et x) (srcS et.size H x)) fun nc =>
    S.test (Nat.beq nc.1 0) (S.pure (.slice s.1 s.2.1 s.2.2, H)) (cb (Nat.beq et.size 0) S.fail (S.must (appRoom et.bytes s.2.1 nc.1) (appToS e et.size s nc H)))
theorem appendS_snd (cx : Cx) (t u : TypeId) (s x : AV) (H : Heap) : Snd (appendS cx t u s x H) (aAppend cx t u s x H) := by
  refine Snd.bind (Snd.lift _) fun e _ => Snd.bind (Snd.lift _) fun et _ => Snd.bind (Snd.lift _) fun s _ => Snd.bind (Snd.lift _) fun z _ =>
    Snd.bind (Snd.cb_bool (zeroS_snd _ _) (srcS_snd _ _ _)) fun nc _ => Snd.test (fun h => ?_) (fun h => ?_)
  · rw [if_pos (Nat.eq_of_beq_eq_true h)]; exact Snd.pure _
  · rw [if_neg (fun e => by rw [nbeq, decide_eq_true e] at h; cases h)]
    cases hs : Nat.beq et.size 0 with
    | true => exact Snd.fail _
    | false =>
      rw [cb_false, if_neg (fun e => by rw [nbeq, decide_eq_true e] at hs; cases hs)]
      exact Snd.cb_must fun _ => appToS_snd _ _ _ _ _

def copyToS (p : Option (Nat × Nat)) (n : Nat) (cs : List AV) (H : Heap) : S (AV × Heap) := S.bind (S.lift p) fun a => S.bind (storeS H a cs) fun H' => S.pure (.int .i64 n, H')
theorem copyToS_snd (p : Option (Nat × Nat)) (n : Nat) (cs : List AV) (H : Heap) : Snd (copyToS p n cs H) (copyTo p n cs H) :=
  Snd.bind (Snd.lift _) fun a _ => Snd.bind (storeS_snd _ _ _) fun H' _ => Snd.pure _
def copyS (cx : Cx) (t : TypeId) (d s : AV) (H : Heap) : S (AV × Heap) :=
  S.bind (S.lift (isSliceT cx t)) fun e => S.bind (S.lift (cx.ty e)) fun et => S.bind (S.lift d.slice?) fun d =>
    match s with
    | .slice q m _ => S.test (Nat.beq (min m d.2.1) 0) (S.pure (.int .i64 0, H)) (S.bind (S.lift q) fun b => S.bind (cellsS H b (min m d.2.1 * et.size)) fun cs => copyToS d.1 (min m d.2.1) cs H)
    | .str l => cb (Nat.beq et.size 1) (S.test (Nat.beq (min l.length d.2.1) 0) (S.pure (.int .i64 0, H)) (copyToS d.1 (min l.length d.2.1) (ofBytes (l.take (min l.length d.2.1))) H)) S.fail
    | .fsl _ m cs => S.test (Nat.beq (min m d.2.1) 0) (S.pure (.int .i64 0, H)) (S.must (Nat.beq cs.length (Nat.mul m et.size)) (copyToS d.1 (min m d.2.1) (rowCut cs 0 (min m d.2.1 * et.size)) H))
    | _ => S.fail
theorem copyS_snd (cx : Cx) (t : TypeId) (d s : AV) (H : Heap) : Snd (copyS cx t d s H) (aCopy cx t d s H) := by
  refine Snd.bind (Snd.lift _) fun e _ => Snd.bind (Snd.lift _) fun et _ => Snd.bind (Snd.lift _) fun d _ => ?_
  cases s <;> (try simp only) <;> try exact Snd.fail _
  · rename_i l
    unfold copyStr
    cases hs : Nat.beq et.size 1 with
    | false => exact Snd.fail _
    | true =>
      rw [cb_true, if_pos (Nat.eq_of_beq_eq_true hs)]
      refine Snd.test (fun h => ?_) (fun h => ?_)
      · rw [if_pos (Nat.eq_of_beq_eq_true h)]; exact Snd.pure _
      · rw [if_neg (fun e => by rw [nbeq, decide_eq_true e] at h; cases h)]; exact copyToS_snd _ _ _ _
  · rename_i q m c
    unfold copySlice
    refine Snd.test (fun h => ?_) (fun h => ?_)
    · simp only
      rw [if_pos (Nat.eq_of_beq_eq_true h)]; exact Snd.pure _
    · simp only
      rw [if_neg (fun e => by rw [nbeq, decide_eq_true e] at h; cases h)]
      exact Snd.bind (Snd.lift _) fun b _ => Snd.bind (cellsS_snd _ _ _) fun cs _ => copyToS_snd _ _ _ _
  · rename_i nl m cs
    unfold copyFsl
    refine Snd.test (fun h => ?_) (fun h => ?_)
    · simp only
      rw [if_pos (Nat.eq_of_beq_eq_true h)]; exact Snd.pure _
    · simp only
      rw [if_neg (fun e => by rw [nbeq, decide_eq_true e] at h; cases h)]
      exact Snd.cb_must fun _ => copyToS_snd _ _ _ _

/-! ### Maps -/
def findS (k : AV) : List (AV × AV) → S (Option AV)
  | [] => S.pure none
  | e :: es => S.bind (S.lift (sameKey k e.1)) fun b => S.test b (S.pure (some e.2)) (findS k es)
def putS (k v : AV) : List (AV × AV) → S (List (AV × AV))
  | [] => S.pure [(k, v)]
  | e :: es => S.bind (S.lift (sameKey k e.1)) fun b => S.test b (S.pure ((k, v) :: es)) (S.bind (putS k v es) fun r => S.pure (e :: r))
def dropS (k : AV) : List (AV × AV) → S (List (AV × AV))
  | [] => S.pure []
  | e :: es => S.bind (S.lift (sameKey k e.1)) fun b => S.test b (S.pure es) (S.bind (dropS k es) fun r => S.pure (e :: r))
theorem findS_snd (k : AV) : ∀ es, Snd (findS k es) (findKey k es) := by
  intro es
  induction es with
  | nil => exact Snd.pure _
  | cons e es ih => exact Snd.bind (Snd.lift _) fun b _ => Snd.test (fun h => by rw [if_pos h]; exact Snd.pure _) (fun h => by rw [if_neg (by rw [h]; simp)]; exact ih)
theorem putS_snd (k v : AV) : ∀ es, Snd (putS k v es) (putKey k v es) := by
  intro es
  induction es with
  | nil => exact Snd.pure _
  | cons e es ih => exact Snd.bind (Snd.lift _) fun b _ => Snd.test (fun h => by rw [if_pos h]; exact Snd.pure _) (fun h => by rw [if_neg (by rw [h]; simp)]; exact Snd.bind ih fun r _ => Snd.pure _)
theorem dropS_snd (k : AV) : ∀ es, Snd (dropS k es) (dropKey k es) := by
  intro es
  induction es with
  | nil => exact Snd.pure _
  | cons e es ih => exact Snd.bind (Snd.lift _) fun b _ => Snd.test (fun h => by rw [if_pos h]; exact Snd.pure _) (fun h => by rw [if_neg (by rw [h]; simp)]; exact Snd.bind ih fun r _ => Snd.pure _)

def lookupS (cx : Cx) (t : TypeId) (x k : AV) (ok : Bool) (H : Heap) : S AV :=
  S.bind (S.lift (mapT cx t)) fun m => cb (isKeyT cx m.1 k) (S.bind (S.lift x.map?) fun r => S.bind (S.lift (entriesAt H r)) fun es => S.bind (findS k es) fun f => S.bind (S.lift (cx.ty m.2)) fun e =>
    S.pure (cb ok (.tuple [f.getD e.zero, .bool f.isSome]) (f.getD e.zero))) S.fail
theorem lookupS_snd (cx : Cx) (t : TypeId) (x k : AV) (ok : Bool) (H : Heap) : Snd (lookupS cx t x k ok H) (aLookup cx t x k ok H) :=
  Snd.bind (Snd.lift _) fun m _ => Snd.cb_bool (Snd.bind (Snd.lift _) fun r _ => Snd.bind (Snd.lift _) fun es _ => Snd.bind (findS_snd _ _) fun f _ => Snd.bind (Snd.lift _) fun e _ => Snd.pure _) (Snd.fail _)
def mapPutS (cx : Cx) (t : TypeId) (x k v : AV) (H : Heap) : S Heap :=
  S.bind (S.lift (mapT cx t)) fun m => cb (isKeyT cx m.1 k) (S.bind (S.lift x.map?) fun r => S.bind (S.lift r) fun r => S.bind (S.lift (entriesOf H r)) fun es => S.bind (putS k v es) fun es' => S.pure (H.put r (.entries es'))) S.fail
theorem mapPutS_snd (cx : Cx) (t : TypeId) (x k v : AV) (H : Heap) : Snd (mapPutS cx t x k v H) (aMapPut cx t x k v H) :=
  Snd.bind (Snd.lift _) fun m _ => Snd.cb_bool (Snd.bind (Snd.lift _) fun r _ => Snd.bind (Snd.lift _) fun r _ => Snd.bind (Snd.lift _) fun es _ => Snd.bind (putS_snd _ _ _) fun es' _ => Snd.pure _) (Snd.fail _)
def dropInS (k : AV) (H : Heap) (r : Option Nat) : S Heap :=
  match r with
  | none => S.pure H
  | some r => S.bind (S.lift (entriesOf H r)) fun es => S.bind (dropS k es) fun es' => S.pure (H.put r (.entries es'))
def deleteS (cx : Cx) (t : TypeId) (x k : AV) (H : Heap) : S Heap :=
  S.bind (S.lift (mapT cx t)) fun m => cb (isKeyT cx m.1 k) (S.bind (S.lift x.map?) fun r => dropInS k H r) S.fail
theorem deleteS_snd (cx : Cx) (t : TypeId) (x k : AV) (H : Heap) : Snd (deleteS cx t x k H) (aDelete cx t x k H) :=
  Snd.bind (Snd.lift _) fun m _ => Snd.cb_bool (Snd.bind (Snd.lift _) fun r _ => by
    cases r with
    | none => exact Snd.pure _
    | some r =>
      show Snd (S.bind (S.lift (entriesOf H r)) fun es => S.bind (dropS k es) fun es' => S.pure (H.put r (.entries es'))) ((entriesOf H r).ob fun es => (dropKey k es).ob fun es' => some (H.put r (.entries es')))
      exact Snd.bind (Snd.lift _) fun es _ => Snd.bind (dropS_snd _ _) fun es' _ => Snd.pure _) (Snd.fail _)

/-! ### Operations -/
abbrev CallerS := Tgt → List AV → Heap → S (AV × Heap)

def madeS (cx : Cx) (o : Op) (g : Env) : S Made :=
  match o with
  | .buildSlice t n ps => S.bind (S.lift (evParts g ps.toList)) fun ps => buildSliceS cx t n ps
  | .makeSlice t l c => S.bind (S.lift (ev g l)) fun l => S.bind (S.lift (ev g c)) fun c => makeSliceS cx t l c
  | o => S.lift (aMade cx o g)
theorem madeS_snd (cx : Cx) (o : Op) (g : Env) : Snd (madeS cx o g) (aMade cx o g) := by
  unfold madeS
  split
  · exact Snd.bind (Snd.lift _) fun ps _ => buildSliceS_snd _ _ _ _
  · exact Snd.bind (Snd.lift _) fun l _ => Snd.bind (Snd.lift _) fun c _ => makeSliceS_snd _ _ _ _
  · exact Snd.lift _

def pickS (c a b : AV) : S AV := S.bind (S.lift c.bool?) fun c => S.test c (S.pure a) (S.pure b)
def ev2S {α : Type} (g : Env) (x y : Operand) (f : AV → AV → S α) : S α := S.bind (S.lift (ev g x)) fun x => S.bind (S.lift (ev g y)) fun y => f x y
theorem ev2S_snd {α : Type} {g : Env} {x y : Operand} {f : AV → AV → S α} {f' : AV → AV → Option α} (h : ∀ a b, Snd (f a b) (f' a b)) : Snd (ev2S g x y f) (ev2 g x y f') :=
  Snd.bind (Snd.lift _) fun a _ => Snd.bind (Snd.lift _) fun b _ => h a b

def quietS (cx : Cx) (o : Op) (g : Env) (H : Heap) : S AV :=
  match o with
  | .pick c a b => S.bind (S.lift (ev g c)) fun c => ev2S g a b (pickS c)
  | .build t ps => S.bind (S.lift (evParts g ps.toList)) (buildS cx t)
  | .load t a => S.bind (S.lift (ev g a)) (loadS cx t H)
  | .binOp op t x y _ => ev2S g x y (binS cx op t)
  | .convert s d x => S.bind (S.lift (ev g x)) fun x => convS cx s d x H
  | .slice t x lo hi mx => S.bind (S.lift (ev g x)) fun x => S.bind (S.lift (evO g lo)) fun lo => S.bind (S.lift (evO g hi)) fun hi => S.bind (S.lift (evO g mx)) fun mx => sliceS cx t x lo hi mx
  | .field t x f => S.bind (S.lift (ev g x)) fun x => fieldS cx t x f
  | .fieldAddr t x f => S.bind (S.lift (ev g x)) fun x => fieldAddrS cx t x f
  | .indexAddr t x i => ev2S g x i (indexAddrS cx t)
  | .index t x i => ev2S g x i (indexS cx t)
  | .lookup t x i ok => ev2S g x i fun x i => lookupS cx t x i ok H
  | o => S.lift (aQuiet cx o g H)
theorem quietS_snd (cx : Cx) (o : Op) (g : Env) (H : Heap) : Snd (quietS cx o g H) (aQuiet cx o g H) := by
  unfold quietS
  split
  · exact Snd.bind (Snd.lift _) fun c _ => ev2S_snd fun a b => Snd.bind (Snd.lift _) fun t _ => Snd.test (fun h => by rw [h]; exact Snd.pure _) (fun h => by rw [h]; exact Snd.pure _)
  · exact Snd.bind (Snd.lift _) fun ps _ => buildS_snd _ _ _
  · exact Snd.bind (Snd.lift _) fun x _ => loadS_snd _ _ _ _
  · exact ev2S_snd fun a b => binS_snd _ _ _ _ _
  · exact Snd.bind (Snd.lift _) fun x _ => convS_snd _ _ _ _ _
  · exact Snd.bind (Snd.lift _) fun x _ => Snd.bind (Snd.lift _) fun lo _ => Snd.bind (Snd.lift _) fun hi _ => Snd.bind (Snd.lift _) fun mx _ => sliceS_snd _ _ _ _ _ _
  · exact Snd.bind (Snd.lift _) fun x _ => fieldS_snd _ _ _ _
  · exact Snd.bind (Snd.lift _) fun x _ => fieldAddrS_snd _ _ _ _
  · exact ev2S_snd fun a b => indexAddrS_snd _ _ _ _
  · exact ev2S_snd fun a b => indexS_snd _ _ _ _
  · exact ev2S_snd fun a b => lookupS_snd _ _ _ _ _ _
  · exact Snd.lift _

def callVS (call : CallerS) (f : AV) (args : List AV) (H : Heap) : S (AV × Heap) :=
  match f with
  | .func g first captured => call (.fn g) (first ++ args ++ captured) H
  | .yield l => call (.yield l) args H
  | _ => S.fail
def lBuiltinS (cx : Cx) (b : Builtin) (ts : List TypeId) (l : List AV) (H : Heap) : S (AV × Heap) :=
  match b with
  | .append => match ts, l with
    | [t, u], [s, x] => appendS cx t u s x H
    | _, _ => S.fail
  | .copy => match ts, l with
    | [t, _], [d, s] => copyS cx t d s H
    | _, _ => S.fail
  | .delete => match ts, l with
    | [t, _], [m, k] => S.bind (deleteS cx t m k H) fun H' => S.pure (.tuple [], H')
    | _, _ => S.fail
  | _ => S.fail
theorem lBuiltinS_snd (cx : Cx) (b : Builtin) (ts : List TypeId) (l : List AV) (H : Heap) : Snd (lBuiltinS cx b ts l H) (lBuiltin cx b ts l H) := by
  unfold lBuiltinS
  split
  · split
    · exact appendS_snd _ _ _ _ _ _
    · exact Snd.fail _
  · split
    · exact copyS_snd _ _ _ _ _
    · exact Snd.fail _
  · split
    · exact Snd.bind (deleteS_snd _ _ _ _ _) fun H' _ => Snd.pure _
    · exact Snd.fail _
  · exact Snd.fail _
def lCallS (cx : Cx) (call : CallerS) (c : Call) (g : Env) (H : Heap) : S (AV × Heap) :=
  match c.callee with
  | .builtin b => S.bind (S.lift (evs g c.args.toList)) fun l => lBuiltinS cx b c.argTypes.toList l H
  | .value f => S.bind (S.lift (ev g f)) fun f => S.bind (S.lift (evs g c.args.toList)) fun l => callVS call f l H
  | .invoke _ _ => S.fail

/-- A caller in the monad goes with a plain one. -/
def SndC (cs : CallerS) (c : Caller) : Prop := ∀ t args H, Snd (cs t args H) (c t args H)

theorem lCallS_snd (cx : Cx) {cs : CallerS} {call : Caller} (h : SndC cs call) (c : Call) (g : Env) (H : Heap) : Snd (lCallS cx cs c g H) (lCall cx call c g H) := by
  unfold lCallS lCall
  cases c.callee <;> (try simp only)
  · exact Snd.bind (Snd.lift _) fun f _ => Snd.bind (Snd.lift _) fun l _ => by
      cases f <;> first | exact h _ _ _ | exact Snd.fail _
  · exact Snd.fail _
  · exact Snd.bind (Snd.lift _) fun l _ => lBuiltinS_snd _ _ _ _ _

def loudS (cx : Cx) (call : CallerS) (o : Op) (g : Env) (H : Heap) : S (AV × Heap) :=
  match o with
  | .store t a x => ev2S g a x fun a x => S.bind (aStoreS cx t H a x) fun H' => S.pure (.undef, H')
  | .mapUpdate t m k x => S.bind (S.lift (ev g m)) fun m => ev2S g k x fun k x => S.bind (mapPutS cx t m k x H) fun H' => S.pure (.undef, H')
  | .insert t m k x => S.bind (S.lift (ev g m)) fun m => ev2S g k x fun k x => S.bind (mapPutS cx t m k x H) fun H' => S.pure (.undef, H')
  | .call c => lCallS cx call c g H
  | _ => S.fail
theorem loudS_snd (cx : Cx) {cs : CallerS} {call : Caller} (h : SndC cs call) (o : Op) (g : Env) (H : Heap) : Snd (loudS cx cs o g H) (aLoud cx call o g H) := by
  unfold loudS
  split
  · exact ev2S_snd fun a x => Snd.bind (aStoreS_snd _ _ _ _ _) fun H' _ => Snd.pure _
  · exact Snd.bind (Snd.lift _) fun m _ => ev2S_snd fun k x => Snd.bind (mapPutS_snd _ _ _ _ _ _) fun H' _ => Snd.pure _
  · exact Snd.bind (Snd.lift _) fun m _ => ev2S_snd fun k x => Snd.bind (mapPutS_snd _ _ _ _ _ _) fun H' _ => Snd.pure _
  · exact lCallS_snd cx h _ _ _
  · exact Snd.fail _

def opS (cx : Cx) (call : CallerS) (o : Op) (g : Env) (H : Heap) : S (AV × Heap) :=
  match kindOf cx o with
  | .made => S.bind (madeS cx o g) fun r => S.pure (r.1 H.next, H.new r.2)
  | .quiet => S.bind (quietS cx o g H) fun v => S.pure (v, H)
  | .loud => loudS cx call o g H
theorem opS_snd (cx : Cx) {cs : CallerS} {call : Caller} (h : SndC cs call) (o : Op) (g : Env) (H : Heap) : Snd (opS cx cs o g H) (aOp cx call o g H) := by
  rw [aOp_eq]
  unfold opS aOpK
  cases kindOf cx o <;> (try simp only)
  · exact Snd.bind (madeS_snd _ _ _) fun r _ => Snd.pure _
  · exact Snd.bind (quietS_snd _ _ _ _) fun r _ => Snd.pure _
  · exact loudS_snd cx h _ _ _

/-- is the operation wanted? then this, else that. -/
def wantS {α : Type} (all : List Oper) (g : Env) (o : Oper) (y n : S α) : S α :=
  match o.guard with
  | none => y
  | some q => match (listAt all q.1).ob (·.dst) with
    | some t => match g t with
      | .bool b => S.test b (cb q.2 y n) (cb q.2 n y)
      | .any => S.fail
      | _ => n
    | none => n
theorem wantS_snd {α : Type} {all : List Oper} {g : Env} {o : Oper} {y n : S α} {p q : Option α} (hy : Snd y p) (hn : Snd n q) : Snd (wantS all g o y n) (cb (gknown all g o) (cb (aWanted all g o) p q) none) := by
  unfold wantS aWanted gknown
  cases o.guard with
  | none => exact hy
  | some r =>
    simp only [aGuard]
    cases (listAt all r.1).ob (·.dst) with
    | none => exact hn
    | some t =>
      simp only [guardHolds]
      cases g t <;> (try simp only [isAny]) <;> first | exact hn | exact Snd.fail _ | skip
      rename_i b
      show Snd _ (cb (b == r.2) p q)
      refine Snd.test (fun h => ?_) (fun h => ?_)
      · rw [h]
        cases r.2
        · exact hn
        · exact hy
      · rw [h]
        cases r.2
        · exact hy
        · exact hn

def stepS (cx : Cx) (call : CallerS) (all : List Oper) (o : Oper) (g : Env) (H : Heap) : S (AV × Heap) := wantS all g o (opS cx call o.op g H) (S.pure (.undef, H))
theorem stepS_snd (cx : Cx) {cs : CallerS} {call : Caller} (h : SndC cs call) (all : List Oper) (o : Oper) (g : Env) (H : Heap) : Snd (stepS cx cs all o g H) (aStep cx call all o g H) :=
  wantS_snd (opS_snd cx h _ _ _) (Snd.pure _)

def opsS (cx : Cx) (call : CallerS) (n : Nat) (all l : List Oper) : Fr → Heap → S (Fr × Heap) :=
  List.rec (motive := fun _ => Fr → Heap → S (Fr × Heap)) (fun fr H => S.pure (fr, H))
    (fun o _ go fr H => S.bind (stepS cx call all o fr.get H) fun r => S.bind (S.lift (fr.put n o.dst r.1)) fun fr' => go fr' r.2) l
theorem opsS_snd (cx : Cx) {cs : CallerS} {call : Caller} (h : SndC cs call) (n : Nat) (all : List Oper) : ∀ (l : List Oper) (fr : Fr) (H : Heap), Snd (opsS cx cs n all l fr H) (aOps cx call n all l fr H) := by
  intro l
  induction l with
  | nil => intro fr H; exact Snd.pure _
  | cons o l ih =>
    intro fr H
    rw [aOps_cons]
    show Snd (S.bind (stepS cx cs all o fr.get H) fun r => S.bind (S.lift (fr.put n o.dst r.1)) fun fr' => opsS cx cs n all l fr' r.2) _
    exact Snd.bind (stepS_snd cx h _ _ _ _) fun r _ => Snd.bind (Snd.lift _) fun fr' _ => ih _ _

/-! ### A region that draws its order -/
def drawRunS (cx : Cx) (call : CallerS) (n : Nat) (all : List Oper) : List Row → Fr → Heap → S (List Rec × List Heap × Fr)
  | [], fr, H => S.pure ([], [H], fr)
  | r :: rest, fr, H => S.bind (stepS cx call all r.o fr.get H) fun x => cb (Nat.ble H.next x.2.next) (S.bind (S.lift (fr.put n r.o.dst x.1)) fun fr' => S.bind (drawRunS cx call n all rest fr' x.2) fun y =>
      S.pure (⟨r, fr, x.1, H.next⟩ :: y.1, (if isLoudR r then H :: y.2.1 else y.2.1), y.2.2)) S.fail
theorem drawRunS_snd (cx : Cx) {cs : CallerS} {call : Caller} (h : SndC cs call) (n : Nat) (all : List Oper) : ∀ (l : List Row) (fr : Fr) (H : Heap), Snd (drawRunS cx cs n all l fr H) (drawRun cx call n all l fr H) := by
  intro l
  induction l with
  | nil => intro fr H; exact Snd.pure _
  | cons r l ih =>
    intro fr H
    exact Snd.bind (stepS_snd cx h _ _ _ _) fun x _ => Snd.cb_bool (Snd.bind (Snd.lift _) fun fr' _ => Snd.bind (ih _ _) fun y _ => Snd.pure _) (Snd.fail _)

/-- two values that must be the same. -/
def S.same {α : Type} (a b : AV) (k : S α) : S α := S.ask (cb (AV.beq a b) k S.fail) (S.note (.same a b) k) S.fail
theorem Snd.same {α : Type} {a b : AV} {k : S α} {o : Option α} (h : a = b → Snd k o) : Snd (S.same a b k) o := by
  refine Snd.ask ?_ (Snd.note h) (Snd.fail _)
  cases hb : AV.beq a b with
  | true => exact h (AV.beq_eq a b hb)
  | false => exact Snd.fail _
/-- a block like another one. -/
def sameBlkS (a b : Blk) : S Unit :=
  match a, b with
  | .cells o e n cs, .cells o' e' n' cs' => cb ((o == o') && decide (e = e')) (S.must (Nat.beq n n') (S.same (.agg cs) (.agg cs') (S.pure ()))) S.fail
  | .entries [], .entries [] => S.pure ()
  | _, _ => S.fail
def oneHoldsS (cx : Cx) (c : Rec) (H : Heap) : S Unit :=
  match c.r.k with
  | .loud => S.pure ()
  | .quiet => S.bind (quietS cx c.r.o.op c.g.get H) fun v => S.same v c.v (S.pure ())
  | .made => S.bind (madeS cx c.r.o.op c.g.get) fun m => cb (Nat.ble (Nat.succ c.id) H.next) (sameBlkS (H.get c.id) m.2) S.fail
def allS {α : Type} (f : α → S Unit) : List α → S Unit
  | [] => S.pure ()
  | a :: l => S.bind (f a) fun _ => allS f l
def recHoldsS (cx : Cx) (all : List Oper) (Hs : List Heap) (c : Rec) : S Unit :=
  wantS all c.g.get c.r.o (match c.r.k with | .loud => S.pure () | _ => allS (oneHoldsS cx c) ((Hs.take (c.r.hi + 1)).drop c.r.lo)) (S.pure ())

mutual
theorem AV.beq_refl : ∀ (a : AV), AV.beq a a = true
  | .undef => rfl
  | .int k n => by simp [AV.beq]
  | .bool b => by simp [AV.beq]
  | .str s => by simp [AV.beq]
  | .ptr p => by simp [AV.beq]
  | .slice p l c => by simp [AV.beq]
  | .map r => by simp [AV.beq]
  | .func f x y => by simp [AV.beq, AV.beqL_refl x, AV.beqL_refl y]
  | .yield l => by simp [AV.beq]
  | .nilFunc => rfl
  | .iface t v => by simp [AV.beq, AV.beq_refl v]
  | .nilIface => rfl
  | .agg cs => by simp [AV.beq, AV.beqL_refl cs]
  | .tuple cs => by simp [AV.beq, AV.beqL_refl cs]
  | .fsl n l cs => by simp [AV.beq, AV.beqL_refl cs]
  | .fptr cs => by simp [AV.beq, AV.beqL_refl cs]
  | .any => rfl
theorem AV.beqL_refl : ∀ (a : List AV), AV.beqL a a = true
  | [] => rfl
  | x :: xs => by simp [AV.beqL, AV.beq_refl x, AV.beqL_refl xs]
end

/-- A check as a run. -/
def chk (b : Bool) : Option Unit := cb b (some ()) none

theorem sameBlkS_snd (a b : Blk) : Snd (sameBlkS a b) (chk (Blk.same a b)) := by
  unfold sameBlkS
  split
  · rename_i o e n cs o' e' n' cs'
    cases hc : ((o == o') && decide (e = e')) with
    | false => exact Snd.fail _
    | true =>
      refine Snd.must fun h => Snd.same fun h2 => ?_
      have h2 : AV.agg cs = AV.agg cs' := h2
      injection h2 with h2
      have h := Nat.eq_of_beq_eq_true h
      have : Blk.same (.cells o e n cs) (.cells o' e' n' cs') = true := by
        simp only [Blk.same, hc, h, h2, AV.beqL_refl, decide_true, Bool.and_true]
      rw [this]; exact Snd.pure _
  · exact Snd.pure _
  · exact Snd.fail _

theorem allS_snd {α : Type} {f : α → S Unit} {p : α → Bool} (h : ∀ a, Snd (f a) (chk (p a))) : ∀ l : List α, Snd (allS f l) (chk (l.all p)) := by
  intro l
  induction l with
  | nil => exact Snd.pure _
  | cons a l ih =>
    have e : chk ((a :: l).all p) = (chk (p a)).ob fun _ => chk (l.all p) := by
      simp only [List.all_cons, chk]
      cases p a <;> rfl
    rw [e]
    exact Snd.bind (h a) fun _ _ => ih

theorem recHoldsS_snd (cx : Cx) (all : List Oper) (Hs : List Heap) (c : Rec) : Snd (recHoldsS cx all Hs c) (chk (recHolds cx all Hs c)) := by
  have quiet : ∀ H : Heap, Snd (S.bind (quietS cx c.r.o.op c.g.get H) fun v => S.same v c.v (S.pure ())) (chk (match aQuiet cx c.r.o.op c.g.get H with | some v => AV.beq v c.v | none => false)) := by
    intro H
    have e : chk (match aQuiet cx c.r.o.op c.g.get H with | some v => AV.beq v c.v | none => false) = (aQuiet cx c.r.o.op c.g.get H).ob fun v => chk (AV.beq v c.v) := by
      cases aQuiet cx c.r.o.op c.g.get H <;> rfl
    rw [e]
    refine Snd.bind (quietS_snd _ _ _ _) fun v _ => Snd.same fun h => ?_
    have h : v = c.v := h
    rw [h, AV.beq_refl]; exact Snd.pure _
  have made : ∀ H : Heap, Snd (S.bind (madeS cx c.r.o.op c.g.get) fun m => cb (Nat.ble (Nat.succ c.id) H.next) (sameBlkS (H.get c.id) m.2) S.fail) (chk (match aMade cx c.r.o.op c.g.get with | some m => Nat.ble (Nat.succ c.id) H.next && Blk.same (H.get c.id) m.2 | none => false)) := by
    intro H
    have e : chk (match aMade cx c.r.o.op c.g.get with | some m => Nat.ble (Nat.succ c.id) H.next && Blk.same (H.get c.id) m.2 | none => false) = (aMade cx c.r.o.op c.g.get).ob fun m => cb (Nat.ble (Nat.succ c.id) H.next) (chk (Blk.same (H.get c.id) m.2)) none := by
      cases aMade cx c.r.o.op c.g.get with
      | none => rfl
      | some m => simp only [ob_some]; cases Nat.ble (Nat.succ c.id) H.next <;> rfl
    rw [e]
    exact Snd.bind (madeS_snd _ _ _) fun m _ => Snd.cb_bool (sameBlkS_snd _ _) (Snd.fail _)
  unfold recHoldsS
  have e : chk (recHolds cx all Hs c) = cb (aWanted all c.g.get c.r.o) (chk (match c.r.k with
      | .loud => true
      | .quiet => ((Hs.take (c.r.hi + 1)).drop c.r.lo).all fun H => match aQuiet cx c.r.o.op c.g.get H with
        | some v => AV.beq v c.v
        | none => false
      | .made => ((Hs.take (c.r.hi + 1)).drop c.r.lo).all fun H => match aMade cx c.r.o.op c.g.get with
        | some m => Nat.ble (Nat.succ c.id) H.next && Blk.same (H.get c.id) m.2
        | none => false)) (some ()) := by
    unfold recHolds
    cases aWanted all c.g.get c.r.o with
    | true => rw [if_pos rfl]; rfl
    | false => rw [if_neg (by simp)]; rfl
  rw [e]
  have drop : ∀ {m : S Unit} {b : Bool} {o : Option Unit}, Snd m (cb b o none) → Snd m o := by
    intro m b o hm q r q' c' h1 h2
    have := hm q r q' c' h1 h2
    cases b with
    | true => exact this
    | false => cases this
  refine drop (wantS_snd ?_ (Snd.pure _))
  cases hk : c.r.k with
  | loud => exact Snd.pure _
  | quiet =>
    simp only
    refine allS_snd (fun H => ?_) _
    unfold oneHoldsS
    rw [hk]; exact quiet H
  | made =>
    simp only
    refine allS_snd (fun H => ?_) _
    unfold oneHoldsS
    rw [hk]; exact made H

def drawS (cx : Cx) (call : CallerS) (n : Nat) (ops : List Oper) (fr : Fr) (H : Heap) : S (Fr × Heap) :=
  S.bind (S.lift (mkPlan cx ops)) fun p => S.bind (drawRunS cx call n ops p.plan fr H) fun y =>
    cb (allQuiet p.rows) (S.pure (y.2.2, y.2.1.getLastD H)) (S.bind (allS (recHoldsS cx ops y.2.1) y.1) fun _ => S.pure (y.2.2, y.2.1.getLastD H))
theorem drawS_snd (cx : Cx) {cs : CallerS} {call : Caller} (h : SndC cs call) (n : Nat) (ops : List Oper) (fr : Fr) (H : Heap) : Snd (drawS cx cs n ops fr H) (aDraw cx call n ops fr H) := by
  refine Snd.bind (Snd.lift _) fun p _ => Snd.bind (drawRunS_snd cx h _ _ _ _ _) fun y _ => ?_
  cases hq : allQuiet p.rows with
  | true => rw [if_pos (by simp)]; exact Snd.pure _
  | false =>
    have e : (if (false || y.1.all (recHolds cx ops y.2.1)) = true then some (y.2.2, y.2.1.getLastD H) else none) = (chk (y.1.all (recHolds cx ops y.2.1))).ob fun _ => some (y.2.2, y.2.1.getLastD H) := by
      cases y.1.all (recHolds cx ops y.2.1) <;> rfl
    rw [e]
    exact Snd.bind (allS_snd (fun c => recHoldsS_snd cx ops y.2.1 c) _) fun _ _ => Snd.pure _

/-! ### Code -/
abbrev RunS := Code → St → S (AX × St)
def regionS (cx : Cx) (call : CallerS) (n : Nat) (ops : List Oper) (draw : Bool) (s : St) : S (AX × St) :=
  S.bind (cb draw (drawS cx call n ops s.fr s.H) (opsS cx call n ops ops s.fr s.H)) fun r => S.pure (.normal, ⟨r.1, s.ds, r.2⟩)
def thenS (run : St → S (AX × St)) (r : AX × St) : S (AX × St) :=
  match r.1 with
  | .normal => run r.2
  | x => S.pure (x, r.2)
def condS (run : RunS) (x : Operand) (a b : Code) (s : St) : S (AX × St) :=
  S.bind (S.lift (ev s.fr.get x)) fun v => S.bind (S.lift v.bool?) fun t => S.test t (run a s) (run b s)
def rangeS (call : CallerS) (fn : FuncId) (around : Option Nat) (n : Nat) (x : Operand) (ps : List Tmp) (asg body : Code) (s : St) : S (AX × St) :=
  S.bind (S.lift (ev s.fr.get x)) fun v =>
    match v with
    | .func g first captured => S.bind (S.lift (cDefers around s)) fun q =>
        S.bind (call (.fn g) (first ++ [AV.yield q.2.2.next] ++ captured) (q.2.2.new (.loop fn n s.fr ps asg body q.1 .ready))) fun r => S.lift (cEnd s.fr q.2.1 q.2.2.next r.2)
    | _ => S.fail
/-- what is known of blocks of code, in the monad. -/
abbrev LoopS := FuncId → Nat → Option (Code × (Nat → St → S (AX × St)))
def code1S (cx : Cx) (sl : LoopS) (call : CallerS) (fn : FuncId) (around : Option Nat) (n : Nat) (run : RunS) : RunS := fun c s =>
  match c with
  | .skip => S.pure (.normal, s)
  | .region _ ops draw => regionS cx call n ops.toList draw s
  | .seq a b => S.bind (run a s) (thenS (run b))
  | .cond x a b => condS run x a b s
  | .block id b => match sl fn id with
    | none => S.bind (run b s) fun r => S.lift (cBlock id r)
    | some m => S.note (.code b m.1) (m.2 n s)
  | .loop b => S.bind (run b s) (thenS (run (.loop b)))
  | .exit id => S.pure (.exit id, s)
  | .ret => S.pure (.ret, s)
  | .rangeFunc x ps asg body => rangeS call fn around n x ps.toList asg body s
  | _ => S.fail
def codeS (cx : Cx) (sl : LoopS) (call : CallerS) (fn : FuncId) (around : Option Nat) (n f : Nat) : RunS :=
  Nat.rec (motive := fun _ => RunS) (fun _ _ => S.fail) (fun _ run => code1S cx sl call fn around n run) f

theorem thenS_snd {run : St → S (AX × St)} {run' : St → Option (AX × St)} (h : ∀ s, Snd (run s) (run' s)) (r : AX × St) : Snd (thenS run r) (cThen run' r) := by
  unfold thenS cThen
  cases r.1 <;> first | exact h _ | exact Snd.pure _
structure LoopsSOK (cx : Cx) (sl : LoopS) : Prop where
  yes : ∀ fn id m, sl fn id = some m → ∃ L, cx.loop fn id = some L ∧ L.code = m.1 ∧ ∀ n s, Snd (m.2 n s) (L.run n s)
  no : ∀ fn id, sl fn id = none → cx.loop fn id = none
theorem codeS_snd (cx : Cx) {sl : LoopS} (hl : LoopsSOK cx sl) {cs : CallerS} {call : Caller} (h : SndC cs call) (fn : FuncId) (around : Option Nat) (n : Nat) : ∀ (f : Nat) (c : Code) (s : St), Snd (codeS cx sl cs fn around n f c s) (aCode cx call fn around n f c s) := by
  intro f
  induction f with
  | zero => intro c s; exact Snd.fail _
  | succ f ih =>
    intro c s
    rw [aCode_succ]
    show Snd (code1S cx sl cs fn around n (codeS cx sl cs fn around n f) c s) _
    unfold code1S aCode1
    cases c <;> (try simp only) <;> try exact Snd.fail _
    case skip => exact Snd.pure _
    case region id ops draw => exact Snd.bind (Snd.cb_bool (drawS_snd cx h _ _ _ _) (opsS_snd cx h _ _ _ _ _)) fun r _ => Snd.pure _
    case seq a b => exact Snd.bind (ih _ _) fun r _ => thenS_snd (fun s => ih _ _) r
    case cond x a b =>
      refine Snd.bind (Snd.lift _) fun v _ => Snd.bind (Snd.lift _) fun t _ => Snd.test (fun e => ?_) (fun e => ?_)
      · rw [e]; exact ih _ _
      · rw [e]; exact ih _ _
    case block id b =>
      cases hm : sl fn id with
      | none =>
        rw [hl.no fn id hm]
        exact Snd.bind (ih _ _) fun r _ => Snd.lift _
      | some m =>
        obtain ⟨L, h1, h2, h3⟩ := hl.yes fn id m hm
        rw [h1]
        refine Snd.note fun hb => ?_
        have hb : b = L.code := by rw [h2]; exact hb
        simp only [hook]
        rw [if_pos hb]
        intro q r q' c' hr hc
        rw [h3 n s q r q' c' hr hc]
    case loop b => exact Snd.bind (ih _ _) fun r _ => thenS_snd (fun s => ih _ _) r
    case exit id => exact Snd.pure _
    case ret => exact Snd.pure _
    case rangeFunc x ps asg body =>
      refine Snd.bind (Snd.lift _) fun v _ => ?_
      cases v <;> (try simp only) <;> try exact Snd.fail _
      exact Snd.bind (Snd.lift _) fun q _ => Snd.bind (h _ _ _) fun r _ => Snd.lift _

/-! ### Calls -/
def resultS (cx : Cx) (fr : Fr) (H : Heap) : ResultVar → S AV
  | .tmp t => S.lift (known (fr.get t))
  | .cell a t => loadS cx t H (fr.get a)
def resultsS (cx : Cx) (fr : Fr) (H : Heap) : List ResultVar → S (List AV)
  | [] => S.pure []
  | r :: rs => S.bind (resultS cx fr H r) fun v => S.bind (resultsS cx fr H rs) fun vs => S.pure (v :: vs)
theorem resultsS_snd (cx : Cx) (fr : Fr) (H : Heap) : ∀ rs, Snd (resultsS cx fr H rs) (aResults cx fr H rs) := by
  intro rs
  induction rs with
  | nil => exact Snd.pure _
  | cons r rs ih =>
    refine Snd.bind ?_ fun v _ => Snd.bind ih fun vs _ => Snd.pure _
    cases r
    · exact Snd.lift _
    · exact loadS_snd _ _ _ _
def endS (cx : Cx) (fn : Func) (r : AX × St) : S (AV × Heap) :=
  match r.1 with
  | .exit _ => S.fail
  | _ => S.bind (S.lift (shut r.2.ds r.2.H)) fun H' => S.bind (resultsS cx r.2.fr H' fn.results.toList) fun vs => S.pure (single vs, H')
theorem endS_snd (cx : Cx) (fn : Func) (r : AX × St) : Snd (endS cx fn r) (callEnd cx fn r) := by
  unfold endS callEnd
  cases r.1
  · exact Snd.bind (Snd.lift _) fun H' _ => Snd.bind (resultsS_snd _ _ _ _) fun vs _ => Snd.pure _
  · exact Snd.fail _
  · exact Snd.bind (Snd.lift _) fun H' _ => Snd.bind (resultsS_snd _ _ _ _) fun vs _ => Snd.pure _
def bodyS (cx : Cx) (sl : LoopS) (call : CallerS) (f : Nat) (g : FuncId) (fn : Func) (args : List AV) (H : Heap) : S (AV × Heap) :=
  S.bind (S.lift fn.body) fun body => cb (Nat.ble args.length fn.ntmps) (S.bind (codeS cx sl call g none fn.ntmps f body ⟨ofList 0 args .nil, [], H⟩) (endS cx fn)) S.fail
theorem bodyS_snd (cx : Cx) {sl : LoopS} (hl : LoopsSOK cx sl) {cs : CallerS} {call : Caller} (h : SndC cs call) (f : Nat) (g : FuncId) (fn : Func) (args : List AV) (H : Heap) : Snd (bodyS cx sl cs f g fn args H) (callBody cx call f g fn args H) := by
  refine Snd.bind (Snd.lift _) fun body _ => ?_
  cases hb : Nat.ble args.length fn.ntmps with
  | false => exact Snd.fail _
  | true =>
    rw [if_pos (Nat.le_of_ble_eq_true hb)]
    exact Snd.bind (codeS_snd cx hl h _ _ _ _ _ _) fun r _ => endS_snd cx fn r

/-- Summaries in the monad: what is said of some functions; of the others nothing. -/
structure SumS where
  fn : FuncId → Option (List AV → Heap → S (AV × Heap))
  loop : LoopS := fun _ _ => none
def callFnS (cx : Cx) (sums : SumS) (call : CallerS) (f : Nat) (g : FuncId) (args : List AV) (H : Heap) : S (AV × Heap) :=
  S.bind (S.lift (cx.fn g)) fun fn => match sums.fn g with
    | some m => m args H
    | none => bodyS cx sums.loop call f g fn args H
/-- The summaries in the monad go with the plain ones; of which it has none there are none. -/
structure SumsOK (cx : Cx) (sums : SumS) : Prop where
  yes : ∀ g m args H, sums.fn g = some m → Snd (m args H) (cx.sum g args H)
  no : ∀ g args H, sums.fn g = none → cx.sum g args H = none
  loops : LoopsSOK cx sums.loop

def roundEndS (l : Nat) (q : AX × St) : S (AV × Heap) := S.lift (roundEnd l q)
def roundBodyS (cx : Cx) (sl : LoopS) (call : CallerS) (f : Nat) (l fn n : Nat) (body : Code) (r : AX × St) : S (AV × Heap) :=
  cb (r.1.isNormal && isReady r.2.H l) (S.bind (codeS cx sl call fn (some l) n f body ⟨r.2.fr, r.2.ds, r.2.H.put l (Blk.setLS .busy (r.2.H.get l))⟩) (roundEndS l)) S.fail
def yieldS (cx : Cx) (sl : LoopS) (call : CallerS) (f : Nat) (l : Nat) (args : List AV) (H : Heap) : S (AV × Heap) :=
  match H.get l with
  | .loop fn n fr ps asg body d .ready => S.bind (S.lift (putAll n ps args fr)) fun fr' =>
      S.bind (codeS cx sl call fn (some l) n f asg ⟨fr', [], H⟩) (roundBodyS cx sl call f l fn n body)
  | _ => S.fail
theorem yieldS_snd (cx : Cx) {sl : LoopS} (hl : LoopsSOK cx sl) {cs : CallerS} {call : Caller} (h : SndC cs call) (f : Nat) (l : Nat) (args : List AV) (H : Heap) : Snd (yieldS cx sl cs f l args H) (callYield cx call f l args H) := by
  unfold yieldS callYield
  cases H.get l <;> (try simp only) <;> try exact Snd.fail _
  rename_i fn n fr ps asg body d st
  cases st <;> (try simp only) <;> try exact Snd.fail _
  refine Snd.bind (Snd.lift _) fun fr' _ => Snd.bind (codeS_snd cx hl h _ _ _ _ _ _) fun r _ => Snd.cb_bool (Snd.bind (codeS_snd cx hl h _ _ _ _ _ _) fun q _ => Snd.lift _) (Snd.fail _)

def call1S (cx : Cx) (sums : SumS) (call : CallerS) (f : Nat) (t : Tgt) (args : List AV) (H : Heap) : S (AV × Heap) :=
  match t with
  | .fn g => callFnS cx sums call f g args H
  | .yield l => yieldS cx sums.loop call f l args H
def callS (cx : Cx) (sums : SumS) (f : Nat) : CallerS :=
  Nat.rec (motive := fun _ => CallerS) (fun _ _ _ => S.fail) (fun f call => call1S cx sums call f) f

/-- **The symbolic machine is sound for the abstract one.** -/
theorem callS_snd (cx : Cx) {sums : SumS} (hs : SumsOK cx sums) : ∀ f, SndC (callS cx sums f) (aCall cx f) := by
  intro f
  induction f with
  | zero => intro t args H; exact Snd.fail _
  | succ f ih =>
    intro t args H
    rw [aCall_succ]
    show Snd (call1S cx sums (callS cx sums f) f t args H) (aCall1 cx (aCall cx f) f t args H)
    cases t with
    | fn g =>
      show Snd (callFnS cx sums (callS cx sums f) f g args H) (callFn cx (aCall cx f) f g args H)
      unfold callFnS callFn
      refine Snd.bind (Snd.lift _) fun fn _ => ?_
      cases hg : sums.fn g with
      | none => rw [hs.no g args H hg]; exact bodyS_snd cx hs.loops ih _ _ _ _ _
      | some m =>
        have := hs.yes g m args H hg
        intro q r q' c h1 h2
        rw [this q r q' c h1 h2]
    | yield l => exact yieldS_snd cx hs.loops ih _ _ _ _

/-- What a symbolic run says. -/
theorem aCall_of {cx : Cx} {sums : SumS} (hs : SumsOK cx sums) {f : Nat} {t : Tgt} {args : List AV} {H H' : Heap} {v : AV} {q q' : List Ans} {c : List Cnd}
    (h : callS cx sums f t args H q = some ((v, H'), q', c)) (hc : HoldsL c) : aCall cx f t args H = some (v, H') := callS_snd cx hs f t args H q (v, H') q' c h hc
end Go.Ab

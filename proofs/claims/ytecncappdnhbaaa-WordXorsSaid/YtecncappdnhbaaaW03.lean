/- Rows of bytes: plain laws. -/
import Derived.Test.YtecncappdnhbaaaW02
set_option autoImplicit false
set_option linter.unusedVariables false
set_option linter.unusedSimpArgs false
noncomputable section
namespace Go.Ab
namespace M
/-- a value that a run does not look into. -/
def kept {α : Type} (a : α) : α := Classical.choose (⟨a, rfl⟩ : ∃ x, x = a)
theorem kept_eq {α : Type} (a : α) : kept a = a := Classical.choose_spec (⟨a, rfl⟩ : ∃ x, x = a)
/-- is a cell a byte? -/
def u8 : AV → Bool
  | .int k n => decide (k = .u8) && ileB 0 n && iltB n 256
  | _ => false
def u8L (l : List AV) : Bool := List.rec (motive := fun _ => Bool) true (fun v _ r => cb (u8 v) r false) l
def byte (v : AV) : UInt8 := UInt8.ofNat v.intOf.toNat
def bytesL (l : List AV) : List UInt8 := l.map byte
/-- a number as so many bytes, the highest first. -/
def putB (w x : Nat) : List UInt8 := (List.range w).map fun i => UInt8.ofNat (x / 256 ^ (w - 1 - i))
/-- the number that bytes write. -/
def getN (l : List UInt8) : Nat := l.foldl (fun x b => x * 256 + b.toNat) 0
end M
open M
theorem u8_iff {v : AV} : M.u8 v = true ↔ ∃ b : UInt8, v = .int .u8 b.toNat := by
  constructor
  · intro h
    cases v <;> simp only [M.u8] at h <;> try (cases h; done)
    rename_i k n
    simp only [Bool.and_eq_true, decide_eq_true_eq, ileB_eq, iltB_eq] at h
    obtain ⟨⟨rfl, h1⟩, h2⟩ := h
    refine ⟨UInt8.ofNat n.toNat, ?_⟩
    congr 1
    have : (UInt8.ofNat n.toNat).toNat = n.toNat % 256 := by simp
    rw [this]; omega
  · rintro ⟨b, rfl⟩
    have := b.toNat_lt
    simp only [M.u8, Bool.and_eq_true, decide_eq_true_eq, ileB_eq, iltB_eq]
    refine ⟨⟨trivial, by omega⟩, by omega⟩
theorem u8L_nil : u8L [] = true := rfl
theorem u8L_cons (v : AV) (l : List AV) : u8L (v :: l) = (M.u8 v && u8L l) := by
  show cb (M.u8 v) (u8L l) false = _
  cases M.u8 v <;> rfl
theorem u8L_append (a b : List AV) : u8L (a ++ b) = (u8L a && u8L b) := by
  induction a with
  | nil => simp [u8L_nil]
  | cons v a ih => rw [List.cons_append, u8L_cons, u8L_cons, ih, Bool.and_assoc]
theorem ofBytes_nil : ofBytes [] = [] := rfl
theorem ofBytes_cons (b : UInt8) (l : List UInt8) : ofBytes (b :: l) = .int .u8 b.toNat :: ofBytes l := rfl
theorem ofBytes_append (a b : List UInt8) : ofBytes (a ++ b) = ofBytes a ++ ofBytes b := by simp [ofBytes]
theorem ofBytes_length (l : List UInt8) : (ofBytes l).length = l.length := by simp [ofBytes]
theorem u8L_ofBytes (l : List UInt8) : u8L (ofBytes l) = true := by
  induction l with
  | nil => rfl
  | cons b l ih => rw [ofBytes_cons, u8L_cons, ih, Bool.and_true]; exact u8_iff.2 ⟨b, rfl⟩
theorem u8L_iff {cs : List AV} : u8L cs = true ↔ ∃ l, cs = ofBytes l := by
  constructor
  · intro h
    induction cs with
    | nil => exact ⟨[], rfl⟩
    | cons v cs ih =>
      rw [u8L_cons, Bool.and_eq_true] at h
      obtain ⟨b, rfl⟩ := u8_iff.1 h.1
      obtain ⟨l, rfl⟩ := ih h.2
      exact ⟨b :: l, rfl⟩
  · rintro ⟨l, rfl⟩; exact u8L_ofBytes l
theorem byte_int (b : UInt8) : M.byte (.int .u8 b.toNat) = b := by
  show UInt8.ofNat ((b.toNat : Int).toNat) = b
  simp
theorem bytesL_ofBytes (l : List UInt8) : bytesL (ofBytes l) = l := by
  induction l with
  | nil => rfl
  | cons b l ih =>
    show M.byte _ :: bytesL (ofBytes l) = _
    rw [ih, byte_int]
theorem bytesL_append (a b : List AV) : bytesL (a ++ b) = bytesL a ++ bytesL b := by simp [bytesL]
theorem bytesOf_ofBytes (l : List UInt8) : bytesOf (ofBytes l) = some l := by
  induction l with
  | nil => rfl
  | cons b l ih =>
    rw [ofBytes_cons]
    show ((byteOf (.int .u8 b.toNat)).ob fun c => (bytesOf (ofBytes l)).ob fun r => some (c :: r)) = _
    rw [ih]
    show some (UInt8.ofNat ((b.toNat : Int).toNat) :: l) = _
    simp
theorem ofBytes_plain (nf : Bool) (l : List UInt8) : AV.okL nf (fun _ => false) (ofBytes l) = true := by
  induction l with
  | nil => rfl
  | cons b l ih => rw [ofBytes_cons]; simp only [AV.okL, AV.ok, Bool.true_and]; exact ih
theorem ofBytes_plainL (l : List UInt8) : AV.plainL (ofBytes l) = true := by
  induction l with
  | nil => rfl
  | cons b l ih => rw [ofBytes_cons]; simp only [AV.plainL, AV.plain, Bool.true_and]; exact ih
theorem ofBytes_cells (l : List UInt8) : (ofBytes l).all AV.isCell = true := by
  induction l with
  | nil => rfl
  | cons b l ih => rw [ofBytes_cons, List.all_cons, ih]; rfl
theorem ofBytes_take (l : List UInt8) (n : Nat) : (ofBytes l).take n = ofBytes (l.take n) := by simp [ofBytes, List.map_take]
theorem ofBytes_drop (l : List UInt8) (n : Nat) : (ofBytes l).drop n = ofBytes (l.drop n) := by simp [ofBytes, List.map_drop]
theorem rowCut_ofBytes (l : List UInt8) (o n : Nat) : rowCut (ofBytes l) o n = ofBytes ((l.drop o).take n) := by
  unfold rowCut; rw [ofBytes_drop, ofBytes_take]
theorem listAt_ofBytes (l : List UInt8) (i : Nat) (h : i < l.length) : listAt (ofBytes l) i = some (.int .u8 (l[i]).toNat) := by
  rw [listAt_eq]; simp [ofBytes, List.getElem?_map, h]
theorem putB_length (w x : Nat) : (putB w x).length = w := by simp [putB]
theorem getN_append (a : List UInt8) (b : UInt8) : getN (a ++ [b]) = getN a * 256 + b.toNat := by simp [getN]
theorem rev_ind {α : Type} {P : List α → Prop} (h0 : P []) (h : ∀ l a, P l → P (l ++ [a])) (l : List α) : P l := by
  have key : ∀ m : List α, P m.reverse := by
    intro m
    induction m with
    | nil => exact h0
    | cons a m ih => rw [List.reverse_cons]; exact h _ _ ih
  have := key l.reverse
  rwa [List.reverse_reverse] at this
theorem getN_lt (l : List UInt8) : getN l < 256 ^ l.length := by
  induction l using rev_ind with
  | h0 => simp [getN]
  | h l b ih =>
    rw [getN_append, List.length_append, List.length_singleton, Nat.pow_succ]
    have := b.toNat_lt
    have : getN l + 1 ≤ 256 ^ l.length := ih
    calc getN l * 256 + b.toNat < (getN l + 1) * 256 := by omega
      _ ≤ 256 ^ l.length * 256 := Nat.mul_le_mul_right _ this
theorem putB_succ (w x : Nat) : putB (w + 1) x = putB w (x / 256) ++ [UInt8.ofNat x] := by
  unfold putB
  rw [List.range_succ, List.map_append]
  congr 1
  · apply List.map_congr_left
    intro i hi
    have hi : i < w := List.mem_range.1 hi
    congr 1
    rw [show w + 1 - 1 - i = (w - 1 - i) + 1 by omega, Nat.pow_succ, Nat.mul_comm, Nat.div_div_eq_div_mul]
  · simp
theorem getN_putB (w x : Nat) (h : x < 256 ^ w) : getN (putB w x) = x := by
  induction w generalizing x with
  | zero => simp at h; subst h; rfl
  | succ w ih =>
    rw [putB_succ, getN_append, ih (x / 256) (by rw [Nat.pow_succ] at h; omega)]
    have : (UInt8.ofNat x).toNat = x % 256 := by simp
    rw [this]; omega
theorem putB_getN (l : List UInt8) : putB l.length (getN l) = l := by
  induction l using rev_ind with
  | h0 => rfl
  | h l b ih =>
    rw [List.length_append, List.length_singleton, putB_succ, getN_append]
    have hb := b.toNat_lt
    have e : (getN l * 256 + b.toNat) / 256 = getN l := by omega
    rw [e, ih]
    congr 2
    apply UInt8.toNat_inj.1
    have : (UInt8.ofNat (getN l * 256 + b.toNat)).toNat = (getN l * 256 + b.toNat) % 256 := by simp
    rw [this]; omega
end Go.Ab

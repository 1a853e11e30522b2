/- The abstract machine's values and heap against the model's: what it is that they go together. -/
import Derived.Test.YtecncappdnhbaaaAb
import Derived.WalkKit
set_option autoImplicit false
set_option linter.unusedVariables false
namespace Go.Ab
open Go.RowKit

/-! ### The trie -/
theorem nbeq (a b : Nat) : Nat.beq a b = decide (a = b) := by
  cases h : Nat.beq a b
  · simp [Nat.ne_of_beq_eq_false h]
  · simp [Nat.eq_of_beq_eq_true h]
theorem nble (a b : Nat) : Nat.ble a b = decide (a ≤ b) := by
  by_cases h : a ≤ b
  · simp [h, Nat.ble_eq]
  · have : ¬ Nat.ble a b = true := fun e => h (Nat.le_of_ble_eq_true e)
    simp [h, this]
theorem nmod (a b : Nat) : Nat.mod a b = a % b := rfl
theorem ndiv (a b : Nat) : Nat.div a b = a / b := rfl
theorem npred (a : Nat) : Nat.pred a = a - 1 := rfl

theorem T.get_nil {α : Type} (d : α) (n : Nat) : T.get d T.nil n = d := rfl
theorem T.get_node {α : Type} (d v : α) (l r : T α) (n : Nat) : T.get d (.node v l r) n = if n = 0 then v else if n % 2 = 1 then T.get d l (n / 2) else T.get d r (n / 2 - 1) := by
  show cb (Nat.beq n 0) v (cb (Nat.beq (Nat.mod n 2) 1) (T.get d l (Nat.div n 2)) (T.get d r (Nat.pred (Nat.div n 2)))) = _
  simp only [cb_eq, nbeq, nmod, ndiv, npred, decide_eq_true_eq]
theorem T.path_zero {α : Type} (d x : α) (n : Nat) : T.path d x 0 n = T.nil := rfl
theorem T.path_succ {α : Type} (d x : α) (f n : Nat) : T.path d x (f + 1) n = if n = 0 then .node x .nil .nil else if n % 2 = 1 then .node d (T.path d x f (n / 2)) .nil else .node d .nil (T.path d x f (n / 2 - 1)) := by
  show cb (Nat.beq n 0) (T.node x .nil .nil) (cb (Nat.beq (Nat.mod n 2) 1) (T.node d (T.path d x f (Nat.div n 2)) .nil) (T.node d .nil (T.path d x f (Nat.pred (Nat.div n 2))))) = _
  simp only [cb_eq, nbeq, nmod, ndiv, npred, decide_eq_true_eq]
theorem T.put_nil {α : Type} (d x : α) (f n : Nat) : T.put d x T.nil f n = T.path d x f n := rfl
theorem T.put_node {α : Type} (d x v : α) (l r : T α) (f n : Nat) : T.put d x (.node v l r) f n = if n = 0 then .node x l r else if n % 2 = 1 then .node v (T.put d x l (f - 1) (n / 2)) r else .node v l (T.put d x r (f - 1) (n / 2 - 1)) := by
  show cb (Nat.beq n 0) (T.node x l r) (cb (Nat.beq (Nat.mod n 2) 1) (T.node v (T.put d x l (Nat.pred f) (Nat.div n 2)) r) (T.node v l (T.put d x r (Nat.pred f) (Nat.pred (Nat.div n 2))))) = _
  simp only [cb_eq, nbeq, nmod, ndiv, npred, decide_eq_true_eq]

theorem T.get_path {α : Type} (d x : α) : ∀ (f n m : Nat), n < f → T.get d (T.path d x f n) m = if m = n then x else d := by
  intro f
  induction f with
  | zero => intro n m h; omega
  | succ f ih =>
    intro n m h
    rw [T.path_succ]
    by_cases h0 : n = 0
    · subst h0
      simp only [if_true, T.get_node, T.get_nil, ite_self]
    · rw [if_neg h0]
      by_cases h1 : n % 2 = 1
      · rw [if_pos h1, T.get_node, T.get_nil, ih _ _ (by omega)]
        by_cases hm : m = n
        · subst hm; rw [if_neg h0, if_pos h1, if_pos rfl, if_pos rfl]
        · rw [if_neg hm]
          split
          · rfl
          · split
            · rw [if_neg (by omega)]
            · rfl
      · rw [if_neg h1, T.get_node, T.get_nil, ih _ _ (by omega)]
        by_cases hm : m = n
        · subst hm; rw [if_neg h0, if_neg h1, if_pos rfl, if_pos rfl]
        · rw [if_neg hm]
          split
          · rfl
          · split
            · rfl
            · rw [if_neg (by omega)]

theorem T.get_put {α : Type} (d x : α) (t : T α) : ∀ (f n m : Nat), n < f → T.get d (T.put d x t f n) m = if m = n then x else T.get d t m := by
  induction t with
  | nil => intro f n m h; rw [T.put_nil, T.get_path _ _ _ _ _ h, T.get_nil]
  | node v l r ihl ihr =>
    intro f n m h
    rw [T.put_node]
    by_cases h0 : n = 0
    · subst h0
      simp only [if_true, T.get_node]
      split <;> rfl
    · rw [if_neg h0]
      by_cases h1 : n % 2 = 1
      · rw [if_pos h1, T.get_node, T.get_node, ihl _ _ _ (by omega)]
        by_cases hm : m = n
        · subst hm; rw [if_neg h0, if_pos h1, if_pos rfl, if_pos rfl]
        · rw [if_neg hm]
          split
          · rfl
          · split
            · rw [if_neg (by omega)]
            · rfl
      · rw [if_neg h1, T.get_node, T.get_node, ihr _ _ _ (by omega)]
        by_cases hm : m = n
        · subst hm; rw [if_neg h0, if_neg h1, if_pos rfl, if_pos rfl]
        · rw [if_neg hm]
          split
          · rfl
          · split
            · rfl
            · rw [if_neg (by omega)]

theorem T.get_set {α : Type} (d : α) (t : T α) (n : Nat) (x : α) (m : Nat) : T.get d (T.set d t n x) m = if m = n then x else T.get d t m :=
  T.get_put d x t (n + 1) n m (by omega)

theorem Heap.get_put (H : Heap) (b : Nat) (x : Blk) (c : Nat) : (H.put b x).get c = if c = b then x else H.get c := T.get_set _ _ _ _ _
theorem Heap.get_new (H : Heap) (x : Blk) (c : Nat) : (H.new x).get c = if c = H.next then x else H.get c := T.get_set _ _ _ _ _
@[simp] theorem Heap.next_put (H : Heap) (b : Nat) (x : Blk) : (H.put b x).next = H.next := rfl
@[simp] theorem Heap.next_new (H : Heap) (x : Blk) : (H.new x).next = H.next + 1 := rfl

/-! ### Lists -/
theorem listAt_eq {α : Type} (l : List α) (n : Nat) : listAt l n = l[n]? := by
  induction l generalizing n with
  | nil => rfl
  | cons a l ih =>
    show cb (Nat.beq n 0) (some a) (listAt l (Nat.pred n)) = _
    rw [cb_eq, nbeq]
    rcases Nat.eq_zero_or_pos n with h | h
    · subst h; rfl
    · obtain ⟨k, rfl⟩ : ∃ k, n = k + 1 := ⟨n - 1, by omega⟩
      simp [ih]

/-! ### Values -/
structure BI where
  blk : Nat
  off : Nat
  m : Nat
  esz : Nat
  deriving Inhabited
/-- Where the blocks are; what is frozen. -/
structure Inj where
  map : Nat → Option BI
  fz : Nat → Option (Array Value)
  lo : Nat      -- what is frozen later on stands from there on
instance : CoeFun Inj (fun _ => Nat → Option BI) := ⟨Inj.map⟩
def Inj.empty : Inj := ⟨fun _ => none, fun _ => none, 0⟩

mutual
inductive RelV (μ : Inj) : AV → Value → Prop
  | undef : RelV μ .undef Go.undef
  | any {x : Value} : RelV μ .any x
  | int (k : IntKind) (n : Int) : RelV μ (.int k n) (.int k n)
  | bool (b : Bool) : RelV μ (.bool b) (.bool b)
  | str (s : List UInt8) : RelV μ (.str s) (.string ⟨s.toArray⟩)
  | ptrN : RelV μ (.ptr none) (.pointer none)
  | ptr {b o : Nat} {i : BI} : μ b = some i → RelV μ (.ptr (some (b, o))) (.pointer (some ⟨i.blk, i.off + o, none⟩))
  | sliceN : RelV μ (.slice none 0 (some 0)) (.slice none 0 0)
  | slice {b o len c : Nat} {i : BI} {a : Addr} : μ b = some i → len ≤ c → (c ≠ 0 → a = ⟨i.blk, i.off + o, none⟩) → RelV μ (.slice (some (b, o)) len (some c)) (.slice (some a) len c)
  | sliceU {b o len c : Nat} {i : BI} {a : Addr} : μ b = some i → len ≤ c → (c ≠ 0 → a = ⟨i.blk, i.off + o, none⟩) → (o = 0 → c * i.esz ≤ i.m) → RelV μ (.slice (some (b, o)) len none) (.slice (some a) len c)
  | mapN : RelV μ (.map none) (.map none)
  | map {r : Nat} {i : BI} : μ r = some i → RelV μ (.map (some r)) (.map (some i.blk))
  | func {f : FuncId} {x y : List AV} {xs ys : List Value} : RelL μ x xs → RelL μ y ys → RelV μ (.func f x y) (.func (.func f) xs.toArray ys.toArray)
  | yield {l : Nat} {i : BI} : μ l = some i → RelV μ (.yield l) (.func (.yield i.blk) #[] #[])
  | nilFunc : RelV μ .nilFunc .nilFunc
  | nilIface : RelV μ .nilIface .nilIface
  | iface {t : TypeId} {v : AV} {x : Value} : RelV μ v x → RelV μ (.iface t v) (.iface t x)
  | agg {cs : List AV} {xs : List Value} : RelL μ cs xs → RelV μ (.agg cs) (.agg xs.toArray)
  | tuple {cs : List AV} {xs : List Value} : RelL μ cs xs → RelV μ (.tuple cs) (.tuple xs.toArray)
  | fslN : RelV μ (.fsl true 0 []) (.slice none 0 0)
  | fsl {len cap : Nat} {cs : List AV} {a : Addr} {arr : Array Value} {vs : List Value} : (cs ≠ [] → a.spot = none ∧ μ.fz a.block = some arr) → RelL μ cs vs → (∀ k x, vs[k]? = some x → arr[a.off + k]? = some x) → len ≤ cap →
      RelV μ (.fsl false len cs) (.slice (some a) len cap)
  | fptr {cs : List AV} {a : Addr} {arr : Array Value} {vs : List Value} : (cs ≠ [] → a.spot = none ∧ μ.fz a.block = some arr) → RelL μ cs vs → (∀ k x, vs[k]? = some x → arr[a.off + k]? = some x) →
      RelV μ (.fptr cs) (.pointer (some a))
inductive RelL (μ : Inj) : List AV → List Value → Prop
  | nil : RelL μ [] []
  | cons {v : AV} {x : Value} {vs : List AV} {xs : List Value} : RelV μ v x → RelL μ vs xs → RelL μ (v :: vs) (x :: xs)
end

structure Ext (μ μ' : Inj) : Prop where
  map : ∀ b i, μ b = some i → μ' b = some i
  fz : ∀ k arr, μ.fz k = some arr → μ'.fz k = some arr
instance {μ μ' : Inj} : CoeFun (Ext μ μ') (fun _ => ∀ b i, μ b = some i → μ' b = some i) := ⟨Ext.map⟩
theorem Ext.refl (μ : Inj) : Ext μ μ := ⟨fun _ _ h => h, fun _ _ h => h⟩
theorem Ext.trans {a b c : Inj} (h : Ext a b) (k : Ext b c) : Ext a c := ⟨fun _ _ e => k.map _ _ (h.map _ _ e), fun _ _ e => k.fz _ _ (h.fz _ _ e)⟩

mutual
theorem RelV.mono {μ μ' : Inj} (h : Ext μ μ') {v : AV} {x : Value} (r : RelV μ v x) : RelV μ' v x := by
  cases r with
  | undef => exact .undef
  | any => exact .any
  | int k n => exact .int k n
  | bool b => exact .bool b
  | str s => exact .str s
  | ptrN => exact .ptrN
  | ptr e => exact .ptr (h _ _ e)
  | sliceN => exact .sliceN
  | slice e a b => exact .slice (h _ _ e) a b
  | sliceU e a b c => exact .sliceU (h _ _ e) a b c
  | mapN => exact .mapN
  | map e => exact .map (h _ _ e)
  | func a b => exact .func (RelL.mono h a) (RelL.mono h b)
  | yield e => exact .yield (h _ _ e)
  | nilFunc => exact .nilFunc
  | nilIface => exact .nilIface
  | iface a => exact .iface (RelV.mono h a)
  | agg a => exact .agg (RelL.mono h a)
  | tuple a => exact .tuple (RelL.mono h a)
  | fslN => exact .fslN
  | fsl a b c d => exact .fsl (fun hn => ⟨(a hn).1, h.fz _ _ (a hn).2⟩) (RelL.mono h b) c d
  | fptr a b c => exact .fptr (fun hn => ⟨(a hn).1, h.fz _ _ (a hn).2⟩) (RelL.mono h b) c
theorem RelL.mono {μ μ' : Inj} (h : Ext μ μ') {v : List AV} {x : List Value} (r : RelL μ v x) : RelL μ' v x := by
  cases r with
  | nil => exact .nil
  | cons a b => exact .cons (RelV.mono h a) (RelL.mono h b)
end

section lists
variable {μ : Inj}
theorem RelL.length {vs : List AV} {xs : List Value} (h : RelL μ vs xs) : xs.length = vs.length := by
  induction vs generalizing xs with
  | nil => cases h; rfl
  | cons v vs ih => cases h with | cons a b => simp [ih b]
theorem RelL.get {vs : List AV} {xs : List Value} (h : RelL μ vs xs) (k : Nat) (v : AV) (hv : vs[k]? = some v) : ∃ x, xs[k]? = some x ∧ RelV μ v x := by
  induction vs generalizing xs k with
  | nil => simp at hv
  | cons w vs ih =>
    cases h with
    | cons a b =>
      cases k with
      | zero => simp at hv; subst hv; exact ⟨_, rfl, a⟩
      | succ k => simp at hv; obtain ⟨x, e, r⟩ := ih b k hv; exact ⟨x, by simpa using e, r⟩
theorem RelL.of_get {vs : List AV} {xs : List Value} (hl : xs.length = vs.length) (h : ∀ (k : Nat) (v : AV) (x : Value), vs[k]? = some v → xs[k]? = some x → RelV μ v x) : RelL μ vs xs := by
  induction vs generalizing xs with
  | nil => cases xs with | nil => exact .nil | cons _ _ => simp at hl
  | cons v vs ih =>
    cases xs with
    | nil => simp at hl
    | cons x xs => exact .cons (h 0 v x rfl rfl) (ih (by simpa using hl) fun k v x hv hx => h (k + 1) v x (by simpa using hv) (by simpa using hx))
theorem RelL.append {vs ws : List AV} {xs ys : List Value} (h : RelL μ vs xs) (k : RelL μ ws ys) : RelL μ (vs ++ ws) (xs ++ ys) := by
  induction vs generalizing xs with
  | nil => cases h; exact k
  | cons v vs ih => cases h with | cons a b => exact .cons a (ih b)
theorem RelL.take {vs : List AV} {xs : List Value} (h : RelL μ vs xs) (n : Nat) : RelL μ (vs.take n) (xs.take n) := by
  induction vs generalizing xs n with
  | nil => cases h; simp; exact .nil
  | cons v vs ih =>
    cases h with
    | cons a b => cases n with
      | zero => simp; exact .nil
      | succ n => simp; exact .cons a (ih b n)
theorem RelL.drop {vs : List AV} {xs : List Value} (h : RelL μ vs xs) (n : Nat) : RelL μ (vs.drop n) (xs.drop n) := by
  induction vs generalizing xs n with
  | nil => cases h; simp; exact .nil
  | cons v vs ih =>
    cases h with
    | cons a b => cases n with
      | zero => simp; exact .cons a b
      | succ n => simp; exact ih b n
theorem RelL.rev {vs : List AV} {xs : List Value} (h : RelL μ vs xs) : RelL μ vs.reverse xs.reverse := by
  induction vs generalizing xs with
  | nil => cases h; exact .nil
  | cons v vs ih => cases h with | cons a b => simp; exact (ih b).append (.cons a .nil)
end lists

/-- A value's cells. -/
theorem RelV.cells {μ : Inj} {v : AV} {x : Value} (h : RelV μ v x) (hn : v ≠ .any) : RelL μ v.cells x.cells.toList := by
  cases h with
  | any => exact absurd rfl hn
  | undef => exact .cons .undef .nil
  | agg a => simpa [AV.cells, Value.cells] using a
  | tuple a => exact .cons (.tuple a) .nil
  | int k n => exact .cons (.int k n) .nil
  | bool b => exact .cons (.bool b) .nil
  | str s => exact .cons (.str s) .nil
  | ptrN => exact .cons .ptrN .nil
  | ptr e => exact .cons (.ptr e) .nil
  | sliceN => exact .cons .sliceN .nil
  | slice e a b => exact .cons (.slice e a b) .nil
  | sliceU e a b c => exact .cons (.sliceU e a b c) .nil
  | mapN => exact .cons .mapN .nil
  | map e => exact .cons (.map e) .nil
  | func a b => exact .cons (.func a b) .nil
  | yield e => exact .cons (.yield e) .nil
  | nilFunc => exact .cons .nilFunc .nil
  | nilIface => exact .cons .nilIface .nil
  | iface a => exact .cons (.iface a) .nil
  | fslN => exact .cons .fslN .nil
  | fsl a b c d => exact .cons (.fsl a b c d) .nil
  | fptr a b c => exact .cons (.fptr a b c) .nil

theorem RelV.oneCell {μ : Inj} {v : AV} {x : Value} (h : RelV μ v x) (hc : v.isCell = true) : x.oneCell' = true := by
  cases h <;> first | rfl | simp [AV.isCell] at hc

/-! ### The heap -/
def Blk.writes : Blk → Bool
  | .dead => false
  | .cells own _ _ _ => own
  | _ => true
def Blk.live : Blk → Bool
  | .dead => false
  | _ => true

inductive RelE (μ : Inj) : List (AV × AV) → List MapEntry → Prop
  | nil : RelE μ [] []
  | cons {k v : AV} {e : MapEntry} {es : List (AV × AV)} {fs : List MapEntry} : RelV μ k e.key → RelV μ v e.val → RelE μ es fs → RelE μ ((k, v) :: es) (e :: fs)

def LS.fit : LS → LoopState → Option Code → Prop
  | .ready, .ready, none => True
  | .busy, .busy, _ => True
  | .done j, .done, some c => c = j
  | _, _, _ => False

def RelF (μ : Inj) (g : Env) (tmps : Array Value) : Prop := ∀ t, RelV μ (g t) (tmps.getD t Go.undef)

/-- may the cells of a row be written? -/
def freeRow (n : Nat) (fr : Nat × Nat) : Prop := fr.1 = fr.2 ∨ n ≤ fr.1
theorem freeRow.at {n : Nat} {fr : Nat × Nat} (h : freeRow n fr) {o : Nat} (ho : o < n) : (fr.1 ≤ o && o < fr.2) = false := by
  rcases h with h | h
  · by_cases h1 : fr.1 ≤ o
    · have : ¬ o < fr.2 := by omega
      simp [this]
    · simp [h1]
  · have : ¬ fr.1 ≤ o := by omega
    simp [this]

/-- what is kept: the blocks of a set, and all that isn't the heap. -/
structure Keep (p : Nat → Prop) (w w' : World) : Prop where
  os : w'.os = w.os
  tape : w'.tape = w.tape
  output : w'.output = w.output
  size : w.heap.size ≤ w'.heap.size
  block : ∀ k, p k → w'.heap[k]? = w.heap[k]?
theorem Keep.refl (p : Nat → Prop) (w : World) : Keep p w w := ⟨rfl, rfl, rfl, Nat.le_refl _, fun _ _ => rfl⟩
theorem Keep.trans {p : Nat → Prop} {a b c : World} (h : Keep p a b) (k : Keep p b c) : Keep p a c :=
  ⟨k.os.trans h.os, k.tape.trans h.tape, k.output.trans h.output, Nat.le_trans h.size k.size, fun i hi => (k.block i hi).trans (h.block i hi)⟩
theorem Keep.mono {p q : Nat → Prop} {a b : World} (h : Keep q a b) (hpq : ∀ k, p k → q k) : Keep p a b := ⟨h.os, h.tape, h.output, h.size, fun k hk => h.block k (hpq k hk)⟩
theorem Keep.of {B : Nat} {a b : World} (h : Below B a b) : Keep (fun k => k < B) a b := ⟨h.os, h.tape, h.output, h.size, h.block⟩
theorem Keep.below {B : Nat} {a b : World} (h : Keep (fun k => k < B) a b) : Below B a b := ⟨h.os, h.tape, h.output, h.size, h.block⟩
/-- all that was there. -/
def Old (w : World) : Nat → Prop := fun k => k < w.heap.size
theorem Keep.alloc {p : Nat → Prop} {w0 w : World} (h : Keep p w0 w) (hp : ∀ k, p k → k < w.heap.size) (o : Obj) : Keep p w0 (w.alloc o) :=
  h.trans ⟨rfl, rfl, rfl, by simp, fun k hk => Below.heap_alloc w o _ (hp k hk)⟩

def RelB (sz : TypeId → Nat) (base : Nat → Prop) (μ : Inj) (i : BI) (w : World) : Blk → Prop
  | .dead => True
  | .cells own e len cs => len = cs.length ∧ ∃ (arr : Array Value) (e' : TypeId) (fr : Nat × Nat), w.heap[i.blk]? = some (.cells arr e' fr) ∧ (∀ (k : Nat) (v : AV), cs[k]? = some v → ∃ x, arr[i.off + k]? = some x ∧ RelV μ v x) ∧
      (own = true → ¬ base i.blk ∧ i.off = 0 ∧ e' = e ∧ i.m = arr.size ∧ i.esz = sz e ∧ freeRow arr.size fr)
  | .entries es => ¬ base i.blk ∧ ∃ (fs : Array MapEntry) (clock : Nat), w.heap[i.blk]? = some (.map fs clock) ∧ RelE μ es fs.toList
  | .loop fn n fr ps asg body d st => ¬ base i.blk ∧ ∃ (tmps : Array Value) (di : BI) (ls : LoopState) (pe : Option Code) (fn' : FuncId),
      w.heap[i.blk]? = some (.loop { state := ls, pending := pe, fn := fn', tmps := tmps, params := ps.toArray, assign := asg, body := body, defers := di.blk }) ∧
      μ d = some di ∧ tmps.size = n ∧ RelF μ fr.get tmps ∧ st.fit ls pe
  | .dfr => ¬ base i.blk ∧ w.heap[i.blk]? = some (.deferred (some []))

structure RelW (sz : TypeId → Nat) (base : Nat → Prop) (w0 : World) (μ : Inj) (H : Heap) (w : World) : Prop where
  below : Keep base w0 w
  baseLe : ∀ k, base k → k < w.heap.size
  fresh : ∀ b i, μ b = some i → b < H.next
  blk : ∀ b i, μ b = some i → RelB sz base μ i w (H.get b)
  apart : ∀ b b' i i', μ b = some i → μ b' = some i' → b ≠ b' → (H.get b).writes = true → (H.get b').live = true → i.blk ≠ i'.blk
  froz : ∀ k arr, μ.fz k = some arr → ∃ e fr, w.heap[k]? = some (.cells arr e fr)
  frozApart : ∀ b i k arr, μ b = some i → (H.get b).writes = true → μ.fz k = some arr → k ≠ i.blk
  lo : μ.lo ≤ w.heap.size

/-- the injection goes on: what stands below a number stays as it is, mapped or not. -/
structure Grow (n : Nat) (μ μ' : Inj) : Prop where
  same : ∀ b, b < n → μ' b = μ b
  fz : ∀ k arr, μ.fz k = some arr → μ'.fz k = some arr
  lo : μ'.lo = μ.lo
  fzn : ∀ k arr, μ'.fz k = some arr → μ.fz k = some arr ∨ μ.lo ≤ k
theorem Grow.refl (n : Nat) (μ : Inj) : Grow n μ μ := ⟨fun _ _ => rfl, fun _ _ h => h, rfl, fun _ _ h => .inl h⟩
theorem Grow.trans {n m : Nat} {a b c : Inj} (h : Grow n a b) (k : Grow m b c) (hnm : n ≤ m) : Grow n a c := ⟨fun x hx => (k.same x (by omega)).trans (h.same x hx), fun x a e => k.fz x a (h.fz x a e), k.lo.trans h.lo, fun x a e => by
    rcases k.fzn x a e with e | e
    · exact h.fzn x a e
    · exact .inr (by rw [← h.lo]; exact e)⟩
theorem RelW.ext {sz : TypeId → Nat} {base : Nat → Prop} {w0 w : World} {μ μ' : Inj} {H : Heap} (h : RelW sz base w0 μ H w) (g : Grow H.next μ μ') : Ext μ μ' :=
  ⟨fun b i e => (g.same b (h.fresh b i e)).trans e, g.fz⟩

theorem RelF.mono {μ μ' : Inj} {g : Env} {tmps : Array Value} (h : RelF μ g tmps) (e : Ext μ μ') : RelF μ' g tmps := fun t => (h t).mono e
theorem RelE.mono {μ μ' : Inj} {es : List (AV × AV)} {fs : List MapEntry} (h : RelE μ es fs) (e : Ext μ μ') : RelE μ' es fs := by
  induction h with
  | nil => exact .nil
  | cons a b _ ih => exact .cons (a.mono e) (b.mono e) ih

theorem RelB.mono {sz : TypeId → Nat} {base : Nat → Prop} {μ μ' : Inj} {i : BI} {w : World} {b : Blk} (h : RelB sz base μ i w b) (e : Ext μ μ') : RelB sz base μ' i w b := by
  cases b with
  | dead => trivial
  | cells own t len cs =>
    obtain ⟨hl, arr, e', fr, ha, hc, ho⟩ := h
    exact ⟨hl, arr, e', fr, ha, fun k v hv => let ⟨x, hx, r⟩ := hc k v hv; ⟨x, hx, r.mono e⟩, ho⟩
  | entries es => obtain ⟨hb, fs, c, hw, r⟩ := h; exact ⟨hb, fs, c, hw, r.mono e⟩
  | loop fn n fr ps asg body d st =>
    obtain ⟨hb, tmps, di, ls, pe, fn', hw, hd, hn, hf, hs⟩ := h
    exact ⟨hb, tmps, di, ls, pe, fn', hw, e _ _ hd, hn, hf.mono e, hs⟩
  | dfr => exact h

/-- the same block in another world. -/
theorem RelB.same {sz : TypeId → Nat} {base : Nat → Prop} {μ : Inj} {i : BI} {w w' : World} {b : Blk} (h : RelB sz base μ i w b) (e : b.live = true → w'.heap[i.blk]? = w.heap[i.blk]?) : RelB sz base μ i w' b := by
  cases b with
  | dead => trivial
  | cells own t len cs =>
    obtain ⟨hl, arr, e', fr, ha, hc, ho⟩ := h
    exact ⟨hl, arr, e', fr, (e rfl).trans ha, hc, ho⟩
  | entries es => obtain ⟨hb, fs, c, hw, r⟩ := h; exact ⟨hb, fs, c, (e rfl).trans hw, r⟩
  | loop fn n fr ps asg body d st =>
    obtain ⟨hb, tmps, di, ls, pe, fn', hw, hd, hn, hf, hs⟩ := h
    exact ⟨hb, tmps, di, ls, pe, fn', (e rfl).trans hw, hd, hn, hf, hs⟩
  | dfr => exact ⟨h.1, (e rfl).trans h.2⟩

theorem RelB.lt {sz : TypeId → Nat} {base : Nat → Prop} {μ : Inj} {i : BI} {w : World} {b : Blk} (h : RelB sz base μ i w b) (hl : b.live = true) : i.blk < w.heap.size := by
  have aux : ∀ o, w.heap[i.blk]? = some o → i.blk < w.heap.size := fun o ho => (Array.getElem?_eq_some_iff.1 ho).1
  cases b with
  | dead => cases hl
  | cells own t len cs => obtain ⟨_, arr, e', fr, ha, _⟩ := h; exact aux _ ha
  | entries es => obtain ⟨_, fs, c, hw, _⟩ := h; exact aux _ hw
  | loop fn n fr ps asg body d st => obtain ⟨_, tmps, di, ls, pe, _, hw, _⟩ := h; exact aux _ hw
  | dfr => exact aux _ h.2
theorem RelB.base {sz : TypeId → Nat} {base : Nat → Prop} {μ : Inj} {i : BI} {w : World} {b : Blk} (h : RelB sz base μ i w b) (hl : b.writes = true) : ¬ base i.blk := by
  cases b with
  | dead => cases hl
  | cells own t len cs => obtain ⟨_, arr, e', fr, ha, _, ho⟩ := h; exact (ho hl).1
  | entries es => exact h.1
  | loop fn n fr ps asg body d st => exact h.1
  | dfr => exact h.1

section world
variable {sz : TypeId → Nat} {base : Nat → Prop} {w0 w : World} {μ : Inj} {H : Heap}

theorem RelW.drew (h : RelW sz base w0 μ H w) (n : Nat) : RelW sz base w0 μ H { w with drawn := n } :=
  ⟨⟨h.below.os, h.below.tape, h.below.output, h.below.size, h.below.block⟩, h.baseLe, h.fresh, fun b i e => (h.blk b i e).same fun _ => rfl, h.apart, h.froz, h.frozApart, h.lo⟩

/-- The world has grown, and nothing that stood has turned. -/
theorem RelW.grown (h : RelW sz base w0 μ H w) {w' : World} (hb : Keep (Old w) w w') : RelW sz base w0 μ H w' :=
  ⟨h.below.trans (hb.mono h.baseLe), fun k hk => Nat.lt_of_lt_of_le (h.baseLe k hk) hb.size, h.fresh, fun b i e => (h.blk b i e).same fun hl => hb.block _ ((h.blk b i e).lt hl), h.apart,
    fun k arr e => by
      obtain ⟨t, fr, hk⟩ := h.froz k arr e
      exact ⟨t, fr, (hb.block k (Array.getElem?_eq_some_iff.1 hk).1).trans hk⟩, h.frozApart, Nat.le_trans h.lo hb.size⟩
theorem RelW.newOK (h : RelW sz base w0 μ H w) : ¬ base w.heap.size := fun hk => Nat.lt_irrefl _ (h.baseLe _ hk)

/-- A block that is mapped nowhere may be anything. -/
theorem RelW.addDead (h : RelW sz base w0 μ H w) (x : Blk) : RelW sz base w0 μ (H.new x) w where
  below := h.below
  baseLe := h.baseLe
  fresh := fun b i e => Nat.lt_succ_of_lt (h.fresh b i e)
  blk := fun b i e => by
    have := h.fresh b i e
    rw [Heap.get_new, if_neg (by omega)]
    exact h.blk b i e
  apart := fun b b' i i' e e' hn => by
    have h1 := h.fresh b i e
    have h2 := h.fresh b' i' e'
    rw [Heap.get_new, Heap.get_new, if_neg (by omega), if_neg (by omega)]
    exact h.apart b b' i i' e e' hn
  froz := h.froz
  frozApart := fun b i k arr e hw => by
    have h1 := h.fresh b i e
    rw [Heap.get_new, if_neg (by omega)] at hw
    exact h.frozApart b i k arr e hw
  lo := h.lo

def Inj.set (μ : Inj) (b : Nat) (i : BI) : Inj := ⟨fun c => if c = b then some i else μ c, μ.fz, μ.lo⟩
@[simp] theorem Inj.set_fz (μ : Inj) (b : Nat) (i : BI) : (μ.set b i).fz = μ.fz := rfl
theorem Inj.set_same (μ : Inj) (b : Nat) (i : BI) : μ.set b i b = some i := by simp [Inj.set]
theorem Inj.set_ne (μ : Inj) {b c : Nat} (i : BI) (h : c ≠ b) : μ.set b i c = μ c := by simp [Inj.set, h]
theorem ext_set {μ : Inj} {b : Nat} (i : BI) (h : μ b = none) : Ext μ (μ.set b i) := ⟨fun c j e => by
  by_cases hc : c = b
  · subst hc; rw [h] at e; cases e
  · rw [Inj.set_ne _ _ hc]; exact e, fun _ _ e => e⟩

/-- A block that stands in the heap, unmapped till now, is mapped to a new object of the world. -/
theorem RelW.bind (h : RelW sz base w0 μ H w) {b : Nat} (hb : μ b = none) (hlt : b < H.next) (o : Obj) (i : BI) (hi : i.blk = w.heap.size)
    (hr : RelB sz base (μ.set b i) i (w.alloc o) (H.get b)) : RelW sz base w0 (μ.set b i) H (w.alloc o) where
  below := h.below.alloc h.baseLe o
  baseLe := fun k hk => by simp; exact Nat.lt_succ_of_lt (h.baseLe k hk)
  fresh := fun c j e => by
    by_cases hc : c = b
    · subst hc; exact hlt
    · rw [Inj.set_ne _ _ hc] at e; exact h.fresh c j e
  blk := fun c j e => by
    by_cases hc : c = b
    · subst hc; rw [Inj.set_same] at e; cases e; exact hr
    · rw [Inj.set_ne _ _ hc] at e
      refine ((h.blk c j e).same fun hl => Below.heap_alloc w o _ ((h.blk c j e).lt hl)).mono (ext_set i hb)
  apart := fun c c' j j' e e' hn hw hl => by
    by_cases hc : c = b
    · subst hc
      rw [Inj.set_same] at e; cases e
      rw [Inj.set_ne _ _ (Ne.symm hn)] at e'
      have := (h.blk c' j' e').lt hl
      omega
    · rw [Inj.set_ne _ _ hc] at e
      by_cases hc' : c' = b
      · subst hc'
        rw [Inj.set_same] at e'; cases e'
        have hlive : (H.get c).live = true := by cases hx : H.get c <;> simp_all [Blk.writes, Blk.live]
        have := (h.blk c j e).lt hlive
        omega
      · rw [Inj.set_ne _ _ hc'] at e'
        exact h.apart c c' j j' e e' hn hw hl
  froz := fun k arr e => by
    obtain ⟨t, fr, hk⟩ := h.froz k arr e
    exact ⟨t, fr, (Below.heap_alloc w o _ (Array.getElem?_eq_some_iff.1 hk).1).trans hk⟩
  frozApart := fun c j k arr e hw hz => by
    obtain ⟨t, fr, hk⟩ := h.froz k arr hz
    have hlt := (Array.getElem?_eq_some_iff.1 hk).1
    by_cases hc : c = b
    · subst hc; rw [Inj.set_same] at e; cases e; omega
    · rw [Inj.set_ne _ _ hc] at e
      exact h.frozApart c j k arr e hw hz
  lo := by have := h.lo; simp [Inj.set]; omega

/-- One block of its own is written, in the heap and in the world. -/
theorem RelW.write (h : RelW sz base w0 μ H w) {b : Nat} {i : BI} (hb : μ b = some i) (hw : (H.get b).writes = true) {x : Blk} {w' : World}
    (hos : w'.os = w.os) (htape : w'.tape = w.tape) (hout : w'.output = w.output) (hsize : w'.heap.size = w.heap.size)
    (hother : ∀ k, k ≠ i.blk → w'.heap[k]? = w.heap[k]?) (hwr : x.writes = true ∨ x.live = false) (hr : RelB sz base μ i w' x) : RelW sz base w0 μ (H.put b x) w' where
  below := ⟨hos.trans h.below.os, htape.trans h.below.tape, hout.trans h.below.output, by rw [hsize]; exact h.below.size,
    fun k hk => by
      have := (h.blk b i hb).base hw
      exact (hother k (fun e => this (e ▸ hk))).trans (h.below.block k hk)⟩
  baseLe := by rw [hsize]; exact h.baseLe
  fresh := h.fresh
  blk := fun c j e => by
    rw [Heap.get_put]
    by_cases hc : c = b
    · subst hc; rw [hb] at e; cases e; rw [if_pos rfl]; exact hr
    · rw [if_neg hc]
      exact (h.blk c j e).same fun hl => hother _ (Ne.symm (h.apart b c i j hb e (Ne.symm hc) hw hl))
  apart := fun c c' j j' e e' hn hcw hcl => by
    rw [Heap.get_put] at hcw hcl
    by_cases hc : c = b
    · subst hc
      rw [if_neg (Ne.symm hn)] at hcl
      exact h.apart c c' j j' e e' hn hw hcl
    · rw [if_neg hc] at hcw
      by_cases hc' : c' = b
      · subst hc'
        have hlive : (H.get c').live = true := by cases hx : H.get c' <;> simp_all [Blk.writes, Blk.live]
        exact h.apart c c' j j' e e' hn hcw hlive
      · rw [if_neg hc'] at hcl
        exact h.apart c c' j j' e e' hn hcw hcl
  froz := fun k arr e => by
    obtain ⟨t, fr, hk⟩ := h.froz k arr e
    exact ⟨t, fr, (hother k (h.frozApart b i k arr hb hw e)).trans hk⟩
  frozApart := fun c j k arr e hcw hz => by
    rw [Heap.get_put] at hcw
    by_cases hc : c = b
    · subst hc; rw [hb] at e; cases e; exact h.frozApart c i k arr hb hw hz
    · rw [if_neg hc] at hcw
      exact h.frozApart c j k arr e hcw hz
  lo := by rw [hsize]; exact h.lo

/-- A block goes. -/
theorem RelW.kill (h : RelW sz base w0 μ H w) (b : Nat) : RelW sz base w0 μ (H.put b .dead) w where
  below := h.below
  baseLe := h.baseLe
  fresh := h.fresh
  blk := fun c j e => by
    rw [Heap.get_put]
    split
    · trivial
    · exact h.blk c j e
  apart := fun c c' j j' e e' hn hcw hcl => by
    rw [Heap.get_put] at hcw hcl
    by_cases hc : c = b
    · rw [if_pos hc] at hcw; cases hcw
    · by_cases hc' : c' = b
      · rw [if_pos hc'] at hcl; cases hcl
      · rw [if_neg hc] at hcw; rw [if_neg hc'] at hcl
        exact h.apart c c' j j' e e' hn hcw hcl
  froz := h.froz
  frozApart := fun c j k arr e hcw hz => by
    rw [Heap.get_put] at hcw
    by_cases hc : c = b
    · rw [if_pos hc] at hcw; cases hcw
    · rw [if_neg hc] at hcw
      exact h.frozApart c j k arr e hcw hz
  lo := h.lo
end world
end Go.Ab

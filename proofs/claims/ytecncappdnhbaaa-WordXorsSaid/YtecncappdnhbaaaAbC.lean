/- Operations that compute: what the abstract machine answers is what the model answers. -/
import Derived.Test.YtecncappdnhbaaaAbB
set_option autoImplicit false
set_option linter.unusedVariables false
set_option linter.unusedSimpArgs false
set_option linter.unusedSectionVars false
namespace Go.Ab
open Go.RowKit

theorem ob_some_iff {α β : Type} {o : Option α} {f : α → Option β} {b : β} : o.ob f = some b ↔ ∃ a, o = some a ∧ f a = some b :=
  ⟨ob_eq, fun ⟨a, h, k⟩ => by subst h; exact k⟩

section
variable {μ : Inj} {g : Env} {a : Act}

theorem ofConst_sound {c : Value} {v : AV} (h : ofConst c = some v) : RelV μ v c := by
  unfold ofConst at h
  split at h <;> cases h
  · exact .int _ _
  · exact .bool _
  · rename_i s
    have : RelV μ (.str s.data.toList) (.string ⟨s.data.toList.toArray⟩) := .str _
    simpa using this
  · exact .ptrN
  · exact .sliceN
  · exact .mapN
  · exact .nilFunc
  · exact .nilIface

theorem known_eq {v u : AV} (h : known v = some u) : v = u ∧ u ≠ .any := by
  cases v <;> simp [known] at h <;> subst h <;> exact ⟨rfl, by simp⟩
theorem known_sound (hf : RelF μ g a.tmps) {t : Nat} {v : AV} (h : known (g t) = some v) : RelV μ v (a.tmps.getD t Go.undef) := by
  have h3 := hf t
  rw [(known_eq h).1] at h3; exact h3
theorem ofConst_known {c : Value} {v : AV} (h : ofConst c = some v) : v ≠ .any := by
  unfold ofConst at h
  split at h <;> cases h <;> simp
theorem ev_known {x : Operand} {v : AV} (h : ev g x = some v) : v ≠ .any := by
  cases x with
  | tmp t => exact (known_eq h).2
  | const c => exact ofConst_known h
  | func f => simp only [ev] at h; injection h with h; subst h; simp
  | global _ => cases h
theorem ev_sound (hf : RelF μ g a.tmps) {x : Operand} {v : AV} (h : ev g x = some v) : RelV μ v (a.eval x) := by
  cases x with
  | tmp t => exact known_sound hf h
  | const c => exact ofConst_sound h
  | func f => simp only [ev] at h; injection h with h; subst h; exact .func .nil .nil
  | global _ => cases h

theorem evs_sound (hf : RelF μ g a.tmps) {l : List Operand} : ∀ {vs : List AV}, evs g l = some vs → RelL μ vs (l.map a.eval) := by
  induction l with
  | nil => intro vs h; injection h with h; subst h; exact .nil
  | cons x l ih =>
    intro vs h
    rw [evs_cons] at h
    replace h := ob_eq h; obtain ⟨v, hv, h⟩ := h
    replace h := ob_eq h; obtain ⟨ws, hw, h⟩ := h
    injection h with h; subst h
    exact .cons (ev_sound hf hv) (ih hw)

inductive RelP (μ : Inj) : List (Nat × AV) → List (Nat × Value) → Prop
  | nil : RelP μ [] []
  | cons {i : Nat} {v : AV} {x : Value} {l : List (Nat × AV)} {m : List (Nat × Value)} : RelV μ v x → v ≠ .any → RelP μ l m → RelP μ ((i, v) :: l) ((i, x) :: m)

theorem evParts_sound (hf : RelF μ g a.tmps) {l : List (Nat × Operand)} : ∀ {vs : List (Nat × AV)}, evParts g l = some vs → RelP μ vs (l.map fun p => (p.1, a.eval p.2)) := by
  induction l with
  | nil => intro vs h; injection h with h; subst h; exact .nil
  | cons x l ih =>
    intro vs h
    obtain ⟨i, x⟩ := x
    simp only [evParts] at h
    replace h := ob_eq h; obtain ⟨v, hv, h⟩ := h
    replace h := ob_eq h; obtain ⟨ws, hw, h⟩ := h
    injection h with h; subst h
    exact .cons (ev_sound hf hv) (ev_known hv) (ih hw)
theorem evO_sound (hf : RelF μ g a.tmps) {x : Option Operand} {v : Option AV} (h : evO g x = some v) :
    (v = none ∧ x.map a.eval = none) ∨ ∃ u y, v = some u ∧ x.map a.eval = some y ∧ RelV μ u y := by
  cases x with
  | none => simp only [evO] at h; injection h with h; exact .inl ⟨h.symm, rfl⟩
  | some x =>
    simp only [evO] at h
    replace h := ob_eq h; obtain ⟨u, hu, h⟩ := h
    injection h with h
    exact .inr ⟨u, _, h.symm, rfl, ev_sound hf hu⟩
end

/-! ### Views -/
section views
variable {μ : Inj} {v : AV} {x : Value}
theorem int?_eq {r : IntKind × Int} (h : v.int? = some r) : v = .int r.1 r.2 := by
  cases v <;> simp [AV.int?] at h; subst h; rfl
theorem bool?_eq {r : Bool} (h : v.bool? = some r) : v = .bool r := by
  cases v <;> simp [AV.bool?] at h; subst h; rfl
theorem str?_eq {r : List UInt8} (h : v.str? = some r) : v = .str r := by
  cases v <;> simp [AV.str?] at h; subst h; rfl
theorem ptr?_eq {r : Option (Nat × Nat)} (h : v.ptr? = some r) : v = .ptr r := by
  cases v <;> simp [AV.ptr?] at h; subst h; rfl
theorem slice?_eq {r : Option (Nat × Nat) × Nat × Option Nat} (h : v.slice? = some r) : v = .slice r.1 r.2.1 r.2.2 := by
  cases v <;> simp [AV.slice?] at h; subst h; rfl
theorem map?_eq {r : Option Nat} (h : v.map? = some r) : v = .map r := by
  cases v <;> simp [AV.map?] at h; subst h; rfl
theorem agg?_eq {r : List AV} (h : v.agg? = some r) : v = .agg r := by
  cases v <;> simp [AV.agg?] at h; subst h; rfl
theorem tuple?_eq {r : List AV} (h : v.tuple? = some r) : v = .tuple r := by
  cases v <;> simp [AV.tuple?] at h; subst h; rfl

theorem rel_int {k : IntKind} {n : Int} (h : RelV μ (.int k n) x) : x = .int k n := by cases h; rfl
theorem rel_bool {b : Bool} (h : RelV μ (.bool b) x) : x = .bool b := by cases h; rfl
theorem rel_str {s : List UInt8} (h : RelV μ (.str s) x) : x = .string ⟨s.toArray⟩ := by cases h; rfl
theorem rel_agg {cs : List AV} (h : RelV μ (.agg cs) x) : ∃ xs, x = .agg xs.toArray ∧ RelL μ cs xs := by
  cases h with | agg a => exact ⟨_, rfl, a⟩
theorem rel_tuple {cs : List AV} (h : RelV μ (.tuple cs) x) : ∃ xs, x = .tuple xs.toArray ∧ RelL μ cs xs := by
  cases h with | tuple a => exact ⟨_, rfl, a⟩
theorem rel_ptr {p : Nat × Nat} (h : RelV μ (.ptr (some p)) x) : ∃ i, μ p.1 = some i ∧ x = .pointer (some ⟨i.blk, i.off + p.2, none⟩) := by
  cases h with | ptr e => exact ⟨_, e, rfl⟩
theorem rel_ptr_none (h : RelV μ (.ptr none) x) : x = .pointer none := by cases h; rfl
end views

/-! ### Two operands -/
section bin
variable {P : Program} {cx : Cx} (hcx : CxOK P cx) {μ : Inj} (w : World)

theorem aInt_sound {op : BinOp} {k : IntKind} {a b : Int} {v : AV} (h : aInt op k a b = some v) (hs : op ≠ .shl ∧ op ≠ .shr) :
    ∃ z, (Go.binOp op 0 (.int k a) (.int k b)).run P w = .ok z w ∧ RelV μ v z ∧ ∀ t, Go.binOp op t (.int k a) (.int k b) = Go.binOp op 0 (.int k a) (.int k b) := by
  cases op <;> simp only [aInt, Option.some.injEq] at h
  case add => subst h; exact ⟨_, by simp [binOp, Op.intArith]; rfl, by rw [wrapA_eq]; exact .int _ _, fun _ => rfl⟩
  case sub => subst h; exact ⟨_, by simp [binOp, Op.intArith]; rfl, by rw [wrapA_eq]; exact .int _ _, fun _ => rfl⟩
  case mul => subst h; exact ⟨_, by simp [binOp, Op.intArith]; rfl, by rw [wrapA_eq]; exact .int _ _, fun _ => rfl⟩
  case quo =>
    simp only [iQuo, cb_eq, ieqB_eq] at h
    split at h
    · cases h
    · rename_i hb
      have hb : ¬ b = 0 := by simpa using hb
      injection h with h; subst h
      exact ⟨_, by simp only [binOp, Op.intDiv, hb, ne_eq, not_true_eq_false, if_false]; rfl, by rw [wrapA_eq]; exact .int _ _, fun _ => rfl⟩
  case rem =>
    simp only [iRem, cb_eq, ieqB_eq] at h
    split at h
    · cases h
    · rename_i hb
      have hb : ¬ b = 0 := by simpa using hb
      injection h with h; subst h
      exact ⟨_, by simp only [binOp, Op.intDiv, hb, ne_eq, not_true_eq_false, if_false]; rfl, .int _ _, fun _ => rfl⟩
  case and => subst h; exact ⟨_, by simp [binOp, Op.intBits]; rfl, by rw [iAnd_eq]; exact .int _ _, fun _ => rfl⟩
  case or => subst h; exact ⟨_, by simp [binOp, Op.intBits]; rfl, by rw [iOr_eq]; exact .int _ _, fun _ => rfl⟩
  case xor => subst h; exact ⟨_, by simp [binOp, Op.intBits]; rfl, by rw [iXor_eq]; exact .int _ _, fun _ => rfl⟩
  case andNot => subst h; exact ⟨_, by simp only [binOp, Op.intBits, ne_eq, not_true_eq_false, if_false]; rfl, .int _ _, fun _ => rfl⟩
  case eql => subst h; exact ⟨_, by simp [binOp, Op.intCmp]; rfl, by rw [ieqB_eq]; exact .bool _, fun _ => rfl⟩
  case neq => subst h; exact ⟨_, by simp [binOp, Op.intCmp]; rfl, by rw [ieqB_eq]; exact .bool _, fun _ => rfl⟩
  case lss => subst h; exact ⟨_, by simp [binOp, Op.intCmp]; rfl, by rw [iLss, iltB_eq]; exact .bool _, fun _ => rfl⟩
  case leq => subst h; exact ⟨_, by simp [binOp, Op.intCmp]; rfl, by rw [iLeq, ileB_eq]; exact .bool _, fun _ => rfl⟩
  case gtr => subst h; exact ⟨_, by simp [binOp, Op.intCmp]; rfl, by rw [iLss, iltB_eq]; exact .bool _, fun _ => rfl⟩
  case geq => subst h; exact ⟨_, by simp [binOp, Op.intCmp]; rfl, by rw [iLeq, ileB_eq]; exact .bool _, fun _ => rfl⟩
  case shl => exact absurd rfl hs.1
  case shr => exact absurd rfl hs.2

theorem shN_eq (k : IntKind) (b : Nat) : shN k b = min b k.bits := by
  rw [shN, cb_eq, nble]; split <;> rename_i h
  · have := of_decide_eq_true h; omega
  · have h2 : ¬ b ≤ k.bits := fun e => h (decide_eq_true e)
    omega
theorem shlN_eq (k : IntKind) (a : Int) (n : Nat) : shlN k a n = k.wrap (a * 2 ^ n) := by
  unfold shlN
  rw [wrapA_eq]
  have e : (Int.ofNat (Nat.pow 2 n)) = (2 : Int) ^ n := by
    show ((2 ^ n : Nat) : Int) = _
    rw [Int.natCast_pow]
    try rfl
  rw [e]; rfl
theorem shrN_eq (a : Int) (n : Nat) : shrN a n = a.fdiv (2 ^ n) := by
  have e : (Int.ofNat (Nat.pow 2 n)) = (2 : Int) ^ n := by
    show ((2 ^ n : Nat) : Int) = _
    rw [Int.natCast_pow]
    try rfl
  cases a with
  | ofNat x =>
    show Int.ofNat (x / 2 ^ n) = _
    rw [← e]
    rw [Int.fdiv_eq_ediv_of_nonneg]
    · rfl
    · exact Int.natCast_nonneg _
  | negSucc x =>
    show Int.fdiv _ (Int.ofNat (Nat.pow 2 n)) = _
    rw [e]

theorem binInt_sound {op : BinOp} {k k' : IntKind} {a b : Int} {v : AV} (h : binInt op k a k' b = some v) (t : TypeId) :
    ∃ z, (Go.binOp op t (.int k a) (.int k' b)).run P w = .ok z w ∧ RelV μ v z := by
  by_cases h1 : op = .shl
  · subst h1
    simp only [binInt, shl, cb_eq, iltB_eq] at h
    split at h
    · cases h
    · rename_i hb
      have hb : ¬ b < 0 := by simpa using hb
      injection h with h; subst h
      exact ⟨_, by simp [binOp, Op.shift, hb]; rfl, by rw [shlN_eq, shN_eq]; exact .int _ _⟩
  · by_cases h2 : op = .shr
    · subst h2
      simp only [binInt, shr, cb_eq, iltB_eq] at h
      split at h
      · cases h
      · rename_i hb
        have hb : ¬ b < 0 := by simpa using hb
        injection h with h; subst h
        exact ⟨_, by simp [binOp, Op.shift, hb]; rfl, by rw [shrN_eq, shN_eq]; exact .int _ _⟩
    · have h3 : (if k = k' then aInt op k a b else none) = some v := by cases op <;> first | exact h | exact absurd rfl h1 | exact absurd rfl h2
      split at h3
      · rename_i e; subst e
        obtain ⟨z, hz, hr, ht⟩ := aInt_sound w h3 ⟨h1, h2⟩
        exact ⟨z, by rw [ht t]; exact hz, hr⟩
      · cases h3

theorem toList_mk (s : List UInt8) : (ByteArray.mk s.toArray).toList = s := by simp
theorem aStr_sound {op : BinOp} {a b : List UInt8} {v : AV} (h : aStr op a b = some v) (t : TypeId) :
    ∃ z, (Go.binOp op t (.string ⟨a.toArray⟩) (.string ⟨b.toArray⟩)).run P w = .ok z w ∧ RelV μ v z := by
  have e : ∀ op, Go.binOp op t (.string ⟨a.toArray⟩) (.string ⟨b.toArray⟩) = Op.stringOp op ⟨a.toArray⟩ ⟨b.toArray⟩ := fun op => by cases op <;> rfl
  rw [e]
  cases op <;> simp only [aStr, Option.some.injEq] at h
  case add =>
    simp only [sAdd] at h
    split at h
    · rename_i hl
      injection h with h; subst h
      have h2 : ¬ (((ByteArray.mk a.toArray).size + (ByteArray.mk b.toArray).size : Nat) : Int) > IntKind.i64.max := by
        simp [IntKind.max, IntKind.signed, IntKind.bits, ByteArray.size]; omega
      refine ⟨.string ⟨(a ++ b).toArray⟩, ?_, .str _⟩
      simp only [Op.stringOp]
      rw [if_neg h2]
      have h3 : (ByteArray.mk a.toArray) ++ (ByteArray.mk b.toArray) = ByteArray.mk (a ++ b).toArray := by
        apply ByteArray.ext; simp
      rw [h3]; rfl
    · cases h
  case eql => subst h; exact ⟨_, by simp only [Op.stringOp, toList_mk]; rfl, by rw [bytesEq_eq]; exact .bool _⟩
  case neq => subst h; exact ⟨_, by simp only [Op.stringOp, toList_mk]; rfl, by rw [bytesEq_eq]; exact .bool _⟩
  case lss => subst h; exact ⟨_, by simp only [Op.stringOp, toList_mk]; rfl, .bool _⟩
  case leq => subst h; exact ⟨_, by simp only [Op.stringOp, toList_mk]; rfl, by rw [bytesEq_eq]; exact .bool _⟩
  case gtr => subst h; exact ⟨_, by simp only [Op.stringOp, toList_mk]; rfl, by rw [bytesEq_eq]; exact .bool _⟩
  case geq => subst h; exact ⟨_, by simp only [Op.stringOp, toList_mk]; rfl, .bool _⟩
  all_goals cases h
end bin
end Go.Ab

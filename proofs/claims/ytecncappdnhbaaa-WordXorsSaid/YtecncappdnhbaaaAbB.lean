/- The abstract machine's numbers, texts and types are the model's. -/
import Derived.Test.YtecncappdnhbaaaAbA
import Derived.WideLaws
import Derived.LaidEql
set_option autoImplicit false
set_option linter.unusedVariables false
namespace Go.Ab
open Go.RowKit

/-! ### Numbers -/
theorem iltB_eq (a b : Int) : iltB a b = decide (a < b) := by
  cases a <;> cases b <;> simp only [iltB, nble, Nat.succ_eq_add_one]
  · apply decide_eq_decide.2; simp only [Int.ofNat_eq_natCast]; omega
  · rename_i a b; exact (decide_eq_false (by simp only [Int.ofNat_eq_natCast]; omega)).symm
  · rename_i a b; exact (decide_eq_true (by simp only [Int.ofNat_eq_natCast]; omega)).symm
  · apply decide_eq_decide.2; omega
theorem ieqB_eq (a b : Int) : ieqB a b = (a == b) := by
  cases a <;> cases b <;> simp only [ieqB, nbeq]
  · rw [Bool.eq_iff_iff]; simp; omega
  · rw [Bool.eq_iff_iff]; simp
  · rw [Bool.eq_iff_iff]; simp
  · rw [Bool.eq_iff_iff]; simp; omega
theorem ileB_eq (a b : Int) : ileB a b = decide (a ≤ b) := by
  rw [ileB, iltB_eq]; by_cases h : b < a
  · simp [h]
  · simp [h]; omega

theorem wrapN_i64 (m : Nat) : wrapN .i64 m = IntKind.wrap .i64 (.ofNat m) := by
  show cb (Nat.ble m 9223372036854775807) _ _ = _
  rw [cb_eq, nble]
  split
  · rename_i h
    have h : m ≤ 9223372036854775807 := of_decide_eq_true h
    simp only [IntKind.wrap, IntKind.signed, IntKind.bits, Int.ofNat_eq_natCast, Bool.true_and]
    split
    · rename_i hh; have hh := of_decide_eq_true hh; omega
    · omega
  · rfl
theorem wrapN_eq (k : IntKind) (m : Nat) : wrapN k m = k.wrap (.ofNat m) := by
  cases k
  case i64 => exact wrapN_i64 m
  all_goals rfl
theorem wrapS_i64 (m : Nat) : wrapS .i64 m = IntKind.wrap .i64 (.negSucc m) := by
  show cb (Nat.ble m 9223372036854775807) _ _ = _
  rw [cb_eq, nble]
  split
  · rename_i h
    have h : m ≤ 9223372036854775807 := of_decide_eq_true h
    exact (IntWalk.i64_in _ (by rw [Int.negSucc_eq]; omega)).symm
  · rfl
theorem wrapS_eq (k : IntKind) (m : Nat) : wrapS k m = k.wrap (.negSucc m) := by
  cases k
  case i64 => exact wrapS_i64 m
  all_goals rfl
theorem wrapA_eq (k : IntKind) (n : Int) : wrapA k n = k.wrap n := by
  cases n
  · exact wrapN_eq k _
  · exact wrapS_eq k _

theorem topK_pow (k : IntKind) : ∃ j, topK k = 2 ^ j ∧ (k.signed = true → j + 1 = k.bits) ∧ (k.signed = false → j = k.bits) := by
  cases k
  · exact ⟨7, rfl, fun _ => rfl, by decide⟩
  · exact ⟨15, rfl, fun _ => rfl, by decide⟩
  · exact ⟨31, rfl, fun _ => rfl, by decide⟩
  · exact ⟨63, rfl, fun _ => rfl, by decide⟩
  · exact ⟨8, rfl, by decide, fun _ => rfl⟩
  · exact ⟨16, rfl, by decide, fun _ => rfl⟩
  · exact ⟨32, rfl, by decide, fun _ => rfl⟩
  · exact ⟨64, rfl, by decide, fun _ => rfl⟩
theorem wrap_small (k : IntKind) (m : Nat) (h : m < topK k) : k.wrap (m : Int) = m := by
  cases k <;> simp only [topK] at h <;> simp only [IntKind.wrap, IntKind.signed, IntKind.bits, Bool.true_and, Bool.false_and, Bool.false_eq_true, if_false]
  case i8 | i16 | i32 | i64 => split
    <;> (rename_i hh; first | (have hh := of_decide_eq_true hh; omega) | omega)
  all_goals omega
theorem top_le (k : IntKind) : topK k ≤ 2 ^ k.bits := by cases k <;> decide
theorem ofInt_small (k : IntKind) (m : Nat) (h : m < topK k) : (BitVec.ofInt k.bits (m : Int)).toNat = m := by
  have := top_le k
  rw [BitVec.toNat_ofInt]
  have h2 : ((m : Int) % ((2 ^ k.bits : Nat) : Int)) = m := Int.emod_eq_of_lt (by omega) (by omega)
  rw [h2]; simp

theorem fastB_eq (k : IntKind) (f : Nat → Nat → Nat) (g : BitVec k.bits → BitVec k.bits → BitVec k.bits)
    (hg : ∀ x y, (g x y).toNat = f x.toNat y.toNat) (hf : ∀ x y j, x < 2 ^ j → y < 2 ^ j → f x y < 2 ^ j) (a b : Int) :
    fastB k f a b (k.wrap (g (BitVec.ofInt k.bits a) (BitVec.ofInt k.bits b)).toNat) = k.wrap (g (BitVec.ofInt k.bits a) (BitVec.ofInt k.bits b)).toNat := by
  unfold fastB
  cases a with
  | negSucc _ => rfl
  | ofNat x =>
    cases b with
    | negSucc _ => rfl
    | ofNat y =>
      simp only [cb_eq, nble, Nat.succ_eq_add_one]
      split
      · rename_i h
        have h : x < topK k ∧ y < topK k := by simp only [Bool.and_eq_true, decide_eq_true_eq] at h; exact ⟨h.1, h.2⟩
        obtain ⟨j, hj, _⟩ := topK_pow k
        have h3 := hf x y j (by omega) (by omega)
        simp only [Int.ofNat_eq_natCast]
        rw [hg, ofInt_small k x h.1, ofInt_small k y h.2, wrap_small k _ (by omega)]
      · rfl

theorem iAnd_eq (k : IntKind) (a b : Int) : iAnd k a b = .int k (k.wrap (BitVec.ofInt k.bits a &&& BitVec.ofInt k.bits b).toNat) := by
  unfold iAnd andN
  rw [fastB_eq k Nat.land (fun x y => x &&& y) (fun x y => BitVec.toNat_and x y) (fun x y j h1 h2 => Nat.and_lt_two_pow _ h2)]
theorem iOr_eq (k : IntKind) (a b : Int) : iOr k a b = .int k (k.wrap (BitVec.ofInt k.bits a ||| BitVec.ofInt k.bits b).toNat) := by
  unfold iOr orN
  rw [fastB_eq k Nat.lor (fun x y => x ||| y) (fun x y => BitVec.toNat_or x y) (fun x y j h1 h2 => Nat.or_lt_two_pow h1 h2)]
theorem iXor_eq (k : IntKind) (a b : Int) : iXor k a b = .int k (k.wrap (BitVec.ofInt k.bits a ^^^ BitVec.ofInt k.bits b).toNat) := by
  unfold iXor xorN
  rw [fastB_eq k Nat.xor (fun x y => x ^^^ y) (fun x y => BitVec.toNat_xor x y) (fun x y j h1 h2 => Nat.xor_lt_two_pow h1 h2)]

theorem bytesEq_eq (a b : List UInt8) : bytesEq a b = (a == b) := by
  induction a generalizing b with
  | nil => cases b <;> rfl
  | cons x a ih =>
    cases b with
    | nil => rfl
    | cons y b =>
      simp only [bytesEq, nbeq, ih]
      rw [Bool.eq_iff_iff]; simp [UInt8.toNat_inj]

/-! ### Types -/
def DescOK : AD → TypeDesc → Prop
  | .bool, .bool => True
  | .int k, .int k' => k = k'
  | .string, .string => True
  | .ptr e, .pointer e' => e = e'
  | .slice e, .slice e' => e = e'
  | .array n e, .array n' e' => n = n' ∧ e = e'
  | .map k e, .map k' e' => k = k' ∧ e = e'
  | .struct fs, .struct gs => fs = gs.toList.map (fun f => (f.offset, f.type)) ∧ ∀ f ∈ gs.toList, f.name ≠ "_"
  | .func, .func _ _ _ => True
  | .iface _, .interface _ => True
  | _, _ => False

structure TyOK (P : Program) (t : TypeId) (ty : ATy) : Prop where
  und : ∃ d, P.underlying t = some d ∧ DescOK ty.desc d
  info : ∃ i z, P.info? t = some i ∧ i.size = ty.size ∧ i.bytes = ty.bytes ∧ i.zero = some z ∧ RelV Inj.empty ty.zero z
  zero : ty.zero.cells.length = ty.size
  nz : ty.zero ≠ .any
  flds : ∀ gs, P.underlying t = some (.struct gs) → ∀ f ∈ gs.toList, ∃ i, P.info? f.type = some i
  eqs : ty.eqs = true → P.stoodInHeld t = false ∧ P.eqGuardType P.depth t = false

structure CxOK (P : Program) (cx : Cx) : Prop where
  ty : ∀ t ty, cx.ty t = some ty → TyOK P t ty
  fn : ∀ f fn, cx.fn f = some fn → P.funcs[f]? = some fn ∧ (fn.name == "runtime.NumGoroutine") = false ∧ fn.body.isNone = false
  order : P.follows .mixedOrders = true

theorem ext_empty (μ : Inj) : Ext Inj.empty μ := ⟨fun _ _ h => (by cases h), fun _ _ h => (by cases h)⟩

section types
variable {P : Program} {t : TypeId} {ty : ATy} (h : TyOK P t ty) (w : World)
include h
theorem TyOK.run_size : (sizeOf t).run P w = .ok ty.size w := by
  obtain ⟨i, z, hi, hs, _⟩ := h.info
  simp [sizeOf, typeInfo, hi, hs]
theorem TyOK.run_bytes : ∃ i, (typeInfo t).run P w = .ok i w ∧ i.bytes = ty.bytes ∧ i.size = ty.size := by
  obtain ⟨i, z, hi, hs, hb, _⟩ := h.info
  exact ⟨i, by simp [typeInfo, hi], hb, hs⟩
theorem TyOK.run_zero (μ : Inj) : ∃ z, (zeroValue t).run P w = .ok z w ∧ RelV μ ty.zero z := by
  obtain ⟨i, z, hi, _, _, hz, hr⟩ := h.info
  exact ⟨z, by simp [zeroValue, typeInfo, hi, hz], hr.mono (ext_empty μ)⟩
theorem TyOK.run_und : ∃ d, (underlying t).run P w = .ok d w ∧ DescOK ty.desc d ∧ P.underlying t = some d := by
  obtain ⟨d, hd, hk⟩ := h.und
  exact ⟨d, run_underlying hd w, hk, hd⟩
theorem TyOK.run_isAgg : (isAgg t).run P w = .ok (isAggB ty.desc) w := by
  obtain ⟨d, hd, hk⟩ := h.und
  simp only [isAgg, Sem.run_bind, run_underlying hd, Result.andThen_ok]
  cases hx : ty.desc <;> rw [hx] at hk <;> cases d <;> first | rfl | exact hk.elim
end types

end Go.Ab

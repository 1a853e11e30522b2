/- Chapter 1: the turning of words, of each type. -/
import Derived.Test.YtecncappdnhbaaaL01a
set_option autoImplicit false
set_option linter.unusedVariables false
set_option linter.unusedSimpArgs false
set_option maxRecDepth 100000
noncomputable section
namespace Go.Proofs.Ytecncappdnhbaaa
open Go.Ab

theorem turn8A (x n : Int) (h : ieqB ((wrapA .i64 ((n.tmod 8).add 8)).tmod 8) 0 = true) : aCall (cxOf (spOf lA)) 30 (.fn 16) [.int .u8 x, .int .i64 n] H0 = some (.int .u8 x, H0) :=
  aCall_of (specs_sums _) (q := [true]) (q' := []) (c := [.tst true true, .tst true true, .tst (ieqB ((wrapA .i64 ((n.tmod 8).add 8)).tmod 8) 0) true]) (by kernel_rfl) ⟨rfl, rfl, h, trivial⟩
theorem turn8B (x n : Int) (h : ieqB ((wrapA .i64 ((n.tmod 8).add 8)).tmod 8) 0 = false) (h2 : (!iltB ((wrapA .i64 ((n.tmod 8).add 8)).tmod 8) 0) = true) (h3 : (!iltB (wrapA .i64 (Int.sub 8 ((wrapA .i64 ((n.tmod 8).add 8)).tmod 8))) 0) = true) :
    aCall (cxOf (spOf lA)) 30 (.fn 16) [.int .u8 x, .int .i64 n] H0 = some (.int .u8 (orN .u8 (shlN .u8 x (shN .u8 ((wrapA .i64 ((n.tmod 8).add 8)).tmod 8).toNat)) (shrN x (shN .u8 (wrapA .i64 (Int.sub 8 ((wrapA .i64 ((n.tmod 8).add 8)).tmod 8))).toNat))), H0) :=
  aCall_of (specs_sums _) (q := [false]) (q' := []) (c := [.tst true true, .tst true true, .tst (ieqB ((wrapA .i64 ((n.tmod 8).add 8)).tmod 8) 0) false, .tst (!iltB ((wrapA .i64 ((n.tmod 8).add 8)).tmod 8) 0) true, .tst (!iltB (wrapA .i64 (Int.sub 8 ((wrapA .i64 ((n.tmod 8).add 8)).tmod 8))) 0) true]) (by kernel_rfl) ⟨rfl, rfl, h, h2, h3, trivial⟩
theorem turn8 (x n : Int) (hx : 0 ≤ x) (hx2 : x < 2 ^ 8) : aCall (cxOf (spOf lA)) 30 (.fn 16) [.int .u8 x, .int .i64 n] H0 = some (.int .u8 (rotI 8 x n), H0) := by
  have e := turn_mod 8 n (by omega) (by omega)
  have p := Int.emod_nonneg n (by omega : (8 : Int) ≠ 0)
  have q := Int.emod_lt_of_pos n (by omega : (0 : Int) < 8)
  by_cases hm : n % 8 = 0
  · rw [turn8A x n (by rw [e, ieqB_eq, hm]; rfl), rot_zero 8 x n hx hx2 (by simpa using hm)]
  · have e3 : wrapA .i64 (Int.sub 8 (n % 8)) = 8 - n % 8 := by
      rw [wrapA_eq]; exact IntWalk.i64_in _ (by show _ ∧ (8 : Int) - n % 8 ≤ _; constructor <;> first | omega | (show _ ≤ (8 : Int) - n % 8; omega))
    rw [turn8B x n (by rw [e, ieqB_eq]; simpa using hm) (by rw [e, iltB_eq]; simp; omega) (by rw [e, e3, iltB_eq]; simp; omega), e]
    have := turn_val .u8 8 rfl rfl (by omega) (by omega) x n hx hx2 (by simpa using hm)
    exact congrArg (fun z => some (AV.int _ z, H0)) this

theorem turn16A (x n : Int) (h : ieqB ((wrapA .i64 ((n.tmod 16).add 16)).tmod 16) 0 = true) : aCall (cxOf (spOf lA)) 30 (.fn 17) [.int .u16 x, .int .i64 n] H0 = some (.int .u16 x, H0) :=
  aCall_of (specs_sums _) (q := [true]) (q' := []) (c := [.tst true true, .tst true true, .tst (ieqB ((wrapA .i64 ((n.tmod 16).add 16)).tmod 16) 0) true]) (by kernel_rfl) ⟨rfl, rfl, h, trivial⟩
theorem turn16B (x n : Int) (h : ieqB ((wrapA .i64 ((n.tmod 16).add 16)).tmod 16) 0 = false) (h2 : (!iltB ((wrapA .i64 ((n.tmod 16).add 16)).tmod 16) 0) = true) (h3 : (!iltB (wrapA .i64 (Int.sub 16 ((wrapA .i64 ((n.tmod 16).add 16)).tmod 16))) 0) = true) :
    aCall (cxOf (spOf lA)) 30 (.fn 17) [.int .u16 x, .int .i64 n] H0 = some (.int .u16 (orN .u16 (shlN .u16 x (shN .u16 ((wrapA .i64 ((n.tmod 16).add 16)).tmod 16).toNat)) (shrN x (shN .u16 (wrapA .i64 (Int.sub 16 ((wrapA .i64 ((n.tmod 16).add 16)).tmod 16))).toNat))), H0) :=
  aCall_of (specs_sums _) (q := [false]) (q' := []) (c := [.tst true true, .tst true true, .tst (ieqB ((wrapA .i64 ((n.tmod 16).add 16)).tmod 16) 0) false, .tst (!iltB ((wrapA .i64 ((n.tmod 16).add 16)).tmod 16) 0) true, .tst (!iltB (wrapA .i64 (Int.sub 16 ((wrapA .i64 ((n.tmod 16).add 16)).tmod 16))) 0) true]) (by kernel_rfl) ⟨rfl, rfl, h, h2, h3, trivial⟩
theorem turn16 (x n : Int) (hx : 0 ≤ x) (hx2 : x < 2 ^ 16) : aCall (cxOf (spOf lA)) 30 (.fn 17) [.int .u16 x, .int .i64 n] H0 = some (.int .u16 (rotI 16 x n), H0) := by
  have e := turn_mod 16 n (by omega) (by omega)
  have p := Int.emod_nonneg n (by omega : (16 : Int) ≠ 0)
  have q := Int.emod_lt_of_pos n (by omega : (0 : Int) < 16)
  by_cases hm : n % 16 = 0
  · rw [turn16A x n (by rw [e, ieqB_eq, hm]; rfl), rot_zero 16 x n hx hx2 (by simpa using hm)]
  · have e3 : wrapA .i64 (Int.sub 16 (n % 16)) = 16 - n % 16 := by
      rw [wrapA_eq]; exact IntWalk.i64_in _ (by show _ ∧ (16 : Int) - n % 16 ≤ _; constructor <;> first | omega | (show _ ≤ (16 : Int) - n % 16; omega))
    rw [turn16B x n (by rw [e, ieqB_eq]; simpa using hm) (by rw [e, iltB_eq]; simp; omega) (by rw [e, e3, iltB_eq]; simp; omega), e]
    have := turn_val .u16 16 rfl rfl (by omega) (by omega) x n hx hx2 (by simpa using hm)
    exact congrArg (fun z => some (AV.int _ z, H0)) this

theorem turn32A (x n : Int) (h : ieqB ((wrapA .i64 ((n.tmod 32).add 32)).tmod 32) 0 = true) : aCall (cxOf (spOf lA)) 30 (.fn 18) [.int .u32 x, .int .i64 n] H0 = some (.int .u32 x, H0) :=
  aCall_of (specs_sums _) (q := [true]) (q' := []) (c := [.tst true true, .tst true true, .tst (ieqB ((wrapA .i64 ((n.tmod 32).add 32)).tmod 32) 0) true]) (by kernel_rfl) ⟨rfl, rfl, h, trivial⟩
theorem turn32B (x n : Int) (h : ieqB ((wrapA .i64 ((n.tmod 32).add 32)).tmod 32) 0 = false) (h2 : (!iltB ((wrapA .i64 ((n.tmod 32).add 32)).tmod 32) 0) = true) (h3 : (!iltB (wrapA .i64 (Int.sub 32 ((wrapA .i64 ((n.tmod 32).add 32)).tmod 32))) 0) = true) :
    aCall (cxOf (spOf lA)) 30 (.fn 18) [.int .u32 x, .int .i64 n] H0 = some (.int .u32 (orN .u32 (shlN .u32 x (shN .u32 ((wrapA .i64 ((n.tmod 32).add 32)).tmod 32).toNat)) (shrN x (shN .u32 (wrapA .i64 (Int.sub 32 ((wrapA .i64 ((n.tmod 32).add 32)).tmod 32))).toNat))), H0) :=
  aCall_of (specs_sums _) (q := [false]) (q' := []) (c := [.tst true true, .tst true true, .tst (ieqB ((wrapA .i64 ((n.tmod 32).add 32)).tmod 32) 0) false, .tst (!iltB ((wrapA .i64 ((n.tmod 32).add 32)).tmod 32) 0) true, .tst (!iltB (wrapA .i64 (Int.sub 32 ((wrapA .i64 ((n.tmod 32).add 32)).tmod 32))) 0) true]) (by kernel_rfl) ⟨rfl, rfl, h, h2, h3, trivial⟩
theorem turn32 (x n : Int) (hx : 0 ≤ x) (hx2 : x < 2 ^ 32) : aCall (cxOf (spOf lA)) 30 (.fn 18) [.int .u32 x, .int .i64 n] H0 = some (.int .u32 (rotI 32 x n), H0) := by
  have e := turn_mod 32 n (by omega) (by omega)
  have p := Int.emod_nonneg n (by omega : (32 : Int) ≠ 0)
  have q := Int.emod_lt_of_pos n (by omega : (0 : Int) < 32)
  by_cases hm : n % 32 = 0
  · rw [turn32A x n (by rw [e, ieqB_eq, hm]; rfl), rot_zero 32 x n hx hx2 (by simpa using hm)]
  · have e3 : wrapA .i64 (Int.sub 32 (n % 32)) = 32 - n % 32 := by
      rw [wrapA_eq]; exact IntWalk.i64_in _ (by show _ ∧ (32 : Int) - n % 32 ≤ _; constructor <;> first | omega | (show _ ≤ (32 : Int) - n % 32; omega))
    rw [turn32B x n (by rw [e, ieqB_eq]; simpa using hm) (by rw [e, iltB_eq]; simp; omega) (by rw [e, e3, iltB_eq]; simp; omega), e]
    have := turn_val .u32 32 rfl rfl (by omega) (by omega) x n hx hx2 (by simpa using hm)
    exact congrArg (fun z => some (AV.int _ z, H0)) this

theorem turn64A (x n : Int) (h : ieqB ((wrapA .i64 ((n.tmod 64).add 64)).tmod 64) 0 = true) : aCall (cxOf (spOf lA)) 30 (.fn 19) [.int .u64 x, .int .i64 n] H0 = some (.int .u64 x, H0) :=
  aCall_of (specs_sums _) (q := [true]) (q' := []) (c := [.tst true true, .tst true true, .tst (ieqB ((wrapA .i64 ((n.tmod 64).add 64)).tmod 64) 0) true]) (by kernel_rfl) ⟨rfl, rfl, h, trivial⟩
theorem turn64B (x n : Int) (h : ieqB ((wrapA .i64 ((n.tmod 64).add 64)).tmod 64) 0 = false) (h2 : (!iltB ((wrapA .i64 ((n.tmod 64).add 64)).tmod 64) 0) = true) (h3 : (!iltB (wrapA .i64 (Int.sub 64 ((wrapA .i64 ((n.tmod 64).add 64)).tmod 64))) 0) = true) :
    aCall (cxOf (spOf lA)) 30 (.fn 19) [.int .u64 x, .int .i64 n] H0 = some (.int .u64 (orN .u64 (shlN .u64 x (shN .u64 ((wrapA .i64 ((n.tmod 64).add 64)).tmod 64).toNat)) (shrN x (shN .u64 (wrapA .i64 (Int.sub 64 ((wrapA .i64 ((n.tmod 64).add 64)).tmod 64))).toNat))), H0) :=
  aCall_of (specs_sums _) (q := [false]) (q' := []) (c := [.tst true true, .tst true true, .tst (ieqB ((wrapA .i64 ((n.tmod 64).add 64)).tmod 64) 0) false, .tst (!iltB ((wrapA .i64 ((n.tmod 64).add 64)).tmod 64) 0) true, .tst (!iltB (wrapA .i64 (Int.sub 64 ((wrapA .i64 ((n.tmod 64).add 64)).tmod 64))) 0) true]) (by kernel_rfl) ⟨rfl, rfl, h, h2, h3, trivial⟩
theorem turn64 (x n : Int) (hx : 0 ≤ x) (hx2 : x < 2 ^ 64) : aCall (cxOf (spOf lA)) 30 (.fn 19) [.int .u64 x, .int .i64 n] H0 = some (.int .u64 (rotI 64 x n), H0) := by
  have e := turn_mod 64 n (by omega) (by omega)
  have p := Int.emod_nonneg n (by omega : (64 : Int) ≠ 0)
  have q := Int.emod_lt_of_pos n (by omega : (0 : Int) < 64)
  by_cases hm : n % 64 = 0
  · rw [turn64A x n (by rw [e, ieqB_eq, hm]; rfl), rot_zero 64 x n hx hx2 (by simpa using hm)]
  · have e3 : wrapA .i64 (Int.sub 64 (n % 64)) = 64 - n % 64 := by
      rw [wrapA_eq]; exact IntWalk.i64_in _ (by show _ ∧ (64 : Int) - n % 64 ≤ _; constructor <;> first | omega | (show _ ≤ (64 : Int) - n % 64; omega))
    rw [turn64B x n (by rw [e, ieqB_eq]; simpa using hm) (by rw [e, iltB_eq]; simp; omega) (by rw [e, e3, iltB_eq]; simp; omega), e]
    have := turn_val .u64 64 rfl rfl (by omega) (by omega) x n hx hx2 (by simpa using hm)
    exact congrArg (fun z => some (AV.int _ z, H0)) this
end Go.Proofs.Ytecncappdnhbaaa

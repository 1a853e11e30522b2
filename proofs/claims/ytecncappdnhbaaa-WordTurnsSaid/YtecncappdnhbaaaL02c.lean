/- Words: the document's turning and counting. -/
import Derived.Test.YtecncappdnhbaaaL02b
set_option autoImplicit false
set_option linter.unusedVariables false
set_option linter.unusedSimpArgs false
set_option maxRecDepth 100000
noncomputable section
namespace Go.Ab
theorem wrapA_u64 (m : Nat) : wrapA .u64 (m : Int) = ((m % 18446744073709551616 : Nat) : Int) := by
  rw [wrapA_eq]
  simp only [IntKind.wrap, IntKind.signed, IntKind.bits, Bool.false_and, Bool.false_eq_true, if_false]
  simp
/-- where the document takes a bit from. -/
theorem from_eq (b m i : Nat) (n : Int) (hb : 0 < b) (hb2 : b ≤ 64) (hi : i < b) (hm : n % (b : Int) = m) :
    (wrapA .i64 ((wrapA .i64 (Int.sub (i : Int) (n.tmod (b : Int)))).add (wrapA .i64 ((Int.ofNat 2).mul (b : Int))))).tmod (b : Int) = (((i + b - m) % b : Nat) : Int) := by
  have hm2 : m < b := by have := Int.emod_lt_of_pos n (by omega : (0 : Int) < b); omega
  have ht : n.tmod (b : Int) = m ∨ n.tmod (b : Int) = (m : Int) - b := by
    rw [Int.tmod_eq_emod, hm]
    split
    · left; omega
    · right; simp
  have e2 : wrapA .i64 ((Int.ofNat 2).mul (b : Int)) = 2 * (b : Int) := by
    rw [wrapA_eq]
    have : (Int.ofNat 2).mul (b : Int) = 2 * (b : Int) := rfl
    rw [this]; exact IntWalk.i64_in _ (by omega)
  rcases ht with ht | ht
  · have e1 : wrapA .i64 (Int.sub (i : Int) (n.tmod (b : Int))) = (i : Int) - m := by
      rw [ht, wrapA_eq]; exact IntWalk.i64_in _ (by constructor <;> (show _ ≤ _; first | (show _ ≤ (i : Int) - m; omega) | (show (i : Int) - m ≤ _; omega)))
    have e3 : wrapA .i64 (Int.add ((i : Int) - m) (2 * (b : Int))) = (((i + b - m) + b : Nat) : Int) := by
      rw [wrapA_eq]
      have : Int.add ((i : Int) - m) (2 * (b : Int)) = (((i + b - m) + b : Nat) : Int) := by show ((i : Int) - m) + 2 * (b : Int) = _; omega
      rw [this]; exact IntWalk.i64_in _ (by omega)
    rw [e2, e1]
    show (wrapA .i64 (Int.add ((i : Int) - m) (2 * (b : Int)))).tmod _ = _
    rw [e3]
    show (((i + b - m + b) % b : Nat) : Int) = _
    rw [Nat.add_mod_right]
  · have e1 : wrapA .i64 (Int.sub (i : Int) (n.tmod (b : Int))) = (i : Int) - m + b := by
      rw [ht, wrapA_eq]
      have : Int.sub (i : Int) ((m : Int) - b) = (i : Int) - m + b := by show (i : Int) - ((m : Int) - b) = _; omega
      rw [this]; exact IntWalk.i64_in _ (by omega)
    have e3 : wrapA .i64 (Int.add ((i : Int) - m + b) (2 * (b : Int))) = (((i + b - m) + 2 * b : Nat) : Int) := by
      rw [wrapA_eq]
      have : Int.add ((i : Int) - m + b) (2 * (b : Int)) = (((i + b - m) + 2 * b : Nat) : Int) := by show ((i : Int) - m + b) + 2 * (b : Int) = _; omega
      rw [this]; exact IntWalk.i64_in _ (by omega)
    rw [e2, e1]
    show (wrapA .i64 (Int.add ((i : Int) - m + b) (2 * (b : Int)))).tmod _ = _
    rw [e3]
    show (((i + b - m + 2 * b) % b : Nat) : Int) = _
    rw [Nat.add_mul_mod_self_right]
theorem rotN_from (b x m i : Nat) (hx : x < 2 ^ b) (hm : m < b) (hi : i < b) : bitN (rotN b x m) i = bitN x ((i + b - m) % b) := by
  rw [rotN_bit _ _ _ _ hx hm hi]
  congr 1
  split
  · rw [Nat.mod_eq_of_lt (by omega)]; omega
  · rw [show i + b - m = (i - m) + b by omega, Nat.add_mod_right, Nat.mod_eq_of_lt (by omega)]
end Go.Ab
namespace Go.Proofs.Ytecncappdnhbaaa
open Go.Ab.M Go.Ab Go
abbrev F02 : FTab := [(69, cntRu8), (71, cntRu16), (72, cntRu32), (73, cntRu64), (100, bitR), (16, turnRu8), (17, turnRu16), (18, turnRu32), (19, turnRu64)] ++ F01
abbrev C02 := mkCx tys fns F02 []
abbrev S02 := mkS tys F02 []

theorem f02_ok : ∀ p ∈ F02, RSum.Sound Try.prog tys p.1 p.2 := by
  intro p h
  rcases List.mem_append.1 h with h | h
  · simp only [List.mem_cons, List.not_mem_nil, or_false] at h
    rcases h with rfl | rfl | rfl | rfl | rfl | rfl | rfl | rfl | rfl
    · exact cntRu8_ok
    · exact cntRu16_ok
    · exact cntRu32_ok
    · exact cntRu64_ok
    · exact bitR_ok
    · exact turnRu8_ok
    · exact turnRu16_ok
    · exact turnRu32_ok
    · exact turnRu64_ok
  · exact f01_ok p h
theorem all02 : SumAll Try.prog C02 := sums_all f02_ok (fun _ h => by cases h)
theorem rcntA (x : Int) (n : Int) (i : Int) (H : Heap) (ds : List Nat) (h0 : (iltB i (Int.ofNat 64)) = true) (h1 : (ileB (Int.ofNat 0) x) = true) (h2 : (iltB x (Int.ofNat 18446744073709551616)) = true) (h3 : (ileB (Int.ofNat 0) i) = true) (h4 : (iltB i (Int.ofNat 1099511627776)) = true) :
    CodeOK Try.prog (tyCx tys) 16 H.next (roundOf (blockOf Try.f70 0)) { fr := frameOf 16 ([0, 3, 4].zip [AV.int IntKind.u64 x, AV.int IntKind.i64 n, AV.int IntKind.i64 i]), ds := ds, H := H } (AX.normal) ⟨frameOf 16 ([0, 3, 4].zip [AV.int IntKind.u64 x, AV.int IntKind.i64 (wrapA IntKind.i64 (n.add (wrapA IntKind.i64 (bitI x i)))), AV.int IntKind.i64 (wrapA IntKind.i64 (i.add (Int.ofNat 1)))]), ds, H⟩ :=
  pure_run (g := 30) (k := 70) (f := 30) (cx_goes _ _) all02 (q := (.y :: (.y :: (.y :: (.y :: (.y :: [])))))) (c := [.tst _ true, .tst _ true, .tst _ true, .tst _ true, .tst _ true]) (by kernel_rfl) ⟨h0, h1, h2, h3, h4, trivial⟩ (by kernel_rfl) (by first | kernel_rfl | rfl | simp [AV.plainL, AV.plain])
theorem rcntB (x : Int) (n : Int) (i : Int) (H : Heap) (ds : List Nat) (h0 : (iltB i (Int.ofNat 64)) = false) :
    CodeOK Try.prog (tyCx tys) 16 H.next (roundOf (blockOf Try.f70 0)) { fr := frameOf 16 ([0, 3, 4].zip [AV.int IntKind.u64 x, AV.int IntKind.i64 n, AV.int IntKind.i64 i]), ds := ds, H := H } (AX.exit 0) ⟨frameOf 16 ([0, 3, 4].zip [AV.int IntKind.u64 x, AV.int IntKind.i64 n, AV.int IntKind.i64 i]), ds, H⟩ :=
  pure_run (g := 30) (k := 70) (f := 30) (cx_goes _ _) all02 (q := (.z :: [])) (c := [.tst _ false]) (by kernel_rfl) ⟨h0, trivial⟩ (by kernel_rfl) (by first | kernel_rfl | rfl | simp [AV.plainL, AV.plain])
noncomputable def rcntL : PLoop := ⟨16, blockOf Try.f70 0, [0, 3, 4], fun vs => match vs with
  | [.int .u64 x, .int .i64 n, .int .i64 i] => some ([ileB 0 x, iltB x 18446744073709551616, ieqB n 0, ieqB i 0], .normal, [.int .u64 x, .int .i64 (pcI 64 x), .int .i64 64])
  | _ => none⟩
theorem zero_of {x : Int} (h : ieqB x 0 = true) : x = 0 := by rw [ieqB_eq] at h; simpa using h
theorem rcntL_ok : rcntL.OK Try.prog (tyCx tys) 0 := by
  refine PLoop.ok_by (b := roundOf (blockOf Try.f70 0)) (by kernel_rfl) (α := Nat × Nat) (fun p => [.int .u64 (p.1 : Int), .int .i64 ((pc p.2 p.1 : Nat) : Int), .int .i64 (p.2 : Int)]) (fun p => (.exit 0, [.int .u64 (p.1 : Int), .int .i64 ((pc 64 p.1 : Nat) : Int), .int .i64 64])) (fun p => p.1 < 18446744073709551616 ∧ p.2 ≤ 64) (fun p => 64 - p.2) ?_ ?_
  · intro vs conds X vs' h hc
    simp only [rcntL] at h
    split at h
    · rename_i x n i
      injection h with h; injection h with e1 h; injection h with e2 e3
      subst e1; subst e2; subst e3
      simp only [allTrue_cons] at hc
      obtain ⟨c1, c2, c3, c4, _⟩ := hc
      obtain ⟨x, rfl⟩ := nat_of c1
      rw [zero_of c3, zero_of c4]
      exact ⟨(x, 0), ⟨lt_of c2, by show 0 ≤ 64; omega⟩, rfl, rfl, rfl⟩
    · cases h
  · rintro ⟨x, i⟩ ⟨h1, h2⟩ ds H
    simp only at h1 h2
    by_cases h0 : i = 64
    · subst h0
      right
      exact ⟨by simp, rcntB x _ 64 H ds (by rfl)⟩
    · left
      refine ⟨(x, i + 1), ⟨h1, by show i + 1 ≤ 64; omega⟩, rfl, by show 64 - (i + 1) < 64 - i; omega, ?_⟩
      have hp := pc_le i x
      have hb := bitN_lt x i
      have := rcntA x (pc i x : Nat) i H ds (by rw [iltB_eq]; simp; omega) (by rw [ileB_eq]; simp) (by rw [iltB_eq]; simp; omega) (by rw [ileB_eq]; simp) (by rw [iltB_eq]; simp; omega)
      have e1 : wrapA .i64 (bitI x i) = ((bitN x i : Nat) : Int) := wrapA_nat .i64 _ (by show bitN x i < 9223372036854775808; omega)
      rw [e1, i64_add _ _ (by omega), show (Int.ofNat 1) = ((1 : Nat) : Int) from rfl, i64_add _ _ (by omega)] at this
      exact this
theorem rturnA (x : Int) (size : Int) (n : Int) (out : Int) (place : Int) (i : Int) (H : Heap) (ds : List Nat) (h0 : (iltB i size) = true) (h1 : (!ieqB size (Int.ofNat 0)) = true) (h2 : (ileB (Int.ofNat 0) x) = true) (h3 : (iltB x (Int.ofNat 18446744073709551616)) = true) (h4 : (ileB (Int.ofNat 0) ((wrapA IntKind.i64 ((wrapA IntKind.i64 (i.sub (n.tmod size))).add (wrapA IntKind.i64 ((Int.ofNat 2).mul size)))).tmod size)) = true) (h5 : (iltB ((wrapA IntKind.i64 ((wrapA IntKind.i64 (i.sub (n.tmod size))).add (wrapA IntKind.i64 ((Int.ofNat 2).mul size)))).tmod size) (Int.ofNat 1099511627776)) = true) :
    CodeOK Try.prog (tyCx tys) 36 H.next (roundOf (blockOf Try.f68 0)) { fr := frameOf 36 ([0, 1, 2, 7, 8, 9].zip [AV.int IntKind.u64 x, AV.int IntKind.i64 size, AV.int IntKind.i64 n, AV.int IntKind.u64 out, AV.int IntKind.u64 place, AV.int IntKind.i64 i]), ds := ds, H := H } (AX.normal) ⟨frameOf 36 ([0, 1, 2, 7, 8, 9].zip [AV.int IntKind.u64 x, AV.int IntKind.i64 size, AV.int IntKind.i64 n, AV.int IntKind.u64 (wrapA IntKind.u64 (out.add (wrapA IntKind.u64 ((bitI x ((wrapA IntKind.i64 ((wrapA IntKind.i64 (i.sub (n.tmod size))).add (wrapA IntKind.i64 ((Int.ofNat 2).mul size)))).tmod size)).mul place)))), AV.int IntKind.u64 (wrapA IntKind.u64 (place.mul (Int.ofNat 2))), AV.int IntKind.i64 (wrapA IntKind.i64 (i.add (Int.ofNat 1)))]), ds, H⟩ :=
  pure_run (g := 30) (k := 68) (f := 30) (cx_goes _ _) all02 (q := (.y :: (.y :: (.y :: (.y :: (.y :: (.y :: (.y :: [])))))))) (c := [.tst _ true, .tst _ true, .tst _ true, .tst _ true, .tst _ true, .tst _ true, .tst _ true]) (by kernel_rfl) ⟨h0, h1, h1, h2, h3, h4, h5, trivial⟩ (by kernel_rfl) (by first | kernel_rfl | rfl | simp [AV.plainL, AV.plain])
theorem rturnB (x : Int) (size : Int) (n : Int) (out : Int) (place : Int) (i : Int) (H : Heap) (ds : List Nat) (h0 : (iltB i size) = false) :
    CodeOK Try.prog (tyCx tys) 36 H.next (roundOf (blockOf Try.f68 0)) { fr := frameOf 36 ([0, 1, 2, 7, 8, 9].zip [AV.int IntKind.u64 x, AV.int IntKind.i64 size, AV.int IntKind.i64 n, AV.int IntKind.u64 out, AV.int IntKind.u64 place, AV.int IntKind.i64 i]), ds := ds, H := H } (AX.exit 0) ⟨frameOf 36 ([0, 1, 2, 7, 8, 9].zip [AV.int IntKind.u64 x, AV.int IntKind.i64 size, AV.int IntKind.i64 n, AV.int IntKind.u64 out, AV.int IntKind.u64 place, AV.int IntKind.i64 i]), ds, H⟩ :=
  pure_run (g := 30) (k := 68) (f := 30) (cx_goes _ _) all02 (q := (.z :: [])) (c := [.tst _ false]) (by kernel_rfl) ⟨h0, trivial⟩ (by kernel_rfl) (by first | kernel_rfl | rfl | simp [AV.plainL, AV.plain])
noncomputable def rturnL : PLoop := ⟨36, blockOf Try.f68 0, [0, 1, 2, 7, 8, 9], fun vs => match vs with
  | [.int .u64 x, .int .i64 (.ofNat b), .int .i64 n, .int .u64 out, .int .u64 place, .int .i64 i] => some ([ileB 0 x, iltB x (2 ^ b), Nat.beq b 8 || Nat.beq b 16 || Nat.beq b 32 || Nat.beq b 64, ieqB out 0, ieqB place 1, ieqB i 0], .normal,
      [.int .u64 x, .int .i64 (.ofNat b), .int .i64 n, .int .u64 (rotI b x n), .int .u64 ((2 ^ b % 18446744073709551616 : Nat) : Int), .int .i64 (.ofNat b)])
  | _ => none⟩
theorem rturnL_ok : rturnL.OK Try.prog (tyCx tys) 0 := by
  refine PLoop.ok_by (b := roundOf (blockOf Try.f68 0)) (by kernel_rfl) (α := Nat × Nat × Int × Nat) (fun p => [.int .u64 (p.1 : Int), .int .i64 (p.2.1 : Int), .int .i64 p.2.2.1, .int .u64 ((rotN p.2.1 p.1 (p.2.2.1 % (p.2.1 : Int)).toNat % 2 ^ p.2.2.2 : Nat) : Int), .int .u64 ((2 ^ p.2.2.2 % 18446744073709551616 : Nat) : Int), .int .i64 (p.2.2.2 : Int)])
    (fun p => (.exit 0, [.int .u64 (p.1 : Int), .int .i64 (p.2.1 : Int), .int .i64 p.2.2.1, .int .u64 (rotI p.2.1 p.1 p.2.2.1), .int .u64 ((2 ^ p.2.1 % 18446744073709551616 : Nat) : Int), .int .i64 (p.2.1 : Int)]))
    (fun p => p.1 < 2 ^ p.2.1 ∧ 8 ≤ p.2.1 ∧ p.2.1 ≤ 64 ∧ p.2.2.2 ≤ p.2.1) (fun p => p.2.1 - p.2.2.2) ?_ ?_
  · intro vs conds X vs' h hc
    simp only [rturnL] at h
    split at h
    · rename_i x b n out place i
      injection h with h; injection h with e1 h; injection h with e2 e3
      subst e1; subst e2; subst e3
      simp only [allTrue_cons] at hc
      obtain ⟨c1, c2, c3, c4, c5, c6, _⟩ := hc
      obtain ⟨x, rfl⟩ := nat_of c1
      have hx : x < 2 ^ b := by
        rw [iltB_eq] at c2
        have := of_decide_eq_true c2
        exact_mod_cast this
      have hp : place = 1 := by rw [ieqB_eq] at c5; simpa using c5
      rw [zero_of c4, zero_of c6, hp]
      simp only [nbeq, Bool.or_eq_true, decide_eq_true_eq] at c3
      refine ⟨(x, b, n, 0), ⟨hx, by show 8 ≤ b; omega, by show b ≤ 64; omega, Nat.zero_le _⟩, ?_, rfl, rfl⟩
      simp [Nat.mod_one]
    · cases h
  · rintro ⟨x, b, n, i⟩ ⟨h1, h2, h3, h4⟩ ds H
    simp only at h1 h2 h3 h4
    obtain ⟨m, hm⟩ : ∃ m : Nat, n % (b : Int) = m := ⟨(n % (b : Int)).toNat, by have := Int.emod_nonneg n (by omega : (b : Int) ≠ 0); omega⟩
    have hmb : m < b := by have := Int.emod_lt_of_pos n (by omega : (0 : Int) < b); omega
    have hbb : 2 ^ b ≤ 2 ^ 64 := Nat.pow_le_pow_right (by decide) h3
    by_cases h0 : i = b
    · subst h0
      right
      refine ⟨by simp, ?_⟩
      have hr : ((rotN i x (n % (i : Int)).toNat % 2 ^ i : Nat) : Int) = rotI i x n := by
        rw [rotI_nat, Nat.mod_eq_of_lt (rotN_lt _ _ _)]
      have := rturnB x i n (rotI i x n) ((2 ^ i % 18446744073709551616 : Nat) : Int) i H ds (by rw [iltB_eq]; simp)
      simp only [hr]
      exact this
    · left
      refine ⟨(x, b, n, i + 1), ⟨h1, h2, h3, by show i + 1 ≤ b; omega⟩, rfl, by show b - (i + 1) < b - i; omega, ?_⟩
      have hf := from_eq b m i n (by omega) h3 (by omega) hm
      have hlt : (i + b - m) % b < b := Nat.mod_lt _ (by omega)
      have := rturnA x b n ((rotN b x m % 2 ^ i : Nat) : Int) ((2 ^ i % 18446744073709551616 : Nat) : Int) i H ds (by rw [iltB_eq]; simp; omega) (by rw [ieqB_eq]; simp; omega) (by rw [ileB_eq]; simp) (by rw [iltB_eq]; simp; omega)
        (by rw [hf, ileB_eq]; exact decide_eq_true (Int.natCast_nonneg _)) (by rw [hf, iltB_eq]; exact decide_eq_true (by show (((i + b - m) % b : Nat) : Int) < ((1099511627776 : Nat) : Int); omega))
      rw [hf] at this
      have hi64 : 2 ^ i < 18446744073709551616 := Nat.lt_of_lt_of_le (Nat.pow_lt_pow_right (by decide) (by omega : i < b)) (by simpa using hbb)
      have hb2 := bitN_lt (rotN b x m) i
      have e1 : bitI (x : Int) ((((i + b - m) % b : Nat) : Int)) = ((bitN (rotN b x m) i : Nat) : Int) := by rw [rotN_from b x m i h1 hmb (by omega)]; rfl
      have e2 : (2 ^ i % 18446744073709551616 : Nat) = 2 ^ i := Nat.mod_eq_of_lt hi64
      have hs := mod_bits (rotN b x m) i
      have hl : rotN b x m % 2 ^ (i + 1) < 2 ^ 64 := Nat.lt_of_le_of_lt (Nat.mod_le _ _) (Nat.lt_of_lt_of_le (rotN_lt _ _ _) hbb)
      have e3 : wrapA .u64 (Int.mul ((bitN (rotN b x m) i : Nat) : Int) ((2 ^ i : Nat) : Int)) = ((bitN (rotN b x m) i * 2 ^ i : Nat) : Int) := by
        have : Int.mul ((bitN (rotN b x m) i : Nat) : Int) ((2 ^ i : Nat) : Int) = ((bitN (rotN b x m) i * 2 ^ i : Nat) : Int) := by
          show ((bitN (rotN b x m) i : Nat) : Int) * ((2 ^ i : Nat) : Int) = _; rw [Int.natCast_mul]
        rw [this]; exact wrapA_nat .u64 _ (by show _ < 18446744073709551616; omega)
      have e4 : wrapA .u64 (Int.add ((rotN b x m % 2 ^ i : Nat) : Int) ((bitN (rotN b x m) i * 2 ^ i : Nat) : Int)) = ((rotN b x m % 2 ^ (i + 1) : Nat) : Int) := by
        have : Int.add ((rotN b x m % 2 ^ i : Nat) : Int) ((bitN (rotN b x m) i * 2 ^ i : Nat) : Int) = ((rotN b x m % 2 ^ (i + 1) : Nat) : Int) := by
          rw [hs]; show ((rotN b x m % 2 ^ i : Nat) : Int) + ((bitN (rotN b x m) i * 2 ^ i : Nat) : Int) = _; rw [Int.natCast_add]
        rw [this]; exact wrapA_nat .u64 _ (by show _ < 18446744073709551616; omega)
      have e5 : wrapA .u64 (Int.mul ((2 ^ i : Nat) : Int) (Int.ofNat 2)) = ((2 ^ (i + 1) % 18446744073709551616 : Nat) : Int) := by
        have : Int.mul ((2 ^ i : Nat) : Int) (Int.ofNat 2) = ((2 ^ (i + 1) : Nat) : Int) := by
          rw [Nat.pow_succ]; show ((2 ^ i : Nat) : Int) * ((2 : Nat) : Int) = _; rw [Int.natCast_mul]
        rw [this]; exact wrapA_u64 _
      rw [e1, e2, e3, e4, e5, show (Int.ofNat 1) = ((1 : Nat) : Int) from rfl, i64_add _ _ (by omega)] at this
      have hmn : (n % (b : Int)).toNat = m := by rw [hm]; rfl
      simp only [hmn, e2]
      exact this
end Go.Proofs.Ytecncappdnhbaaa

/- The bits of words: what the functions that count them do. -/
import Derived.Test.YtecncappdnhbaaaCtx
import Derived.Test.YtecncappdnhbaaaW02
set_option autoImplicit false
set_option linter.unusedVariables false
set_option linter.unusedSimpArgs false
set_option maxRecDepth 100000
noncomputable section
namespace Go.Proofs.Ytecncappdnhbaaa
open Go Go.Ab
end Go.Proofs.Ytecncappdnhbaaa
namespace Go.Ab.M
def pcI (b : Nat) (x : Int) : Int := (pc b x.toNat : Nat)
theorem pcI_nat (b x : Nat) : pcI b (x : Int) = (pc b x : Nat) := rfl
def shrI (x n : Int) : Int := (x.toNat / 2 ^ n.toNat : Nat)
end Go.Ab.M
namespace Go.Proofs.Ytecncappdnhbaaa
open Go.Ab.M Go.Ab Go
theorem cntu8A (x : Int) (n : Int) (H : Heap) (ds : List Nat) (h0 : (!ieqB x (Int.ofNat 0)) = true) :
    CodeOK Try.prog (tyCx tys) 13 H.next (roundOf (blockOf Try.f69 0)) { fr := frameOf 13 ([0, 3].zip [AV.int IntKind.u8 x, AV.int IntKind.i64 n]), ds := ds, H := H } (AX.normal) ⟨frameOf 13 ([0, 3].zip [AV.int IntKind.u8 (andN IntKind.u8 x (wrapA IntKind.u8 (x.sub (Int.ofNat 1)))), AV.int IntKind.i64 (wrapA IntKind.i64 (n.add (Int.ofNat 1)))]), ds, H⟩ :=
  pure_run (g := 30) (k := 69) (f := 30) (cx_goes _ _) all0 (q := (.y :: [])) (c := [.tst _ true]) (by kernel_rfl) ⟨h0, trivial⟩ (by kernel_rfl) (by first | kernel_rfl | rfl | simp [AV.plainL, AV.plain])
theorem cntu8B (x : Int) (n : Int) (H : Heap) (ds : List Nat) (h0 : (!ieqB x (Int.ofNat 0)) = false) :
    CodeOK Try.prog (tyCx tys) 13 H.next (roundOf (blockOf Try.f69 0)) { fr := frameOf 13 ([0, 3].zip [AV.int IntKind.u8 x, AV.int IntKind.i64 n]), ds := ds, H := H } (AX.exit 0) ⟨frameOf 13 ([0, 3].zip [AV.int IntKind.u8 x, AV.int IntKind.i64 n]), ds, H⟩ :=
  pure_run (g := 30) (k := 69) (f := 30) (cx_goes _ _) all0 (q := (.z :: [])) (c := [.tst _ false]) (by kernel_rfl) ⟨h0, trivial⟩ (by kernel_rfl) (by first | kernel_rfl | rfl | simp [AV.plainL, AV.plain])
noncomputable def cntLu8 : PLoop := ⟨13, blockOf Try.f69 0, [0, 3], fun vs => match vs with
  | [.int .u8 x, .int .i64 n] => some ([ileB 0 x, iltB x 256, ileB 0 n, iltB n 1099511627776], .normal, [.int .u8 0, .int .i64 (n + pcI 8 x)])
  | _ => none⟩
theorem cntLu8_ok : cntLu8.OK Try.prog (tyCx tys) 0 := by
  refine PLoop.ok_by (b := roundOf (blockOf Try.f69 0)) (by kernel_rfl) (α := Nat × Nat) (fun p => [.int .u8 (p.1 : Int), .int .i64 (p.2 : Int)]) (fun p => (.exit 0, [.int .u8 0, .int .i64 ((p.2 + pc 8 p.1 : Nat) : Int)])) (fun p => p.1 < 256 ∧ p.2 + pc 8 p.1 < 1099511627776 + 65) (fun p => p.1) ?_ ?_
  · intro vs conds X vs' h hc
    simp only [cntLu8] at h
    split at h
    · rename_i x n
      injection h with h; injection h with e1 h; injection h with e2 e3
      subst e1; subst e2; subst e3
      simp only [allTrue_cons] at hc
      obtain ⟨c1, c2, c3, c4, _⟩ := hc
      obtain ⟨x, rfl⟩ := nat_of c1
      obtain ⟨n, rfl⟩ := nat_of c3
      have := pc_le 8 x
      refine ⟨(x, n), ⟨lt_of c2, by have : n < 1099511627776 := lt_of c4; simp only; omega⟩, rfl, rfl, ?_⟩
      simp only [pcI_nat]; congr 3
    · cases h
  · rintro ⟨x, n⟩ ⟨h1, h2⟩ ds H
    simp only at h1 h2
    by_cases h0 : x = 0
    · subst h0
      right
      refine ⟨by simp, ?_⟩
      have := cntu8B 0 n H ds (by rfl)
      rw [pc_zero]; exact this
    · left
      have hd := pc_drop 8 x (by omega) h1
      refine ⟨(x &&& (x - 1), n + 1), ⟨Nat.lt_of_le_of_lt Nat.and_le_left h1, by simp only; omega⟩, ?_, ?_, ?_⟩
      · simp only; congr 5; omega
      · simp only
        have : x &&& (x - 1) ≤ x - 1 := Nat.and_le_right
        omega
      · have := cntu8A x n H ds (by rw [ieqB_eq]; simp; omega)
        rw [count_round .u8 8 rfl x h1 (by omega)] at this
        rw [show (Int.ofNat 1) = ((1 : Nat) : Int) from rfl, i64_add n 1 (by omega)] at this
        exact this
theorem cntu16A (x : Int) (n : Int) (H : Heap) (ds : List Nat) (h0 : (!ieqB x (Int.ofNat 0)) = true) :
    CodeOK Try.prog (tyCx tys) 13 H.next (roundOf (blockOf Try.f71 0)) { fr := frameOf 13 ([0, 3].zip [AV.int IntKind.u16 x, AV.int IntKind.i64 n]), ds := ds, H := H } (AX.normal) ⟨frameOf 13 ([0, 3].zip [AV.int IntKind.u16 (andN IntKind.u16 x (wrapA IntKind.u16 (x.sub (Int.ofNat 1)))), AV.int IntKind.i64 (wrapA IntKind.i64 (n.add (Int.ofNat 1)))]), ds, H⟩ :=
  pure_run (g := 30) (k := 71) (f := 30) (cx_goes _ _) all0 (q := (.y :: [])) (c := [.tst _ true]) (by kernel_rfl) ⟨h0, trivial⟩ (by kernel_rfl) (by first | kernel_rfl | rfl | simp [AV.plainL, AV.plain])
theorem cntu16B (x : Int) (n : Int) (H : Heap) (ds : List Nat) (h0 : (!ieqB x (Int.ofNat 0)) = false) :
    CodeOK Try.prog (tyCx tys) 13 H.next (roundOf (blockOf Try.f71 0)) { fr := frameOf 13 ([0, 3].zip [AV.int IntKind.u16 x, AV.int IntKind.i64 n]), ds := ds, H := H } (AX.exit 0) ⟨frameOf 13 ([0, 3].zip [AV.int IntKind.u16 x, AV.int IntKind.i64 n]), ds, H⟩ :=
  pure_run (g := 30) (k := 71) (f := 30) (cx_goes _ _) all0 (q := (.z :: [])) (c := [.tst _ false]) (by kernel_rfl) ⟨h0, trivial⟩ (by kernel_rfl) (by first | kernel_rfl | rfl | simp [AV.plainL, AV.plain])
noncomputable def cntLu16 : PLoop := ⟨13, blockOf Try.f71 0, [0, 3], fun vs => match vs with
  | [.int .u16 x, .int .i64 n] => some ([ileB 0 x, iltB x 65536, ileB 0 n, iltB n 1099511627776], .normal, [.int .u16 0, .int .i64 (n + pcI 16 x)])
  | _ => none⟩
theorem cntLu16_ok : cntLu16.OK Try.prog (tyCx tys) 0 := by
  refine PLoop.ok_by (b := roundOf (blockOf Try.f71 0)) (by kernel_rfl) (α := Nat × Nat) (fun p => [.int .u16 (p.1 : Int), .int .i64 (p.2 : Int)]) (fun p => (.exit 0, [.int .u16 0, .int .i64 ((p.2 + pc 16 p.1 : Nat) : Int)])) (fun p => p.1 < 65536 ∧ p.2 + pc 16 p.1 < 1099511627776 + 65) (fun p => p.1) ?_ ?_
  · intro vs conds X vs' h hc
    simp only [cntLu16] at h
    split at h
    · rename_i x n
      injection h with h; injection h with e1 h; injection h with e2 e3
      subst e1; subst e2; subst e3
      simp only [allTrue_cons] at hc
      obtain ⟨c1, c2, c3, c4, _⟩ := hc
      obtain ⟨x, rfl⟩ := nat_of c1
      obtain ⟨n, rfl⟩ := nat_of c3
      have := pc_le 16 x
      refine ⟨(x, n), ⟨lt_of c2, by have : n < 1099511627776 := lt_of c4; simp only; omega⟩, rfl, rfl, ?_⟩
      simp only [pcI_nat]; congr 3
    · cases h
  · rintro ⟨x, n⟩ ⟨h1, h2⟩ ds H
    simp only at h1 h2
    by_cases h0 : x = 0
    · subst h0
      right
      refine ⟨by simp, ?_⟩
      have := cntu16B 0 n H ds (by rfl)
      rw [pc_zero]; exact this
    · left
      have hd := pc_drop 16 x (by omega) h1
      refine ⟨(x &&& (x - 1), n + 1), ⟨Nat.lt_of_le_of_lt Nat.and_le_left h1, by simp only; omega⟩, ?_, ?_, ?_⟩
      · simp only; congr 5; omega
      · simp only
        have : x &&& (x - 1) ≤ x - 1 := Nat.and_le_right
        omega
      · have := cntu16A x n H ds (by rw [ieqB_eq]; simp; omega)
        rw [count_round .u16 16 rfl x h1 (by omega)] at this
        rw [show (Int.ofNat 1) = ((1 : Nat) : Int) from rfl, i64_add n 1 (by omega)] at this
        exact this
theorem cntu32A (x : Int) (n : Int) (H : Heap) (ds : List Nat) (h0 : (!ieqB x (Int.ofNat 0)) = true) :
    CodeOK Try.prog (tyCx tys) 13 H.next (roundOf (blockOf Try.f72 0)) { fr := frameOf 13 ([0, 3].zip [AV.int IntKind.u32 x, AV.int IntKind.i64 n]), ds := ds, H := H } (AX.normal) ⟨frameOf 13 ([0, 3].zip [AV.int IntKind.u32 (andN IntKind.u32 x (wrapA IntKind.u32 (x.sub (Int.ofNat 1)))), AV.int IntKind.i64 (wrapA IntKind.i64 (n.add (Int.ofNat 1)))]), ds, H⟩ :=
  pure_run (g := 30) (k := 72) (f := 30) (cx_goes _ _) all0 (q := (.y :: [])) (c := [.tst _ true]) (by kernel_rfl) ⟨h0, trivial⟩ (by kernel_rfl) (by first | kernel_rfl | rfl | simp [AV.plainL, AV.plain])
theorem cntu32B (x : Int) (n : Int) (H : Heap) (ds : List Nat) (h0 : (!ieqB x (Int.ofNat 0)) = false) :
    CodeOK Try.prog (tyCx tys) 13 H.next (roundOf (blockOf Try.f72 0)) { fr := frameOf 13 ([0, 3].zip [AV.int IntKind.u32 x, AV.int IntKind.i64 n]), ds := ds, H := H } (AX.exit 0) ⟨frameOf 13 ([0, 3].zip [AV.int IntKind.u32 x, AV.int IntKind.i64 n]), ds, H⟩ :=
  pure_run (g := 30) (k := 72) (f := 30) (cx_goes _ _) all0 (q := (.z :: [])) (c := [.tst _ false]) (by kernel_rfl) ⟨h0, trivial⟩ (by kernel_rfl) (by first | kernel_rfl | rfl | simp [AV.plainL, AV.plain])
noncomputable def cntLu32 : PLoop := ⟨13, blockOf Try.f72 0, [0, 3], fun vs => match vs with
  | [.int .u32 x, .int .i64 n] => some ([ileB 0 x, iltB x 4294967296, ileB 0 n, iltB n 1099511627776], .normal, [.int .u32 0, .int .i64 (n + pcI 32 x)])
  | _ => none⟩
theorem cntLu32_ok : cntLu32.OK Try.prog (tyCx tys) 0 := by
  refine PLoop.ok_by (b := roundOf (blockOf Try.f72 0)) (by kernel_rfl) (α := Nat × Nat) (fun p => [.int .u32 (p.1 : Int), .int .i64 (p.2 : Int)]) (fun p => (.exit 0, [.int .u32 0, .int .i64 ((p.2 + pc 32 p.1 : Nat) : Int)])) (fun p => p.1 < 4294967296 ∧ p.2 + pc 32 p.1 < 1099511627776 + 65) (fun p => p.1) ?_ ?_
  · intro vs conds X vs' h hc
    simp only [cntLu32] at h
    split at h
    · rename_i x n
      injection h with h; injection h with e1 h; injection h with e2 e3
      subst e1; subst e2; subst e3
      simp only [allTrue_cons] at hc
      obtain ⟨c1, c2, c3, c4, _⟩ := hc
      obtain ⟨x, rfl⟩ := nat_of c1
      obtain ⟨n, rfl⟩ := nat_of c3
      have := pc_le 32 x
      refine ⟨(x, n), ⟨lt_of c2, by have : n < 1099511627776 := lt_of c4; simp only; omega⟩, rfl, rfl, ?_⟩
      simp only [pcI_nat]; congr 3
    · cases h
  · rintro ⟨x, n⟩ ⟨h1, h2⟩ ds H
    simp only at h1 h2
    by_cases h0 : x = 0
    · subst h0
      right
      refine ⟨by simp, ?_⟩
      have := cntu32B 0 n H ds (by rfl)
      rw [pc_zero]; exact this
    · left
      have hd := pc_drop 32 x (by omega) h1
      refine ⟨(x &&& (x - 1), n + 1), ⟨Nat.lt_of_le_of_lt Nat.and_le_left h1, by simp only; omega⟩, ?_, ?_, ?_⟩
      · simp only; congr 5; omega
      · simp only
        have : x &&& (x - 1) ≤ x - 1 := Nat.and_le_right
        omega
      · have := cntu32A x n H ds (by rw [ieqB_eq]; simp; omega)
        rw [count_round .u32 32 rfl x h1 (by omega)] at this
        rw [show (Int.ofNat 1) = ((1 : Nat) : Int) from rfl, i64_add n 1 (by omega)] at this
        exact this
theorem cntu64A (x : Int) (n : Int) (H : Heap) (ds : List Nat) (h0 : (!ieqB x (Int.ofNat 0)) = true) :
    CodeOK Try.prog (tyCx tys) 13 H.next (roundOf (blockOf Try.f73 0)) { fr := frameOf 13 ([0, 3].zip [AV.int IntKind.u64 x, AV.int IntKind.i64 n]), ds := ds, H := H } (AX.normal) ⟨frameOf 13 ([0, 3].zip [AV.int IntKind.u64 (andN IntKind.u64 x (wrapA IntKind.u64 (x.sub (Int.ofNat 1)))), AV.int IntKind.i64 (wrapA IntKind.i64 (n.add (Int.ofNat 1)))]), ds, H⟩ :=
  pure_run (g := 30) (k := 73) (f := 30) (cx_goes _ _) all0 (q := (.y :: [])) (c := [.tst _ true]) (by kernel_rfl) ⟨h0, trivial⟩ (by kernel_rfl) (by first | kernel_rfl | rfl | simp [AV.plainL, AV.plain])
theorem cntu64B (x : Int) (n : Int) (H : Heap) (ds : List Nat) (h0 : (!ieqB x (Int.ofNat 0)) = false) :
    CodeOK Try.prog (tyCx tys) 13 H.next (roundOf (blockOf Try.f73 0)) { fr := frameOf 13 ([0, 3].zip [AV.int IntKind.u64 x, AV.int IntKind.i64 n]), ds := ds, H := H } (AX.exit 0) ⟨frameOf 13 ([0, 3].zip [AV.int IntKind.u64 x, AV.int IntKind.i64 n]), ds, H⟩ :=
  pure_run (g := 30) (k := 73) (f := 30) (cx_goes _ _) all0 (q := (.z :: [])) (c := [.tst _ false]) (by kernel_rfl) ⟨h0, trivial⟩ (by kernel_rfl) (by first | kernel_rfl | rfl | simp [AV.plainL, AV.plain])
noncomputable def cntLu64 : PLoop := ⟨13, blockOf Try.f73 0, [0, 3], fun vs => match vs with
  | [.int .u64 x, .int .i64 n] => some ([ileB 0 x, iltB x 18446744073709551616, ileB 0 n, iltB n 1099511627776], .normal, [.int .u64 0, .int .i64 (n + pcI 64 x)])
  | _ => none⟩
theorem cntLu64_ok : cntLu64.OK Try.prog (tyCx tys) 0 := by
  refine PLoop.ok_by (b := roundOf (blockOf Try.f73 0)) (by kernel_rfl) (α := Nat × Nat) (fun p => [.int .u64 (p.1 : Int), .int .i64 (p.2 : Int)]) (fun p => (.exit 0, [.int .u64 0, .int .i64 ((p.2 + pc 64 p.1 : Nat) : Int)])) (fun p => p.1 < 18446744073709551616 ∧ p.2 + pc 64 p.1 < 1099511627776 + 65) (fun p => p.1) ?_ ?_
  · intro vs conds X vs' h hc
    simp only [cntLu64] at h
    split at h
    · rename_i x n
      injection h with h; injection h with e1 h; injection h with e2 e3
      subst e1; subst e2; subst e3
      simp only [allTrue_cons] at hc
      obtain ⟨c1, c2, c3, c4, _⟩ := hc
      obtain ⟨x, rfl⟩ := nat_of c1
      obtain ⟨n, rfl⟩ := nat_of c3
      have := pc_le 64 x
      refine ⟨(x, n), ⟨lt_of c2, by have : n < 1099511627776 := lt_of c4; simp only; omega⟩, rfl, rfl, ?_⟩
      simp only [pcI_nat]; congr 3
    · cases h
  · rintro ⟨x, n⟩ ⟨h1, h2⟩ ds H
    simp only at h1 h2
    by_cases h0 : x = 0
    · subst h0
      right
      refine ⟨by simp, ?_⟩
      have := cntu64B 0 n H ds (by rfl)
      rw [pc_zero]; exact this
    · left
      have hd := pc_drop 64 x (by omega) h1
      refine ⟨(x &&& (x - 1), n + 1), ⟨Nat.lt_of_le_of_lt Nat.and_le_left h1, by simp only; omega⟩, ?_, ?_, ?_⟩
      · simp only; congr 5; omega
      · simp only
        have : x &&& (x - 1) ≤ x - 1 := Nat.and_le_right
        omega
      · have := cntu64A x n H ds (by rw [ieqB_eq]; simp; omega)
        rw [count_round .u64 64 rfl x h1 (by omega)] at this
        rw [show (Int.ofNat 1) = ((1 : Nat) : Int) from rfl, i64_add n 1 (by omega)] at this
        exact this
theorem bitA (x : Int) (n : Int) (H : Heap) (ds : List Nat) (h0 : (iltB (Int.ofNat 0) n) = true) :
    CodeOK Try.prog (tyCx tys) 13 H.next (roundOf (blockOf Try.f100 0)) { fr := frameOf 13 ([0, 1].zip [AV.int IntKind.u64 x, AV.int IntKind.i64 n]), ds := ds, H := H } (AX.normal) ⟨frameOf 13 ([0, 1].zip [AV.int IntKind.u64 (wrapA IntKind.u64 (x.tdiv (Int.ofNat 2))), AV.int IntKind.i64 (wrapA IntKind.i64 (n.sub (Int.ofNat 1)))]), ds, H⟩ :=
  pure_run (g := 30) (k := 100) (f := 30) (cx_goes _ _) all0 (q := (.y :: (cs 1 []))) (c := [.tst _ true]) (by kernel_rfl) ⟨h0, trivial⟩ (by kernel_rfl) (by first | kernel_rfl | rfl | simp [AV.plainL, AV.plain])
theorem bitB (x : Int) (n : Int) (H : Heap) (ds : List Nat) (h0 : (iltB (Int.ofNat 0) n) = false) :
    CodeOK Try.prog (tyCx tys) 13 H.next (roundOf (blockOf Try.f100 0)) { fr := frameOf 13 ([0, 1].zip [AV.int IntKind.u64 x, AV.int IntKind.i64 n]), ds := ds, H := H } (AX.exit 0) ⟨frameOf 13 ([0, 1].zip [AV.int IntKind.u64 x, AV.int IntKind.i64 n]), ds, H⟩ :=
  pure_run (g := 30) (k := 100) (f := 30) (cx_goes _ _) all0 (q := (.z :: [])) (c := [.tst _ false]) (by kernel_rfl) ⟨h0, trivial⟩ (by kernel_rfl) (by first | kernel_rfl | rfl | simp [AV.plainL, AV.plain])
noncomputable def bitL : PLoop := ⟨13, blockOf Try.f100 0, [0, 1], fun vs => match vs with
  | [.int .u64 x, .int .i64 n] => some ([ileB 0 x, iltB x 18446744073709551616, ileB 0 n, iltB n 1099511627776], .normal, [.int .u64 (shrI x n), .int .i64 0])
  | _ => none⟩
theorem bitL_ok : bitL.OK Try.prog (tyCx tys) 0 := by
  refine PLoop.ok_by (b := roundOf (blockOf Try.f100 0)) (by kernel_rfl) (α := Nat × Nat) (fun p => [.int .u64 (p.1 : Int), .int .i64 (p.2 : Int)]) (fun p => (.exit 0, [.int .u64 ((p.1 / 2 ^ p.2 : Nat) : Int), .int .i64 0])) (fun p => p.1 < 18446744073709551616 ∧ p.2 < 1099511627776) (fun p => p.2) ?_ ?_
  · intro vs conds X vs' h hc
    simp only [bitL] at h
    split at h
    · rename_i x n
      injection h with h; injection h with e1 h; injection h with e2 e3
      subst e1; subst e2; subst e3
      simp only [allTrue_cons] at hc
      obtain ⟨c1, c2, c3, c4, _⟩ := hc
      obtain ⟨x, rfl⟩ := nat_of c1
      obtain ⟨n, rfl⟩ := nat_of c3
      exact ⟨(x, n), ⟨lt_of c2, lt_of c4⟩, rfl, rfl, rfl⟩
    · cases h
  · rintro ⟨x, n⟩ ⟨h1, h2⟩ ds H
    simp only at h1 h2
    by_cases h0 : n = 0
    · subst h0
      right
      refine ⟨by simp, ?_⟩
      have := bitB x 0 H ds (by rfl)
      rw [Nat.pow_zero, Nat.div_one]; exact this
    · left
      obtain ⟨m, rfl⟩ : ∃ m, n = m + 1 := ⟨n - 1, by omega⟩
      refine ⟨(x / 2, m), ⟨by show x / 2 < _; omega, by show m < _; omega⟩, ?_, by show m < m + 1; omega, ?_⟩
      · have e : x / 2 ^ (m + 1) = x / 2 / 2 ^ m := by rw [Nat.pow_succ, Nat.mul_comm, Nat.div_div_eq_div_mul]
        simp only [e]
      · have := bitA x ((m + 1 : Nat) : Int) H ds (by rw [iltB_eq]; first | (simp; done) | (simp; omega))
        rw [show (Int.ofNat 1) = ((1 : Nat) : Int) from rfl, i64_sub (m + 1) 1 (by omega) (by omega)] at this
        have e : (x : Int).tdiv (Int.ofNat 2) = ((x / 2 : Nat) : Int) := rfl
        rw [e, wrapA_nat .u64 _ (by show _ < 18446744073709551616; omega)] at this
        exact this
end Go.Proofs.Ytecncappdnhbaaa

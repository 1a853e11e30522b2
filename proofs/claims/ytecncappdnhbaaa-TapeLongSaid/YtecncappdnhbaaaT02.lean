/- TapeLong: what the law runs. -/
import Derived.Test.YtecncappdnhbaaaCtx
set_option autoImplicit false
set_option linter.unusedVariables false
set_option linter.unusedSimpArgs false
set_option maxRecDepth 100000
noncomputable section
namespace Go.Proofs.Ytecncappdnhbaaa
open Go Go.Ab
theorem lives12 :
    ∃ h', aCall C0 60 (Tgt.fn 20) [] H0 = some (AV.bool true, h') ∧ [].map h'.get = [] :=
  call_run (q := (cs 168 [])) (c := []) (by kernel_rfl) trivial


abbrev F12 : FTab := [(20, RSum.const (.bool true))]
abbrev C12 := mkCx tys fns F12 []
abbrev S12 := mkS tys F12 []
theorem lives12_row : RSum.Sound Try.prog tys 20 (RSum.const (.bool true)) :=
  RSum.sound (cx_goes _ _) all0 (RSum.const_ok rfl (let ⟨h', h, _⟩ := lives12; ⟨h', h⟩))
theorem all12 : SumAll Try.prog C12 := sums_all (fun p h => by
  simp only [F12, List.mem_cons, List.not_mem_nil, or_false] at h; subst h; exact lives12_row) (fun _ h => by cases h)

theorem longA (n : Int) (h0 : ileB (Int.ofNat 0) (wrapA IntKind.i64 ((Int.ofNat 1048574).add (wrapA IntKind.i64 ((wrapA IntKind.u64 n).tmod (Int.ofNat 5))))) = true) (h1 : ileB (wrapA IntKind.i64 ((Int.ofNat 1048574).add (wrapA IntKind.i64 ((wrapA IntKind.u64 n).tmod (Int.ofNat 5))))) (wrapA IntKind.i64 ((Int.ofNat 1048574).add (wrapA IntKind.i64 ((wrapA IntKind.u64 n).tmod (Int.ofNat 5))))) = true) (h2 : iltB (wrapA IntKind.i64 ((Int.ofNat 1048574).add (wrapA IntKind.i64 ((wrapA IntKind.u64 n).tmod (Int.ofNat 5))))) (Int.ofNat 9223372036854775808) = true) (h3 : ileB (Int.ofNat 1 * wrapA IntKind.i64 ((Int.ofNat 1048574).add (wrapA IntKind.i64 ((wrapA IntKind.u64 n).tmod (Int.ofNat 5))))) (Int.ofNat 281474976710656) = true) (h4 : iltB (Int.ofNat 1048576) (Int.ofNat (wrapA IntKind.i64 ((Int.ofNat 1048574).add (wrapA IntKind.i64 ((wrapA IntKind.u64 n).tmod (Int.ofNat 5))))).toNat) = true) (h5 : ileB (wrapA IntKind.i64 ((Int.ofNat 1048574).add (wrapA IntKind.i64 ((wrapA IntKind.u64 n).tmod (Int.ofNat 5))))) (Int.ofNat 1048576) = false) (h6 : iltB (Int.ofNat 1048576) (wrapA IntKind.i64 ((Int.ofNat 1048574).add (wrapA IntKind.i64 ((wrapA IntKind.u64 n).tmod (Int.ofNat 5))))) = true) :
    ∃ h', aCall C12 60 (Tgt.fn 4) [AV.int IntKind.i64 n] H0 = some (AV.bool true, h') ∧ [].map h'.get = [] :=
  call_run (q := (cs 2 (.y :: (.y :: (.y :: (.y :: (.y :: (.z :: (.z :: (.z :: (cs 8 (.y :: (.y :: (cs 1 (.y :: (cs 6 [])))))))))))))))) (c := [.tst _ true, .tst _ true, .tst _ true, .tst _ true, .tst _ true, .tst _ false, .tst _ false, .tst _ false, .tst _ true, .tst _ true, .tst _ true]) (by kernel_rfl) ⟨h0, h1, h2, h3, h4, h5, h5, h5, h6, h6, h6, trivial⟩

theorem longB (n : Int) (h0 : ileB (Int.ofNat 0) (wrapA IntKind.i64 ((Int.ofNat 1048574).add (wrapA IntKind.i64 ((wrapA IntKind.u64 n).tmod (Int.ofNat 5))))) = true) (h1 : ileB (wrapA IntKind.i64 ((Int.ofNat 1048574).add (wrapA IntKind.i64 ((wrapA IntKind.u64 n).tmod (Int.ofNat 5))))) (wrapA IntKind.i64 ((Int.ofNat 1048574).add (wrapA IntKind.i64 ((wrapA IntKind.u64 n).tmod (Int.ofNat 5))))) = true) (h2 : iltB (wrapA IntKind.i64 ((Int.ofNat 1048574).add (wrapA IntKind.i64 ((wrapA IntKind.u64 n).tmod (Int.ofNat 5))))) (Int.ofNat 9223372036854775808) = true) (h3 : ileB (Int.ofNat 1 * wrapA IntKind.i64 ((Int.ofNat 1048574).add (wrapA IntKind.i64 ((wrapA IntKind.u64 n).tmod (Int.ofNat 5))))) (Int.ofNat 281474976710656) = true) (h4 : iltB (Int.ofNat 1048576) (Int.ofNat (wrapA IntKind.i64 ((Int.ofNat 1048574).add (wrapA IntKind.i64 ((wrapA IntKind.u64 n).tmod (Int.ofNat 5))))).toNat) = false) (h5 : (0 + (wrapA IntKind.i64 ((Int.ofNat 1048574).add (wrapA IntKind.i64 ((wrapA IntKind.u64 n).tmod (Int.ofNat 5))))).toNat * 1).ble (reps (wrapA IntKind.i64 ((Int.ofNat 1048574).add (wrapA IntKind.i64 ((wrapA IntKind.u64 n).tmod (Int.ofNat 5))))).toNat [AV.int IntKind.u8 (Int.ofNat 0)]).length = true) (h6 : (wrapA IntKind.i64 ((Int.ofNat 1048574).add (wrapA IntKind.i64 ((wrapA IntKind.u64 n).tmod (Int.ofNat 5))))).toNat.beq 0 = false) (h7 : appRoom 1 0 (wrapA IntKind.i64 ((Int.ofNat 1048574).add (wrapA IntKind.i64 ((wrapA IntKind.u64 n).tmod (Int.ofNat 5))))).toNat = true) (h8 : Nat.ble 1 (0 + (wrapA IntKind.i64 ((Int.ofNat 1048574).add (wrapA IntKind.i64 ((wrapA IntKind.u64 n).tmod (Int.ofNat 5))))).toNat) = true) (h9 : ileB (wrapA IntKind.i64 ((Int.ofNat 1048574).add (wrapA IntKind.i64 ((wrapA IntKind.u64 n).tmod (Int.ofNat 5))))) (Int.ofNat 1048576) = true) (h10 : ieqB (wrapA IntKind.i64 ((Int.ofNat (0 + (wrapA IntKind.i64 ((Int.ofNat 1048574).add (wrapA IntKind.i64 ((wrapA IntKind.u64 n).tmod (Int.ofNat 5))))).toNat)).sub (Int.ofNat 0))) (wrapA IntKind.i64 ((Int.ofNat 1048574).add (wrapA IntKind.i64 ((wrapA IntKind.u64 n).tmod (Int.ofNat 5))))) = true) :
    ∃ h', aCall C12 60 (Tgt.fn 4) [AV.int IntKind.i64 n] H0 = some (AV.bool true, h') ∧ [].map h'.get = [] :=
  call_run (q := (cs 2 (.y :: (.y :: (.y :: (.y :: (.z :: (cs 2 (.y :: (.z :: (.y :: (.y :: (cs 3 (.y :: (.y :: (.y :: (cs 12 (.y :: (.y :: (.y :: (.y :: (.y :: (.y :: (.y :: [])))))))))))))))))))))))) (c := [.tst _ true, .tst _ true, .tst _ true, .tst _ true, .tst _ false, .tst _ true, .tst _ false, .tst _ true, .tst _ true, .tst _ true, .tst _ true, .tst _ true, .tst _ true, .tst _ true, .tst _ true, .tst _ true, .tst _ true, .tst _ true, .tst _ true]) (by kernel_rfl) ⟨h0, h1, h2, h3, h4, h5, h6, h7, h8, h9, h9, h9, h10, h10, h10, h10, h10, h10, h10, trivial⟩


theorem tapeLong_run (n : Int) : ∃ h', aCall C12 60 (.fn 4) [.int .i64 n] H0 = some (.bool true, h') := by
  obtain ⟨m, hm, h1, h2⟩ : ∃ m : Nat, wrapA .i64 ((Int.ofNat 1048574).add (wrapA .i64 ((wrapA .u64 n).tmod (Int.ofNat 5)))) = (m : Int) ∧ 1048574 ≤ m ∧ m ≤ 1048578 := by
    have hu : 0 ≤ wrapA .u64 n := by
      rw [wrapA_eq]; simp only [IntKind.wrap, IntKind.signed, IntKind.bits, Bool.false_and, Bool.false_eq_true, if_false]; omega
    obtain ⟨u, hu'⟩ : ∃ u : Nat, wrapA .u64 n = u := ⟨(wrapA .u64 n).toNat, by omega⟩
    have e1 : (wrapA .u64 n).tmod (Int.ofNat 5) = ((u % 5 : Nat) : Int) := by rw [hu']; rfl
    have e2 : wrapA .i64 ((u % 5 : Nat) : Int) = ((u % 5 : Nat) : Int) := by rw [wrapA_eq]; exact IntWalk.i64_in _ (by omega)
    have e3 : (Int.ofNat 1048574).add ((u % 5 : Nat) : Int) = ((1048574 + u % 5 : Nat) : Int) := by
      show (1048574 : Int) + _ = _; omega
    refine ⟨1048574 + u % 5, ?_, by omega, by omega⟩
    rw [e1, e2, e3, wrapA_eq]; exact IntWalk.i64_in _ (by omega)
  by_cases h : m ≤ 1048576
  · have := longB n ?_ ?_ ?_ ?_ ?_ ?_ ?_ ?_ ?_ ?_ ?_
    · obtain ⟨h', h, _⟩ := this; exact ⟨h', h⟩
    all_goals rw [hm]
    all_goals (simp only [ileB_eq, iltB_eq, ieqB_eq, nble, nbeq, Int.toNat_natCast, reps_len, List.length_cons, List.length_nil, appRoom, Int.ofNat_eq_natCast]; first | (simp; done) | (simp; omega) | skip)
    have e : (((0 + m : Nat) : Int).sub ((0 : Nat) : Int)) = (m : Int) := by show ((0 + m : Nat) : Int) - 0 = _; omega
    rw [e, wrapA_eq, IntWalk.i64_in _ (by omega)]; simp
  · have := longA n ?_ ?_ ?_ ?_ ?_ ?_ ?_
    · obtain ⟨h', h, _⟩ := this; exact ⟨h', h⟩
    all_goals rw [hm]
    all_goals (simp only [ileB_eq, iltB_eq, ieqB_eq, nble, nbeq, Int.toNat_natCast, Int.ofNat_eq_natCast]; first | (simp; done) | (simp; omega))
end Go.Proofs.Ytecncappdnhbaaa

/- Words: rows of the functions that count, turn, tell a bit. -/
import Derived.Test.YtecncappdnhbaaaL02a
set_option autoImplicit false
set_option linter.unusedVariables false
set_option linter.unusedSimpArgs false
set_option maxRecDepth 100000
noncomputable section
namespace Go.Ab.M
def bitI (x n : Int) : Int := (bitN x.toNat n.toNat : Nat)
end Go.Ab.M
namespace Go.Proofs.Ytecncappdnhbaaa
open Go.Ab.M Go.Ab Go
abbrev L02 : LTab := [((69, 0), cntLu8), ((71, 0), cntLu16), ((72, 0), cntLu32), ((73, 0), cntLu64), ((100, 0), bitL)]
abbrev C02a := mkCx tys fns [] L02
abbrev S02a := mkS tys [] L02
/-- how many bits a word has; the chapter's example. -/
abbrev F01 : FTab := [(63, RSum.const (.int .i64 (Int.ofNat 8))), (64, RSum.const (.int .i64 (Int.ofNat 16))), (65, RSum.const (.int .i64 (Int.ofNat 32))), (66, RSum.const (.int .i64 (Int.ofNat 64))), (15, RSum.const (.bool true))]
abbrev C01 := mkCx tys fns F01 []
abbrev S01 := mkS tys F01 []
theorem bits_u8 :
    ∃ h', aCall C0 100 (Tgt.fn 63) [] H0 = some (AV.int IntKind.i64 (Int.ofNat 8), h') ∧ [].map h'.get = [] :=
  call_run (q := (cs 17 [])) (c := []) (by kernel_rfl) trivial
theorem bits_u16 :
    ∃ h', aCall C0 100 (Tgt.fn 64) [] H0 = some (AV.int IntKind.i64 (Int.ofNat 16), h') ∧ [].map h'.get = [] :=
  call_run (q := (cs 33 [])) (c := []) (by kernel_rfl) trivial
theorem bits_u32 :
    ∃ h', aCall C0 100 (Tgt.fn 65) [] H0 = some (AV.int IntKind.i64 (Int.ofNat 32), h') ∧ [].map h'.get = [] :=
  call_run (q := (cs 65 [])) (c := []) (by kernel_rfl) trivial
theorem bits_u64 :
    ∃ h', aCall C0 100 (Tgt.fn 66) [] H0 = some (AV.int IntKind.i64 (Int.ofNat 64), h') ∧ [].map h'.get = [] :=
  call_run (q := (cs 129 [])) (c := []) (by kernel_rfl) trivial
theorem lives01 :
    ∃ h', aCall C0 100 (Tgt.fn 15) [] H0 = some (AV.bool true, h') ∧ [].map h'.get = [] :=
  call_run (q := (cs 80 [])) (c := []) (by kernel_rfl) trivial
theorem f01_ok : ∀ p ∈ F01, RSum.Sound Try.prog tys p.1 p.2 := by
  intro p h
  simp only [F01, List.mem_cons, List.not_mem_nil, or_false] at h
  rcases h with rfl | rfl | rfl | rfl | rfl
  · exact RSum.sound (cx_goes _ _) all0 (RSum.const_ok rfl (let ⟨h', h, _⟩ := bits_u8; ⟨h', h⟩))
  · exact RSum.sound (cx_goes _ _) all0 (RSum.const_ok rfl (let ⟨h', h, _⟩ := bits_u16; ⟨h', h⟩))
  · exact RSum.sound (cx_goes _ _) all0 (RSum.const_ok rfl (let ⟨h', h, _⟩ := bits_u32; ⟨h', h⟩))
  · exact RSum.sound (cx_goes _ _) all0 (RSum.const_ok rfl (let ⟨h', h, _⟩ := bits_u64; ⟨h', h⟩))
  · exact RSum.sound (cx_goes _ _) all0 (RSum.const_ok rfl (let ⟨h', h, _⟩ := lives01; ⟨h', h⟩))
theorem all01 : SumAll Try.prog C01 := sums_all f01_ok (fun _ h => by cases h)
theorem l02_ok : ∀ p ∈ L02, p.2.OK Try.prog (tyCx tys) p.1.2 := by
  intro p h
  simp only [L02, List.mem_cons, List.not_mem_nil, or_false] at h
  rcases h with rfl | rfl | rfl | rfl | rfl
  · exact cntLu8_ok
  · exact cntLu16_ok
  · exact cntLu32_ok
  · exact cntLu64_ok
  · exact bitL_ok
theorem all02a : SumAll Try.prog C02a := sums_all (fun _ h => by cases h) l02_ok
theorem count_u8 (x : Int) (h0 : (ileB (Int.ofNat 0) x) = true) (h1 : (iltB x (Int.ofNat 256)) = true) :
    ∃ h', aCall C02a 60 (Tgt.fn 69) [AV.int IntKind.u8 x] H0 = some (AV.int IntKind.i64 (Int.ofNat 0 + pcI 8 x), h') ∧ [].map h'.get = [] :=
  call_run (q := (.y :: (.y :: (cs 2 [])))) (c := [Cnd.code ((69, 0), cntLu8).snd.lsumS.fst ((69, 0), cntLu8).snd.lsumS.fst, .tst _ true, .tst _ true]) (by kernel_rfl) ⟨rfl, h0, h1, trivial⟩
def cntRu8 : RSum := RSum.pl true fun us => match us with
  | [.int .u8 x] => some ([ileB 0 x, iltB x 256], .int .i64 (pcI 8 x))
  | _ => none
theorem cntRu8_ok : RSum.Sound Try.prog tys 69 cntRu8 := by
  refine RSum.sound (cx_goes _ _) all02a (RSum.pl_ok fun us c v hm hc => ?_)
  split at hm
  · injection hm with hm; injection hm with e1 e2; subst e1; subst e2
    simp only [allTrue_cons] at hc
    obtain ⟨h', h, _⟩ := count_u8 _ hc.1 hc.2.1
    rw [show (Int.ofNat 0 : Int) = 0 from rfl, Int.zero_add] at h
    exact ⟨rfl, 60, h', h⟩
  · cases hm
theorem count_u16 (x : Int) (h0 : (ileB (Int.ofNat 0) x) = true) (h1 : (iltB x (Int.ofNat 65536)) = true) :
    ∃ h', aCall C02a 60 (Tgt.fn 71) [AV.int IntKind.u16 x] H0 = some (AV.int IntKind.i64 (Int.ofNat 0 + pcI 16 x), h') ∧ [].map h'.get = [] :=
  call_run (q := (.y :: (.y :: (cs 2 [])))) (c := [Cnd.code ((71, 0), cntLu16).snd.lsumS.fst ((71, 0), cntLu16).snd.lsumS.fst, .tst _ true, .tst _ true]) (by kernel_rfl) ⟨rfl, h0, h1, trivial⟩
def cntRu16 : RSum := RSum.pl true fun us => match us with
  | [.int .u16 x] => some ([ileB 0 x, iltB x 65536], .int .i64 (pcI 16 x))
  | _ => none
theorem cntRu16_ok : RSum.Sound Try.prog tys 71 cntRu16 := by
  refine RSum.sound (cx_goes _ _) all02a (RSum.pl_ok fun us c v hm hc => ?_)
  split at hm
  · injection hm with hm; injection hm with e1 e2; subst e1; subst e2
    simp only [allTrue_cons] at hc
    obtain ⟨h', h, _⟩ := count_u16 _ hc.1 hc.2.1
    rw [show (Int.ofNat 0 : Int) = 0 from rfl, Int.zero_add] at h
    exact ⟨rfl, 60, h', h⟩
  · cases hm
theorem count_u32 (x : Int) (h0 : (ileB (Int.ofNat 0) x) = true) (h1 : (iltB x (Int.ofNat 4294967296)) = true) :
    ∃ h', aCall C02a 60 (Tgt.fn 72) [AV.int IntKind.u32 x] H0 = some (AV.int IntKind.i64 (Int.ofNat 0 + pcI 32 x), h') ∧ [].map h'.get = [] :=
  call_run (q := (.y :: (.y :: (cs 2 [])))) (c := [Cnd.code ((72, 0), cntLu32).snd.lsumS.fst ((72, 0), cntLu32).snd.lsumS.fst, .tst _ true, .tst _ true]) (by kernel_rfl) ⟨rfl, h0, h1, trivial⟩
def cntRu32 : RSum := RSum.pl true fun us => match us with
  | [.int .u32 x] => some ([ileB 0 x, iltB x 4294967296], .int .i64 (pcI 32 x))
  | _ => none
theorem cntRu32_ok : RSum.Sound Try.prog tys 72 cntRu32 := by
  refine RSum.sound (cx_goes _ _) all02a (RSum.pl_ok fun us c v hm hc => ?_)
  split at hm
  · injection hm with hm; injection hm with e1 e2; subst e1; subst e2
    simp only [allTrue_cons] at hc
    obtain ⟨h', h, _⟩ := count_u32 _ hc.1 hc.2.1
    rw [show (Int.ofNat 0 : Int) = 0 from rfl, Int.zero_add] at h
    exact ⟨rfl, 60, h', h⟩
  · cases hm
theorem count_u64 (x : Int) (h0 : (ileB (Int.ofNat 0) x) = true) (h1 : (iltB x (Int.ofNat 18446744073709551616)) = true) :
    ∃ h', aCall C02a 60 (Tgt.fn 73) [AV.int IntKind.u64 x] H0 = some (AV.int IntKind.i64 (Int.ofNat 0 + pcI 64 x), h') ∧ [].map h'.get = [] :=
  call_run (q := (.y :: (.y :: (cs 2 [])))) (c := [Cnd.code ((73, 0), cntLu64).snd.lsumS.fst ((73, 0), cntLu64).snd.lsumS.fst, .tst _ true, .tst _ true]) (by kernel_rfl) ⟨rfl, h0, h1, trivial⟩
def cntRu64 : RSum := RSum.pl true fun us => match us with
  | [.int .u64 x] => some ([ileB 0 x, iltB x 18446744073709551616], .int .i64 (pcI 64 x))
  | _ => none
theorem cntRu64_ok : RSum.Sound Try.prog tys 73 cntRu64 := by
  refine RSum.sound (cx_goes _ _) all02a (RSum.pl_ok fun us c v hm hc => ?_)
  split at hm
  · injection hm with hm; injection hm with e1 e2; subst e1; subst e2
    simp only [allTrue_cons] at hc
    obtain ⟨h', h, _⟩ := count_u64 _ hc.1 hc.2.1
    rw [show (Int.ofNat 0 : Int) = 0 from rfl, Int.zero_add] at h
    exact ⟨rfl, 60, h', h⟩
  · cases hm
theorem bit_run (x : Int) (n : Int) (h0 : (ileB (Int.ofNat 0) x) = true) (h1 : (iltB x (Int.ofNat 18446744073709551616)) = true) (h2 : (ileB (Int.ofNat 0) n) = true) (h3 : (iltB n (Int.ofNat 1099511627776)) = true) :
    ∃ h', aCall C02a 60 (Tgt.fn 100) [AV.int IntKind.u64 x, AV.int IntKind.i64 n] H0 = some (AV.int IntKind.u64 ((shrI x n).tmod (Int.ofNat 2)), h') ∧ [].map h'.get = [] :=
  call_run (q := (.y :: (.y :: (.y :: (.y :: (cs 1 [])))))) (c := [Cnd.code ((100, 0), bitL).snd.lsumS.fst ((100, 0), bitL).snd.lsumS.fst, .tst _ true, .tst _ true, .tst _ true, .tst _ true]) (by kernel_rfl) ⟨rfl, h0, h1, h2, h3, trivial⟩
def bitR : RSum := RSum.pl true fun us => match us with
  | [.int .u64 x, .int .i64 n] => some ([ileB 0 x, iltB x 18446744073709551616, ileB 0 n, iltB n 1099511627776], .int .u64 (bitI x n))
  | _ => none
theorem bitR_ok : RSum.Sound Try.prog tys 100 bitR := by
  refine RSum.sound (cx_goes _ _) all02a (RSum.pl_ok fun us c v hm hc => ?_)
  split at hm
  · injection hm with hm; injection hm with e1 e2; subst e1; subst e2
    simp only [allTrue_cons] at hc
    obtain ⟨h', h, _⟩ := bit_run _ _ hc.1 hc.2.1 hc.2.2.1 hc.2.2.2.1
    exact ⟨rfl, 60, h', h⟩
  · cases hm
theorem turnu8A (x : Int) (n : Int) (h0 : (ieqB ((wrapA IntKind.i64 ((n.tmod (Int.ofNat 8)).add (Int.ofNat 8))).tmod (Int.ofNat 8)) (Int.ofNat 0)) = true) :
    ∃ h', aCall C01 100 (Tgt.fn 16) [AV.int IntKind.u8 x, AV.int IntKind.i64 n] H0 = some (AV.int IntKind.u8 x, h') ∧ [].map h'.get = [] :=
  call_run (q := (cs 2 (.y :: []))) (c := [.tst _ true]) (by kernel_rfl) ⟨h0, trivial⟩
theorem turnu8B (x : Int) (n : Int) (h0 : (ieqB ((wrapA IntKind.i64 ((n.tmod (Int.ofNat 8)).add (Int.ofNat 8))).tmod (Int.ofNat 8)) (Int.ofNat 0)) = false) (h1 : (!iltB ((wrapA IntKind.i64 ((n.tmod (Int.ofNat 8)).add (Int.ofNat 8))).tmod (Int.ofNat 8)) (Int.ofNat 0)) = true) (h2 : (!iltB (wrapA IntKind.i64 ((Int.ofNat 8).sub ((wrapA IntKind.i64 ((n.tmod (Int.ofNat 8)).add (Int.ofNat 8))).tmod (Int.ofNat 8)))) (Int.ofNat 0)) = true) :
    ∃ h', aCall C01 100 (Tgt.fn 16) [AV.int IntKind.u8 x, AV.int IntKind.i64 n] H0 = some (AV.int IntKind.u8 (orN IntKind.u8 (shlN IntKind.u8 x (shN IntKind.u8 ((wrapA IntKind.i64 ((n.tmod (Int.ofNat 8)).add (Int.ofNat 8))).tmod (Int.ofNat 8)).toNat)) (shrN x (shN IntKind.u8 (wrapA IntKind.i64 ((Int.ofNat 8).sub ((wrapA IntKind.i64 ((n.tmod (Int.ofNat 8)).add (Int.ofNat 8))).tmod (Int.ofNat 8)))).toNat))), h') ∧ [].map h'.get = [] :=
  call_run (q := (cs 2 (.z :: (.y :: (.y :: []))))) (c := [.tst _ false, .tst _ true, .tst _ true]) (by kernel_rfl) ⟨h0, h1, h2, trivial⟩
theorem turn_u8 (x n : Int) (hx : 0 ≤ x) (hx2 : x < 2 ^ 8) : ∃ h', aCall C01 100 (.fn 16) [.int .u8 x, .int .i64 n] H0 = some (.int .u8 (rotI 8 x n), h') := by
  have e := turn_mod 8 n (by omega) (by omega)
  have p := Int.emod_nonneg n (by omega : (8 : Int) ≠ 0)
  have q := Int.emod_lt_of_pos n (by omega : (0 : Int) < 8)
  have e' : (wrapA .i64 ((n.tmod (Int.ofNat 8)).add (Int.ofNat 8))).tmod (Int.ofNat 8) = n % 8 := e
  by_cases hm : n % 8 = 0
  · obtain ⟨h', h, _⟩ := turnu8A x n (by rw [e', ieqB_eq, hm]; rfl)
    rw [rot_zero 8 x n hx hx2 (by simpa using hm)]; exact ⟨h', h⟩
  · have e3 : wrapA .i64 ((Int.ofNat 8).sub (n % 8)) = 8 - n % 8 := by
      rw [wrapA_eq]; exact IntWalk.i64_in _ (by constructor <;> (show _ ≤ _; first | omega | (show _ ≤ (8 : Int) - n % 8; omega) | (show (8 : Int) - n % 8 ≤ _; omega)))
    obtain ⟨h', h, _⟩ := turnu8B x n (by rw [e', ieqB_eq]; simpa using hm) (by rw [e', iltB_eq]; simp; omega) (by rw [e', e3, iltB_eq]; simp; omega)
    rw [e'] at h
    have := turn_val .u8 8 rfl rfl (by omega) (by omega) x n hx hx2 (by simpa using hm)
    exact ⟨h', h.trans (congrArg (fun z => some (AV.int _ z, h')) this)⟩
def turnRu8 : RSum := RSum.pl true fun us => match us with
  | [.int .u8 x, .int .i64 n] => some ([ileB 0 x, iltB x 256], .int .u8 (rotI 8 x n))
  | _ => none
theorem turnRu8_ok : RSum.Sound Try.prog tys 16 turnRu8 := by
  refine RSum.sound (cx_goes _ _) all01 (RSum.pl_ok fun us c v hm hc => ?_)
  split at hm
  · injection hm with hm; injection hm with e1 e2; subst e1; subst e2
    simp only [allTrue_cons, ileB_eq, iltB_eq, decide_eq_true_eq] at hc
    obtain ⟨h', h⟩ := turn_u8 _ _ hc.1 (by simpa using hc.2.1)
    exact ⟨rfl, 100, h', h⟩
  · cases hm
theorem turnu16A (x : Int) (n : Int) (h0 : (ieqB ((wrapA IntKind.i64 ((n.tmod (Int.ofNat 16)).add (Int.ofNat 16))).tmod (Int.ofNat 16)) (Int.ofNat 0)) = true) :
    ∃ h', aCall C01 100 (Tgt.fn 17) [AV.int IntKind.u16 x, AV.int IntKind.i64 n] H0 = some (AV.int IntKind.u16 x, h') ∧ [].map h'.get = [] :=
  call_run (q := (cs 2 (.y :: []))) (c := [.tst _ true]) (by kernel_rfl) ⟨h0, trivial⟩
theorem turnu16B (x : Int) (n : Int) (h0 : (ieqB ((wrapA IntKind.i64 ((n.tmod (Int.ofNat 16)).add (Int.ofNat 16))).tmod (Int.ofNat 16)) (Int.ofNat 0)) = false) (h1 : (!iltB ((wrapA IntKind.i64 ((n.tmod (Int.ofNat 16)).add (Int.ofNat 16))).tmod (Int.ofNat 16)) (Int.ofNat 0)) = true) (h2 : (!iltB (wrapA IntKind.i64 ((Int.ofNat 16).sub ((wrapA IntKind.i64 ((n.tmod (Int.ofNat 16)).add (Int.ofNat 16))).tmod (Int.ofNat 16)))) (Int.ofNat 0)) = true) :
    ∃ h', aCall C01 100 (Tgt.fn 17) [AV.int IntKind.u16 x, AV.int IntKind.i64 n] H0 = some (AV.int IntKind.u16 (orN IntKind.u16 (shlN IntKind.u16 x (shN IntKind.u16 ((wrapA IntKind.i64 ((n.tmod (Int.ofNat 16)).add (Int.ofNat 16))).tmod (Int.ofNat 16)).toNat)) (shrN x (shN IntKind.u16 (wrapA IntKind.i64 ((Int.ofNat 16).sub ((wrapA IntKind.i64 ((n.tmod (Int.ofNat 16)).add (Int.ofNat 16))).tmod (Int.ofNat 16)))).toNat))), h') ∧ [].map h'.get = [] :=
  call_run (q := (cs 2 (.z :: (.y :: (.y :: []))))) (c := [.tst _ false, .tst _ true, .tst _ true]) (by kernel_rfl) ⟨h0, h1, h2, trivial⟩
theorem turn_u16 (x n : Int) (hx : 0 ≤ x) (hx2 : x < 2 ^ 16) : ∃ h', aCall C01 100 (.fn 17) [.int .u16 x, .int .i64 n] H0 = some (.int .u16 (rotI 16 x n), h') := by
  have e := turn_mod 16 n (by omega) (by omega)
  have p := Int.emod_nonneg n (by omega : (16 : Int) ≠ 0)
  have q := Int.emod_lt_of_pos n (by omega : (0 : Int) < 16)
  have e' : (wrapA .i64 ((n.tmod (Int.ofNat 16)).add (Int.ofNat 16))).tmod (Int.ofNat 16) = n % 16 := e
  by_cases hm : n % 16 = 0
  · obtain ⟨h', h, _⟩ := turnu16A x n (by rw [e', ieqB_eq, hm]; rfl)
    rw [rot_zero 16 x n hx hx2 (by simpa using hm)]; exact ⟨h', h⟩
  · have e3 : wrapA .i64 ((Int.ofNat 16).sub (n % 16)) = 16 - n % 16 := by
      rw [wrapA_eq]; exact IntWalk.i64_in _ (by constructor <;> (show _ ≤ _; first | omega | (show _ ≤ (16 : Int) - n % 16; omega) | (show (16 : Int) - n % 16 ≤ _; omega)))
    obtain ⟨h', h, _⟩ := turnu16B x n (by rw [e', ieqB_eq]; simpa using hm) (by rw [e', iltB_eq]; simp; omega) (by rw [e', e3, iltB_eq]; simp; omega)
    rw [e'] at h
    have := turn_val .u16 16 rfl rfl (by omega) (by omega) x n hx hx2 (by simpa using hm)
    exact ⟨h', h.trans (congrArg (fun z => some (AV.int _ z, h')) this)⟩
def turnRu16 : RSum := RSum.pl true fun us => match us with
  | [.int .u16 x, .int .i64 n] => some ([ileB 0 x, iltB x 65536], .int .u16 (rotI 16 x n))
  | _ => none
theorem turnRu16_ok : RSum.Sound Try.prog tys 17 turnRu16 := by
  refine RSum.sound (cx_goes _ _) all01 (RSum.pl_ok fun us c v hm hc => ?_)
  split at hm
  · injection hm with hm; injection hm with e1 e2; subst e1; subst e2
    simp only [allTrue_cons, ileB_eq, iltB_eq, decide_eq_true_eq] at hc
    obtain ⟨h', h⟩ := turn_u16 _ _ hc.1 (by simpa using hc.2.1)
    exact ⟨rfl, 100, h', h⟩
  · cases hm
theorem turnu32A (x : Int) (n : Int) (h0 : (ieqB ((wrapA IntKind.i64 ((n.tmod (Int.ofNat 32)).add (Int.ofNat 32))).tmod (Int.ofNat 32)) (Int.ofNat 0)) = true) :
    ∃ h', aCall C01 100 (Tgt.fn 18) [AV.int IntKind.u32 x, AV.int IntKind.i64 n] H0 = some (AV.int IntKind.u32 x, h') ∧ [].map h'.get = [] :=
  call_run (q := (cs 2 (.y :: []))) (c := [.tst _ true]) (by kernel_rfl) ⟨h0, trivial⟩
theorem turnu32B (x : Int) (n : Int) (h0 : (ieqB ((wrapA IntKind.i64 ((n.tmod (Int.ofNat 32)).add (Int.ofNat 32))).tmod (Int.ofNat 32)) (Int.ofNat 0)) = false) (h1 : (!iltB ((wrapA IntKind.i64 ((n.tmod (Int.ofNat 32)).add (Int.ofNat 32))).tmod (Int.ofNat 32)) (Int.ofNat 0)) = true) (h2 : (!iltB (wrapA IntKind.i64 ((Int.ofNat 32).sub ((wrapA IntKind.i64 ((n.tmod (Int.ofNat 32)).add (Int.ofNat 32))).tmod (Int.ofNat 32)))) (Int.ofNat 0)) = true) :
    ∃ h', aCall C01 100 (Tgt.fn 18) [AV.int IntKind.u32 x, AV.int IntKind.i64 n] H0 = some (AV.int IntKind.u32 (orN IntKind.u32 (shlN IntKind.u32 x (shN IntKind.u32 ((wrapA IntKind.i64 ((n.tmod (Int.ofNat 32)).add (Int.ofNat 32))).tmod (Int.ofNat 32)).toNat)) (shrN x (shN IntKind.u32 (wrapA IntKind.i64 ((Int.ofNat 32).sub ((wrapA IntKind.i64 ((n.tmod (Int.ofNat 32)).add (Int.ofNat 32))).tmod (Int.ofNat 32)))).toNat))), h') ∧ [].map h'.get = [] :=
  call_run (q := (cs 2 (.z :: (.y :: (.y :: []))))) (c := [.tst _ false, .tst _ true, .tst _ true]) (by kernel_rfl) ⟨h0, h1, h2, trivial⟩
theorem turn_u32 (x n : Int) (hx : 0 ≤ x) (hx2 : x < 2 ^ 32) : ∃ h', aCall C01 100 (.fn 18) [.int .u32 x, .int .i64 n] H0 = some (.int .u32 (rotI 32 x n), h') := by
  have e := turn_mod 32 n (by omega) (by omega)
  have p := Int.emod_nonneg n (by omega : (32 : Int) ≠ 0)
  have q := Int.emod_lt_of_pos n (by omega : (0 : Int) < 32)
  have e' : (wrapA .i64 ((n.tmod (Int.ofNat 32)).add (Int.ofNat 32))).tmod (Int.ofNat 32) = n % 32 := e
  by_cases hm : n % 32 = 0
  · obtain ⟨h', h, _⟩ := turnu32A x n (by rw [e', ieqB_eq, hm]; rfl)
    rw [rot_zero 32 x n hx hx2 (by simpa using hm)]; exact ⟨h', h⟩
  · have e3 : wrapA .i64 ((Int.ofNat 32).sub (n % 32)) = 32 - n % 32 := by
      rw [wrapA_eq]; exact IntWalk.i64_in _ (by constructor <;> (show _ ≤ _; first | omega | (show _ ≤ (32 : Int) - n % 32; omega) | (show (32 : Int) - n % 32 ≤ _; omega)))
    obtain ⟨h', h, _⟩ := turnu32B x n (by rw [e', ieqB_eq]; simpa using hm) (by rw [e', iltB_eq]; simp; omega) (by rw [e', e3, iltB_eq]; simp; omega)
    rw [e'] at h
    have := turn_val .u32 32 rfl rfl (by omega) (by omega) x n hx hx2 (by simpa using hm)
    exact ⟨h', h.trans (congrArg (fun z => some (AV.int _ z, h')) this)⟩
def turnRu32 : RSum := RSum.pl true fun us => match us with
  | [.int .u32 x, .int .i64 n] => some ([ileB 0 x, iltB x 4294967296], .int .u32 (rotI 32 x n))
  | _ => none
theorem turnRu32_ok : RSum.Sound Try.prog tys 18 turnRu32 := by
  refine RSum.sound (cx_goes _ _) all01 (RSum.pl_ok fun us c v hm hc => ?_)
  split at hm
  · injection hm with hm; injection hm with e1 e2; subst e1; subst e2
    simp only [allTrue_cons, ileB_eq, iltB_eq, decide_eq_true_eq] at hc
    obtain ⟨h', h⟩ := turn_u32 _ _ hc.1 (by simpa using hc.2.1)
    exact ⟨rfl, 100, h', h⟩
  · cases hm
theorem turnu64A (x : Int) (n : Int) (h0 : (ieqB ((wrapA IntKind.i64 ((n.tmod (Int.ofNat 64)).add (Int.ofNat 64))).tmod (Int.ofNat 64)) (Int.ofNat 0)) = true) :
    ∃ h', aCall C01 100 (Tgt.fn 19) [AV.int IntKind.u64 x, AV.int IntKind.i64 n] H0 = some (AV.int IntKind.u64 x, h') ∧ [].map h'.get = [] :=
  call_run (q := (cs 2 (.y :: []))) (c := [.tst _ true]) (by kernel_rfl) ⟨h0, trivial⟩
theorem turnu64B (x : Int) (n : Int) (h0 : (ieqB ((wrapA IntKind.i64 ((n.tmod (Int.ofNat 64)).add (Int.ofNat 64))).tmod (Int.ofNat 64)) (Int.ofNat 0)) = false) (h1 : (!iltB ((wrapA IntKind.i64 ((n.tmod (Int.ofNat 64)).add (Int.ofNat 64))).tmod (Int.ofNat 64)) (Int.ofNat 0)) = true) (h2 : (!iltB (wrapA IntKind.i64 ((Int.ofNat 64).sub ((wrapA IntKind.i64 ((n.tmod (Int.ofNat 64)).add (Int.ofNat 64))).tmod (Int.ofNat 64)))) (Int.ofNat 0)) = true) :
    ∃ h', aCall C01 100 (Tgt.fn 19) [AV.int IntKind.u64 x, AV.int IntKind.i64 n] H0 = some (AV.int IntKind.u64 (orN IntKind.u64 (shlN IntKind.u64 x (shN IntKind.u64 ((wrapA IntKind.i64 ((n.tmod (Int.ofNat 64)).add (Int.ofNat 64))).tmod (Int.ofNat 64)).toNat)) (shrN x (shN IntKind.u64 (wrapA IntKind.i64 ((Int.ofNat 64).sub ((wrapA IntKind.i64 ((n.tmod (Int.ofNat 64)).add (Int.ofNat 64))).tmod (Int.ofNat 64)))).toNat))), h') ∧ [].map h'.get = [] :=
  call_run (q := (cs 2 (.z :: (.y :: (.y :: []))))) (c := [.tst _ false, .tst _ true, .tst _ true]) (by kernel_rfl) ⟨h0, h1, h2, trivial⟩
theorem turn_u64 (x n : Int) (hx : 0 ≤ x) (hx2 : x < 2 ^ 64) : ∃ h', aCall C01 100 (.fn 19) [.int .u64 x, .int .i64 n] H0 = some (.int .u64 (rotI 64 x n), h') := by
  have e := turn_mod 64 n (by omega) (by omega)
  have p := Int.emod_nonneg n (by omega : (64 : Int) ≠ 0)
  have q := Int.emod_lt_of_pos n (by omega : (0 : Int) < 64)
  have e' : (wrapA .i64 ((n.tmod (Int.ofNat 64)).add (Int.ofNat 64))).tmod (Int.ofNat 64) = n % 64 := e
  by_cases hm : n % 64 = 0
  · obtain ⟨h', h, _⟩ := turnu64A x n (by rw [e', ieqB_eq, hm]; rfl)
    rw [rot_zero 64 x n hx hx2 (by simpa using hm)]; exact ⟨h', h⟩
  · have e3 : wrapA .i64 ((Int.ofNat 64).sub (n % 64)) = 64 - n % 64 := by
      rw [wrapA_eq]; exact IntWalk.i64_in _ (by constructor <;> (show _ ≤ _; first | omega | (show _ ≤ (64 : Int) - n % 64; omega) | (show (64 : Int) - n % 64 ≤ _; omega)))
    obtain ⟨h', h, _⟩ := turnu64B x n (by rw [e', ieqB_eq]; simpa using hm) (by rw [e', iltB_eq]; simp; omega) (by rw [e', e3, iltB_eq]; simp; omega)
    rw [e'] at h
    have := turn_val .u64 64 rfl rfl (by omega) (by omega) x n hx hx2 (by simpa using hm)
    exact ⟨h', h.trans (congrArg (fun z => some (AV.int _ z, h')) this)⟩
def turnRu64 : RSum := RSum.pl true fun us => match us with
  | [.int .u64 x, .int .i64 n] => some ([ileB 0 x, iltB x 18446744073709551616], .int .u64 (rotI 64 x n))
  | _ => none
theorem turnRu64_ok : RSum.Sound Try.prog tys 19 turnRu64 := by
  refine RSum.sound (cx_goes _ _) all01 (RSum.pl_ok fun us c v hm hc => ?_)
  split at hm
  · injection hm with hm; injection hm with e1 e2; subst e1; subst e2
    simp only [allTrue_cons, ileB_eq, iltB_eq, decide_eq_true_eq] at hc
    obtain ⟨h', h⟩ := turn_u64 _ _ hc.1 (by simpa using hc.2.1)
    exact ⟨rfl, 100, h', h⟩
  · cases hm
end Go.Proofs.Ytecncappdnhbaaa

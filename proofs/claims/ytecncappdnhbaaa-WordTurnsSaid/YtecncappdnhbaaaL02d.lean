/- Words: turned as the document says, and back. -/
import Derived.Test.YtecncappdnhbaaaL02c
set_option autoImplicit false
set_option linter.unusedVariables false
set_option linter.unusedSimpArgs false
set_option maxRecDepth 100000
noncomputable section
namespace Go.Ab
open Go.Ab.M
theorem pc_more (b k x : Nat) (hx : x < 2 ^ b) : pc (b + k) x = pc b x := by
  unfold pc
  rw [sumN_add]
  have : sumN (fun i => bitN x (b + i)) k = 0 := by
    have h0 : ∀ i, bitN x (b + i) = 0 := by
      intro i
      unfold bitN
      rw [Nat.div_eq_of_lt (Nat.lt_of_lt_of_le hx (Nat.pow_le_pow_right (by decide) (by omega)))]
    induction k with
    | zero => rfl
    | succ k ih => rw [sumN, ih, h0]
  omega
theorem rot_back (b : Nat) (hb : 0 < b) (hb2 : b ≤ 64) (x n : Int) (hx : 0 ≤ x) (hx2 : x < 2 ^ b) : rotI b (rotI b x n) (wrapA .i64 ((Int.ofNat 0).sub (n.tmod (Int.ofNat b)))) = x := by
  show rotI b (rotI b x n) (wrapA .i64 ((Int.ofNat 0).sub (n.tmod (b : Int)))) = x
  have h1 : n.tmod b = n % b - ((if 0 ≤ n ∨ (b : Int) ∣ n then 0 else (b : Int).natAbs : Nat) : Int) := Int.tmod_eq_emod
  have h2 := Int.emod_nonneg n (by omega : (b : Int) ≠ 0)
  have h3 := Int.emod_lt_of_pos n (by omega : (0 : Int) < b)
  have e : wrapA .i64 ((Int.ofNat 0).sub (n.tmod (b : Int))) = -(n.tmod b) := by
    have : (Int.ofNat 0).sub (n.tmod (b : Int)) = -(n.tmod b) := by show (0 : Int) - n.tmod b = _; omega
    rw [this, wrapA_eq]
    refine IntWalk.i64_in _ ?_
    rw [h1]; split <;> simp <;> omega
  rw [e, rot_rot b hb]
  refine rot_zero b x _ hx hx2 ?_
  have : n + -(n.tmod b) = b * (n.tdiv b) := by have := Int.mul_tdiv_add_tmod n b; omega
  rw [this]; exact Int.mul_emod_right _ _
theorem pc_rotI (b : Nat) (hb : 0 < b) (x n : Int) (hx : 0 ≤ x) (hx2 : x < 2 ^ b) : pcI b (rotI b x n) = pcI b x := by
  obtain ⟨y, rfl⟩ : ∃ y : Nat, x = y := ⟨x.toNat, by omega⟩
  have hy : y < 2 ^ b := by exact_mod_cast hx2
  rw [rotI_nat, pcI_nat, pcI_nat, pc_rot b y _ hy]
  have h2 := Int.emod_nonneg n (by omega : (b : Int) ≠ 0)
  have h3 := Int.emod_lt_of_pos n (by omega : (0 : Int) < b)
  omega
end Go.Ab
namespace Go.Proofs.Ytecncappdnhbaaa
open Go.Ab.M Go.Ab Go
abbrev L02c : LTab := [((70, 0), rcntL), ((68, 0), rturnL)]
abbrev C02c := mkCx tys fns F02 L02c
abbrev S02c := mkS tys F02 L02c

theorem all02c : SumAll Try.prog C02c := sums_all f02_ok (fun p h => by
  simp only [L02c, List.mem_cons, List.not_mem_nil, or_false] at h
  rcases h with rfl | rfl
  · exact rcntL_ok
  · exact rturnL_ok)
theorem rcnt_run (x : Int) (h0 : (ileB (Int.ofNat 0) x) = true) (h1 : (iltB x (Int.ofNat 18446744073709551616)) = true) :
    ∃ h', aCall C02c 60 (Tgt.fn 70) [AV.int IntKind.u64 x] H0 = some (AV.int IntKind.i64 (pcI 64 x), h') ∧ [].map h'.get = [] :=
  call_run (q := (.y :: (.y :: (cs 2 [])))) (c := (Cnd.code ((70, 0), rcntL).snd.lsumS.fst ((70, 0), rcntL).snd.lsumS.fst :: Cnd.tst _ true :: Cnd.tst _ true :: [])) (by kernel_rfl) ⟨rfl, h0, h1, trivial⟩
theorem rturn_run (x : Int) (b : Nat) (n : Int) (h0 : (ileB (Int.ofNat 0) x) = true) (h1 : (iltB x (Int.ofNat (Nat.pow 2 b))) = true) (h2 : (b.beq 8 || b.beq 16 || b.beq 32 || b.beq 64) = true) :
    ∃ h', aCall C02c 60 (Tgt.fn 68) [AV.int IntKind.u64 x, AV.int IntKind.i64 (Int.ofNat b), AV.int IntKind.i64 n] H0 = some (AV.int IntKind.u64 (rotI b x n), h') ∧ [].map h'.get = [] :=
  call_run (q := (.y :: (.y :: (.y :: (cs 3 []))))) (c := (Cnd.code ((68, 0), rturnL).snd.lsumS.fst ((68, 0), rturnL).snd.lsumS.fst :: Cnd.tst _ true :: Cnd.tst _ true :: Cnd.tst _ true :: [])) (by kernel_rfl) ⟨rfl, h0, h1, h2, trivial⟩
def rcntR : RSum := RSum.pl true fun us => match us with
  | [.int .u64 x] => some ([ileB 0 x, iltB x 18446744073709551616], .int .i64 (pcI 64 x))
  | _ => none
def rturnR : RSum := RSum.pl true fun us => match us with
  | [.int .u64 x, .int .i64 (.ofNat b), .int .i64 n] => some ([ileB 0 x, iltB x (2 ^ b), Nat.beq b 8 || Nat.beq b 16 || Nat.beq b 32 || Nat.beq b 64], .int .u64 (rotI b x n))
  | _ => none
theorem rcntR_ok : RSum.Sound Try.prog tys 70 rcntR := by
  refine RSum.sound (cx_goes _ _) all02c (RSum.pl_ok fun us c v hm hc => ?_)
  split at hm
  · injection hm with hm; injection hm with e1 e2; subst e1; subst e2
    simp only [allTrue_cons] at hc
    obtain ⟨h', h, _⟩ := rcnt_run _ hc.1 hc.2.1
    exact ⟨rfl, 60, h', h⟩
  · cases hm
theorem rturnR_ok : RSum.Sound Try.prog tys 68 rturnR := by
  refine RSum.sound (cx_goes _ _) all02c (RSum.pl_ok fun us c v hm hc => ?_)
  split at hm
  · injection hm with hm; injection hm with e1 e2; subst e1; subst e2
    simp only [allTrue_cons] at hc
    rename_i x b n
    have e : (Int.ofNat (Nat.pow 2 b) : Int) = 2 ^ b := by
      show ((2 ^ b : Nat) : Int) = _
      rw [Int.natCast_pow]; rfl
    obtain ⟨h', h, _⟩ := rturn_run x b n hc.1 (by rw [e]; exact hc.2.1) hc.2.2.1
    exact ⟨rfl, 60, h', h⟩
  · cases hm
abbrev F02d : FTab := [(70, rcntR), (68, rturnR)] ++ F02
abbrev C02d := mkCx tys fns F02d []
abbrev S02d := mkS tys F02d []
theorem all02d : SumAll Try.prog C02d := sums_all (fun p h => by
  rcases List.mem_append.1 h with h | h
  · simp only [List.mem_cons, List.not_mem_nil, or_false] at h
    rcases h with rfl | rfl
    · exact rcntR_ok
    · exact rturnR_ok
  · exact f02_ok p h) (fun _ h => by cases h)
theorem turnsu8 (x : Int) (n : Int) (h0 : (ileB (Int.ofNat 0) x) = true) (h1 : (iltB x (Int.ofNat 256)) = true) (h2 : (ileB (Int.ofNat 0) (wrapA IntKind.u64 x)) = true) (h3 : (iltB (wrapA IntKind.u64 x) (Int.ofNat 256)) = true) (h4 : (ieqB (wrapA IntKind.u64 (rotI 8 x n)) (rotI 8 (wrapA IntKind.u64 x) n)) = true) (h5 : (iltB (rotI 8 x n) (Int.ofNat 256)) = true) (h6 : (ieqB (rotI 8 (rotI 8 x n) (wrapA IntKind.i64 ((Int.ofNat 0).sub (n.tmod (Int.ofNat 8))))) x) = true) (h7 : (iltB (wrapA IntKind.u64 x) (Int.ofNat 18446744073709551616)) = true) (h8 : (ieqB (pcI 8 x) (pcI 64 (wrapA IntKind.u64 x))) = true) :
    ∃ h', aCall C02d 60 (Tgt.fn 23) [AV.int IntKind.u8 x, AV.int IntKind.i64 n] H0 = some (AV.bool (ieqB (pcI 8 (rotI 8 x n)) (pcI 8 x)), h') ∧ [].map h'.get = [] :=
  call_run (q := (.y :: (.y :: (.y :: (.y :: (cs 1 (.y :: (.y :: (.y :: (.y :: (cs 1 (.y :: (.y :: (cs 1 (.y :: (.y :: (.y :: (.y :: (.y :: (.y :: (.y :: (.y :: (.y :: (.y :: (.y :: (.y :: (.y :: (.y :: (.y :: (.y :: (.y :: (cs 1 (.y :: (.y :: (.y :: (.y :: (.y :: (.y :: (.y :: []))))))))))))))))))))))))))))))))))))))) (c := (Cnd.tst _ true :: Cnd.tst _ true :: Cnd.tst _ true :: Cnd.tst _ true :: Cnd.tst _ true :: Cnd.tst _ true :: Cnd.tst _ true :: Cnd.tst _ true :: Cnd.tst _ true :: Cnd.tst _ true :: Cnd.tst _ true :: Cnd.tst _ true :: Cnd.tst _ true :: Cnd.tst _ true :: Cnd.tst _ true :: Cnd.tst _ true :: Cnd.tst _ true :: Cnd.tst _ true :: Cnd.tst _ true :: Cnd.tst _ true :: Cnd.tst _ true :: Cnd.tst _ true :: Cnd.tst _ true :: Cnd.tst _ true :: Cnd.tst _ true :: Cnd.tst _ true :: Cnd.tst _ true :: Cnd.tst _ true :: Cnd.tst _ true :: Cnd.tst _ true :: Cnd.tst _ true :: Cnd.tst _ true :: Cnd.tst _ true :: Cnd.tst _ true :: [])) (by kernel_rfl) ⟨h0, h1, h2, h3, h4, h4, h4, h4, h4, h4, h5, h4, h4, h4, h6, h6, h0, h1, h6, h6, h6, h2, h7, h6, h6, h8, h8, h5, h8, h8, h0, h1, h8, h8, trivial⟩
theorem turns_u8 (x n : Int) (hx : 0 ≤ x) (hx2 : x < 2 ^ 8) : ∃ h', aCall C02d 60 (.fn 23) [.int .u8 x, .int .i64 n] H0 = some (.bool true, h') := by
  have c1 : ileB (Int.ofNat 0) x = true := by rw [ileB_eq]; exact decide_eq_true hx
  have c2 : iltB x (Int.ofNat 256) = true := by rw [iltB_eq]; exact decide_eq_true (by simpa using hx2)
  have hlt : x < 256 := by simpa using hx2
  have hr := rot_range 8 x n
  have hr2 : rotI 8 x n < 256 := by simpa using hr.2
  have hw : wrapA .u64 x = x := by
    obtain ⟨y, rfl⟩ : ∃ y : Nat, x = y := ⟨x.toNat, by omega⟩
    exact wrapA_nat .u64 y (by show y < 18446744073709551616; omega)
  have hw2 : wrapA .u64 (rotI 8 x n) = rotI 8 x n := by
    obtain ⟨y, hy⟩ : ∃ y : Nat, rotI 8 x n = y := ⟨(rotI 8 x n).toNat, by omega⟩
    rw [hy]; exact wrapA_nat .u64 y (by show y < 18446744073709551616; omega)
  have hpc : pcI 8 x = pcI 64 x := by
    obtain ⟨y, rfl⟩ : ∃ y : Nat, x = y := ⟨x.toNat, by omega⟩
    have e := pc_more 8 56 y (by exact_mod_cast hx2)
    show ((pc 8 y : Nat) : Int) = ((pc (8 + 56) y : Nat) : Int)
    rw [e]
  obtain ⟨h', h, _⟩ := turnsu8 x n c1 c2 (by rw [hw]; exact c1) (by rw [hw]; exact c2) (by rw [hw, hw2, ieqB_eq]; simp) (by rw [iltB_eq]; exact decide_eq_true hr.2) (by rw [rot_back 8 (by omega) (by omega) x n hx hx2, ieqB_eq]; simp) (by rw [hw]; rw [iltB_eq]; exact decide_eq_true (by show x < 18446744073709551616; omega)) (by rw [hw, ieqB_eq, hpc]; simp)
  rw [pc_rotI 8 (by omega) x n hx hx2, ieqB_eq, beq_self_eq_true] at h
  exact ⟨h', h⟩
def turnsRu8 : RSum := RSum.pl true fun us => match us with
  | [.int .u8 x, .int .i64 n] => some ([ileB 0 x, iltB x 256], .bool true)
  | _ => none
theorem turnsRu8_ok : RSum.Sound Try.prog tys 23 turnsRu8 := by
  refine RSum.sound (cx_goes _ _) all02d (RSum.pl_ok fun us c v hm hc => ?_)
  split at hm
  · injection hm with hm; injection hm with e1 e2; subst e1; subst e2
    simp only [allTrue_cons, ileB_eq, iltB_eq, decide_eq_true_eq] at hc
    obtain ⟨h', h⟩ := turns_u8 _ _ hc.1 (by simpa using hc.2.1)
    exact ⟨rfl, 60, h', h⟩
  · cases hm
theorem turnsu16 (x : Int) (n : Int) (h0 : (ileB (Int.ofNat 0) x) = true) (h1 : (iltB x (Int.ofNat 65536)) = true) (h2 : (ileB (Int.ofNat 0) (wrapA IntKind.u64 x)) = true) (h3 : (iltB (wrapA IntKind.u64 x) (Int.ofNat 65536)) = true) (h4 : (ieqB (wrapA IntKind.u64 (rotI 16 x n)) (rotI 16 (wrapA IntKind.u64 x) n)) = true) (h5 : (iltB (rotI 16 x n) (Int.ofNat 65536)) = true) (h6 : (ieqB (rotI 16 (rotI 16 x n) (wrapA IntKind.i64 ((Int.ofNat 0).sub (n.tmod (Int.ofNat 16))))) x) = true) (h7 : (iltB (wrapA IntKind.u64 x) (Int.ofNat 18446744073709551616)) = true) (h8 : (ieqB (pcI 16 x) (pcI 64 (wrapA IntKind.u64 x))) = true) :
    ∃ h', aCall C02d 60 (Tgt.fn 24) [AV.int IntKind.u16 x, AV.int IntKind.i64 n] H0 = some (AV.bool (ieqB (pcI 16 (rotI 16 x n)) (pcI 16 x)), h') ∧ [].map h'.get = [] :=
  call_run (q := (.y :: (.y :: (.y :: (.y :: (cs 1 (.y :: (.y :: (.y :: (.y :: (cs 1 (.y :: (.y :: (cs 1 (.y :: (.y :: (.y :: (.y :: (.y :: (.y :: (.y :: (.y :: (.y :: (.y :: (.y :: (.y :: (.y :: (.y :: (.y :: (.y :: (.y :: (cs 1 (.y :: (.y :: (.y :: (.y :: (.y :: (.y :: (.y :: []))))))))))))))))))))))))))))))))))))))) (c := (Cnd.tst _ true :: Cnd.tst _ true :: Cnd.tst _ true :: Cnd.tst _ true :: Cnd.tst _ true :: Cnd.tst _ true :: Cnd.tst _ true :: Cnd.tst _ true :: Cnd.tst _ true :: Cnd.tst _ true :: Cnd.tst _ true :: Cnd.tst _ true :: Cnd.tst _ true :: Cnd.tst _ true :: Cnd.tst _ true :: Cnd.tst _ true :: Cnd.tst _ true :: Cnd.tst _ true :: Cnd.tst _ true :: Cnd.tst _ true :: Cnd.tst _ true :: Cnd.tst _ true :: Cnd.tst _ true :: Cnd.tst _ true :: Cnd.tst _ true :: Cnd.tst _ true :: Cnd.tst _ true :: Cnd.tst _ true :: Cnd.tst _ true :: Cnd.tst _ true :: Cnd.tst _ true :: Cnd.tst _ true :: Cnd.tst _ true :: Cnd.tst _ true :: [])) (by kernel_rfl) ⟨h0, h1, h2, h3, h4, h4, h4, h4, h4, h4, h5, h4, h4, h4, h6, h6, h0, h1, h6, h6, h6, h2, h7, h6, h6, h8, h8, h5, h8, h8, h0, h1, h8, h8, trivial⟩
theorem turns_u16 (x n : Int) (hx : 0 ≤ x) (hx2 : x < 2 ^ 16) : ∃ h', aCall C02d 60 (.fn 24) [.int .u16 x, .int .i64 n] H0 = some (.bool true, h') := by
  have c1 : ileB (Int.ofNat 0) x = true := by rw [ileB_eq]; exact decide_eq_true hx
  have c2 : iltB x (Int.ofNat 65536) = true := by rw [iltB_eq]; exact decide_eq_true (by simpa using hx2)
  have hlt : x < 65536 := by simpa using hx2
  have hr := rot_range 16 x n
  have hr2 : rotI 16 x n < 65536 := by simpa using hr.2
  have hw : wrapA .u64 x = x := by
    obtain ⟨y, rfl⟩ : ∃ y : Nat, x = y := ⟨x.toNat, by omega⟩
    exact wrapA_nat .u64 y (by show y < 18446744073709551616; omega)
  have hw2 : wrapA .u64 (rotI 16 x n) = rotI 16 x n := by
    obtain ⟨y, hy⟩ : ∃ y : Nat, rotI 16 x n = y := ⟨(rotI 16 x n).toNat, by omega⟩
    rw [hy]; exact wrapA_nat .u64 y (by show y < 18446744073709551616; omega)
  have hpc : pcI 16 x = pcI 64 x := by
    obtain ⟨y, rfl⟩ : ∃ y : Nat, x = y := ⟨x.toNat, by omega⟩
    have e := pc_more 16 48 y (by exact_mod_cast hx2)
    show ((pc 16 y : Nat) : Int) = ((pc (16 + 48) y : Nat) : Int)
    rw [e]
  obtain ⟨h', h, _⟩ := turnsu16 x n c1 c2 (by rw [hw]; exact c1) (by rw [hw]; exact c2) (by rw [hw, hw2, ieqB_eq]; simp) (by rw [iltB_eq]; exact decide_eq_true hr.2) (by rw [rot_back 16 (by omega) (by omega) x n hx hx2, ieqB_eq]; simp) (by rw [hw]; rw [iltB_eq]; exact decide_eq_true (by show x < 18446744073709551616; omega)) (by rw [hw, ieqB_eq, hpc]; simp)
  rw [pc_rotI 16 (by omega) x n hx hx2, ieqB_eq, beq_self_eq_true] at h
  exact ⟨h', h⟩
def turnsRu16 : RSum := RSum.pl true fun us => match us with
  | [.int .u16 x, .int .i64 n] => some ([ileB 0 x, iltB x 65536], .bool true)
  | _ => none
theorem turnsRu16_ok : RSum.Sound Try.prog tys 24 turnsRu16 := by
  refine RSum.sound (cx_goes _ _) all02d (RSum.pl_ok fun us c v hm hc => ?_)
  split at hm
  · injection hm with hm; injection hm with e1 e2; subst e1; subst e2
    simp only [allTrue_cons, ileB_eq, iltB_eq, decide_eq_true_eq] at hc
    obtain ⟨h', h⟩ := turns_u16 _ _ hc.1 (by simpa using hc.2.1)
    exact ⟨rfl, 60, h', h⟩
  · cases hm
theorem turnsu32 (x : Int) (n : Int) (h0 : (ileB (Int.ofNat 0) x) = true) (h1 : (iltB x (Int.ofNat 4294967296)) = true) (h2 : (ileB (Int.ofNat 0) (wrapA IntKind.u64 x)) = true) (h3 : (iltB (wrapA IntKind.u64 x) (Int.ofNat 4294967296)) = true) (h4 : (ieqB (wrapA IntKind.u64 (rotI 32 x n)) (rotI 32 (wrapA IntKind.u64 x) n)) = true) (h5 : (iltB (rotI 32 x n) (Int.ofNat 4294967296)) = true) (h6 : (ieqB (rotI 32 (rotI 32 x n) (wrapA IntKind.i64 ((Int.ofNat 0).sub (n.tmod (Int.ofNat 32))))) x) = true) (h7 : (iltB (wrapA IntKind.u64 x) (Int.ofNat 18446744073709551616)) = true) (h8 : (ieqB (pcI 32 x) (pcI 64 (wrapA IntKind.u64 x))) = true) :
    ∃ h', aCall C02d 60 (Tgt.fn 25) [AV.int IntKind.u32 x, AV.int IntKind.i64 n] H0 = some (AV.bool (ieqB (pcI 32 (rotI 32 x n)) (pcI 32 x)), h') ∧ [].map h'.get = [] :=
  call_run (q := (.y :: (.y :: (.y :: (.y :: (cs 1 (.y :: (.y :: (.y :: (.y :: (cs 1 (.y :: (.y :: (cs 1 (.y :: (.y :: (.y :: (.y :: (.y :: (.y :: (.y :: (.y :: (.y :: (.y :: (.y :: (.y :: (.y :: (.y :: (.y :: (.y :: (.y :: (cs 1 (.y :: (.y :: (.y :: (.y :: (.y :: (.y :: (.y :: []))))))))))))))))))))))))))))))))))))))) (c := (Cnd.tst _ true :: Cnd.tst _ true :: Cnd.tst _ true :: Cnd.tst _ true :: Cnd.tst _ true :: Cnd.tst _ true :: Cnd.tst _ true :: Cnd.tst _ true :: Cnd.tst _ true :: Cnd.tst _ true :: Cnd.tst _ true :: Cnd.tst _ true :: Cnd.tst _ true :: Cnd.tst _ true :: Cnd.tst _ true :: Cnd.tst _ true :: Cnd.tst _ true :: Cnd.tst _ true :: Cnd.tst _ true :: Cnd.tst _ true :: Cnd.tst _ true :: Cnd.tst _ true :: Cnd.tst _ true :: Cnd.tst _ true :: Cnd.tst _ true :: Cnd.tst _ true :: Cnd.tst _ true :: Cnd.tst _ true :: Cnd.tst _ true :: Cnd.tst _ true :: Cnd.tst _ true :: Cnd.tst _ true :: Cnd.tst _ true :: Cnd.tst _ true :: [])) (by kernel_rfl) ⟨h0, h1, h2, h3, h4, h4, h4, h4, h4, h4, h5, h4, h4, h4, h6, h6, h0, h1, h6, h6, h6, h2, h7, h6, h6, h8, h8, h5, h8, h8, h0, h1, h8, h8, trivial⟩
theorem turns_u32 (x n : Int) (hx : 0 ≤ x) (hx2 : x < 2 ^ 32) : ∃ h', aCall C02d 60 (.fn 25) [.int .u32 x, .int .i64 n] H0 = some (.bool true, h') := by
  have c1 : ileB (Int.ofNat 0) x = true := by rw [ileB_eq]; exact decide_eq_true hx
  have c2 : iltB x (Int.ofNat 4294967296) = true := by rw [iltB_eq]; exact decide_eq_true (by simpa using hx2)
  have hlt : x < 4294967296 := by simpa using hx2
  have hr := rot_range 32 x n
  have hr2 : rotI 32 x n < 4294967296 := by simpa using hr.2
  have hw : wrapA .u64 x = x := by
    obtain ⟨y, rfl⟩ : ∃ y : Nat, x = y := ⟨x.toNat, by omega⟩
    exact wrapA_nat .u64 y (by show y < 18446744073709551616; omega)
  have hw2 : wrapA .u64 (rotI 32 x n) = rotI 32 x n := by
    obtain ⟨y, hy⟩ : ∃ y : Nat, rotI 32 x n = y := ⟨(rotI 32 x n).toNat, by omega⟩
    rw [hy]; exact wrapA_nat .u64 y (by show y < 18446744073709551616; omega)
  have hpc : pcI 32 x = pcI 64 x := by
    obtain ⟨y, rfl⟩ : ∃ y : Nat, x = y := ⟨x.toNat, by omega⟩
    have e := pc_more 32 32 y (by exact_mod_cast hx2)
    show ((pc 32 y : Nat) : Int) = ((pc (32 + 32) y : Nat) : Int)
    rw [e]
  obtain ⟨h', h, _⟩ := turnsu32 x n c1 c2 (by rw [hw]; exact c1) (by rw [hw]; exact c2) (by rw [hw, hw2, ieqB_eq]; simp) (by rw [iltB_eq]; exact decide_eq_true hr.2) (by rw [rot_back 32 (by omega) (by omega) x n hx hx2, ieqB_eq]; simp) (by rw [hw]; rw [iltB_eq]; exact decide_eq_true (by show x < 18446744073709551616; omega)) (by rw [hw, ieqB_eq, hpc]; simp)
  rw [pc_rotI 32 (by omega) x n hx hx2, ieqB_eq, beq_self_eq_true] at h
  exact ⟨h', h⟩
def turnsRu32 : RSum := RSum.pl true fun us => match us with
  | [.int .u32 x, .int .i64 n] => some ([ileB 0 x, iltB x 4294967296], .bool true)
  | _ => none
theorem turnsRu32_ok : RSum.Sound Try.prog tys 25 turnsRu32 := by
  refine RSum.sound (cx_goes _ _) all02d (RSum.pl_ok fun us c v hm hc => ?_)
  split at hm
  · injection hm with hm; injection hm with e1 e2; subst e1; subst e2
    simp only [allTrue_cons, ileB_eq, iltB_eq, decide_eq_true_eq] at hc
    obtain ⟨h', h⟩ := turns_u32 _ _ hc.1 (by simpa using hc.2.1)
    exact ⟨rfl, 60, h', h⟩
  · cases hm
theorem turnsu64 (x : Int) (n : Int) (h0 : (ileB (Int.ofNat 0) x) = true) (h1 : (iltB x (Int.ofNat 18446744073709551616)) = true) (h2 : (ieqB (rotI 64 x n) (rotI 64 x n)) = true) (h3 : (iltB (rotI 64 x n) (Int.ofNat 18446744073709551616)) = true) (h4 : (ieqB (rotI 64 (rotI 64 x n) (wrapA IntKind.i64 ((Int.ofNat 0).sub (n.tmod (Int.ofNat 64))))) x) = true) (h5 : (ieqB (pcI 64 x) (pcI 64 x)) = true) :
    ∃ h', aCall C02d 60 (Tgt.fn 26) [AV.int IntKind.u64 x, AV.int IntKind.i64 n] H0 = some (AV.bool (ieqB (pcI 64 (rotI 64 x n)) (pcI 64 x)), h') ∧ [].map h'.get = [] :=
  call_run (q := (.y :: (.y :: (.y :: (.y :: (cs 1 (.y :: (.y :: (.y :: (.y :: (cs 1 (.y :: (.y :: (cs 1 (.y :: (.y :: (.y :: (.y :: (.y :: (.y :: (.y :: (.y :: (.y :: (.y :: (.y :: (.y :: (.y :: (.y :: (.y :: (.y :: (cs 1 (.y :: (.y :: (.y :: (.y :: (.y :: (.y :: (.y :: [])))))))))))))))))))))))))))))))))))))) (c := (Cnd.tst _ true :: Cnd.tst _ true :: Cnd.tst _ true :: Cnd.tst _ true :: Cnd.tst _ true :: Cnd.tst _ true :: Cnd.tst _ true :: Cnd.tst _ true :: Cnd.tst _ true :: Cnd.tst _ true :: Cnd.tst _ true :: Cnd.tst _ true :: Cnd.tst _ true :: Cnd.tst _ true :: Cnd.tst _ true :: Cnd.tst _ true :: Cnd.tst _ true :: Cnd.tst _ true :: Cnd.tst _ true :: Cnd.tst _ true :: Cnd.tst _ true :: Cnd.tst _ true :: Cnd.tst _ true :: Cnd.tst _ true :: Cnd.tst _ true :: Cnd.tst _ true :: Cnd.tst _ true :: Cnd.tst _ true :: Cnd.tst _ true :: Cnd.tst _ true :: Cnd.tst _ true :: Cnd.tst _ true :: Cnd.tst _ true :: [])) (by kernel_rfl) ⟨h0, h1, h0, h1, h2, h2, h2, h2, h2, h2, h3, h2, h2, h2, h4, h4, h0, h1, h4, h4, h0, h1, h4, h4, h5, h5, h3, h5, h5, h0, h1, h5, h5, trivial⟩
theorem turns_u64 (x n : Int) (hx : 0 ≤ x) (hx2 : x < 2 ^ 64) : ∃ h', aCall C02d 60 (.fn 26) [.int .u64 x, .int .i64 n] H0 = some (.bool true, h') := by
  have c1 : ileB (Int.ofNat 0) x = true := by rw [ileB_eq]; exact decide_eq_true hx
  have c2 : iltB x (Int.ofNat 18446744073709551616) = true := by rw [iltB_eq]; exact decide_eq_true (by simpa using hx2)
  have hlt : x < 18446744073709551616 := by simpa using hx2
  have hr := rot_range 64 x n
  have hr2 : rotI 64 x n < 18446744073709551616 := by simpa using hr.2
  have hw : wrapA .u64 x = x := by
    obtain ⟨y, rfl⟩ : ∃ y : Nat, x = y := ⟨x.toNat, by omega⟩
    exact wrapA_nat .u64 y (by show y < 18446744073709551616; omega)
  have hw2 : wrapA .u64 (rotI 64 x n) = rotI 64 x n := by
    obtain ⟨y, hy⟩ : ∃ y : Nat, rotI 64 x n = y := ⟨(rotI 64 x n).toNat, by omega⟩
    rw [hy]; exact wrapA_nat .u64 y (by show y < 18446744073709551616; omega)
  have hpc : pcI 64 x = pcI 64 x := by
    obtain ⟨y, rfl⟩ : ∃ y : Nat, x = y := ⟨x.toNat, by omega⟩
    have e := pc_more 64 0 y (by exact_mod_cast hx2)
    show ((pc 64 y : Nat) : Int) = ((pc (64 + 0) y : Nat) : Int)
    rw [e]
  obtain ⟨h', h, _⟩ := turnsu64 x n c1 c2 (by rw [ieqB_eq]; simp) (by rw [iltB_eq]; exact decide_eq_true hr.2) (by rw [rot_back 64 (by omega) (by omega) x n hx hx2, ieqB_eq]; simp) (by rw [ieqB_eq]; simp)
  rw [pc_rotI 64 (by omega) x n hx hx2, ieqB_eq, beq_self_eq_true] at h
  exact ⟨h', h⟩
def turnsRu64 : RSum := RSum.pl true fun us => match us with
  | [.int .u64 x, .int .i64 n] => some ([ileB 0 x, iltB x 18446744073709551616], .bool true)
  | _ => none
theorem turnsRu64_ok : RSum.Sound Try.prog tys 26 turnsRu64 := by
  refine RSum.sound (cx_goes _ _) all02d (RSum.pl_ok fun us c v hm hc => ?_)
  split at hm
  · injection hm with hm; injection hm with e1 e2; subst e1; subst e2
    simp only [allTrue_cons, ileB_eq, iltB_eq, decide_eq_true_eq] at hc
    obtain ⟨h', h⟩ := turns_u64 _ _ hc.1 (by simpa using hc.2.1)
    exact ⟨rfl, 60, h', h⟩
  · cases hm
abbrev F02e : FTab := [(23, turnsRu8), (24, turnsRu16), (25, turnsRu32), (26, turnsRu64)] ++ F01
abbrev C02e := mkCx tys fns F02e []
abbrev S02e := mkS tys F02e []
theorem all02e : SumAll Try.prog C02e := sums_all (fun p h => by
  rcases List.mem_append.1 h with h | h
  · simp only [List.mem_cons, List.not_mem_nil, or_false] at h
    rcases h with rfl | rfl | rfl | rfl
    · exact turnsRu8_ok
    · exact turnsRu16_ok
    · exact turnsRu32_ok
    · exact turnsRu64_ok
  · exact f01_ok p h) (fun _ h => by cases h)
theorem word_turns (x : Int) (n : Int) (h0 : (ileB (Int.ofNat 0) (wrapA IntKind.u8 x)) = true) (h1 : (iltB (wrapA IntKind.u8 x) (Int.ofNat 256)) = true) (h2 : (ileB (Int.ofNat 0) (wrapA IntKind.u16 x)) = true) (h3 : (iltB (wrapA IntKind.u16 x) (Int.ofNat 65536)) = true) (h4 : (ileB (Int.ofNat 0) (wrapA IntKind.u32 x)) = true) (h5 : (iltB (wrapA IntKind.u32 x) (Int.ofNat 4294967296)) = true) (h6 : (ileB (Int.ofNat 0) x) = true) (h7 : (iltB x (Int.ofNat 18446744073709551616)) = true) :
    ∃ h', aCall C02e 60 (Tgt.fn 5) [AV.int IntKind.u64 x, AV.int IntKind.i64 n] H0 = some (AV.bool true, h') ∧ [].map h'.get = [] :=
  call_run (q := (cs 4 (.y :: (.y :: (cs 5 (.y :: (.y :: (cs 5 (.y :: (.y :: (cs 4 (.y :: (.y :: (cs 1 [])))))))))))))) (c := (Cnd.tst _ true :: Cnd.tst _ true :: Cnd.tst _ true :: Cnd.tst _ true :: Cnd.tst _ true :: Cnd.tst _ true :: Cnd.tst _ true :: Cnd.tst _ true :: [])) (by kernel_rfl) ⟨h0, h1, h2, h3, h4, h5, h6, h7, trivial⟩
theorem wordTurns_run (x n : Int) (hx : 0 ≤ x) (hx2 : x < 18446744073709551616) : ∃ h', aCall C02e 60 (.fn 5) [.int .u64 x, .int .i64 n] H0 = some (.bool true, h') := by
  have lo : ∀ (k : IntKind) (b : Nat), k.signed = false → k.bits = b → 0 ≤ wrapA k x ∧ wrapA k x < 2 ^ b := by
    intro k b h1 h2
    rw [wrapA_eq]
    simp only [IntKind.wrap, h1, h2, Bool.false_and, Bool.false_eq_true, if_false]
    constructor
    · exact Int.emod_nonneg _ (by have : (0 : Int) < 2 ^ b := Int.pow_pos (by decide); omega)
    · exact Int.emod_lt_of_pos _ (Int.pow_pos (by decide))
  have a8 := lo .u8 8 rfl rfl
  have a16 := lo .u16 16 rfl rfl
  have a32 := lo .u32 32 rfl rfl
  simp only [Int.reducePow] at a8 a16 a32
  obtain ⟨h', h, _⟩ := word_turns x n (by rw [ileB_eq]; exact decide_eq_true a8.1) (by rw [iltB_eq]; exact decide_eq_true a8.2) (by rw [ileB_eq]; exact decide_eq_true a16.1) (by rw [iltB_eq]; exact decide_eq_true a16.2) (by rw [ileB_eq]; exact decide_eq_true a32.1) (by rw [iltB_eq]; exact decide_eq_true a32.2) (by rw [ileB_eq]; exact decide_eq_true hx) (by rw [iltB_eq]; exact decide_eq_true hx2)
  exact ⟨h', h⟩
end Go.Proofs.Ytecncappdnhbaaa

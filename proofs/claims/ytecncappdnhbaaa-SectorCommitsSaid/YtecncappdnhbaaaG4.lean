/- Texts of the abstract machine and of the laws, merged. -/
import Derived.Test.YtecncappdnhbaaaGT
import Derived.Test.YtecncappdnhbaaaG3
/- The seat's machine, with what is known. -/
section
set_option autoImplicit false
set_option linter.unusedVariables false
set_option maxRecDepth 100000
noncomputable section
namespace Go.Proofs.Ytecncappdnhbaaa
open Go.Ab
abbrev tys := T.get none atys
abbrev fns := T.get none afns
/-- nothing is known. -/
abbrev C0 := mkCx tys fns [] []
abbrev S0 := mkS tys [] []
theorem all0 : SumAll Try.prog C0 := sums_all (fun _ h => by cases h) (fun _ h => by cases h)
end Go.Proofs.Ytecncappdnhbaaa
end
end

/- Words that are turned: plain laws. -/
section
section
set_option autoImplicit false
set_option linter.unusedVariables false
set_option linter.unusedSimpArgs false
namespace Go.Ab
def rotI (b : Nat) (x n : Int) : Int := (((BitVec.ofInt b x).rotateLeft (n % (b : Int)).toNat).toNat : Int)
theorem turn_mod (b n : Int) (hb : 0 < b) (hb2 : b ≤ 64) : (wrapA .i64 ((n.tmod b).add b)).tmod b = n % b := by
  have h1 : n.tmod b = n % b - if 0 ≤ n ∨ b ∣ n then 0 else b.natAbs := Int.tmod_eq_emod
  have h2 := Int.emod_nonneg n (by omega : b ≠ 0)
  have h3 := Int.emod_lt_of_pos n hb
  have h4 : (n.tmod b).add b = n.tmod b + b := rfl
  rw [wrapA_eq, h4, IntWalk.i64_in _ (by rw [h1]; split <;> omega)]
  rw [Int.tmod_eq_emod_of_nonneg (by rw [h1]; split <;> omega), Int.add_emod_right, Int.tmod_def, Int.sub_mul_emod_self_left]

/-- the kinds of words. -/
theorem turn_val (k : IntKind) (b : Nat) (hk : k.signed = false) (hb : k.bits = b) (hb8 : 8 ≤ b) (hb64 : b ≤ 64) (x n : Int) (hx : 0 ≤ x) (hx2 : x < 2 ^ b) (hm : n % (b : Int) ≠ 0) :
    orN k (shlN k x (shN k (n % (b : Int)).toNat)) (shrN x (shN k (wrapA .i64 ((b : Int).sub (n % (b : Int)))).toNat)) = rotI b x n := by
  have h2 := Int.emod_nonneg n (by omega : (b : Int) ≠ 0)
  have h3 := Int.emod_lt_of_pos n (by omega : (0 : Int) < b)
  obtain ⟨m, hm'⟩ : ∃ m : Nat, n % (b : Int) = m := ⟨(n % (b : Int)).toNat, by omega⟩
  obtain ⟨y, rfl⟩ : ∃ y : Nat, x = y := ⟨x.toNat, by omega⟩
  rw [hm'] at hm h2 h3 ⊢
  have e1 : wrapA .i64 ((b : Int).sub (m : Int)) = ((b - m : Nat) : Int) := by
    rw [wrapA_eq]
    have : (b : Int).sub (m : Int) = ((b - m : Nat) : Int) := by show (b : Int) - m = _; omega
    rw [this, IntWalk.i64_in _ (by omega)]
  rw [e1, shN_eq, shN_eq, hb, shlN_eq, shrN_eq]
  simp only [Int.toNat_natCast]
  rw [Nat.min_eq_left (by omega), Nat.min_eq_left (by omega)]
  have ewrap : ∀ z : Nat, k.wrap (z : Int) = ((z % 2 ^ b : Nat) : Int) := by
    intro z
    unfold IntKind.wrap
    rw [hk, hb]
    simp
  have hy : y < 2 ^ b := by exact_mod_cast hx2
  have e2 : k.wrap ((y : Int) * 2 ^ m) = (((y * 2 ^ m) % 2 ^ b : Nat) : Int) := by rw [← ewrap]; congr 1
  have epow : ((2 : Int) ^ (b - m)) = ((2 ^ (b - m) : Nat) : Int) := by simp
  have e3 : Int.fdiv (y : Int) (2 ^ (b - m)) = ((y / 2 ^ (b - m) : Nat) : Int) := by
    rw [epow, Int.fdiv_eq_ediv_of_nonneg _ (Int.natCast_nonneg _)]; simp
  rw [e2, e3]
  have l1 : y * 2 ^ m % 2 ^ b < 2 ^ b := Nat.mod_lt _ (Nat.two_pow_pos b)
  have l2 : y / 2 ^ (b - m) < 2 ^ b := Nat.lt_of_le_of_lt (Nat.div_le_self _ _) hy
  have e4 : ∀ u v : Nat, u < 2 ^ b → v < 2 ^ b → orN k (u : Int) (v : Int) = ((u ||| v : Nat) : Int) := by
    intro u v hu hv
    have := iOr_eq k (u : Int) (v : Int)
    unfold iOr at this
    injection this with _ this
    rw [this, ewrap]
    have hof : ∀ z : Nat, z < 2 ^ b → (BitVec.ofInt k.bits (z : Int)).toNat = z := by
      intro z hz
      rw [BitVec.toNat_ofInt, hb]
      have : ((z : Int) % ((2 ^ b : Nat) : Int)) = z := Int.emod_eq_of_lt (by omega) (by omega)
      rw [this]; simp
    rw [BitVec.toNat_or, hof u hu, hof v hv, Nat.mod_eq_of_lt (Nat.or_lt_two_pow hu hv)]
  rw [e4 _ _ l1 l2]
  unfold rotI
  rw [hm', BitVec.toNat_rotateLeft]
  have hof : (BitVec.ofInt b (y : Int)).toNat = y := by
    rw [BitVec.toNat_ofInt]
    have : ((y : Int) % ((2 ^ b : Nat) : Int)) = y := Int.emod_eq_of_lt (by omega) (by omega)
    rw [this]; simp
  rw [hof, Int.toNat_natCast, Nat.mod_eq_of_lt (by omega : m < b), Nat.shiftLeft_eq, Nat.shiftRight_eq_div_pow]

theorem rot_zero (b : Nat) (x n : Int) (hx : 0 ≤ x) (hx2 : x < 2 ^ b) (hm : n % (b : Int) = 0) : rotI b x n = x := by
  unfold rotI
  rw [hm]
  obtain ⟨y, rfl⟩ : ∃ y : Nat, x = y := ⟨x.toNat, by omega⟩
  have hy : y < 2 ^ b := by exact_mod_cast hx2
  rw [BitVec.toNat_rotateLeft]
  simp only [Int.toNat_zero, Nat.zero_mod, Nat.shiftLeft_zero, Nat.sub_zero]
  rw [BitVec.toNat_ofInt]
  have : ((y : Int) % ((2 ^ b : Nat) : Int)) = y := Int.emod_eq_of_lt (by omega) (by omega)
  rw [this, Int.toNat_natCast, Nat.mod_eq_of_lt hy, Nat.shiftRight_eq_div_pow, Nat.div_eq_of_lt hy]; simp

theorem rot_range (b : Nat) (x n : Int) : 0 ≤ rotI b x n ∧ rotI b x n < 2 ^ b := by
  unfold rotI
  have := ((BitVec.ofInt b x).rotateLeft (n % (b : Int)).toNat).isLt
  constructor
  · omega
  · exact_mod_cast this

theorem rot_rot (b : Nat) (hb : 0 < b) (x n m : Int) : rotI b (rotI b x n) m = rotI b x (n + m) := by
  unfold rotI
  generalize hz : (BitVec.ofInt b x) = z
  rw [show BitVec.ofInt b (((z.rotateLeft (n % (b : Int)).toNat).toNat : Nat) : Int) = z.rotateLeft (n % (b : Int)).toNat from by
    rw [BitVec.ofInt_natCast, BitVec.ofNat_toNat, BitVec.setWidth_eq]]
  congr 2
  have h2 := Int.emod_nonneg n (by omega : (b : Int) ≠ 0)
  have h3 := Int.emod_lt_of_pos n (by omega : (0 : Int) < b)
  have h4 := Int.emod_nonneg m (by omega : (b : Int) ≠ 0)
  have h5 := Int.emod_lt_of_pos m (by omega : (0 : Int) < b)
  have h6 : (n + m) % (b : Int) = (n % b + m % b) % b := by rw [Int.emod_add_emod, Int.add_emod_emod]
  obtain ⟨p, hp⟩ : ∃ p : Nat, n % (b : Int) = p := ⟨(n % (b : Int)).toNat, by omega⟩
  obtain ⟨q, hq⟩ : ∃ q : Nat, m % (b : Int) = q := ⟨(m % (b : Int)).toNat, by omega⟩
  rw [h6, hp, hq]
  rw [hp] at h3; rw [hq] at h5
  have hp' : p < b := by omega
  have hq' : q < b := by omega
  have e : ((p : Int) + q) % b = (((p + q) % b : Nat) : Int) := by simp
  rw [e]
  simp only [Int.toNat_natCast]
  rw [BitVec.rotateLeft_mod_eq_rotateLeft]
  apply BitVec.eq_of_getLsbD_eq
  intro i hi
  rw [BitVec.getLsbD_rotateLeft, BitVec.getLsbD_rotateLeft, BitVec.getLsbD_rotateLeft, BitVec.getLsbD_rotateLeft]
  rw [Nat.mod_eq_of_lt hp', Nat.mod_eq_of_lt hq']
  have hr : (p + q) % b = if p + q < b then p + q else p + q - b := by
    split
    · exact Nat.mod_eq_of_lt (by omega)
    · rw [Nat.mod_eq_sub_mod (by omega), Nat.mod_eq_of_lt (by omega)]
  have same : ∀ j j' : Nat, j = j' → z.getLsbD j = z.getLsbD j' := fun j j' h => by rw [h]
  by_cases h1 : i < q
  · by_cases h7 : b - q + i < p
    · have c1 : i < (p + q) % b := by rw [hr]; split <;> omega
      simp only [h1, h7, c1, decide_true, cond_true]
      exact same _ _ (by rw [hr]; split <;> omega)
    · by_cases h8 : p + q < b
      · have c1 : i < (p + q) % b := by rw [hr, if_pos h8]; omega
        have c2 : b - q + i < b := by omega
        simp only [h1, h7, c1, c2, decide_true, decide_false, cond_true, cond_false, Bool.true_and]
        exact same _ _ (by rw [hr, if_pos h8]; omega)
      · have c1 : ¬ i < (p + q) % b := by rw [hr, if_neg h8]; omega
        have c2 : b - q + i < b := by omega
        simp only [h1, h7, c1, c2, hi, decide_true, decide_false, cond_true, cond_false, Bool.true_and]
        exact same _ _ (by rw [hr, if_neg h8]; omega)
  · by_cases h7 : i - q < p
    · by_cases h8 : p + q < b
      · have c1 : i < (p + q) % b := by rw [hr, if_pos h8]; omega
        simp only [h1, h7, c1, hi, decide_true, decide_false, cond_true, cond_false, Bool.true_and]
        exact same _ _ (by rw [hr, if_pos h8]; omega)
      · have c1 : ¬ i < (p + q) % b := by rw [hr, if_neg h8]; omega
        simp only [h1, h7, c1, hi, decide_true, decide_false, cond_true, cond_false, Bool.true_and]
        exact same _ _ (by rw [hr, if_neg h8]; omega)
    · have h8 : p + q < b := by omega
      have c1 : ¬ i < (p + q) % b := by rw [hr, if_pos h8]; omega
      have c2 : i - q < b := by omega
      simp only [h1, h7, c1, c2, hi, decide_true, decide_false, cond_true, cond_false, Bool.true_and]
      exact same _ _ (by rw [hr, if_pos h8]; omega)
end Go.Ab
end
end

/- Bits of words: plain laws. -/
section
section
set_option autoImplicit false
set_option linter.unusedVariables false
set_option linter.unusedSimpArgs false
namespace Go.Ab
def sumN (f : Nat → Nat) : Nat → Nat
  | 0 => 0
  | n + 1 => sumN f n + f n
def bitN (x i : Nat) : Nat := x / 2 ^ i % 2
def pc (b x : Nat) : Nat := sumN (bitN x) b

theorem sumN_congr {f g : Nat → Nat} : ∀ n, (∀ i, i < n → f i = g i) → sumN f n = sumN g n := by
  intro n
  induction n with
  | zero => intro _; rfl
  | succ n ih => intro h; simp only [sumN]; rw [ih fun i hi => h i (by omega), h n (by omega)]
theorem sumN_front (f : Nat → Nat) (n : Nat) : sumN f (n + 1) = f 0 + sumN (fun i => f (i + 1)) n := by
  induction n with
  | zero => simp [sumN]
  | succ n ih => rw [sumN, ih, sumN]; omega
theorem sumN_add (f : Nat → Nat) (a b : Nat) : sumN f (a + b) = sumN f a + sumN (fun i => f (a + i)) b := by
  induction b with
  | zero => simp [sumN]
  | succ b ih => rw [← Nat.add_assoc, sumN, ih, sumN]; omega
theorem bitN_succ (x i : Nat) : bitN x (i + 1) = bitN (x / 2) i := by
  unfold bitN
  rw [Nat.pow_succ, Nat.mul_comm, Nat.div_div_eq_div_mul]
theorem bitN_lt (x i : Nat) : bitN x i < 2 := Nat.mod_lt _ (by decide)
theorem bitN_test (x i : Nat) : bitN x i = (x.testBit i).toNat := by rw [Nat.toNat_testBit]; rfl
theorem pc_succ (b x : Nat) : pc (b + 1) x = x % 2 + pc b (x / 2) := by
  unfold pc
  rw [sumN_front]
  have : bitN x 0 = x % 2 := by simp [bitN]
  rw [this]
  congr 1
  exact sumN_congr _ fun i _ => bitN_succ x i
theorem pc_zero (b : Nat) : pc b 0 = 0 := by
  induction b with
  | zero => rfl
  | succ b ih => rw [pc_succ]; simpa using ih
theorem pc_le (b x : Nat) : pc b x ≤ b := by
  induction b generalizing x with
  | zero => exact Nat.le_refl _
  | succ b ih => rw [pc_succ]; have := ih (x / 2); have := Nat.mod_lt x (by decide : 0 < 2); omega
/-- the lowest bit goes. -/
theorem pc_drop : ∀ (b x : Nat), 0 < x → x < 2 ^ b → pc b (x &&& (x - 1)) + 1 = pc b x := by
  intro b
  induction b with
  | zero => intro x h h2; omega
  | succ b ih =>
    intro x h h2
    rw [pc_succ, pc_succ, Nat.and_div_two]
    have hm : (x &&& (x - 1)) % 2 = x % 2 &&& (x - 1) % 2 := by
      have := @Nat.and_mod_two_pow x (x - 1) 1
      simpa using this
    rw [hm]
    rcases Nat.mod_two_eq_zero_or_one x with e | e
    · have e1 : (x - 1) / 2 = x / 2 - 1 := by omega
      rw [e, e1, Nat.zero_and]
      have := ih (x / 2) (by omega) (by rw [Nat.pow_succ] at h2; omega)
      omega
    · have e1 : (x - 1) / 2 = x / 2 := by omega
      have e2 : (x - 1) % 2 = 0 := by omega
      rw [e, e1, e2, Nat.and_zero, Nat.and_self]; omega
theorem mod_bits (x i : Nat) : x % 2 ^ (i + 1) = x % 2 ^ i + bitN x i * 2 ^ i := by
  unfold bitN
  rw [Nat.pow_succ, Nat.mod_mul]
  rw [Nat.mul_comm]

/-- a word, turned left by m. -/
def rotN (b x m : Nat) : Nat := ((BitVec.ofNat b x).rotateLeft m).toNat
theorem rotI_nat (b x : Nat) (n : Int) : rotI b (x : Int) n = (rotN b x (n % (b : Int)).toNat : Nat) := by
  unfold rotI rotN
  rw [BitVec.ofInt_natCast]
theorem rotN_lt (b x m : Nat) : rotN b x m < 2 ^ b := (BitVec.isLt _)
theorem rotN_bit (b x m i : Nat) (hx : x < 2 ^ b) (hm : m < b) (hi : i < b) : bitN (rotN b x m) i = bitN x (if i < m then b - m + i else i - m) := by
  rw [bitN_test, bitN_test]
  congr 1
  have h1 : (rotN b x m).testBit i = ((BitVec.ofNat b x).rotateLeft m).getLsbD i := rfl
  have h2 : ∀ j, j < b → (BitVec.ofNat b x).getLsbD j = x.testBit j := by
    intro j hj
    rw [BitVec.getLsbD_ofNat]; simp [hj]
  rw [h1, BitVec.getLsbD_rotateLeft, Nat.mod_eq_of_lt hm]
  by_cases h : i < m
  · simp only [h, decide_true, cond_true, if_true]; exact h2 _ (by omega)
  · simp only [h, decide_false, cond_false, if_false, hi, decide_true, Bool.true_and]; exact h2 _ (by omega)
theorem pc_rot (b x m : Nat) (hx : x < 2 ^ b) (hm : m < b) : pc b (rotN b x m) = pc b x := by
  obtain ⟨k, rfl⟩ : ∃ k, b = m + k := ⟨b - m, by omega⟩
  have e1 : pc (m + k) (rotN (m + k) x m) = sumN (fun i => bitN x (k + i)) m + sumN (fun i => bitN x i) k := by
    unfold pc
    rw [sumN_add]
    congr 1
    · exact sumN_congr _ fun i hi => by rw [rotN_bit _ _ _ _ hx hm (by omega), if_pos hi]; congr 1; omega
    · exact sumN_congr _ fun i hi => by rw [rotN_bit _ _ _ _ hx hm (by omega), if_neg (by omega)]; congr 1; omega
  have e2 : pc (m + k) x = sumN (fun i => bitN x i) k + sumN (fun i => bitN x (k + i)) m := by
    unfold pc
    rw [Nat.add_comm m k, sumN_add]
  omega

/-! ### Words as natural numbers -/
theorem wrapA_nat (k : IntKind) (m : Nat) (h : m < topK k) : wrapA k (m : Int) = m := by rw [wrapA_eq]; exact wrap_small k m h
theorem andN_nat (k : IntKind) (x y : Nat) (hx : x < topK k) (hy : y < topK k) : andN k (x : Int) (y : Int) = ((x &&& y : Nat) : Int) := by
  have h := iAnd_eq k (x : Int) (y : Int)
  unfold iAnd at h
  injection h with _ h
  rw [h, BitVec.toNat_and, ofInt_small k x hx, ofInt_small k y hy]
  exact wrap_small k _ (Nat.lt_of_le_of_lt Nat.and_le_left hx)
theorem orN_nat (k : IntKind) (x y : Nat) (hx : x < topK k) (hy : y < topK k) : orN k (x : Int) (y : Int) = ((x ||| y : Nat) : Int) := by
  have h := iOr_eq k (x : Int) (y : Int)
  unfold iOr at h
  injection h with _ h
  rw [h, BitVec.toNat_or, ofInt_small k x hx, ofInt_small k y hy]
  obtain ⟨j, hj, _⟩ := topK_pow k
  refine wrap_small k _ ?_
  rw [hj] at hx hy ⊢
  exact Nat.or_lt_two_pow hx hy
theorem xorN_nat (k : IntKind) (x y : Nat) (hx : x < topK k) (hy : y < topK k) : xorN k (x : Int) (y : Int) = ((x ^^^ y : Nat) : Int) := by
  have h := iXor_eq k (x : Int) (y : Int)
  unfold iXor at h
  injection h with _ h
  rw [h, BitVec.toNat_xor, ofInt_small k x hx, ofInt_small k y hy]
  obtain ⟨j, hj, _⟩ := topK_pow k
  refine wrap_small k _ ?_
  rw [hj] at hx hy ⊢
  exact Nat.xor_lt_two_pow hx hy
theorem i64_add (a b : Nat) (h : a + b < 9223372036854775808) : wrapA .i64 (Int.add (a : Int) (b : Int)) = ((a + b : Nat) : Int) := by
  have : Int.add (a : Int) (b : Int) = ((a + b : Nat) : Int) := by show (a : Int) + b = _; omega
  rw [this]; exact wrapA_nat .i64 _ h
theorem i64_sub (a b : Nat) (h : b ≤ a) (h2 : a < 9223372036854775808) : wrapA .i64 (Int.sub (a : Int) (b : Int)) = ((a - b : Nat) : Int) := by
  have : Int.sub (a : Int) (b : Int) = ((a - b : Nat) : Int) := by show (a : Int) - b = _; omega
  rw [this]; exact wrapA_nat .i64 _ (by show _ < 9223372036854775808; omega)
theorem nat_of {x : Int} (h : ileB 0 x = true) : ∃ y : Nat, x = y := by
  rw [ileB_eq] at h
  exact ⟨x.toNat, by have := of_decide_eq_true h; omega⟩
theorem lt_of {x y : Nat} (h : iltB (x : Int) (y : Int) = true) : x < y := by
  rw [iltB_eq] at h
  have := of_decide_eq_true h; omega
/-- one round of the count of a word's bits. -/
theorem count_round (k : IntKind) (b : Nat) (hk : topK k = 2 ^ b) (x : Nat) (hx : x < 2 ^ b) (h0 : 0 < x) : andN k (x : Int) (wrapA k (Int.sub (x : Int) (Int.ofNat 1))) = ((x &&& (x - 1) : Nat) : Int) := by
  have e : Int.sub (x : Int) (Int.ofNat 1) = ((x - 1 : Nat) : Int) := by show (x : Int) - 1 = _; omega
  rw [e, wrapA_nat k _ (by omega), andN_nat k _ _ (by omega) (by omega)]
end Go.Ab
end
end

/- The bits of words: what the functions that count them do. -/
section
set_option autoImplicit false
set_option linter.unusedVariables false
set_option linter.unusedSimpArgs false
set_option maxRecDepth 100000
noncomputable section
namespace Go.Proofs.Ytecncappdnhbaaa
open Go Go.Ab
end Go.Proofs.Ytecncappdnhbaaa
namespace Go.Ab.M
def pcI (b : Nat) (x : Int) : Int := (pc b x.toNat : Nat)
theorem pcI_nat (b x : Nat) : pcI b (x : Int) = (pc b x : Nat) := rfl
def shrI (x n : Int) : Int := (x.toNat / 2 ^ n.toNat : Nat)
end Go.Ab.M
namespace Go.Proofs.Ytecncappdnhbaaa
open Go.Ab.M Go.Ab Go
theorem cntu8A (x : Int) (n : Int) (H : Heap) (ds : List Nat) (h0 : (!ieqB x (Int.ofNat 0)) = true) :
    CodeOK Try.prog (tyCx tys) 13 H.next (roundOf (blockOf Try.f69 0)) { fr := frameOf 13 ([0, 3].zip [AV.int IntKind.u8 x, AV.int IntKind.i64 n]), ds := ds, H := H } (AX.normal) ⟨frameOf 13 ([0, 3].zip [AV.int IntKind.u8 (andN IntKind.u8 x (wrapA IntKind.u8 (x.sub (Int.ofNat 1)))), AV.int IntKind.i64 (wrapA IntKind.i64 (n.add (Int.ofNat 1)))]), ds, H⟩ :=
  pure_run (g := 30) (k := 69) (f := 30) (cx_goes _ _) all0 (q := (.y :: [])) (c := [.tst _ true]) (by kernel_rfl) ⟨h0, trivial⟩ (by kernel_rfl) (by first | kernel_rfl | rfl | simp [AV.plainL, AV.plain])
theorem cntu8B (x : Int) (n : Int) (H : Heap) (ds : List Nat) (h0 : (!ieqB x (Int.ofNat 0)) = false) :
    CodeOK Try.prog (tyCx tys) 13 H.next (roundOf (blockOf Try.f69 0)) { fr := frameOf 13 ([0, 3].zip [AV.int IntKind.u8 x, AV.int IntKind.i64 n]), ds := ds, H := H } (AX.exit 0) ⟨frameOf 13 ([0, 3].zip [AV.int IntKind.u8 x, AV.int IntKind.i64 n]), ds, H⟩ :=
  pure_run (g := 30) (k := 69) (f := 30) (cx_goes _ _) all0 (q := (.z :: [])) (c := [.tst _ false]) (by kernel_rfl) ⟨h0, trivial⟩ (by kernel_rfl) (by first | kernel_rfl | rfl | simp [AV.plainL, AV.plain])
noncomputable def cntLu8 : PLoop := ⟨13, blockOf Try.f69 0, [0, 3], fun vs => match vs with
  | [.int .u8 x, .int .i64 n] => some ([ileB 0 x, iltB x 256, ileB 0 n, iltB n 1099511627776], .normal, [.int .u8 0, .int .i64 (n + pcI 8 x)])
  | _ => none⟩
theorem cntLu8_ok : cntLu8.OK Try.prog (tyCx tys) 0 := by
  refine PLoop.ok_by (b := roundOf (blockOf Try.f69 0)) (by kernel_rfl) (α := Nat × Nat) (fun p => [.int .u8 (p.1 : Int), .int .i64 (p.2 : Int)]) (fun p => (.exit 0, [.int .u8 0, .int .i64 ((p.2 + pc 8 p.1 : Nat) : Int)])) (fun p => p.1 < 256 ∧ p.2 + pc 8 p.1 < 1099511627776 + 65) (fun p => p.1) ?_ ?_
  · intro vs conds X vs' h hc
    simp only [cntLu8] at h
    split at h
    · rename_i x n
      injection h with h; injection h with e1 h; injection h with e2 e3
      subst e1; subst e2; subst e3
      simp only [allTrue_cons] at hc
      obtain ⟨c1, c2, c3, c4, _⟩ := hc
      obtain ⟨x, rfl⟩ := nat_of c1
      obtain ⟨n, rfl⟩ := nat_of c3
      have := pc_le 8 x
      refine ⟨(x, n), ⟨lt_of c2, by have : n < 1099511627776 := lt_of c4; simp only; omega⟩, rfl, rfl, ?_⟩
      simp only [pcI_nat]; congr 3
    · cases h
  · rintro ⟨x, n⟩ ⟨h1, h2⟩ ds H
    simp only at h1 h2
    by_cases h0 : x = 0
    · subst h0
      right
      refine ⟨by simp, ?_⟩
      have := cntu8B 0 n H ds (by rfl)
      rw [pc_zero]; exact this
    · left
      have hd := pc_drop 8 x (by omega) h1
      refine ⟨(x &&& (x - 1), n + 1), ⟨Nat.lt_of_le_of_lt Nat.and_le_left h1, by simp only; omega⟩, ?_, ?_, ?_⟩
      · simp only; congr 5; omega
      · simp only
        have : x &&& (x - 1) ≤ x - 1 := Nat.and_le_right
        omega
      · have := cntu8A x n H ds (by rw [ieqB_eq]; simp; omega)
        rw [count_round .u8 8 rfl x h1 (by omega)] at this
        rw [show (Int.ofNat 1) = ((1 : Nat) : Int) from rfl, i64_add n 1 (by omega)] at this
        exact this
theorem cntu16A (x : Int) (n : Int) (H : Heap) (ds : List Nat) (h0 : (!ieqB x (Int.ofNat 0)) = true) :
    CodeOK Try.prog (tyCx tys) 13 H.next (roundOf (blockOf Try.f71 0)) { fr := frameOf 13 ([0, 3].zip [AV.int IntKind.u16 x, AV.int IntKind.i64 n]), ds := ds, H := H } (AX.normal) ⟨frameOf 13 ([0, 3].zip [AV.int IntKind.u16 (andN IntKind.u16 x (wrapA IntKind.u16 (x.sub (Int.ofNat 1)))), AV.int IntKind.i64 (wrapA IntKind.i64 (n.add (Int.ofNat 1)))]), ds, H⟩ :=
  pure_run (g := 30) (k := 71) (f := 30) (cx_goes _ _) all0 (q := (.y :: [])) (c := [.tst _ true]) (by kernel_rfl) ⟨h0, trivial⟩ (by kernel_rfl) (by first | kernel_rfl | rfl | simp [AV.plainL, AV.plain])
theorem cntu16B (x : Int) (n : Int) (H : Heap) (ds : List Nat) (h0 : (!ieqB x (Int.ofNat 0)) = false) :
    CodeOK Try.prog (tyCx tys) 13 H.next (roundOf (blockOf Try.f71 0)) { fr := frameOf 13 ([0, 3].zip [AV.int IntKind.u16 x, AV.int IntKind.i64 n]), ds := ds, H := H } (AX.exit 0) ⟨frameOf 13 ([0, 3].zip [AV.int IntKind.u16 x, AV.int IntKind.i64 n]), ds, H⟩ :=
  pure_run (g := 30) (k := 71) (f := 30) (cx_goes _ _) all0 (q := (.z :: [])) (c := [.tst _ false]) (by kernel_rfl) ⟨h0, trivial⟩ (by kernel_rfl) (by first | kernel_rfl | rfl | simp [AV.plainL, AV.plain])
noncomputable def cntLu16 : PLoop := ⟨13, blockOf Try.f71 0, [0, 3], fun vs => match vs with
  | [.int .u16 x, .int .i64 n] => some ([ileB 0 x, iltB x 65536, ileB 0 n, iltB n 1099511627776], .normal, [.int .u16 0, .int .i64 (n + pcI 16 x)])
  | _ => none⟩
theorem cntLu16_ok : cntLu16.OK Try.prog (tyCx tys) 0 := by
  refine PLoop.ok_by (b := roundOf (blockOf Try.f71 0)) (by kernel_rfl) (α := Nat × Nat) (fun p => [.int .u16 (p.1 : Int), .int .i64 (p.2 : Int)]) (fun p => (.exit 0, [.int .u16 0, .int .i64 ((p.2 + pc 16 p.1 : Nat) : Int)])) (fun p => p.1 < 65536 ∧ p.2 + pc 16 p.1 < 1099511627776 + 65) (fun p => p.1) ?_ ?_
  · intro vs conds X vs' h hc
    simp only [cntLu16] at h
    split at h
    · rename_i x n
      injection h with h; injection h with e1 h; injection h with e2 e3
      subst e1; subst e2; subst e3
      simp only [allTrue_cons] at hc
      obtain ⟨c1, c2, c3, c4, _⟩ := hc
      obtain ⟨x, rfl⟩ := nat_of c1
      obtain ⟨n, rfl⟩ := nat_of c3
      have := pc_le 16 x
      refine ⟨(x, n), ⟨lt_of c2, by have : n < 1099511627776 := lt_of c4; simp only; omega⟩, rfl, rfl, ?_⟩
      simp only [pcI_nat]; congr 3
    · cases h
  · rintro ⟨x, n⟩ ⟨h1, h2⟩ ds H
    simp only at h1 h2
    by_cases h0 : x = 0
    · subst h0
      right
      refine ⟨by simp, ?_⟩
      have := cntu16B 0 n H ds (by rfl)
      rw [pc_zero]; exact this
    · left
      have hd := pc_drop 16 x (by omega) h1
      refine ⟨(x &&& (x - 1), n + 1), ⟨Nat.lt_of_le_of_lt Nat.and_le_left h1, by simp only; omega⟩, ?_, ?_, ?_⟩
      · simp only; congr 5; omega
      · simp only
        have : x &&& (x - 1) ≤ x - 1 := Nat.and_le_right
        omega
      · have := cntu16A x n H ds (by rw [ieqB_eq]; simp; omega)
        rw [count_round .u16 16 rfl x h1 (by omega)] at this
        rw [show (Int.ofNat 1) = ((1 : Nat) : Int) from rfl, i64_add n 1 (by omega)] at this
        exact this
theorem cntu32A (x : Int) (n : Int) (H : Heap) (ds : List Nat) (h0 : (!ieqB x (Int.ofNat 0)) = true) :
    CodeOK Try.prog (tyCx tys) 13 H.next (roundOf (blockOf Try.f72 0)) { fr := frameOf 13 ([0, 3].zip [AV.int IntKind.u32 x, AV.int IntKind.i64 n]), ds := ds, H := H } (AX.normal) ⟨frameOf 13 ([0, 3].zip [AV.int IntKind.u32 (andN IntKind.u32 x (wrapA IntKind.u32 (x.sub (Int.ofNat 1)))), AV.int IntKind.i64 (wrapA IntKind.i64 (n.add (Int.ofNat 1)))]), ds, H⟩ :=
  pure_run (g := 30) (k := 72) (f := 30) (cx_goes _ _) all0 (q := (.y :: [])) (c := [.tst _ true]) (by kernel_rfl) ⟨h0, trivial⟩ (by kernel_rfl) (by first | kernel_rfl | rfl | simp [AV.plainL, AV.plain])
theorem cntu32B (x : Int) (n : Int) (H : Heap) (ds : List Nat) (h0 : (!ieqB x (Int.ofNat 0)) = false) :
    CodeOK Try.prog (tyCx tys) 13 H.next (roundOf (blockOf Try.f72 0)) { fr := frameOf 13 ([0, 3].zip [AV.int IntKind.u32 x, AV.int IntKind.i64 n]), ds := ds, H := H } (AX.exit 0) ⟨frameOf 13 ([0, 3].zip [AV.int IntKind.u32 x, AV.int IntKind.i64 n]), ds, H⟩ :=
  pure_run (g := 30) (k := 72) (f := 30) (cx_goes _ _) all0 (q := (.z :: [])) (c := [.tst _ false]) (by kernel_rfl) ⟨h0, trivial⟩ (by kernel_rfl) (by first | kernel_rfl | rfl | simp [AV.plainL, AV.plain])
noncomputable def cntLu32 : PLoop := ⟨13, blockOf Try.f72 0, [0, 3], fun vs => match vs with
  | [.int .u32 x, .int .i64 n] => some ([ileB 0 x, iltB x 4294967296, ileB 0 n, iltB n 1099511627776], .normal, [.int .u32 0, .int .i64 (n + pcI 32 x)])
  | _ => none⟩
theorem cntLu32_ok : cntLu32.OK Try.prog (tyCx tys) 0 := by
  refine PLoop.ok_by (b := roundOf (blockOf Try.f72 0)) (by kernel_rfl) (α := Nat × Nat) (fun p => [.int .u32 (p.1 : Int), .int .i64 (p.2 : Int)]) (fun p => (.exit 0, [.int .u32 0, .int .i64 ((p.2 + pc 32 p.1 : Nat) : Int)])) (fun p => p.1 < 4294967296 ∧ p.2 + pc 32 p.1 < 1099511627776 + 65) (fun p => p.1) ?_ ?_
  · intro vs conds X vs' h hc
    simp only [cntLu32] at h
    split at h
    · rename_i x n
      injection h with h; injection h with e1 h; injection h with e2 e3
      subst e1; subst e2; subst e3
      simp only [allTrue_cons] at hc
      obtain ⟨c1, c2, c3, c4, _⟩ := hc
      obtain ⟨x, rfl⟩ := nat_of c1
      obtain ⟨n, rfl⟩ := nat_of c3
      have := pc_le 32 x
      refine ⟨(x, n), ⟨lt_of c2, by have : n < 1099511627776 := lt_of c4; simp only; omega⟩, rfl, rfl, ?_⟩
      simp only [pcI_nat]; congr 3
    · cases h
  · rintro ⟨x, n⟩ ⟨h1, h2⟩ ds H
    simp only at h1 h2
    by_cases h0 : x = 0
    · subst h0
      right
      refine ⟨by simp, ?_⟩
      have := cntu32B 0 n H ds (by rfl)
      rw [pc_zero]; exact this
    · left
      have hd := pc_drop 32 x (by omega) h1
      refine ⟨(x &&& (x - 1), n + 1), ⟨Nat.lt_of_le_of_lt Nat.and_le_left h1, by simp only; omega⟩, ?_, ?_, ?_⟩
      · simp only; congr 5; omega
      · simp only
        have : x &&& (x - 1) ≤ x - 1 := Nat.and_le_right
        omega
      · have := cntu32A x n H ds (by rw [ieqB_eq]; simp; omega)
        rw [count_round .u32 32 rfl x h1 (by omega)] at this
        rw [show (Int.ofNat 1) = ((1 : Nat) : Int) from rfl, i64_add n 1 (by omega)] at this
        exact this
theorem cntu64A (x : Int) (n : Int) (H : Heap) (ds : List Nat) (h0 : (!ieqB x (Int.ofNat 0)) = true) :
    CodeOK Try.prog (tyCx tys) 13 H.next (roundOf (blockOf Try.f73 0)) { fr := frameOf 13 ([0, 3].zip [AV.int IntKind.u64 x, AV.int IntKind.i64 n]), ds := ds, H := H } (AX.normal) ⟨frameOf 13 ([0, 3].zip [AV.int IntKind.u64 (andN IntKind.u64 x (wrapA IntKind.u64 (x.sub (Int.ofNat 1)))), AV.int IntKind.i64 (wrapA IntKind.i64 (n.add (Int.ofNat 1)))]), ds, H⟩ :=
  pure_run (g := 30) (k := 73) (f := 30) (cx_goes _ _) all0 (q := (.y :: [])) (c := [.tst _ true]) (by kernel_rfl) ⟨h0, trivial⟩ (by kernel_rfl) (by first | kernel_rfl | rfl | simp [AV.plainL, AV.plain])
theorem cntu64B (x : Int) (n : Int) (H : Heap) (ds : List Nat) (h0 : (!ieqB x (Int.ofNat 0)) = false) :
    CodeOK Try.prog (tyCx tys) 13 H.next (roundOf (blockOf Try.f73 0)) { fr := frameOf 13 ([0, 3].zip [AV.int IntKind.u64 x, AV.int IntKind.i64 n]), ds := ds, H := H } (AX.exit 0) ⟨frameOf 13 ([0, 3].zip [AV.int IntKind.u64 x, AV.int IntKind.i64 n]), ds, H⟩ :=
  pure_run (g := 30) (k := 73) (f := 30) (cx_goes _ _) all0 (q := (.z :: [])) (c := [.tst _ false]) (by kernel_rfl) ⟨h0, trivial⟩ (by kernel_rfl) (by first | kernel_rfl | rfl | simp [AV.plainL, AV.plain])
noncomputable def cntLu64 : PLoop := ⟨13, blockOf Try.f73 0, [0, 3], fun vs => match vs with
  | [.int .u64 x, .int .i64 n] => some ([ileB 0 x, iltB x 18446744073709551616, ileB 0 n, iltB n 1099511627776], .normal, [.int .u64 0, .int .i64 (n + pcI 64 x)])
  | _ => none⟩
theorem cntLu64_ok : cntLu64.OK Try.prog (tyCx tys) 0 := by
  refine PLoop.ok_by (b := roundOf (blockOf Try.f73 0)) (by kernel_rfl) (α := Nat × Nat) (fun p => [.int .u64 (p.1 : Int), .int .i64 (p.2 : Int)]) (fun p => (.exit 0, [.int .u64 0, .int .i64 ((p.2 + pc 64 p.1 : Nat) : Int)])) (fun p => p.1 < 18446744073709551616 ∧ p.2 + pc 64 p.1 < 1099511627776 + 65) (fun p => p.1) ?_ ?_
  · intro vs conds X vs' h hc
    simp only [cntLu64] at h
    split at h
    · rename_i x n
      injection h with h; injection h with e1 h; injection h with e2 e3
      subst e1; subst e2; subst e3
      simp only [allTrue_cons] at hc
      obtain ⟨c1, c2, c3, c4, _⟩ := hc
      obtain ⟨x, rfl⟩ := nat_of c1
      obtain ⟨n, rfl⟩ := nat_of c3
      have := pc_le 64 x
      refine ⟨(x, n), ⟨lt_of c2, by have : n < 1099511627776 := lt_of c4; simp only; omega⟩, rfl, rfl, ?_⟩
      simp only [pcI_nat]; congr 3
    · cases h
  · rintro ⟨x, n⟩ ⟨h1, h2⟩ ds H
    simp only at h1 h2
    by_cases h0 : x = 0
    · subst h0
      right
      refine ⟨by simp, ?_⟩
      have := cntu64B 0 n H ds (by rfl)
      rw [pc_zero]; exact this
    · left
      have hd := pc_drop 64 x (by omega) h1
      refine ⟨(x &&& (x - 1), n + 1), ⟨Nat.lt_of_le_of_lt Nat.and_le_left h1, by simp only; omega⟩, ?_, ?_, ?_⟩
      · simp only; congr 5; omega
      · simp only
        have : x &&& (x - 1) ≤ x - 1 := Nat.and_le_right
        omega
      · have := cntu64A x n H ds (by rw [ieqB_eq]; simp; omega)
        rw [count_round .u64 64 rfl x h1 (by omega)] at this
        rw [show (Int.ofNat 1) = ((1 : Nat) : Int) from rfl, i64_add n 1 (by omega)] at this
        exact this
theorem bitA (x : Int) (n : Int) (H : Heap) (ds : List Nat) (h0 : (iltB (Int.ofNat 0) n) = true) :
    CodeOK Try.prog (tyCx tys) 13 H.next (roundOf (blockOf Try.f100 0)) { fr := frameOf 13 ([0, 1].zip [AV.int IntKind.u64 x, AV.int IntKind.i64 n]), ds := ds, H := H } (AX.normal) ⟨frameOf 13 ([0, 1].zip [AV.int IntKind.u64 (wrapA IntKind.u64 (x.tdiv (Int.ofNat 2))), AV.int IntKind.i64 (wrapA IntKind.i64 (n.sub (Int.ofNat 1)))]), ds, H⟩ :=
  pure_run (g := 30) (k := 100) (f := 30) (cx_goes _ _) all0 (q := (.y :: (cs 1 []))) (c := [.tst _ true]) (by kernel_rfl) ⟨h0, trivial⟩ (by kernel_rfl) (by first | kernel_rfl | rfl | simp [AV.plainL, AV.plain])
theorem bitB (x : Int) (n : Int) (H : Heap) (ds : List Nat) (h0 : (iltB (Int.ofNat 0) n) = false) :
    CodeOK Try.prog (tyCx tys) 13 H.next (roundOf (blockOf Try.f100 0)) { fr := frameOf 13 ([0, 1].zip [AV.int IntKind.u64 x, AV.int IntKind.i64 n]), ds := ds, H := H } (AX.exit 0) ⟨frameOf 13 ([0, 1].zip [AV.int IntKind.u64 x, AV.int IntKind.i64 n]), ds, H⟩ :=
  pure_run (g := 30) (k := 100) (f := 30) (cx_goes _ _) all0 (q := (.z :: [])) (c := [.tst _ false]) (by kernel_rfl) ⟨h0, trivial⟩ (by kernel_rfl) (by first | kernel_rfl | rfl | simp [AV.plainL, AV.plain])
noncomputable def bitL : PLoop := ⟨13, blockOf Try.f100 0, [0, 1], fun vs => match vs with
  | [.int .u64 x, .int .i64 n] => some ([ileB 0 x, iltB x 18446744073709551616, ileB 0 n, iltB n 1099511627776], .normal, [.int .u64 (shrI x n), .int .i64 0])
  | _ => none⟩
theorem bitL_ok : bitL.OK Try.prog (tyCx tys) 0 := by
  refine PLoop.ok_by (b := roundOf (blockOf Try.f100 0)) (by kernel_rfl) (α := Nat × Nat) (fun p => [.int .u64 (p.1 : Int), .int .i64 (p.2 : Int)]) (fun p => (.exit 0, [.int .u64 ((p.1 / 2 ^ p.2 : Nat) : Int), .int .i64 0])) (fun p => p.1 < 18446744073709551616 ∧ p.2 < 1099511627776) (fun p => p.2) ?_ ?_
  · intro vs conds X vs' h hc
    simp only [bitL] at h
    split at h
    · rename_i x n
      injection h with h; injection h with e1 h; injection h with e2 e3
      subst e1; subst e2; subst e3
      simp only [allTrue_cons] at hc
      obtain ⟨c1, c2, c3, c4, _⟩ := hc
      obtain ⟨x, rfl⟩ := nat_of c1
      obtain ⟨n, rfl⟩ := nat_of c3
      exact ⟨(x, n), ⟨lt_of c2, lt_of c4⟩, rfl, rfl, rfl⟩
    · cases h
  · rintro ⟨x, n⟩ ⟨h1, h2⟩ ds H
    simp only at h1 h2
    by_cases h0 : n = 0
    · subst h0
      right
      refine ⟨by simp, ?_⟩
      have := bitB x 0 H ds (by rfl)
      rw [Nat.pow_zero, Nat.div_one]; exact this
    · left
      obtain ⟨m, rfl⟩ : ∃ m, n = m + 1 := ⟨n - 1, by omega⟩
      refine ⟨(x / 2, m), ⟨by show x / 2 < _; omega, by show m < _; omega⟩, ?_, by show m < m + 1; omega, ?_⟩
      · have e : x / 2 ^ (m + 1) = x / 2 / 2 ^ m := by rw [Nat.pow_succ, Nat.mul_comm, Nat.div_div_eq_div_mul]
        simp only [e]
      · have := bitA x ((m + 1 : Nat) : Int) H ds (by rw [iltB_eq]; first | (simp; done) | (simp; omega))
        rw [show (Int.ofNat 1) = ((1 : Nat) : Int) from rfl, i64_sub (m + 1) 1 (by omega) (by omega)] at this
        have e : (x : Int).tdiv (Int.ofNat 2) = ((x / 2 : Nat) : Int) := rfl
        rw [e, wrapA_nat .u64 _ (by show _ < 18446744073709551616; omega)] at this
        exact this
end Go.Proofs.Ytecncappdnhbaaa
end
end

/- Words: rows of the functions that count, turn, tell a bit. -/
section
set_option autoImplicit false
set_option linter.unusedVariables false
set_option linter.unusedSimpArgs false
set_option maxRecDepth 100000
noncomputable section
namespace Go.Ab.M
def bitI (x n : Int) : Int := (bitN x.toNat n.toNat : Nat)
end Go.Ab.M
namespace Go.Proofs.Ytecncappdnhbaaa
open Go.Ab.M Go.Ab Go
abbrev L02 : LTab := [((69, 0), cntLu8), ((71, 0), cntLu16), ((72, 0), cntLu32), ((73, 0), cntLu64), ((100, 0), bitL)]
abbrev C02a := mkCx tys fns [] L02
abbrev S02a := mkS tys [] L02
/-- how many bits a word has; the chapter's example. -/
abbrev F01 : FTab := [(63, RSum.const (.int .i64 (Int.ofNat 8))), (64, RSum.const (.int .i64 (Int.ofNat 16))), (65, RSum.const (.int .i64 (Int.ofNat 32))), (66, RSum.const (.int .i64 (Int.ofNat 64))), (15, RSum.const (.bool true))]
abbrev C01 := mkCx tys fns F01 []
abbrev S01 := mkS tys F01 []
theorem bits_u8 :
    ∃ h', aCall C0 100 (Tgt.fn 63) [] H0 = some (AV.int IntKind.i64 (Int.ofNat 8), h') ∧ [].map h'.get = [] :=
  call_run (q := (cs 17 [])) (c := []) (by kernel_rfl) trivial
theorem bits_u16 :
    ∃ h', aCall C0 100 (Tgt.fn 64) [] H0 = some (AV.int IntKind.i64 (Int.ofNat 16), h') ∧ [].map h'.get = [] :=
  call_run (q := (cs 33 [])) (c := []) (by kernel_rfl) trivial
theorem bits_u32 :
    ∃ h', aCall C0 100 (Tgt.fn 65) [] H0 = some (AV.int IntKind.i64 (Int.ofNat 32), h') ∧ [].map h'.get = [] :=
  call_run (q := (cs 65 [])) (c := []) (by kernel_rfl) trivial
theorem bits_u64 :
    ∃ h', aCall C0 100 (Tgt.fn 66) [] H0 = some (AV.int IntKind.i64 (Int.ofNat 64), h') ∧ [].map h'.get = [] :=
  call_run (q := (cs 129 [])) (c := []) (by kernel_rfl) trivial
theorem lives01 :
    ∃ h', aCall C0 100 (Tgt.fn 15) [] H0 = some (AV.bool true, h') ∧ [].map h'.get = [] :=
  call_run (q := (cs 80 [])) (c := []) (by kernel_rfl) trivial
theorem f01_ok : ∀ p ∈ F01, RSum.Sound Try.prog tys p.1 p.2 := by
  intro p h
  simp only [F01, List.mem_cons, List.not_mem_nil, or_false] at h
  rcases h with rfl | rfl | rfl | rfl | rfl
  · exact RSum.sound (cx_goes _ _) all0 (RSum.const_ok rfl (let ⟨h', h, _⟩ := bits_u8; ⟨h', h⟩))
  · exact RSum.sound (cx_goes _ _) all0 (RSum.const_ok rfl (let ⟨h', h, _⟩ := bits_u16; ⟨h', h⟩))
  · exact RSum.sound (cx_goes _ _) all0 (RSum.const_ok rfl (let ⟨h', h, _⟩ := bits_u32; ⟨h', h⟩))
  · exact RSum.sound (cx_goes _ _) all0 (RSum.const_ok rfl (let ⟨h', h, _⟩ := bits_u64; ⟨h', h⟩))
  · exact RSum.sound (cx_goes _ _) all0 (RSum.const_ok rfl (let ⟨h', h, _⟩ := lives01; ⟨h', h⟩))
theorem all01 : SumAll Try.prog C01 := sums_all f01_ok (fun _ h => by cases h)
theorem l02_ok : ∀ p ∈ L02, p.2.OK Try.prog (tyCx tys) p.1.2 := by
  intro p h
  simp only [L02, List.mem_cons, List.not_mem_nil, or_false] at h
  rcases h with rfl | rfl | rfl | rfl | rfl
  · exact cntLu8_ok
  · exact cntLu16_ok
  · exact cntLu32_ok
  · exact cntLu64_ok
  · exact bitL_ok
theorem all02a : SumAll Try.prog C02a := sums_all (fun _ h => by cases h) l02_ok
theorem count_u8 (x : Int) (h0 : (ileB (Int.ofNat 0) x) = true) (h1 : (iltB x (Int.ofNat 256)) = true) :
    ∃ h', aCall C02a 60 (Tgt.fn 69) [AV.int IntKind.u8 x] H0 = some (AV.int IntKind.i64 (Int.ofNat 0 + pcI 8 x), h') ∧ [].map h'.get = [] :=
  call_run (q := (.y :: (.y :: (cs 2 [])))) (c := [Cnd.code ((69, 0), cntLu8).snd.lsumS.fst ((69, 0), cntLu8).snd.lsumS.fst, .tst _ true, .tst _ true]) (by kernel_rfl) ⟨rfl, h0, h1, trivial⟩
def cntRu8 : RSum := RSum.pl true fun us => match us with
  | [.int .u8 x] => some ([ileB 0 x, iltB x 256], .int .i64 (pcI 8 x))
  | _ => none
theorem cntRu8_ok : RSum.Sound Try.prog tys 69 cntRu8 := by
  refine RSum.sound (cx_goes _ _) all02a (RSum.pl_ok fun us c v hm hc => ?_)
  split at hm
  · injection hm with hm; injection hm with e1 e2; subst e1; subst e2
    simp only [allTrue_cons] at hc
    obtain ⟨h', h, _⟩ := count_u8 _ hc.1 hc.2.1
    rw [show (Int.ofNat 0 : Int) = 0 from rfl, Int.zero_add] at h
    exact ⟨rfl, 60, h', h⟩
  · cases hm
theorem count_u16 (x : Int) (h0 : (ileB (Int.ofNat 0) x) = true) (h1 : (iltB x (Int.ofNat 65536)) = true) :
    ∃ h', aCall C02a 60 (Tgt.fn 71) [AV.int IntKind.u16 x] H0 = some (AV.int IntKind.i64 (Int.ofNat 0 + pcI 16 x), h') ∧ [].map h'.get = [] :=
  call_run (q := (.y :: (.y :: (cs 2 [])))) (c := [Cnd.code ((71, 0), cntLu16).snd.lsumS.fst ((71, 0), cntLu16).snd.lsumS.fst, .tst _ true, .tst _ true]) (by kernel_rfl) ⟨rfl, h0, h1, trivial⟩
def cntRu16 : RSum := RSum.pl true fun us => match us with
  | [.int .u16 x] => some ([ileB 0 x, iltB x 65536], .int .i64 (pcI 16 x))
  | _ => none
theorem cntRu16_ok : RSum.Sound Try.prog tys 71 cntRu16 := by
  refine RSum.sound (cx_goes _ _) all02a (RSum.pl_ok fun us c v hm hc => ?_)
  split at hm
  · injection hm with hm; injection hm with e1 e2; subst e1; subst e2
    simp only [allTrue_cons] at hc
    obtain ⟨h', h, _⟩ := count_u16 _ hc.1 hc.2.1
    rw [show (Int.ofNat 0 : Int) = 0 from rfl, Int.zero_add] at h
    exact ⟨rfl, 60, h', h⟩
  · cases hm
theorem count_u32 (x : Int) (h0 : (ileB (Int.ofNat 0) x) = true) (h1 : (iltB x (Int.ofNat 4294967296)) = true) :
    ∃ h', aCall C02a 60 (Tgt.fn 72) [AV.int IntKind.u32 x] H0 = some (AV.int IntKind.i64 (Int.ofNat 0 + pcI 32 x), h') ∧ [].map h'.get = [] :=
  call_run (q := (.y :: (.y :: (cs 2 [])))) (c := [Cnd.code ((72, 0), cntLu32).snd.lsumS.fst ((72, 0), cntLu32).snd.lsumS.fst, .tst _ true, .tst _ true]) (by kernel_rfl) ⟨rfl, h0, h1, trivial⟩
def cntRu32 : RSum := RSum.pl true fun us => match us with
  | [.int .u32 x] => some ([ileB 0 x, iltB x 4294967296], .int .i64 (pcI 32 x))
  | _ => none
theorem cntRu32_ok : RSum.Sound Try.prog tys 72 cntRu32 := by
  refine RSum.sound (cx_goes _ _) all02a (RSum.pl_ok fun us c v hm hc => ?_)
  split at hm
  · injection hm with hm; injection hm with e1 e2; subst e1; subst e2
    simp only [allTrue_cons] at hc
    obtain ⟨h', h, _⟩ := count_u32 _ hc.1 hc.2.1
    rw [show (Int.ofNat 0 : Int) = 0 from rfl, Int.zero_add] at h
    exact ⟨rfl, 60, h', h⟩
  · cases hm
theorem count_u64 (x : Int) (h0 : (ileB (Int.ofNat 0) x) = true) (h1 : (iltB x (Int.ofNat 18446744073709551616)) = true) :
    ∃ h', aCall C02a 60 (Tgt.fn 73) [AV.int IntKind.u64 x] H0 = some (AV.int IntKind.i64 (Int.ofNat 0 + pcI 64 x), h') ∧ [].map h'.get = [] :=
  call_run (q := (.y :: (.y :: (cs 2 [])))) (c := [Cnd.code ((73, 0), cntLu64).snd.lsumS.fst ((73, 0), cntLu64).snd.lsumS.fst, .tst _ true, .tst _ true]) (by kernel_rfl) ⟨rfl, h0, h1, trivial⟩
def cntRu64 : RSum := RSum.pl true fun us => match us with
  | [.int .u64 x] => some ([ileB 0 x, iltB x 18446744073709551616], .int .i64 (pcI 64 x))
  | _ => none
theorem cntRu64_ok : RSum.Sound Try.prog tys 73 cntRu64 := by
  refine RSum.sound (cx_goes _ _) all02a (RSum.pl_ok fun us c v hm hc => ?_)
  split at hm
  · injection hm with hm; injection hm with e1 e2; subst e1; subst e2
    simp only [allTrue_cons] at hc
    obtain ⟨h', h, _⟩ := count_u64 _ hc.1 hc.2.1
    rw [show (Int.ofNat 0 : Int) = 0 from rfl, Int.zero_add] at h
    exact ⟨rfl, 60, h', h⟩
  · cases hm
theorem bit_run (x : Int) (n : Int) (h0 : (ileB (Int.ofNat 0) x) = true) (h1 : (iltB x (Int.ofNat 18446744073709551616)) = true) (h2 : (ileB (Int.ofNat 0) n) = true) (h3 : (iltB n (Int.ofNat 1099511627776)) = true) :
    ∃ h', aCall C02a 60 (Tgt.fn 100) [AV.int IntKind.u64 x, AV.int IntKind.i64 n] H0 = some (AV.int IntKind.u64 ((shrI x n).tmod (Int.ofNat 2)), h') ∧ [].map h'.get = [] :=
  call_run (q := (.y :: (.y :: (.y :: (.y :: (cs 1 [])))))) (c := [Cnd.code ((100, 0), bitL).snd.lsumS.fst ((100, 0), bitL).snd.lsumS.fst, .tst _ true, .tst _ true, .tst _ true, .tst _ true]) (by kernel_rfl) ⟨rfl, h0, h1, h2, h3, trivial⟩
def bitR : RSum := RSum.pl true fun us => match us with
  | [.int .u64 x, .int .i64 n] => some ([ileB 0 x, iltB x 18446744073709551616, ileB 0 n, iltB n 1099511627776], .int .u64 (bitI x n))
  | _ => none
theorem bitR_ok : RSum.Sound Try.prog tys 100 bitR := by
  refine RSum.sound (cx_goes _ _) all02a (RSum.pl_ok fun us c v hm hc => ?_)
  split at hm
  · injection hm with hm; injection hm with e1 e2; subst e1; subst e2
    simp only [allTrue_cons] at hc
    obtain ⟨h', h, _⟩ := bit_run _ _ hc.1 hc.2.1 hc.2.2.1 hc.2.2.2.1
    exact ⟨rfl, 60, h', h⟩
  · cases hm
theorem turnu8A (x : Int) (n : Int) (h0 : (ieqB ((wrapA IntKind.i64 ((n.tmod (Int.ofNat 8)).add (Int.ofNat 8))).tmod (Int.ofNat 8)) (Int.ofNat 0)) = true) :
    ∃ h', aCall C01 100 (Tgt.fn 16) [AV.int IntKind.u8 x, AV.int IntKind.i64 n] H0 = some (AV.int IntKind.u8 x, h') ∧ [].map h'.get = [] :=
  call_run (q := (cs 2 (.y :: []))) (c := [.tst _ true]) (by kernel_rfl) ⟨h0, trivial⟩
theorem turnu8B (x : Int) (n : Int) (h0 : (ieqB ((wrapA IntKind.i64 ((n.tmod (Int.ofNat 8)).add (Int.ofNat 8))).tmod (Int.ofNat 8)) (Int.ofNat 0)) = false) (h1 : (!iltB ((wrapA IntKind.i64 ((n.tmod (Int.ofNat 8)).add (Int.ofNat 8))).tmod (Int.ofNat 8)) (Int.ofNat 0)) = true) (h2 : (!iltB (wrapA IntKind.i64 ((Int.ofNat 8).sub ((wrapA IntKind.i64 ((n.tmod (Int.ofNat 8)).add (Int.ofNat 8))).tmod (Int.ofNat 8)))) (Int.ofNat 0)) = true) :
    ∃ h', aCall C01 100 (Tgt.fn 16) [AV.int IntKind.u8 x, AV.int IntKind.i64 n] H0 = some (AV.int IntKind.u8 (orN IntKind.u8 (shlN IntKind.u8 x (shN IntKind.u8 ((wrapA IntKind.i64 ((n.tmod (Int.ofNat 8)).add (Int.ofNat 8))).tmod (Int.ofNat 8)).toNat)) (shrN x (shN IntKind.u8 (wrapA IntKind.i64 ((Int.ofNat 8).sub ((wrapA IntKind.i64 ((n.tmod (Int.ofNat 8)).add (Int.ofNat 8))).tmod (Int.ofNat 8)))).toNat))), h') ∧ [].map h'.get = [] :=
  call_run (q := (cs 2 (.z :: (.y :: (.y :: []))))) (c := [.tst _ false, .tst _ true, .tst _ true]) (by kernel_rfl) ⟨h0, h1, h2, trivial⟩
theorem turn_u8 (x n : Int) (hx : 0 ≤ x) (hx2 : x < 2 ^ 8) : ∃ h', aCall C01 100 (.fn 16) [.int .u8 x, .int .i64 n] H0 = some (.int .u8 (rotI 8 x n), h') := by
  have e := turn_mod 8 n (by omega) (by omega)
  have p := Int.emod_nonneg n (by omega : (8 : Int) ≠ 0)
  have q := Int.emod_lt_of_pos n (by omega : (0 : Int) < 8)
  have e' : (wrapA .i64 ((n.tmod (Int.ofNat 8)).add (Int.ofNat 8))).tmod (Int.ofNat 8) = n % 8 := e
  by_cases hm : n % 8 = 0
  · obtain ⟨h', h, _⟩ := turnu8A x n (by rw [e', ieqB_eq, hm]; rfl)
    rw [rot_zero 8 x n hx hx2 (by simpa using hm)]; exact ⟨h', h⟩
  · have e3 : wrapA .i64 ((Int.ofNat 8).sub (n % 8)) = 8 - n % 8 := by
      rw [wrapA_eq]; exact IntWalk.i64_in _ (by constructor <;> (show _ ≤ _; first | omega | (show _ ≤ (8 : Int) - n % 8; omega) | (show (8 : Int) - n % 8 ≤ _; omega)))
    obtain ⟨h', h, _⟩ := turnu8B x n (by rw [e', ieqB_eq]; simpa using hm) (by rw [e', iltB_eq]; simp; omega) (by rw [e', e3, iltB_eq]; simp; omega)
    rw [e'] at h
    have := turn_val .u8 8 rfl rfl (by omega) (by omega) x n hx hx2 (by simpa using hm)
    exact ⟨h', h.trans (congrArg (fun z => some (AV.int _ z, h')) this)⟩
def turnRu8 : RSum := RSum.pl true fun us => match us with
  | [.int .u8 x, .int .i64 n] => some ([ileB 0 x, iltB x 256], .int .u8 (rotI 8 x n))
  | _ => none
theorem turnRu8_ok : RSum.Sound Try.prog tys 16 turnRu8 := by
  refine RSum.sound (cx_goes _ _) all01 (RSum.pl_ok fun us c v hm hc => ?_)
  split at hm
  · injection hm with hm; injection hm with e1 e2; subst e1; subst e2
    simp only [allTrue_cons, ileB_eq, iltB_eq, decide_eq_true_eq] at hc
    obtain ⟨h', h⟩ := turn_u8 _ _ hc.1 (by simpa using hc.2.1)
    exact ⟨rfl, 100, h', h⟩
  · cases hm
theorem turnu16A (x : Int) (n : Int) (h0 : (ieqB ((wrapA IntKind.i64 ((n.tmod (Int.ofNat 16)).add (Int.ofNat 16))).tmod (Int.ofNat 16)) (Int.ofNat 0)) = true) :
    ∃ h', aCall C01 100 (Tgt.fn 17) [AV.int IntKind.u16 x, AV.int IntKind.i64 n] H0 = some (AV.int IntKind.u16 x, h') ∧ [].map h'.get = [] :=
  call_run (q := (cs 2 (.y :: []))) (c := [.tst _ true]) (by kernel_rfl) ⟨h0, trivial⟩
theorem turnu16B (x : Int) (n : Int) (h0 : (ieqB ((wrapA IntKind.i64 ((n.tmod (Int.ofNat 16)).add (Int.ofNat 16))).tmod (Int.ofNat 16)) (Int.ofNat 0)) = false) (h1 : (!iltB ((wrapA IntKind.i64 ((n.tmod (Int.ofNat 16)).add (Int.ofNat 16))).tmod (Int.ofNat 16)) (Int.ofNat 0)) = true) (h2 : (!iltB (wrapA IntKind.i64 ((Int.ofNat 16).sub ((wrapA IntKind.i64 ((n.tmod (Int.ofNat 16)).add (Int.ofNat 16))).tmod (Int.ofNat 16)))) (Int.ofNat 0)) = true) :
    ∃ h', aCall C01 100 (Tgt.fn 17) [AV.int IntKind.u16 x, AV.int IntKind.i64 n] H0 = some (AV.int IntKind.u16 (orN IntKind.u16 (shlN IntKind.u16 x (shN IntKind.u16 ((wrapA IntKind.i64 ((n.tmod (Int.ofNat 16)).add (Int.ofNat 16))).tmod (Int.ofNat 16)).toNat)) (shrN x (shN IntKind.u16 (wrapA IntKind.i64 ((Int.ofNat 16).sub ((wrapA IntKind.i64 ((n.tmod (Int.ofNat 16)).add (Int.ofNat 16))).tmod (Int.ofNat 16)))).toNat))), h') ∧ [].map h'.get = [] :=
  call_run (q := (cs 2 (.z :: (.y :: (.y :: []))))) (c := [.tst _ false, .tst _ true, .tst _ true]) (by kernel_rfl) ⟨h0, h1, h2, trivial⟩
theorem turn_u16 (x n : Int) (hx : 0 ≤ x) (hx2 : x < 2 ^ 16) : ∃ h', aCall C01 100 (.fn 17) [.int .u16 x, .int .i64 n] H0 = some (.int .u16 (rotI 16 x n), h') := by
  have e := turn_mod 16 n (by omega) (by omega)
  have p := Int.emod_nonneg n (by omega : (16 : Int) ≠ 0)
  have q := Int.emod_lt_of_pos n (by omega : (0 : Int) < 16)
  have e' : (wrapA .i64 ((n.tmod (Int.ofNat 16)).add (Int.ofNat 16))).tmod (Int.ofNat 16) = n % 16 := e
  by_cases hm : n % 16 = 0
  · obtain ⟨h', h, _⟩ := turnu16A x n (by rw [e', ieqB_eq, hm]; rfl)
    rw [rot_zero 16 x n hx hx2 (by simpa using hm)]; exact ⟨h', h⟩
  · have e3 : wrapA .i64 ((Int.ofNat 16).sub (n % 16)) = 16 - n % 16 := by
      rw [wrapA_eq]; exact IntWalk.i64_in _ (by constructor <;> (show _ ≤ _; first | omega | (show _ ≤ (16 : Int) - n % 16; omega) | (show (16 : Int) - n % 16 ≤ _; omega)))
    obtain ⟨h', h, _⟩ := turnu16B x n (by rw [e', ieqB_eq]; simpa using hm) (by rw [e', iltB_eq]; simp; omega) (by rw [e', e3, iltB_eq]; simp; omega)
    rw [e'] at h
    have := turn_val .u16 16 rfl rfl (by omega) (by omega) x n hx hx2 (by simpa using hm)
    exact ⟨h', h.trans (congrArg (fun z => some (AV.int _ z, h')) this)⟩
def turnRu16 : RSum := RSum.pl true fun us => match us with
  | [.int .u16 x, .int .i64 n] => some ([ileB 0 x, iltB x 65536], .int .u16 (rotI 16 x n))
  | _ => none
theorem turnRu16_ok : RSum.Sound Try.prog tys 17 turnRu16 := by
  refine RSum.sound (cx_goes _ _) all01 (RSum.pl_ok fun us c v hm hc => ?_)
  split at hm
  · injection hm with hm; injection hm with e1 e2; subst e1; subst e2
    simp only [allTrue_cons, ileB_eq, iltB_eq, decide_eq_true_eq] at hc
    obtain ⟨h', h⟩ := turn_u16 _ _ hc.1 (by simpa using hc.2.1)
    exact ⟨rfl, 100, h', h⟩
  · cases hm
theorem turnu32A (x : Int) (n : Int) (h0 : (ieqB ((wrapA IntKind.i64 ((n.tmod (Int.ofNat 32)).add (Int.ofNat 32))).tmod (Int.ofNat 32)) (Int.ofNat 0)) = true) :
    ∃ h', aCall C01 100 (Tgt.fn 18) [AV.int IntKind.u32 x, AV.int IntKind.i64 n] H0 = some (AV.int IntKind.u32 x, h') ∧ [].map h'.get = [] :=
  call_run (q := (cs 2 (.y :: []))) (c := [.tst _ true]) (by kernel_rfl) ⟨h0, trivial⟩
theorem turnu32B (x : Int) (n : Int) (h0 : (ieqB ((wrapA IntKind.i64 ((n.tmod (Int.ofNat 32)).add (Int.ofNat 32))).tmod (Int.ofNat 32)) (Int.ofNat 0)) = false) (h1 : (!iltB ((wrapA IntKind.i64 ((n.tmod (Int.ofNat 32)).add (Int.ofNat 32))).tmod (Int.ofNat 32)) (Int.ofNat 0)) = true) (h2 : (!iltB (wrapA IntKind.i64 ((Int.ofNat 32).sub ((wrapA IntKind.i64 ((n.tmod (Int.ofNat 32)).add (Int.ofNat 32))).tmod (Int.ofNat 32)))) (Int.ofNat 0)) = true) :
    ∃ h', aCall C01 100 (Tgt.fn 18) [AV.int IntKind.u32 x, AV.int IntKind.i64 n] H0 = some (AV.int IntKind.u32 (orN IntKind.u32 (shlN IntKind.u32 x (shN IntKind.u32 ((wrapA IntKind.i64 ((n.tmod (Int.ofNat 32)).add (Int.ofNat 32))).tmod (Int.ofNat 32)).toNat)) (shrN x (shN IntKind.u32 (wrapA IntKind.i64 ((Int.ofNat 32).sub ((wrapA IntKind.i64 ((n.tmod (Int.ofNat 32)).add (Int.ofNat 32))).tmod (Int.ofNat 32)))).toNat))), h') ∧ [].map h'.get = [] :=
  call_run (q := (cs 2 (.z :: (.y :: (.y :: []))))) (c := [.tst _ false, .tst _ true, .tst _ true]) (by kernel_rfl) ⟨h0, h1, h2, trivial⟩
theorem turn_u32 (x n : Int) (hx : 0 ≤ x) (hx2 : x < 2 ^ 32) : ∃ h', aCall C01 100 (.fn 18) [.int .u32 x, .int .i64 n] H0 = some (.int .u32 (rotI 32 x n), h') := by
  have e := turn_mod 32 n (by omega) (by omega)
  have p := Int.emod_nonneg n (by omega : (32 : Int) ≠ 0)
  have q := Int.emod_lt_of_pos n (by omega : (0 : Int) < 32)
  have e' : (wrapA .i64 ((n.tmod (Int.ofNat 32)).add (Int.ofNat 32))).tmod (Int.ofNat 32) = n % 32 := e
  by_cases hm : n % 32 = 0
  · obtain ⟨h', h, _⟩ := turnu32A x n (by rw [e', ieqB_eq, hm]; rfl)
    rw [rot_zero 32 x n hx hx2 (by simpa using hm)]; exact ⟨h', h⟩
  · have e3 : wrapA .i64 ((Int.ofNat 32).sub (n % 32)) = 32 - n % 32 := by
      rw [wrapA_eq]; exact IntWalk.i64_in _ (by constructor <;> (show _ ≤ _; first | omega | (show _ ≤ (32 : Int) - n % 32; omega) | (show (32 : Int) - n % 32 ≤ _; omega)))
    obtain ⟨h', h, _⟩ := turnu32B x n (by rw [e', ieqB_eq]; simpa using hm) (by rw [e', iltB_eq]; simp; omega) (by rw [e', e3, iltB_eq]; simp; omega)
    rw [e'] at h
    have := turn_val .u32 32 rfl rfl (by omega) (by omega) x n hx hx2 (by simpa using hm)
    exact ⟨h', h.trans (congrArg (fun z => some (AV.int _ z, h')) this)⟩
def turnRu32 : RSum := RSum.pl true fun us => match us with
  | [.int .u32 x, .int .i64 n] => some ([ileB 0 x, iltB x 4294967296], .int .u32 (rotI 32 x n))
  | _ => none
theorem turnRu32_ok : RSum.Sound Try.prog tys 18 turnRu32 := by
  refine RSum.sound (cx_goes _ _) all01 (RSum.pl_ok fun us c v hm hc => ?_)
  split at hm
  · injection hm with hm; injection hm with e1 e2; subst e1; subst e2
    simp only [allTrue_cons, ileB_eq, iltB_eq, decide_eq_true_eq] at hc
    obtain ⟨h', h⟩ := turn_u32 _ _ hc.1 (by simpa using hc.2.1)
    exact ⟨rfl, 100, h', h⟩
  · cases hm
theorem turnu64A (x : Int) (n : Int) (h0 : (ieqB ((wrapA IntKind.i64 ((n.tmod (Int.ofNat 64)).add (Int.ofNat 64))).tmod (Int.ofNat 64)) (Int.ofNat 0)) = true) :
    ∃ h', aCall C01 100 (Tgt.fn 19) [AV.int IntKind.u64 x, AV.int IntKind.i64 n] H0 = some (AV.int IntKind.u64 x, h') ∧ [].map h'.get = [] :=
  call_run (q := (cs 2 (.y :: []))) (c := [.tst _ true]) (by kernel_rfl) ⟨h0, trivial⟩
theorem turnu64B (x : Int) (n : Int) (h0 : (ieqB ((wrapA IntKind.i64 ((n.tmod (Int.ofNat 64)).add (Int.ofNat 64))).tmod (Int.ofNat 64)) (Int.ofNat 0)) = false) (h1 : (!iltB ((wrapA IntKind.i64 ((n.tmod (Int.ofNat 64)).add (Int.ofNat 64))).tmod (Int.ofNat 64)) (Int.ofNat 0)) = true) (h2 : (!iltB (wrapA IntKind.i64 ((Int.ofNat 64).sub ((wrapA IntKind.i64 ((n.tmod (Int.ofNat 64)).add (Int.ofNat 64))).tmod (Int.ofNat 64)))) (Int.ofNat 0)) = true) :
    ∃ h', aCall C01 100 (Tgt.fn 19) [AV.int IntKind.u64 x, AV.int IntKind.i64 n] H0 = some (AV.int IntKind.u64 (orN IntKind.u64 (shlN IntKind.u64 x (shN IntKind.u64 ((wrapA IntKind.i64 ((n.tmod (Int.ofNat 64)).add (Int.ofNat 64))).tmod (Int.ofNat 64)).toNat)) (shrN x (shN IntKind.u64 (wrapA IntKind.i64 ((Int.ofNat 64).sub ((wrapA IntKind.i64 ((n.tmod (Int.ofNat 64)).add (Int.ofNat 64))).tmod (Int.ofNat 64)))).toNat))), h') ∧ [].map h'.get = [] :=
  call_run (q := (cs 2 (.z :: (.y :: (.y :: []))))) (c := [.tst _ false, .tst _ true, .tst _ true]) (by kernel_rfl) ⟨h0, h1, h2, trivial⟩
theorem turn_u64 (x n : Int) (hx : 0 ≤ x) (hx2 : x < 2 ^ 64) : ∃ h', aCall C01 100 (.fn 19) [.int .u64 x, .int .i64 n] H0 = some (.int .u64 (rotI 64 x n), h') := by
  have e := turn_mod 64 n (by omega) (by omega)
  have p := Int.emod_nonneg n (by omega : (64 : Int) ≠ 0)
  have q := Int.emod_lt_of_pos n (by omega : (0 : Int) < 64)
  have e' : (wrapA .i64 ((n.tmod (Int.ofNat 64)).add (Int.ofNat 64))).tmod (Int.ofNat 64) = n % 64 := e
  by_cases hm : n % 64 = 0
  · obtain ⟨h', h, _⟩ := turnu64A x n (by rw [e', ieqB_eq, hm]; rfl)
    rw [rot_zero 64 x n hx hx2 (by simpa using hm)]; exact ⟨h', h⟩
  · have e3 : wrapA .i64 ((Int.ofNat 64).sub (n % 64)) = 64 - n % 64 := by
      rw [wrapA_eq]; exact IntWalk.i64_in _ (by constructor <;> (show _ ≤ _; first | omega | (show _ ≤ (64 : Int) - n % 64; omega) | (show (64 : Int) - n % 64 ≤ _; omega)))
    obtain ⟨h', h, _⟩ := turnu64B x n (by rw [e', ieqB_eq]; simpa using hm) (by rw [e', iltB_eq]; simp; omega) (by rw [e', e3, iltB_eq]; simp; omega)
    rw [e'] at h
    have := turn_val .u64 64 rfl rfl (by omega) (by omega) x n hx hx2 (by simpa using hm)
    exact ⟨h', h.trans (congrArg (fun z => some (AV.int _ z, h')) this)⟩
def turnRu64 : RSum := RSum.pl true fun us => match us with
  | [.int .u64 x, .int .i64 n] => some ([ileB 0 x, iltB x 18446744073709551616], .int .u64 (rotI 64 x n))
  | _ => none
theorem turnRu64_ok : RSum.Sound Try.prog tys 19 turnRu64 := by
  refine RSum.sound (cx_goes _ _) all01 (RSum.pl_ok fun us c v hm hc => ?_)
  split at hm
  · injection hm with hm; injection hm with e1 e2; subst e1; subst e2
    simp only [allTrue_cons, ileB_eq, iltB_eq, decide_eq_true_eq] at hc
    obtain ⟨h', h⟩ := turn_u64 _ _ hc.1 (by simpa using hc.2.1)
    exact ⟨rfl, 100, h', h⟩
  · cases hm
end Go.Proofs.Ytecncappdnhbaaa
end
end

/- Rows of bytes: plain laws. -/
section
set_option autoImplicit false
set_option linter.unusedVariables false
set_option linter.unusedSimpArgs false
noncomputable section
namespace Go.Ab
namespace M
/-- a value that a run does not look into. -/
def kept {α : Type} (a : α) : α := Classical.choose (⟨a, rfl⟩ : ∃ x, x = a)
theorem kept_eq {α : Type} (a : α) : kept a = a := Classical.choose_spec (⟨a, rfl⟩ : ∃ x, x = a)
/-- is a cell a byte? -/
def u8 : AV → Bool
  | .int k n => decide (k = .u8) && ileB 0 n && iltB n 256
  | _ => false
def u8L (l : List AV) : Bool := List.rec (motive := fun _ => Bool) true (fun v _ r => cb (u8 v) r false) l
def byte (v : AV) : UInt8 := UInt8.ofNat v.intOf.toNat
def bytesL (l : List AV) : List UInt8 := l.map byte
/-- a number as so many bytes, the highest first. -/
def putB (w x : Nat) : List UInt8 := (List.range w).map fun i => UInt8.ofNat (x / 256 ^ (w - 1 - i))
/-- the number that bytes write. -/
def getN (l : List UInt8) : Nat := l.foldl (fun x b => x * 256 + b.toNat) 0
end M
open M
theorem u8_iff {v : AV} : M.u8 v = true ↔ ∃ b : UInt8, v = .int .u8 b.toNat := by
  constructor
  · intro h
    cases v <;> simp only [M.u8] at h <;> try (cases h; done)
    rename_i k n
    simp only [Bool.and_eq_true, decide_eq_true_eq, ileB_eq, iltB_eq] at h
    obtain ⟨⟨rfl, h1⟩, h2⟩ := h
    refine ⟨UInt8.ofNat n.toNat, ?_⟩
    congr 1
    have : (UInt8.ofNat n.toNat).toNat = n.toNat % 256 := by simp
    rw [this]; omega
  · rintro ⟨b, rfl⟩
    have := b.toNat_lt
    simp only [M.u8, Bool.and_eq_true, decide_eq_true_eq, ileB_eq, iltB_eq]
    refine ⟨⟨trivial, by omega⟩, by omega⟩
theorem u8L_nil : u8L [] = true := rfl
theorem u8L_cons (v : AV) (l : List AV) : u8L (v :: l) = (M.u8 v && u8L l) := by
  show cb (M.u8 v) (u8L l) false = _
  cases M.u8 v <;> rfl
theorem u8L_append (a b : List AV) : u8L (a ++ b) = (u8L a && u8L b) := by
  induction a with
  | nil => simp [u8L_nil]
  | cons v a ih => rw [List.cons_append, u8L_cons, u8L_cons, ih, Bool.and_assoc]
theorem ofBytes_nil : ofBytes [] = [] := rfl
theorem ofBytes_cons (b : UInt8) (l : List UInt8) : ofBytes (b :: l) = .int .u8 b.toNat :: ofBytes l := rfl
theorem ofBytes_append (a b : List UInt8) : ofBytes (a ++ b) = ofBytes a ++ ofBytes b := by simp [ofBytes]
theorem ofBytes_length (l : List UInt8) : (ofBytes l).length = l.length := by simp [ofBytes]
theorem u8L_ofBytes (l : List UInt8) : u8L (ofBytes l) = true := by
  induction l with
  | nil => rfl
  | cons b l ih => rw [ofBytes_cons, u8L_cons, ih, Bool.and_true]; exact u8_iff.2 ⟨b, rfl⟩
theorem u8L_iff {cs : List AV} : u8L cs = true ↔ ∃ l, cs = ofBytes l := by
  constructor
  · intro h
    induction cs with
    | nil => exact ⟨[], rfl⟩
    | cons v cs ih =>
      rw [u8L_cons, Bool.and_eq_true] at h
      obtain ⟨b, rfl⟩ := u8_iff.1 h.1
      obtain ⟨l, rfl⟩ := ih h.2
      exact ⟨b :: l, rfl⟩
  · rintro ⟨l, rfl⟩; exact u8L_ofBytes l
theorem byte_int (b : UInt8) : M.byte (.int .u8 b.toNat) = b := by
  show UInt8.ofNat ((b.toNat : Int).toNat) = b
  simp
theorem bytesL_ofBytes (l : List UInt8) : bytesL (ofBytes l) = l := by
  induction l with
  | nil => rfl
  | cons b l ih =>
    show M.byte _ :: bytesL (ofBytes l) = _
    rw [ih, byte_int]
theorem bytesL_append (a b : List AV) : bytesL (a ++ b) = bytesL a ++ bytesL b := by simp [bytesL]
theorem bytesOf_ofBytes (l : List UInt8) : bytesOf (ofBytes l) = some l := by
  induction l with
  | nil => rfl
  | cons b l ih =>
    rw [ofBytes_cons]
    show ((byteOf (.int .u8 b.toNat)).ob fun c => (bytesOf (ofBytes l)).ob fun r => some (c :: r)) = _
    rw [ih]
    show some (UInt8.ofNat ((b.toNat : Int).toNat) :: l) = _
    simp
theorem ofBytes_plain (nf : Bool) (l : List UInt8) : AV.okL nf (fun _ => false) (ofBytes l) = true := by
  induction l with
  | nil => rfl
  | cons b l ih => rw [ofBytes_cons]; simp only [AV.okL, AV.ok, Bool.true_and]; exact ih
theorem ofBytes_plainL (l : List UInt8) : AV.plainL (ofBytes l) = true := by
  induction l with
  | nil => rfl
  | cons b l ih => rw [ofBytes_cons]; simp only [AV.plainL, AV.plain, Bool.true_and]; exact ih
theorem ofBytes_cells (l : List UInt8) : (ofBytes l).all AV.isCell = true := by
  induction l with
  | nil => rfl
  | cons b l ih => rw [ofBytes_cons, List.all_cons, ih]; rfl
theorem ofBytes_take (l : List UInt8) (n : Nat) : (ofBytes l).take n = ofBytes (l.take n) := by simp [ofBytes, List.map_take]
theorem ofBytes_drop (l : List UInt8) (n : Nat) : (ofBytes l).drop n = ofBytes (l.drop n) := by simp [ofBytes, List.map_drop]
theorem rowCut_ofBytes (l : List UInt8) (o n : Nat) : rowCut (ofBytes l) o n = ofBytes ((l.drop o).take n) := by
  unfold rowCut; rw [ofBytes_drop, ofBytes_take]
theorem listAt_ofBytes (l : List UInt8) (i : Nat) (h : i < l.length) : listAt (ofBytes l) i = some (.int .u8 (l[i]).toNat) := by
  rw [listAt_eq]; simp [ofBytes, List.getElem?_map, h]
theorem putB_length (w x : Nat) : (putB w x).length = w := by simp [putB]
theorem getN_append (a : List UInt8) (b : UInt8) : getN (a ++ [b]) = getN a * 256 + b.toNat := by simp [getN]
theorem rev_ind {α : Type} {P : List α → Prop} (h0 : P []) (h : ∀ l a, P l → P (l ++ [a])) (l : List α) : P l := by
  have key : ∀ m : List α, P m.reverse := by
    intro m
    induction m with
    | nil => exact h0
    | cons a m ih => rw [List.reverse_cons]; exact h _ _ ih
  have := key l.reverse
  rwa [List.reverse_reverse] at this
theorem getN_lt (l : List UInt8) : getN l < 256 ^ l.length := by
  induction l using rev_ind with
  | h0 => simp [getN]
  | h l b ih =>
    rw [getN_append, List.length_append, List.length_singleton, Nat.pow_succ]
    have := b.toNat_lt
    have : getN l + 1 ≤ 256 ^ l.length := ih
    calc getN l * 256 + b.toNat < (getN l + 1) * 256 := by omega
      _ ≤ 256 ^ l.length * 256 := Nat.mul_le_mul_right _ this
theorem putB_succ (w x : Nat) : putB (w + 1) x = putB w (x / 256) ++ [UInt8.ofNat x] := by
  unfold putB
  rw [List.range_succ, List.map_append]
  congr 1
  · apply List.map_congr_left
    intro i hi
    have hi : i < w := List.mem_range.1 hi
    congr 1
    rw [show w + 1 - 1 - i = (w - 1 - i) + 1 by omega, Nat.pow_succ, Nat.mul_comm, Nat.div_div_eq_div_mul]
  · simp
theorem getN_putB (w x : Nat) (h : x < 256 ^ w) : getN (putB w x) = x := by
  induction w generalizing x with
  | zero => simp at h; subst h; rfl
  | succ w ih =>
    rw [putB_succ, getN_append, ih (x / 256) (by rw [Nat.pow_succ] at h; omega)]
    have : (UInt8.ofNat x).toNat = x % 256 := by simp
    rw [this]; omega
theorem putB_getN (l : List UInt8) : putB l.length (getN l) = l := by
  induction l using rev_ind with
  | h0 => rfl
  | h l b ih =>
    rw [List.length_append, List.length_singleton, putB_succ, getN_append]
    have hb := b.toNat_lt
    have e : (getN l * 256 + b.toNat) / 256 = getN l := by omega
    rw [e, ih]
    congr 2
    apply UInt8.toNat_inj.1
    have : (UInt8.ofNat (getN l * 256 + b.toNat)).toNat = (getN l * 256 + b.toNat) % 256 := by simp
    rw [this]; omega
end Go.Ab
end
end

/- Bytes: copies; words written behind bytes. -/
section
set_option autoImplicit false
set_option linter.unusedVariables false
set_option linter.unusedSimpArgs false
set_option maxRecDepth 100000
noncomputable section
namespace Go.Ab
theorem shr_byte (x j : Nat) : wrapA .u8 (shrN (x : Int) (8 * j)) = ((UInt8.ofNat (x / 256 ^ j)).toNat : Int) := by
  have e : shrN (x : Int) (8 * j) = ((x / 2 ^ (8 * j) : Nat) : Int) := rfl
  rw [e, wrapA_eq]
  simp only [IntKind.wrap, IntKind.signed, IntKind.bits, Bool.false_and, Bool.false_eq_true, if_false]
  have h : (UInt8.ofNat (x / 256 ^ j)).toNat = x / 256 ^ j % 256 := by simp
  have h2 : (2 : Nat) ^ (8 * j) = 256 ^ j := by rw [Nat.pow_mul]
  rw [h, h2]; simp
theorem room_of {len k : Nat} (h : len ≤ 1099511627776) (hk : k ≤ 1099511627776) : appRoom 1 len k = true := by
  unfold appRoom; exact decide_eq_true (by omega)
theorem beq_of {a b : Nat} (h : a = b) : Nat.beq a b = true := by rw [nbeq]; exact decide_eq_true h
theorem beq_of1 {a b : Nat} (h : a = b) : Nat.beq a (Nat.mul b 1) = true := by rw [nbeq]; exact decide_eq_true (by show a = b * 1; omega)
theorem ble_of {a b : Nat} (h : a ≤ b) : Nat.ble a b = true := by rw [nble]; exact decide_eq_true h
theorem eq_of_beq' {a b : Nat} (h : Nat.beq a b = true) : a = b := Nat.eq_of_beq_eq_true h
theorem le_of_ble' {a b : Nat} (h : Nat.ble a b = true) : a ≤ b := Nat.le_of_ble_eq_true h
end Go.Ab
namespace Go.Proofs.Ytecncappdnhbaaa
open Go.Ab.M Go.Ab Go
/-- a copy of bytes. -/
def cloneR : RSum := RSum.nb true fun us => match us with
  | [.fsl true 0 []] => some ([], fun _ => .slice none 0 (some 0), [])
  | [.fsl false len cs] => some ([Nat.beq cs.length len, u8L cs, Nat.ble len 1099511627776], fun n => .slice (some (n, 0)) len none, [.cells true 5 len cs])
  | _ => none
abbrev F03a : FTab := [(67, cloneR)] ++ F01
abbrev C03a := mkCx tys fns F03a []
abbrev S03a := mkS tys F03a []
theorem cloneN :
    ∃ h', aCall C0 60 (Tgt.fn 67) [AV.fsl true 0 []] H0 = some (AV.slice none 0 (some 0), h') ∧ [].map h'.get = [] :=
  call_run (q := (oc 1 [])) (c := ([])) (by kernel_rfl) trivial
theorem clone0 (len : Nat) (cs : List AV) (h0 : (cs.length.beq (len.mul 1)) = true) (h1 : (len.beq 0) = true) :
    ∃ h', aCall C0 60 (Tgt.fn 67) [AV.fsl false len cs] H0 = some (AV.slice (some (0, 0)) 0 (some 0), h') ∧ [0].map h'.get = [Blk.cells true 5 0 []] :=
  call_run (q := (oc 2 (.y :: (.y :: [])))) (c := (Cnd.tst _ true :: Cnd.tst _ true :: [])) (by kernel_rfl) ⟨h0, h1, trivial⟩
theorem clone1 (len : Nat) (cs : List AV) (h0 : (cs.length.beq (len.mul 1)) = true) (h1 : (len.beq 0) = false) (h2 : (appRoom 1 0 len) = true) (h3 : (Nat.ble 1 (0 + len)) = true) :
    ∃ h', aCall C0 60 (Tgt.fn 67) [AV.fsl false len cs] H0 = some (AV.slice (some (1, 0)) (0 + len) none, h') ∧ [1].map h'.get = [Blk.cells true 5 ([] ++ cs).length ([] ++ cs)] :=
  call_run (q := (oc 2 (.y :: (.z :: (.y :: (.y :: (oc 1 []))))))) (c := (Cnd.tst _ true :: Cnd.tst _ false :: Cnd.tst _ true :: Cnd.tst _ true :: [])) (by kernel_rfl) ⟨h0, h1, h2, h3, trivial⟩
theorem cloneR_ok : RSum.Sound Try.prog tys 67 cloneR := by
  refine RSum.sound (cx_goes _ _) all0 (RSum.nb_ok fun us c v bs hm hc => ?_)
  split at hm
  · injection hm with hm; injection hm with e1 hm; injection hm with e2 e3; subst e1; subst e2; subst e3
    obtain ⟨h', h, _⟩ := cloneN
    exact ⟨(fun b hb => by cases hb), 60, h', [], _, h, rfl, (fun l l' j e => by cases e), rfl, fun n ρ hρ => AV.Le.refl _⟩
  · rename_i len cs
    injection hm with hm; injection hm with e1 hm; injection hm with e2 e3; subst e1; subst e2; subst e3
    simp only [allTrue_cons] at hc
    obtain ⟨c1, c2, c3, _⟩ := hc
    have c1 := eq_of_beq' c1
    have c3 := le_of_ble' c3
    obtain ⟨l, rfl⟩ := u8L_iff.1 c2
    refine ⟨fun b hb => ?_, ?_⟩
    · have : b = .cells true 5 len (ofBytes l) := by simpa using hb
      subst this
      simp only [Blk.plainOwn, ofBytes_plain, Bool.and_self]
    · by_cases h0 : len = 0
      · obtain ⟨h', h, hb⟩ := clone0 len (ofBytes l) (beq_of1 c1) (beq_of h0)
        refine ⟨60, h', [0], _, h, ?_, sel_one 0, rfl, fun n ρ hρ => ?_⟩
        · rw [hb, h0]
          have : ofBytes l = [] := List.eq_nil_of_length_eq_zero (by omega)
          rw [this]
        · have := hρ 0 0 rfl
          simp only [AV.ren, Option.map_some, this, Nat.add_zero, h0]
          exact AV.Le.empty n
      · obtain ⟨h', h, hb⟩ := clone1 len (ofBytes l) (beq_of1 c1) (by rw [nbeq]; exact decide_eq_false h0) (room_of (by omega) c3) (ble_of (by omega))
        refine ⟨60, h', [1], _, h, ?_, sel_one 1, rfl, fun n ρ hρ => ?_⟩
        · rw [hb, List.nil_append, c1]
        · have := hρ 0 1 rfl
          simp only [AV.ren, Option.map_some, this, Nat.add_zero, Nat.zero_add]
          exact AV.Le.refl _
  · cases hm
theorem f03a_ok : ∀ p ∈ F03a, RSum.Sound Try.prog tys p.1 p.2 := by
  intro p h
  rcases List.mem_cons.1 h with rfl | h
  · exact cloneR_ok
  · exact f01_ok p h
theorem all03a : SumAll Try.prog C03a := sums_all f03a_ok (fun _ h => by cases h)
theorem putu8N (x : Int) :
    ∃ h', aCall C03a 60 (Tgt.fn 74) [AV.fsl true 0 [], AV.int IntKind.u8 x] H0 = some (AV.slice (some (1, 0)) 1 none, h') ∧ [1].map h'.get = [Blk.cells true 5 1 [AV.int IntKind.u8 (shrN x 0)]] :=
  call_run (q := (oc 10 [])) (c := ([])) (by kernel_rfl) trivial
theorem putu8 (x : Int) (len : Nat) (cs : List AV) (h0 : (AV.plainL cs) = true) (h1 : (cs.length.beq len) = true) (h2 : (u8L cs) = true) (h3 : (len.ble 1099511627776) = true) (h4 : (appRoom 1 len 1) = true) (h5 : (len.beq (len * 1)) = true) :
    ∃ h', aCall C03a 60 (Tgt.fn 74) [AV.fsl false len cs, AV.int IntKind.u8 x] H0 = some (AV.slice (some (2, 0)) (len + 1) none, h') ∧ [2].map h'.get = [Blk.cells true 5 (cs ++ [AV.int IntKind.u8 (shrN x 0)]).length (cs ++ [AV.int IntKind.u8 (shrN x 0)])] :=
  call_run (q := (.y :: (.y :: (.y :: (.y :: (oc 7 (.y :: (.y :: (oc 2 []))))))))) (c := (Cnd.tst _ true :: Cnd.tst _ true :: Cnd.tst _ true :: Cnd.tst _ true :: Cnd.tst _ true :: Cnd.tst _ true :: [])) (by kernel_rfl) ⟨h0, h1, h2, h3, h4, h5, trivial⟩
theorem cells_u8 (x : Nat) (hx : x < 256) : [AV.int .u8 (shrN (x : Int) 0)] = ofBytes (putB 1 x) := by
  have h : ofBytes (putB 1 x) = [.int .u8 ((UInt8.ofNat (x / 256 ^ 0)).toNat : Int)] := rfl
  have h2 : (UInt8.ofNat (x / 256 ^ 0)).toNat = x / 256 ^ 0 % 256 := by simp
  have e : shrN (x : Int) 0 = ((x / 2 ^ 0 : Nat) : Int) := rfl
  rw [h, h2, e]; congr 3; omega
def putRu8 : RSum := RSum.nb true fun us => match us with
  | [.fsl true 0 [], .int .u8 x] => some ([ileB 0 x, iltB x 256], fun n => .slice (some (n, 0)) 1 none, [.cells true 5 1 (kept (ofBytes (putB 1 x.toNat)))])
  | [.fsl false len cs, .int .u8 x] => some ([Nat.beq cs.length len, u8L cs, Nat.ble len 1000000000000, ileB 0 x, iltB x 256], fun n => .slice (some (n, 0)) (len + 1) none, [.cells true 5 (len + 1) (cs ++ kept (ofBytes (putB 1 x.toNat)))])
  | _ => none
theorem putRu8_ok : RSum.Sound Try.prog tys 74 putRu8 := by
  refine RSum.sound (cx_goes _ _) all03a (RSum.nb_ok fun us c v bs hm hc => ?_)
  split at hm
  · injection hm with hm; injection hm with e1 hm; injection hm with e2 e3; rw [kept_eq] at e3; subst e1; subst e2; subst e3
    simp only [allTrue_cons] at hc
    obtain ⟨c1, c2, _⟩ := hc
    obtain ⟨x, rfl⟩ := nat_of c1
    have c2 : x < 256 := lt_of c2
    obtain ⟨h', h, hb⟩ := putu8N x
    refine ⟨fun b hb => ?_, 60, h', [1], _, h, ?_, sel_one 1, rfl, fun n ρ hρ => ?_⟩
    · have : b = .cells true 5 1 (ofBytes (putB 1 x)) := by simpa using hb
      subst this
      simp only [Blk.plainOwn, ofBytes_plain, Bool.and_self]
    · rw [hb, cells_u8 x c2]; rfl
    · have := hρ 0 1 rfl
      simp only [AV.ren, Option.map_some, this, Nat.add_zero]
      exact AV.Le.refl _
  · rename_i len cs x
    injection hm with hm; injection hm with e1 hm; injection hm with e2 e3; rw [kept_eq] at e3; subst e1; subst e2; subst e3
    simp only [allTrue_cons] at hc
    obtain ⟨c1, c2, c3, c4, c5, _⟩ := hc
    have c1 := eq_of_beq' c1
    have c3 := le_of_ble' c3
    obtain ⟨l, rfl⟩ := u8L_iff.1 c2
    obtain ⟨x, rfl⟩ := nat_of c4
    have c5 : x < 256 := lt_of c5
    obtain ⟨h', h, hb⟩ := putu8 x len (ofBytes l) (ofBytes_plainL l) (beq_of c1) c2 (ble_of (by omega)) (room_of (by omega) (by omega)) (beq_of (by simp only [ofBytes_length, List.length_append, List.length_cons, List.length_nil] at c1 ⊢; omega))
    refine ⟨fun b hb => ?_, 60, h', [2], _, h, ?_, sel_one 2, rfl, fun n ρ hρ => ?_⟩
    · have : b = .cells true 5 (len + 1) (ofBytes l ++ ofBytes (putB 1 x)) := by simpa using hb
      subst this
      rw [← ofBytes_append]
      simp only [Blk.plainOwn, ofBytes_plain, Bool.and_self]
    · rw [hb]
      try simp only [List.append_assoc, List.cons_append, List.nil_append]
      rw [cells_u8 x c5, List.length_append, c1, ofBytes_length, putB_length]; rfl
    · have := hρ 0 2 rfl
      simp only [AV.ren, Option.map_some, this, Nat.add_zero]
      exact AV.Le.refl _
  · cases hm
theorem putu16N (x : Int) :
    ∃ h', aCall C03a 60 (Tgt.fn 62) [AV.fsl true 0 [], AV.int IntKind.u16 x] H0 = some (AV.slice (some (3, 0)) 2 none, h') ∧ [3].map h'.get = [Blk.cells true 5 2 [AV.int IntKind.u8 (wrapA IntKind.u8 (shrN x 8)), AV.int IntKind.u8 (wrapA IntKind.u8 (shrN x 0))]] :=
  call_run (q := (oc 20 [])) (c := ([])) (by kernel_rfl) trivial
theorem putu16 (x : Int) (len : Nat) (cs : List AV) (h0 : (AV.plainL cs) = true) (h1 : (cs.length.beq len) = true) (h2 : (u8L cs) = true) (h3 : (len.ble 1099511627776) = true) (h4 : (appRoom 1 len 1) = true) (h5 : (len.beq (len * 1)) = true) (h6 : (appRoom 1 (len + 1) 1) = true) (h7 : ((cs ++ [AV.int IntKind.u8 (wrapA IntKind.u8 (shrN x 8))]).length.beq ((len + 1) * 1)) = true) :
    ∃ h', aCall C03a 60 (Tgt.fn 62) [AV.fsl false len cs, AV.int IntKind.u16 x] H0 = some (AV.slice (some (4, 0)) (len + 1 + 1) none, h') ∧ [4].map h'.get = [Blk.cells true 5 (cs ++ [AV.int IntKind.u8 (wrapA IntKind.u8 (shrN x 8))] ++ [AV.int IntKind.u8 (wrapA IntKind.u8 (shrN x 0))]).length (cs ++ [AV.int IntKind.u8 (wrapA IntKind.u8 (shrN x 8))] ++ [AV.int IntKind.u8 (wrapA IntKind.u8 (shrN x 0))])] :=
  call_run (q := (.y :: (.y :: (.y :: (.y :: (oc 7 (.y :: (.y :: (oc 8 (.y :: (.y :: (oc 2 [])))))))))))) (c := (Cnd.tst _ true :: Cnd.tst _ true :: Cnd.tst _ true :: Cnd.tst _ true :: Cnd.tst _ true :: Cnd.tst _ true :: Cnd.tst _ true :: Cnd.tst _ true :: [])) (by kernel_rfl) ⟨h0, h1, h2, h3, h4, h5, h6, h7, trivial⟩
theorem cells_u16 (x : Nat) (hx : x < 65536) : [AV.int .u8 (wrapA .u8 (shrN (x : Int) 8)), AV.int .u8 (wrapA .u8 (shrN (x : Int) 0))] = ofBytes (putB 2 x) := by
  have h : ofBytes (putB 2 x) = [.int .u8 ((UInt8.ofNat (x / 256 ^ 1)).toNat : Int), .int .u8 ((UInt8.ofNat (x / 256 ^ 0)).toNat : Int)] := rfl
  rw [h]
  have s : ∀ j, wrapA .u8 (shrN (x : Int) (8 * j)) = ((UInt8.ofNat (x / 256 ^ j)).toNat : Int) := shr_byte x
  have s0 := s 0
  have s1 := s 1
  simp only [← s0, ← s1]
def putRu16 : RSum := RSum.nb true fun us => match us with
  | [.fsl true 0 [], .int .u16 x] => some ([ileB 0 x, iltB x 65536], fun n => .slice (some (n, 0)) 2 none, [.cells true 5 2 (kept (ofBytes (putB 2 x.toNat)))])
  | [.fsl false len cs, .int .u16 x] => some ([Nat.beq cs.length len, u8L cs, Nat.ble len 1000000000000, ileB 0 x, iltB x 65536], fun n => .slice (some (n, 0)) (len + 2) none, [.cells true 5 (len + 2) (cs ++ kept (ofBytes (putB 2 x.toNat)))])
  | _ => none
theorem putRu16_ok : RSum.Sound Try.prog tys 62 putRu16 := by
  refine RSum.sound (cx_goes _ _) all03a (RSum.nb_ok fun us c v bs hm hc => ?_)
  split at hm
  · injection hm with hm; injection hm with e1 hm; injection hm with e2 e3; rw [kept_eq] at e3; subst e1; subst e2; subst e3
    simp only [allTrue_cons] at hc
    obtain ⟨c1, c2, _⟩ := hc
    obtain ⟨x, rfl⟩ := nat_of c1
    have c2 : x < 65536 := lt_of c2
    obtain ⟨h', h, hb⟩ := putu16N x
    refine ⟨fun b hb => ?_, 60, h', [3], _, h, ?_, sel_one 3, rfl, fun n ρ hρ => ?_⟩
    · have : b = .cells true 5 2 (ofBytes (putB 2 x)) := by simpa using hb
      subst this
      simp only [Blk.plainOwn, ofBytes_plain, Bool.and_self]
    · rw [hb, cells_u16 x c2]; rfl
    · have := hρ 0 3 rfl
      simp only [AV.ren, Option.map_some, this, Nat.add_zero]
      exact AV.Le.refl _
  · rename_i len cs x
    injection hm with hm; injection hm with e1 hm; injection hm with e2 e3; rw [kept_eq] at e3; subst e1; subst e2; subst e3
    simp only [allTrue_cons] at hc
    obtain ⟨c1, c2, c3, c4, c5, _⟩ := hc
    have c1 := eq_of_beq' c1
    have c3 := le_of_ble' c3
    obtain ⟨l, rfl⟩ := u8L_iff.1 c2
    obtain ⟨x, rfl⟩ := nat_of c4
    have c5 : x < 65536 := lt_of c5
    obtain ⟨h', h, hb⟩ := putu16 x len (ofBytes l) (ofBytes_plainL l) (beq_of c1) c2 (ble_of (by omega)) (room_of (by omega) (by omega)) (beq_of (by simp only [ofBytes_length, List.length_append, List.length_cons, List.length_nil] at c1 ⊢; omega)) (room_of (by omega) (by omega)) (beq_of (by simp only [ofBytes_length, List.length_append, List.length_cons, List.length_nil] at c1 ⊢; omega))
    refine ⟨fun b hb => ?_, 60, h', [4], _, h, ?_, sel_one 4, rfl, fun n ρ hρ => ?_⟩
    · have : b = .cells true 5 (len + 2) (ofBytes l ++ ofBytes (putB 2 x)) := by simpa using hb
      subst this
      rw [← ofBytes_append]
      simp only [Blk.plainOwn, ofBytes_plain, Bool.and_self]
    · rw [hb]
      try simp only [List.append_assoc, List.cons_append, List.nil_append]
      rw [cells_u16 x c5, List.length_append, c1, ofBytes_length, putB_length]; rfl
    · have := hρ 0 4 rfl
      simp only [AV.ren, Option.map_some, this, Nat.add_zero]
      exact AV.Le.refl _
  · cases hm
theorem putu32N (x : Int) :
    ∃ h', aCall C03a 60 (Tgt.fn 78) [AV.fsl true 0 [], AV.int IntKind.u32 x] H0 = some (AV.slice (some (7, 0)) 4 none, h') ∧ [7].map h'.get = [Blk.cells true 5 4 [AV.int IntKind.u8 (wrapA IntKind.u8 (shrN x 24)), AV.int IntKind.u8 (wrapA IntKind.u8 (shrN x 16)), AV.int IntKind.u8 (wrapA IntKind.u8 (shrN x 8)), AV.int IntKind.u8 (wrapA IntKind.u8 (shrN x 0))]] :=
  call_run (q := (oc 40 [])) (c := ([])) (by kernel_rfl) trivial
theorem putu32 (x : Int) (len : Nat) (cs : List AV) (h0 : (AV.plainL cs) = true) (h1 : (cs.length.beq len) = true) (h2 : (u8L cs) = true) (h3 : (len.ble 1099511627776) = true) (h4 : (appRoom 1 len 1) = true) (h5 : (len.beq (len * 1)) = true) (h6 : (appRoom 1 (len + 1) 1) = true) (h7 : ((cs ++ [AV.int IntKind.u8 (wrapA IntKind.u8 (shrN x 24))]).length.beq ((len + 1) * 1)) = true) (h8 : (appRoom 1 (len + 1 + 1) 1) = true) (h9 : ((cs ++ [AV.int IntKind.u8 (wrapA IntKind.u8 (shrN x 24))] ++ [AV.int IntKind.u8 (wrapA IntKind.u8 (shrN x 16))]).length.beq ((len + 1 + 1) * 1)) = true) (h10 : (appRoom 1 (len + 1 + 1 + 1) 1) = true) (h11 : ((cs ++ [AV.int IntKind.u8 (wrapA IntKind.u8 (shrN x 24))] ++ [AV.int IntKind.u8 (wrapA IntKind.u8 (shrN x 16))] ++ [AV.int IntKind.u8 (wrapA IntKind.u8 (shrN x 8))]).length.beq ((len + 1 + 1 + 1) * 1)) = true) :
    ∃ h', aCall C03a 60 (Tgt.fn 78) [AV.fsl false len cs, AV.int IntKind.u32 x] H0 = some (AV.slice (some (8, 0)) (len + 1 + 1 + 1 + 1) none, h') ∧ [8].map h'.get = [Blk.cells true 5 (cs ++ [AV.int IntKind.u8 (wrapA IntKind.u8 (shrN x 24))] ++ [AV.int IntKind.u8 (wrapA IntKind.u8 (shrN x 16))] ++ [AV.int IntKind.u8 (wrapA IntKind.u8 (shrN x 8))] ++ [AV.int IntKind.u8 (wrapA IntKind.u8 (shrN x 0))]).length (cs ++ [AV.int IntKind.u8 (wrapA IntKind.u8 (shrN x 24))] ++ [AV.int IntKind.u8 (wrapA IntKind.u8 (shrN x 16))] ++ [AV.int IntKind.u8 (wrapA IntKind.u8 (shrN x 8))] ++ [AV.int IntKind.u8 (wrapA IntKind.u8 (shrN x 0))])] :=
  call_run (q := (.y :: (.y :: (.y :: (.y :: (oc 7 (.y :: (.y :: (oc 8 (.y :: (.y :: (oc 8 (.y :: (.y :: (oc 8 (.y :: (.y :: (oc 2 [])))))))))))))))))) (c := (Cnd.tst _ true :: Cnd.tst _ true :: Cnd.tst _ true :: Cnd.tst _ true :: Cnd.tst _ true :: Cnd.tst _ true :: Cnd.tst _ true :: Cnd.tst _ true :: Cnd.tst _ true :: Cnd.tst _ true :: Cnd.tst _ true :: Cnd.tst _ true :: [])) (by kernel_rfl) ⟨h0, h1, h2, h3, h4, h5, h6, h7, h8, h9, h10, h11, trivial⟩
theorem cells_u32 (x : Nat) (hx : x < 4294967296) : [AV.int .u8 (wrapA .u8 (shrN (x : Int) 24)), AV.int .u8 (wrapA .u8 (shrN (x : Int) 16)), AV.int .u8 (wrapA .u8 (shrN (x : Int) 8)), AV.int .u8 (wrapA .u8 (shrN (x : Int) 0))] = ofBytes (putB 4 x) := by
  have h : ofBytes (putB 4 x) = [.int .u8 ((UInt8.ofNat (x / 256 ^ 3)).toNat : Int), .int .u8 ((UInt8.ofNat (x / 256 ^ 2)).toNat : Int), .int .u8 ((UInt8.ofNat (x / 256 ^ 1)).toNat : Int), .int .u8 ((UInt8.ofNat (x / 256 ^ 0)).toNat : Int)] := rfl
  rw [h]
  have s : ∀ j, wrapA .u8 (shrN (x : Int) (8 * j)) = ((UInt8.ofNat (x / 256 ^ j)).toNat : Int) := shr_byte x
  have s0 := s 0
  have s1 := s 1
  have s2 := s 2
  have s3 := s 3
  simp only [← s0, ← s1, ← s2, ← s3]
def putRu32 : RSum := RSum.nb true fun us => match us with
  | [.fsl true 0 [], .int .u32 x] => some ([ileB 0 x, iltB x 4294967296], fun n => .slice (some (n, 0)) 4 none, [.cells true 5 4 (kept (ofBytes (putB 4 x.toNat)))])
  | [.fsl false len cs, .int .u32 x] => some ([Nat.beq cs.length len, u8L cs, Nat.ble len 1000000000000, ileB 0 x, iltB x 4294967296], fun n => .slice (some (n, 0)) (len + 4) none, [.cells true 5 (len + 4) (cs ++ kept (ofBytes (putB 4 x.toNat)))])
  | _ => none
theorem putRu32_ok : RSum.Sound Try.prog tys 78 putRu32 := by
  refine RSum.sound (cx_goes _ _) all03a (RSum.nb_ok fun us c v bs hm hc => ?_)
  split at hm
  · injection hm with hm; injection hm with e1 hm; injection hm with e2 e3; rw [kept_eq] at e3; subst e1; subst e2; subst e3
    simp only [allTrue_cons] at hc
    obtain ⟨c1, c2, _⟩ := hc
    obtain ⟨x, rfl⟩ := nat_of c1
    have c2 : x < 4294967296 := lt_of c2
    obtain ⟨h', h, hb⟩ := putu32N x
    refine ⟨fun b hb => ?_, 60, h', [7], _, h, ?_, sel_one 7, rfl, fun n ρ hρ => ?_⟩
    · have : b = .cells true 5 4 (ofBytes (putB 4 x)) := by simpa using hb
      subst this
      simp only [Blk.plainOwn, ofBytes_plain, Bool.and_self]
    · rw [hb, cells_u32 x c2]; rfl
    · have := hρ 0 7 rfl
      simp only [AV.ren, Option.map_some, this, Nat.add_zero]
      exact AV.Le.refl _
  · rename_i len cs x
    injection hm with hm; injection hm with e1 hm; injection hm with e2 e3; rw [kept_eq] at e3; subst e1; subst e2; subst e3
    simp only [allTrue_cons] at hc
    obtain ⟨c1, c2, c3, c4, c5, _⟩ := hc
    have c1 := eq_of_beq' c1
    have c3 := le_of_ble' c3
    obtain ⟨l, rfl⟩ := u8L_iff.1 c2
    obtain ⟨x, rfl⟩ := nat_of c4
    have c5 : x < 4294967296 := lt_of c5
    obtain ⟨h', h, hb⟩ := putu32 x len (ofBytes l) (ofBytes_plainL l) (beq_of c1) c2 (ble_of (by omega)) (room_of (by omega) (by omega)) (beq_of (by simp only [ofBytes_length, List.length_append, List.length_cons, List.length_nil] at c1 ⊢; omega)) (room_of (by omega) (by omega)) (beq_of (by simp only [ofBytes_length, List.length_append, List.length_cons, List.length_nil] at c1 ⊢; omega)) (room_of (by omega) (by omega)) (beq_of (by simp only [ofBytes_length, List.length_append, List.length_cons, List.length_nil] at c1 ⊢; omega)) (room_of (by omega) (by omega)) (beq_of (by simp only [ofBytes_length, List.length_append, List.length_cons, List.length_nil] at c1 ⊢; omega))
    refine ⟨fun b hb => ?_, 60, h', [8], _, h, ?_, sel_one 8, rfl, fun n ρ hρ => ?_⟩
    · have : b = .cells true 5 (len + 4) (ofBytes l ++ ofBytes (putB 4 x)) := by simpa using hb
      subst this
      rw [← ofBytes_append]
      simp only [Blk.plainOwn, ofBytes_plain, Bool.and_self]
    · rw [hb]
      try simp only [List.append_assoc, List.cons_append, List.nil_append]
      rw [cells_u32 x c5, List.length_append, c1, ofBytes_length, putB_length]; rfl
    · have := hρ 0 8 rfl
      simp only [AV.ren, Option.map_some, this, Nat.add_zero]
      exact AV.Le.refl _
  · cases hm
theorem putu64N (x : Int) :
    ∃ h', aCall C03a 60 (Tgt.fn 80) [AV.fsl true 0 [], AV.int IntKind.u64 x] H0 = some (AV.slice (some (15, 0)) 8 none, h') ∧ [15].map h'.get = [Blk.cells true 5 8 [AV.int IntKind.u8 (wrapA IntKind.u8 (shrN x 56)), AV.int IntKind.u8 (wrapA IntKind.u8 (shrN x 48)), AV.int IntKind.u8 (wrapA IntKind.u8 (shrN x 40)), AV.int IntKind.u8 (wrapA IntKind.u8 (shrN x 32)), AV.int IntKind.u8 (wrapA IntKind.u8 (shrN x 24)), AV.int IntKind.u8 (wrapA IntKind.u8 (shrN x 16)), AV.int IntKind.u8 (wrapA IntKind.u8 (shrN x 8)), AV.int IntKind.u8 (wrapA IntKind.u8 (shrN x 0))]] :=
  call_run (q := (oc 80 [])) (c := ([])) (by kernel_rfl) trivial
theorem putu64 (x : Int) (len : Nat) (cs : List AV) (h0 : (AV.plainL cs) = true) (h1 : (cs.length.beq len) = true) (h2 : (u8L cs) = true) (h3 : (len.ble 1099511627776) = true) (h4 : (appRoom 1 len 1) = true) (h5 : (len.beq (len * 1)) = true) (h6 : (appRoom 1 (len + 1) 1) = true) (h7 : ((cs ++ [AV.int IntKind.u8 (wrapA IntKind.u8 (shrN x 56))]).length.beq ((len + 1) * 1)) = true) (h8 : (appRoom 1 (len + 1 + 1) 1) = true) (h9 : ((cs ++ [AV.int IntKind.u8 (wrapA IntKind.u8 (shrN x 56))] ++ [AV.int IntKind.u8 (wrapA IntKind.u8 (shrN x 48))]).length.beq ((len + 1 + 1) * 1)) = true) (h10 : (appRoom 1 (len + 1 + 1 + 1) 1) = true) (h11 : ((cs ++ [AV.int IntKind.u8 (wrapA IntKind.u8 (shrN x 56))] ++ [AV.int IntKind.u8 (wrapA IntKind.u8 (shrN x 48))] ++ [AV.int IntKind.u8 (wrapA IntKind.u8 (shrN x 40))]).length.beq ((len + 1 + 1 + 1) * 1)) = true) (h12 : (appRoom 1 (len + 1 + 1 + 1 + 1) 1) = true) (h13 : ((cs ++ [AV.int IntKind.u8 (wrapA IntKind.u8 (shrN x 56))] ++ [AV.int IntKind.u8 (wrapA IntKind.u8 (shrN x 48))] ++ [AV.int IntKind.u8 (wrapA IntKind.u8 (shrN x 40))] ++ [AV.int IntKind.u8 (wrapA IntKind.u8 (shrN x 32))]).length.beq ((len + 1 + 1 + 1 + 1) * 1)) = true) (h14 : (appRoom 1 (len + 1 + 1 + 1 + 1 + 1) 1) = true) (h15 : ((cs ++ [AV.int IntKind.u8 (wrapA IntKind.u8 (shrN x 56))] ++ [AV.int IntKind.u8 (wrapA IntKind.u8 (shrN x 48))] ++ [AV.int IntKind.u8 (wrapA IntKind.u8 (shrN x 40))] ++ [AV.int IntKind.u8 (wrapA IntKind.u8 (shrN x 32))] ++ [AV.int IntKind.u8 (wrapA IntKind.u8 (shrN x 24))]).length.beq ((len + 1 + 1 + 1 + 1 + 1) * 1)) = true) (h16 : (appRoom 1 (len + 1 + 1 + 1 + 1 + 1 + 1) 1) = true) (h17 : ((cs ++ [AV.int IntKind.u8 (wrapA IntKind.u8 (shrN x 56))] ++ [AV.int IntKind.u8 (wrapA IntKind.u8 (shrN x 48))] ++ [AV.int IntKind.u8 (wrapA IntKind.u8 (shrN x 40))] ++ [AV.int IntKind.u8 (wrapA IntKind.u8 (shrN x 32))] ++ [AV.int IntKind.u8 (wrapA IntKind.u8 (shrN x 24))] ++ [AV.int IntKind.u8 (wrapA IntKind.u8 (shrN x 16))]).length.beq ((len + 1 + 1 + 1 + 1 + 1 + 1) * 1)) = true) (h18 : (appRoom 1 (len + 1 + 1 + 1 + 1 + 1 + 1 + 1) 1) = true) (h19 : ((cs ++ [AV.int IntKind.u8 (wrapA IntKind.u8 (shrN x 56))] ++ [AV.int IntKind.u8 (wrapA IntKind.u8 (shrN x 48))] ++ [AV.int IntKind.u8 (wrapA IntKind.u8 (shrN x 40))] ++ [AV.int IntKind.u8 (wrapA IntKind.u8 (shrN x 32))] ++ [AV.int IntKind.u8 (wrapA IntKind.u8 (shrN x 24))] ++ [AV.int IntKind.u8 (wrapA IntKind.u8 (shrN x 16))] ++ [AV.int IntKind.u8 (wrapA IntKind.u8 (shrN x 8))]).length.beq ((len + 1 + 1 + 1 + 1 + 1 + 1 + 1) * 1)) = true) :
    ∃ h', aCall C03a 60 (Tgt.fn 80) [AV.fsl false len cs, AV.int IntKind.u64 x] H0 = some (AV.slice (some (16, 0)) (len + 1 + 1 + 1 + 1 + 1 + 1 + 1 + 1) none, h') ∧ [16].map h'.get = [Blk.cells true 5 (cs ++ [AV.int IntKind.u8 (wrapA IntKind.u8 (shrN x 56))] ++ [AV.int IntKind.u8 (wrapA IntKind.u8 (shrN x 48))] ++ [AV.int IntKind.u8 (wrapA IntKind.u8 (shrN x 40))] ++ [AV.int IntKind.u8 (wrapA IntKind.u8 (shrN x 32))] ++ [AV.int IntKind.u8 (wrapA IntKind.u8 (shrN x 24))] ++ [AV.int IntKind.u8 (wrapA IntKind.u8 (shrN x 16))] ++ [AV.int IntKind.u8 (wrapA IntKind.u8 (shrN x 8))] ++ [AV.int IntKind.u8 (wrapA IntKind.u8 (shrN x 0))]).length (cs ++ [AV.int IntKind.u8 (wrapA IntKind.u8 (shrN x 56))] ++ [AV.int IntKind.u8 (wrapA IntKind.u8 (shrN x 48))] ++ [AV.int IntKind.u8 (wrapA IntKind.u8 (shrN x 40))] ++ [AV.int IntKind.u8 (wrapA IntKind.u8 (shrN x 32))] ++ [AV.int IntKind.u8 (wrapA IntKind.u8 (shrN x 24))] ++ [AV.int IntKind.u8 (wrapA IntKind.u8 (shrN x 16))] ++ [AV.int IntKind.u8 (wrapA IntKind.u8 (shrN x 8))] ++ [AV.int IntKind.u8 (wrapA IntKind.u8 (shrN x 0))])] :=
  call_run (q := (.y :: (.y :: (.y :: (.y :: (oc 7 (.y :: (.y :: (oc 8 (.y :: (.y :: (oc 8 (.y :: (.y :: (oc 8 (.y :: (.y :: (oc 8 (.y :: (.y :: (oc 8 (.y :: (.y :: (oc 8 (.y :: (.y :: (oc 8 (.y :: (.y :: (oc 2 [])))))))))))))))))))))))))))))) (c := (Cnd.tst _ true :: Cnd.tst _ true :: Cnd.tst _ true :: Cnd.tst _ true :: Cnd.tst _ true :: Cnd.tst _ true :: Cnd.tst _ true :: Cnd.tst _ true :: Cnd.tst _ true :: Cnd.tst _ true :: Cnd.tst _ true :: Cnd.tst _ true :: Cnd.tst _ true :: Cnd.tst _ true :: Cnd.tst _ true :: Cnd.tst _ true :: Cnd.tst _ true :: Cnd.tst _ true :: Cnd.tst _ true :: Cnd.tst _ true :: [])) (by kernel_rfl) ⟨h0, h1, h2, h3, h4, h5, h6, h7, h8, h9, h10, h11, h12, h13, h14, h15, h16, h17, h18, h19, trivial⟩
theorem cells_u64 (x : Nat) (hx : x < 18446744073709551616) : [AV.int .u8 (wrapA .u8 (shrN (x : Int) 56)), AV.int .u8 (wrapA .u8 (shrN (x : Int) 48)), AV.int .u8 (wrapA .u8 (shrN (x : Int) 40)), AV.int .u8 (wrapA .u8 (shrN (x : Int) 32)), AV.int .u8 (wrapA .u8 (shrN (x : Int) 24)), AV.int .u8 (wrapA .u8 (shrN (x : Int) 16)), AV.int .u8 (wrapA .u8 (shrN (x : Int) 8)), AV.int .u8 (wrapA .u8 (shrN (x : Int) 0))] = ofBytes (putB 8 x) := by
  have h : ofBytes (putB 8 x) = [.int .u8 ((UInt8.ofNat (x / 256 ^ 7)).toNat : Int), .int .u8 ((UInt8.ofNat (x / 256 ^ 6)).toNat : Int), .int .u8 ((UInt8.ofNat (x / 256 ^ 5)).toNat : Int), .int .u8 ((UInt8.ofNat (x / 256 ^ 4)).toNat : Int), .int .u8 ((UInt8.ofNat (x / 256 ^ 3)).toNat : Int), .int .u8 ((UInt8.ofNat (x / 256 ^ 2)).toNat : Int), .int .u8 ((UInt8.ofNat (x / 256 ^ 1)).toNat : Int), .int .u8 ((UInt8.ofNat (x / 256 ^ 0)).toNat : Int)] := rfl
  rw [h]
  have s : ∀ j, wrapA .u8 (shrN (x : Int) (8 * j)) = ((UInt8.ofNat (x / 256 ^ j)).toNat : Int) := shr_byte x
  have s0 := s 0
  have s1 := s 1
  have s2 := s 2
  have s3 := s 3
  have s4 := s 4
  have s5 := s 5
  have s6 := s 6
  have s7 := s 7
  simp only [← s0, ← s1, ← s2, ← s3, ← s4, ← s5, ← s6, ← s7]
def putRu64 : RSum := RSum.nb true fun us => match us with
  | [.fsl true 0 [], .int .u64 x] => some ([ileB 0 x, iltB x 18446744073709551616], fun n => .slice (some (n, 0)) 8 none, [.cells true 5 8 (kept (ofBytes (putB 8 x.toNat)))])
  | [.fsl false len cs, .int .u64 x] => some ([Nat.beq cs.length len, u8L cs, Nat.ble len 1000000000000, ileB 0 x, iltB x 18446744073709551616], fun n => .slice (some (n, 0)) (len + 8) none, [.cells true 5 (len + 8) (cs ++ kept (ofBytes (putB 8 x.toNat)))])
  | _ => none
theorem putRu64_ok : RSum.Sound Try.prog tys 80 putRu64 := by
  refine RSum.sound (cx_goes _ _) all03a (RSum.nb_ok fun us c v bs hm hc => ?_)
  split at hm
  · injection hm with hm; injection hm with e1 hm; injection hm with e2 e3; rw [kept_eq] at e3; subst e1; subst e2; subst e3
    simp only [allTrue_cons] at hc
    obtain ⟨c1, c2, _⟩ := hc
    obtain ⟨x, rfl⟩ := nat_of c1
    have c2 : x < 18446744073709551616 := lt_of c2
    obtain ⟨h', h, hb⟩ := putu64N x
    refine ⟨fun b hb => ?_, 60, h', [15], _, h, ?_, sel_one 15, rfl, fun n ρ hρ => ?_⟩
    · have : b = .cells true 5 8 (ofBytes (putB 8 x)) := by simpa using hb
      subst this
      simp only [Blk.plainOwn, ofBytes_plain, Bool.and_self]
    · rw [hb, cells_u64 x c2]; rfl
    · have := hρ 0 15 rfl
      simp only [AV.ren, Option.map_some, this, Nat.add_zero]
      exact AV.Le.refl _
  · rename_i len cs x
    injection hm with hm; injection hm with e1 hm; injection hm with e2 e3; rw [kept_eq] at e3; subst e1; subst e2; subst e3
    simp only [allTrue_cons] at hc
    obtain ⟨c1, c2, c3, c4, c5, _⟩ := hc
    have c1 := eq_of_beq' c1
    have c3 := le_of_ble' c3
    obtain ⟨l, rfl⟩ := u8L_iff.1 c2
    obtain ⟨x, rfl⟩ := nat_of c4
    have c5 : x < 18446744073709551616 := lt_of c5
    obtain ⟨h', h, hb⟩ := putu64 x len (ofBytes l) (ofBytes_plainL l) (beq_of c1) c2 (ble_of (by omega)) (room_of (by omega) (by omega)) (beq_of (by simp only [ofBytes_length, List.length_append, List.length_cons, List.length_nil] at c1 ⊢; omega)) (room_of (by omega) (by omega)) (beq_of (by simp only [ofBytes_length, List.length_append, List.length_cons, List.length_nil] at c1 ⊢; omega)) (room_of (by omega) (by omega)) (beq_of (by simp only [ofBytes_length, List.length_append, List.length_cons, List.length_nil] at c1 ⊢; omega)) (room_of (by omega) (by omega)) (beq_of (by simp only [ofBytes_length, List.length_append, List.length_cons, List.length_nil] at c1 ⊢; omega)) (room_of (by omega) (by omega)) (beq_of (by simp only [ofBytes_length, List.length_append, List.length_cons, List.length_nil] at c1 ⊢; omega)) (room_of (by omega) (by omega)) (beq_of (by simp only [ofBytes_length, List.length_append, List.length_cons, List.length_nil] at c1 ⊢; omega)) (room_of (by omega) (by omega)) (beq_of (by simp only [ofBytes_length, List.length_append, List.length_cons, List.length_nil] at c1 ⊢; omega)) (room_of (by omega) (by omega)) (beq_of (by simp only [ofBytes_length, List.length_append, List.length_cons, List.length_nil] at c1 ⊢; omega))
    refine ⟨fun b hb => ?_, 60, h', [16], _, h, ?_, sel_one 16, rfl, fun n ρ hρ => ?_⟩
    · have : b = .cells true 5 (len + 8) (ofBytes l ++ ofBytes (putB 8 x)) := by simpa using hb
      subst this
      rw [← ofBytes_append]
      simp only [Blk.plainOwn, ofBytes_plain, Bool.and_self]
    · rw [hb]
      try simp only [List.append_assoc, List.cons_append, List.nil_append]
      rw [cells_u64 x c5, List.length_append, c1, ofBytes_length, putB_length]; rfl
    · have := hρ 0 16 rfl
      simp only [AV.ren, Option.map_some, this, Nat.add_zero]
      exact AV.Le.refl _
  · cases hm
abbrev F03b : FTab := [(74, putRu8), (62, putRu16), (78, putRu32), (80, putRu64)] ++ F03a
theorem f03b_ok : ∀ p ∈ F03b, RSum.Sound Try.prog tys p.1 p.2 := by
  intro p h
  rcases List.mem_append.1 h with h | h
  · simp only [List.mem_cons, List.not_mem_nil, or_false] at h
    rcases h with rfl | rfl | rfl | rfl
    · exact putRu8_ok
    · exact putRu16_ok
    · exact putRu32_ok
    · exact putRu64_ok
  · exact f03a_ok p h
end Go.Proofs.Ytecncappdnhbaaa
end
end

/- Bytes: words read off bytes; the document's writing and reading. -/
section
set_option autoImplicit false
set_option linter.unusedVariables false
set_option linter.unusedSimpArgs false
set_option maxRecDepth 100000
noncomputable section
namespace Go.Ab
namespace M
def getI (w : Nat) (cs : List AV) : Int := kept (if w ≤ cs.length then ((getN ((bytesL cs).take w) : Nat) : Int) else 0)
end M
open M
theorem getI_ofBytes (w : Nat) (l : List UInt8) : getI w (ofBytes l) = if w ≤ l.length then ((getN (l.take w) : Nat) : Int) else 0 := by
  unfold getI; rw [kept_eq, ofBytes_length, bytesL_ofBytes]
theorem or_first (b : UInt8) : orN .u64 (Int.ofNat 0) (wrapA .u64 (Int.ofNat b.toNat)) = ((b.toNat : Nat) : Int) := by
  have hb := b.toNat_lt
  have e : wrapA .u64 (Int.ofNat b.toNat) = ((b.toNat : Nat) : Int) := wrapA_nat .u64 _ (by show _ < 18446744073709551616; omega)
  rw [e]
  have := orN_nat .u64 0 b.toNat (by decide) (by show _ < 18446744073709551616; omega)
  rw [Nat.zero_or] at this
  exact this
theorem or_step (a : Nat) (b : UInt8) (h : a < 72057594037927936) : orN .u64 (shlN .u64 (a : Int) 8) (wrapA .u64 (Int.ofNat b.toNat)) = ((a * 256 + b.toNat : Nat) : Int) := by
  have hb := b.toNat_lt
  have e : wrapA .u64 (Int.ofNat b.toNat) = ((b.toNat : Nat) : Int) := wrapA_nat .u64 _ (by show _ < 18446744073709551616; omega)
  have e2 : shlN .u64 (a : Int) 8 = ((a * 256 : Nat) : Int) := by
    rw [shlN_eq]
    have : (a : Int) * 2 ^ 8 = ((a * 256 : Nat) : Int) := by simp
    rw [this]; exact wrap_small .u64 _ (by show _ < 18446744073709551616; omega)
  rw [e, e2, orN_nat .u64 _ _ (by show _ < 18446744073709551616; omega) (by show _ < 18446744073709551616; omega)]
  congr 1
  have := Nat.shiftLeft_add_eq_or_of_lt (i := 8) (b := b.toNat) (by omega) a
  rw [Nat.shiftLeft_eq] at this
  exact this.symm
theorem add_first (b : UInt8) : wrapA .u64 ((Int.ofNat 0).add (wrapA .u64 (Int.ofNat b.toNat))) = ((b.toNat : Nat) : Int) := by
  have hb := b.toNat_lt
  have e : wrapA .u64 (Int.ofNat b.toNat) = ((b.toNat : Nat) : Int) := wrapA_nat .u64 _ (by show _ < 18446744073709551616; omega)
  rw [e]
  have : (Int.ofNat 0).add ((b.toNat : Nat) : Int) = ((b.toNat : Nat) : Int) := by show (0 : Int) + _ = _; omega
  rw [this]; exact e
theorem add_step (a : Nat) (b : UInt8) (h : a < 72057594037927936) : wrapA .u64 ((wrapA .u64 ((a : Int).mul (Int.ofNat 256))).add (wrapA .u64 (Int.ofNat b.toNat))) = ((a * 256 + b.toNat : Nat) : Int) := by
  have hb := b.toNat_lt
  have e : wrapA .u64 (Int.ofNat b.toNat) = ((b.toNat : Nat) : Int) := wrapA_nat .u64 _ (by show _ < 18446744073709551616; omega)
  have e1 : (a : Int).mul (Int.ofNat 256) = ((a * 256 : Nat) : Int) := by show (a : Int) * ((256 : Nat) : Int) = _; rw [Int.natCast_mul]
  rw [e, e1, wrapA_nat .u64 (a * 256) (by show _ < 18446744073709551616; omega)]
  have : Int.add ((a * 256 : Nat) : Int) ((b.toNat : Nat) : Int) = ((a * 256 + b.toNat : Nat) : Int) := by show ((a * 256 : Nat) : Int) + ((b.toNat : Nat) : Int) = _; rw [Int.natCast_add]
  rw [this]; exact wrapA_nat .u64 _ (by show _ < 18446744073709551616; omega)
theorem div_step (y : Nat) (h : y < 18446744073709551616) : wrapA .u64 ((y : Int).tdiv (Int.ofNat 256)) = ((y / 256 : Nat) : Int) := by
  have e : (y : Int).tdiv (Int.ofNat 256) = ((y / 256 : Nat) : Int) := rfl
  rw [e]; exact wrapA_nat .u64 _ (by show _ < 18446744073709551616; omega)
theorem low_byte (y : Nat) : wrapA .u8 ((y : Int).tmod (Int.ofNat 256)) = ((UInt8.ofNat y).toNat : Int) := by
  have e : (y : Int).tmod (Int.ofNat 256) = ((y % 256 : Nat) : Int) := rfl
  have h : (UInt8.ofNat y).toNat = y % 256 := by simp
  rw [e, h]; exact wrapA_nat .u8 _ (Nat.mod_lt _ (by decide))
end Go.Ab
namespace Go.Proofs.Ytecncappdnhbaaa
open Go.Ab.M Go.Ab Go
theorem getu8A (nl : Bool) (len : Nat) (l : List UInt8) (h0 : (iltB (Int.ofNat len) (Int.ofNat 1)) = true) :
    ∃ h', aCall C01 60 (Tgt.fn 75) [AV.fsl nl len (ofBytes l)] H0 = some (AV.tuple [AV.int IntKind.u8 (Int.ofNat 0), AV.bool false], h') ∧ [].map h'.get = [] :=
  call_run (q := (oc 1 (.y :: []))) (c := (Cnd.tst _ true :: [])) (by kernel_rfl) ⟨h0, trivial⟩
theorem getu8B (nl : Bool) (len : Nat) (b0 : UInt8) (cs : List AV) (h0 : (iltB (Int.ofNat len) (Int.ofNat 1)) = false) (h1 : ((AV.int IntKind.u8 (Int.ofNat b0.toNat) :: cs).length.beq (len.mul 1)) = true) (h2 : (Nat.ble 1 len) = true) :
    ∃ h', aCall C01 60 (Tgt.fn 75) [AV.fsl nl len (AV.int IntKind.u8 (Int.ofNat b0.toNat) :: cs)] H0 = some (AV.tuple [AV.int IntKind.u8 (wrapA IntKind.u8 (orN IntKind.u64 (Int.ofNat 0) (wrapA IntKind.u64 (AV.int IntKind.u8 (Int.ofNat b0.toNat)).intOf))), AV.bool true], h') ∧ [].map h'.get = [] :=
  call_run (q := (oc 1 (.z :: (.y :: (oc 1 (.y :: (oc 8 []))))))) (c := (Cnd.tst _ false :: Cnd.tst _ true :: Cnd.tst _ true :: [])) (by kernel_rfl) ⟨h0, h1, h2, trivial⟩
def getRu8 : RSum := RSum.pl true fun us => match us with
  | [.fsl nl len cs] => some ([Nat.beq cs.length len, u8L cs], .tuple [.int .u8 (getI 1 cs), .bool (Nat.ble 1 len)])
  | _ => none
theorem getRu8_ok : RSum.Sound Try.prog tys 75 getRu8 := by
  refine RSum.sound (cx_goes _ _) all01 (RSum.pl_ok fun us c v hm hc => ?_)
  split at hm
  · rename_i nl len cs
    injection hm with hm; injection hm with e1 e2; subst e1; subst e2
    simp only [allTrue_cons] at hc
    obtain ⟨c1, c2, _⟩ := hc
    have c1 := eq_of_beq' c1
    obtain ⟨l, rfl⟩ := u8L_iff.1 c2
    rw [ofBytes_length] at c1
    refine ⟨rfl, 60, ?_⟩
    rw [getI_ofBytes]
    by_cases hl : 1 ≤ l.length
    · rw [if_pos hl, ble_of (by omega)]
      have hil : iltB (Int.ofNat len) (Int.ofNat 1) = false := by rw [iltB_eq]; exact decide_eq_false (by show ¬ (len : Int) < ((1 : Nat) : Int); omega)
      rcases l with _ | ⟨b0, l⟩
      · simp at hl; try omega
      obtain ⟨h', h, _⟩ := getu8B nl len b0 (ofBytes l) hil (beq_of1 (by simp only [List.length_cons, ofBytes_length] at c1 ⊢; omega)) (ble_of (by simp only [List.length_cons] at c1; omega))
      have q0 := b0.toNat_lt;
      refine ⟨h', ?_⟩
      refine Eq.trans h ?_
      simp only [AV.intOf]
      rw [or_first b0, wrapA_nat .u8 _ (by show _ < 256; omega)]
      have hg : getN (List.take 1 (b0 :: l)) = b0.toNat := by simp [getN]
      rw [hg]
    · rw [if_neg hl]
      obtain ⟨h', h, _⟩ := getu8A nl len (ofBytes l |> fun _ => l) (by rw [iltB_eq]; exact decide_eq_true (by show (len : Int) < ((1 : Nat) : Int); omega))
      have : Nat.ble 1 len = false := by rw [nble]; exact decide_eq_false (by omega)
      rw [this]; exact ⟨h', h⟩
  · cases hm
theorem getu16A (nl : Bool) (len : Nat) (l : List UInt8) (h0 : (iltB (Int.ofNat len) (Int.ofNat 2)) = true) :
    ∃ h', aCall C01 60 (Tgt.fn 77) [AV.fsl nl len (ofBytes l)] H0 = some (AV.tuple [AV.int IntKind.u16 (Int.ofNat 0), AV.bool false], h') ∧ [].map h'.get = [] :=
  call_run (q := (oc 1 (.y :: []))) (c := (Cnd.tst _ true :: [])) (by kernel_rfl) ⟨h0, trivial⟩
theorem getu16B (nl : Bool) (len : Nat) (b0 : UInt8) (b1 : UInt8) (cs : List AV) (h0 : (iltB (Int.ofNat len) (Int.ofNat 2)) = false) (h1 : ((AV.int IntKind.u8 (Int.ofNat b0.toNat) :: AV.int IntKind.u8 (Int.ofNat b1.toNat) :: cs).length.beq (len.mul 1)) = true) (h2 : (Nat.ble 2 len) = true) :
    ∃ h', aCall C01 60 (Tgt.fn 77) [AV.fsl nl len (AV.int IntKind.u8 (Int.ofNat b0.toNat) :: AV.int IntKind.u8 (Int.ofNat b1.toNat) :: cs)] H0 = some (AV.tuple [AV.int IntKind.u16 (wrapA IntKind.u16 (orN IntKind.u64 (shlN IntKind.u64 (orN IntKind.u64 (Int.ofNat 0) (wrapA IntKind.u64 (AV.int IntKind.u8 (Int.ofNat b0.toNat)).intOf)) 8) (wrapA IntKind.u64 (AV.int IntKind.u8 (Int.ofNat b1.toNat)).intOf))), AV.bool true], h') ∧ [].map h'.get = [] :=
  call_run (q := (oc 1 (.z :: (.y :: (oc 1 (.y :: (oc 15 []))))))) (c := (Cnd.tst _ false :: Cnd.tst _ true :: Cnd.tst _ true :: [])) (by kernel_rfl) ⟨h0, h1, h2, trivial⟩
def getRu16 : RSum := RSum.pl true fun us => match us with
  | [.fsl nl len cs] => some ([Nat.beq cs.length len, u8L cs], .tuple [.int .u16 (getI 2 cs), .bool (Nat.ble 2 len)])
  | _ => none
theorem getRu16_ok : RSum.Sound Try.prog tys 77 getRu16 := by
  refine RSum.sound (cx_goes _ _) all01 (RSum.pl_ok fun us c v hm hc => ?_)
  split at hm
  · rename_i nl len cs
    injection hm with hm; injection hm with e1 e2; subst e1; subst e2
    simp only [allTrue_cons] at hc
    obtain ⟨c1, c2, _⟩ := hc
    have c1 := eq_of_beq' c1
    obtain ⟨l, rfl⟩ := u8L_iff.1 c2
    rw [ofBytes_length] at c1
    refine ⟨rfl, 60, ?_⟩
    rw [getI_ofBytes]
    by_cases hl : 2 ≤ l.length
    · rw [if_pos hl, ble_of (by omega)]
      have hil : iltB (Int.ofNat len) (Int.ofNat 2) = false := by rw [iltB_eq]; exact decide_eq_false (by show ¬ (len : Int) < ((2 : Nat) : Int); omega)
      rcases l with _ | ⟨b0, l⟩
      · simp at hl; try omega
      rcases l with _ | ⟨b1, l⟩
      · simp at hl; try omega
      obtain ⟨h', h, _⟩ := getu16B nl len b0 b1 (ofBytes l) hil (beq_of1 (by simp only [List.length_cons, ofBytes_length] at c1 ⊢; omega)) (ble_of (by simp only [List.length_cons] at c1; omega))
      have q0 := b0.toNat_lt; have q1 := b1.toNat_lt;
      refine ⟨h', ?_⟩
      refine Eq.trans h ?_
      simp only [AV.intOf]
      rw [or_first b0, or_step (b0.toNat) b1 (by omega), wrapA_nat .u16 _ (by show _ < 65536; omega)]
      have hg : getN (List.take 2 (b0 :: b1 :: l)) = (b0.toNat * 256 + b1.toNat) := by simp [getN]
      rw [hg]
    · rw [if_neg hl]
      obtain ⟨h', h, _⟩ := getu16A nl len (ofBytes l |> fun _ => l) (by rw [iltB_eq]; exact decide_eq_true (by show (len : Int) < ((2 : Nat) : Int); omega))
      have : Nat.ble 2 len = false := by rw [nble]; exact decide_eq_false (by omega)
      rw [this]; exact ⟨h', h⟩
  · cases hm
theorem getu32A (nl : Bool) (len : Nat) (l : List UInt8) (h0 : (iltB (Int.ofNat len) (Int.ofNat 4)) = true) :
    ∃ h', aCall C01 60 (Tgt.fn 79) [AV.fsl nl len (ofBytes l)] H0 = some (AV.tuple [AV.int IntKind.u32 (Int.ofNat 0), AV.bool false], h') ∧ [].map h'.get = [] :=
  call_run (q := (oc 1 (.y :: []))) (c := (Cnd.tst _ true :: [])) (by kernel_rfl) ⟨h0, trivial⟩
theorem getu32B (nl : Bool) (len : Nat) (b0 : UInt8) (b1 : UInt8) (b2 : UInt8) (b3 : UInt8) (cs : List AV) (h0 : (iltB (Int.ofNat len) (Int.ofNat 4)) = false) (h1 : ((AV.int IntKind.u8 (Int.ofNat b0.toNat) :: AV.int IntKind.u8 (Int.ofNat b1.toNat) :: AV.int IntKind.u8 (Int.ofNat b2.toNat) :: AV.int IntKind.u8 (Int.ofNat b3.toNat) :: cs).length.beq (len.mul 1)) = true) (h2 : (Nat.ble 4 len) = true) :
    ∃ h', aCall C01 60 (Tgt.fn 79) [AV.fsl nl len (AV.int IntKind.u8 (Int.ofNat b0.toNat) :: AV.int IntKind.u8 (Int.ofNat b1.toNat) :: AV.int IntKind.u8 (Int.ofNat b2.toNat) :: AV.int IntKind.u8 (Int.ofNat b3.toNat) :: cs)] H0 = some (AV.tuple [AV.int IntKind.u32 (wrapA IntKind.u32 (orN IntKind.u64 (shlN IntKind.u64 (orN IntKind.u64 (shlN IntKind.u64 (orN IntKind.u64 (shlN IntKind.u64 (orN IntKind.u64 (Int.ofNat 0) (wrapA IntKind.u64 (AV.int IntKind.u8 (Int.ofNat b0.toNat)).intOf)) 8) (wrapA IntKind.u64 (AV.int IntKind.u8 (Int.ofNat b1.toNat)).intOf)) 8) (wrapA IntKind.u64 (AV.int IntKind.u8 (Int.ofNat b2.toNat)).intOf)) 8) (wrapA IntKind.u64 (AV.int IntKind.u8 (Int.ofNat b3.toNat)).intOf))), AV.bool true], h') ∧ [].map h'.get = [] :=
  call_run (q := (oc 1 (.z :: (.y :: (oc 1 (.y :: (oc 29 []))))))) (c := (Cnd.tst _ false :: Cnd.tst _ true :: Cnd.tst _ true :: [])) (by kernel_rfl) ⟨h0, h1, h2, trivial⟩
def getRu32 : RSum := RSum.pl true fun us => match us with
  | [.fsl nl len cs] => some ([Nat.beq cs.length len, u8L cs], .tuple [.int .u32 (getI 4 cs), .bool (Nat.ble 4 len)])
  | _ => none
theorem getRu32_ok : RSum.Sound Try.prog tys 79 getRu32 := by
  refine RSum.sound (cx_goes _ _) all01 (RSum.pl_ok fun us c v hm hc => ?_)
  split at hm
  · rename_i nl len cs
    injection hm with hm; injection hm with e1 e2; subst e1; subst e2
    simp only [allTrue_cons] at hc
    obtain ⟨c1, c2, _⟩ := hc
    have c1 := eq_of_beq' c1
    obtain ⟨l, rfl⟩ := u8L_iff.1 c2
    rw [ofBytes_length] at c1
    refine ⟨rfl, 60, ?_⟩
    rw [getI_ofBytes]
    by_cases hl : 4 ≤ l.length
    · rw [if_pos hl, ble_of (by omega)]
      have hil : iltB (Int.ofNat len) (Int.ofNat 4) = false := by rw [iltB_eq]; exact decide_eq_false (by show ¬ (len : Int) < ((4 : Nat) : Int); omega)
      rcases l with _ | ⟨b0, l⟩
      · simp at hl; try omega
      rcases l with _ | ⟨b1, l⟩
      · simp at hl; try omega
      rcases l with _ | ⟨b2, l⟩
      · simp at hl; try omega
      rcases l with _ | ⟨b3, l⟩
      · simp at hl; try omega
      obtain ⟨h', h, _⟩ := getu32B nl len b0 b1 b2 b3 (ofBytes l) hil (beq_of1 (by simp only [List.length_cons, ofBytes_length] at c1 ⊢; omega)) (ble_of (by simp only [List.length_cons] at c1; omega))
      have q0 := b0.toNat_lt; have q1 := b1.toNat_lt; have q2 := b2.toNat_lt; have q3 := b3.toNat_lt;
      refine ⟨h', ?_⟩
      refine Eq.trans h ?_
      simp only [AV.intOf]
      rw [or_first b0, or_step (b0.toNat) b1 (by omega), or_step ((b0.toNat * 256 + b1.toNat)) b2 (by omega), or_step (((b0.toNat * 256 + b1.toNat) * 256 + b2.toNat)) b3 (by omega), wrapA_nat .u32 _ (by show _ < 4294967296; omega)]
      have hg : getN (List.take 4 (b0 :: b1 :: b2 :: b3 :: l)) = (((b0.toNat * 256 + b1.toNat) * 256 + b2.toNat) * 256 + b3.toNat) := by simp [getN]
      rw [hg]
    · rw [if_neg hl]
      obtain ⟨h', h, _⟩ := getu32A nl len (ofBytes l |> fun _ => l) (by rw [iltB_eq]; exact decide_eq_true (by show (len : Int) < ((4 : Nat) : Int); omega))
      have : Nat.ble 4 len = false := by rw [nble]; exact decide_eq_false (by omega)
      rw [this]; exact ⟨h', h⟩
  · cases hm
theorem getu64A (nl : Bool) (len : Nat) (l : List UInt8) (h0 : (iltB (Int.ofNat len) (Int.ofNat 8)) = true) :
    ∃ h', aCall C01 60 (Tgt.fn 81) [AV.fsl nl len (ofBytes l)] H0 = some (AV.tuple [AV.int IntKind.u64 (Int.ofNat 0), AV.bool false], h') ∧ [].map h'.get = [] :=
  call_run (q := (oc 1 (.y :: []))) (c := (Cnd.tst _ true :: [])) (by kernel_rfl) ⟨h0, trivial⟩
theorem getu64B (nl : Bool) (len : Nat) (b0 : UInt8) (b1 : UInt8) (b2 : UInt8) (b3 : UInt8) (b4 : UInt8) (b5 : UInt8) (b6 : UInt8) (b7 : UInt8) (cs : List AV) (h0 : (iltB (Int.ofNat len) (Int.ofNat 8)) = false) (h1 : ((AV.int IntKind.u8 (Int.ofNat b0.toNat) :: AV.int IntKind.u8 (Int.ofNat b1.toNat) :: AV.int IntKind.u8 (Int.ofNat b2.toNat) :: AV.int IntKind.u8 (Int.ofNat b3.toNat) :: AV.int IntKind.u8 (Int.ofNat b4.toNat) :: AV.int IntKind.u8 (Int.ofNat b5.toNat) :: AV.int IntKind.u8 (Int.ofNat b6.toNat) :: AV.int IntKind.u8 (Int.ofNat b7.toNat) :: cs).length.beq (len.mul 1)) = true) (h2 : (Nat.ble 8 len) = true) :
    ∃ h', aCall C01 60 (Tgt.fn 81) [AV.fsl nl len (AV.int IntKind.u8 (Int.ofNat b0.toNat) :: AV.int IntKind.u8 (Int.ofNat b1.toNat) :: AV.int IntKind.u8 (Int.ofNat b2.toNat) :: AV.int IntKind.u8 (Int.ofNat b3.toNat) :: AV.int IntKind.u8 (Int.ofNat b4.toNat) :: AV.int IntKind.u8 (Int.ofNat b5.toNat) :: AV.int IntKind.u8 (Int.ofNat b6.toNat) :: AV.int IntKind.u8 (Int.ofNat b7.toNat) :: cs)] H0 = some (AV.tuple [AV.int IntKind.u64 (orN IntKind.u64 (shlN IntKind.u64 (orN IntKind.u64 (shlN IntKind.u64 (orN IntKind.u64 (shlN IntKind.u64 (orN IntKind.u64 (shlN IntKind.u64 (orN IntKind.u64 (shlN IntKind.u64 (orN IntKind.u64 (shlN IntKind.u64 (orN IntKind.u64 (shlN IntKind.u64 (orN IntKind.u64 (Int.ofNat 0) (wrapA IntKind.u64 (AV.int IntKind.u8 (Int.ofNat b0.toNat)).intOf)) 8) (wrapA IntKind.u64 (AV.int IntKind.u8 (Int.ofNat b1.toNat)).intOf)) 8) (wrapA IntKind.u64 (AV.int IntKind.u8 (Int.ofNat b2.toNat)).intOf)) 8) (wrapA IntKind.u64 (AV.int IntKind.u8 (Int.ofNat b3.toNat)).intOf)) 8) (wrapA IntKind.u64 (AV.int IntKind.u8 (Int.ofNat b4.toNat)).intOf)) 8) (wrapA IntKind.u64 (AV.int IntKind.u8 (Int.ofNat b5.toNat)).intOf)) 8) (wrapA IntKind.u64 (AV.int IntKind.u8 (Int.ofNat b6.toNat)).intOf)) 8) (wrapA IntKind.u64 (AV.int IntKind.u8 (Int.ofNat b7.toNat)).intOf)), AV.bool true], h') ∧ [].map h'.get = [] :=
  call_run (q := (oc 1 (.z :: (.y :: (oc 1 (.y :: (oc 57 []))))))) (c := (Cnd.tst _ false :: Cnd.tst _ true :: Cnd.tst _ true :: [])) (by kernel_rfl) ⟨h0, h1, h2, trivial⟩
def getRu64 : RSum := RSum.pl true fun us => match us with
  | [.fsl nl len cs] => some ([Nat.beq cs.length len, u8L cs], .tuple [.int .u64 (getI 8 cs), .bool (Nat.ble 8 len)])
  | _ => none
theorem getRu64_ok : RSum.Sound Try.prog tys 81 getRu64 := by
  refine RSum.sound (cx_goes _ _) all01 (RSum.pl_ok fun us c v hm hc => ?_)
  split at hm
  · rename_i nl len cs
    injection hm with hm; injection hm with e1 e2; subst e1; subst e2
    simp only [allTrue_cons] at hc
    obtain ⟨c1, c2, _⟩ := hc
    have c1 := eq_of_beq' c1
    obtain ⟨l, rfl⟩ := u8L_iff.1 c2
    rw [ofBytes_length] at c1
    refine ⟨rfl, 60, ?_⟩
    rw [getI_ofBytes]
    by_cases hl : 8 ≤ l.length
    · rw [if_pos hl, ble_of (by omega)]
      have hil : iltB (Int.ofNat len) (Int.ofNat 8) = false := by rw [iltB_eq]; exact decide_eq_false (by show ¬ (len : Int) < ((8 : Nat) : Int); omega)
      rcases l with _ | ⟨b0, l⟩
      · simp at hl; try omega
      rcases l with _ | ⟨b1, l⟩
      · simp at hl; try omega
      rcases l with _ | ⟨b2, l⟩
      · simp at hl; try omega
      rcases l with _ | ⟨b3, l⟩
      · simp at hl; try omega
      rcases l with _ | ⟨b4, l⟩
      · simp at hl; try omega
      rcases l with _ | ⟨b5, l⟩
      · simp at hl; try omega
      rcases l with _ | ⟨b6, l⟩
      · simp at hl; try omega
      rcases l with _ | ⟨b7, l⟩
      · simp at hl; try omega
      obtain ⟨h', h, _⟩ := getu64B nl len b0 b1 b2 b3 b4 b5 b6 b7 (ofBytes l) hil (beq_of1 (by simp only [List.length_cons, ofBytes_length] at c1 ⊢; omega)) (ble_of (by simp only [List.length_cons] at c1; omega))
      have q0 := b0.toNat_lt; have q1 := b1.toNat_lt; have q2 := b2.toNat_lt; have q3 := b3.toNat_lt; have q4 := b4.toNat_lt; have q5 := b5.toNat_lt; have q6 := b6.toNat_lt; have q7 := b7.toNat_lt;
      refine ⟨h', ?_⟩
      refine Eq.trans h ?_
      simp only [AV.intOf]
      rw [or_first b0, or_step (b0.toNat) b1 (by omega), or_step ((b0.toNat * 256 + b1.toNat)) b2 (by omega), or_step (((b0.toNat * 256 + b1.toNat) * 256 + b2.toNat)) b3 (by omega), or_step ((((b0.toNat * 256 + b1.toNat) * 256 + b2.toNat) * 256 + b3.toNat)) b4 (by omega), or_step (((((b0.toNat * 256 + b1.toNat) * 256 + b2.toNat) * 256 + b3.toNat) * 256 + b4.toNat)) b5 (by omega), or_step ((((((b0.toNat * 256 + b1.toNat) * 256 + b2.toNat) * 256 + b3.toNat) * 256 + b4.toNat) * 256 + b5.toNat)) b6 (by omega), or_step (((((((b0.toNat * 256 + b1.toNat) * 256 + b2.toNat) * 256 + b3.toNat) * 256 + b4.toNat) * 256 + b5.toNat) * 256 + b6.toNat)) b7 (by omega)]
      have hg : getN (List.take 8 (b0 :: b1 :: b2 :: b3 :: b4 :: b5 :: b6 :: b7 :: l)) = (((((((b0.toNat * 256 + b1.toNat) * 256 + b2.toNat) * 256 + b3.toNat) * 256 + b4.toNat) * 256 + b5.toNat) * 256 + b6.toNat) * 256 + b7.toNat) := by simp [getN]
      rw [hg]
    · rw [if_neg hl]
      obtain ⟨h', h, _⟩ := getu64A nl len (ofBytes l |> fun _ => l) (by rw [iltB_eq]; exact decide_eq_true (by show (len : Int) < ((8 : Nat) : Int); omega))
      have : Nat.ble 8 len = false := by rw [nble]; exact decide_eq_false (by omega)
      rw [this]; exact ⟨h', h⟩
  · cases hm
def isW (w : Nat) : Bool := Nat.beq w 1 || Nat.beq w 2 || Nat.beq w 4 || Nat.beq w 8
theorem isW_cases {w : Nat} (h : isW w = true) : w = 1 ∨ w = 2 ∨ w = 4 ∨ w = 8 := by
  simp only [isW, nbeq, Bool.or_eq_true, decide_eq_true_eq] at h; omega
theorem rget1A (nl : Bool) (len : Nat) (l : List UInt8) (h0 : (iltB (Int.ofNat len) (Int.ofNat 1)) = true) :
    ∃ h', aCall C01 60 (Tgt.fn 76) [AV.fsl nl len (ofBytes l), AV.int IntKind.i64 (Int.ofNat 1)] H0 = some (AV.tuple [AV.int IntKind.u64 (Int.ofNat 0), AV.bool false], h') ∧ [].map h'.get = [] :=
  call_run (q := (.y :: [])) (c := (Cnd.tst _ true :: [])) (by kernel_rfl) ⟨h0, trivial⟩
theorem rget1B (nl : Bool) (len : Nat) (b0 : UInt8) (cs : List AV) (h0 : (iltB (Int.ofNat len) (Int.ofNat 1)) = false) (h1 : (Nat.ble 1 len) = true) (h2 : ((AV.int IntKind.u8 (Int.ofNat b0.toNat) :: cs).length.beq (len.mul 1)) = true) :
    ∃ h', aCall C01 60 (Tgt.fn 76) [AV.fsl nl len (AV.int IntKind.u8 (Int.ofNat b0.toNat) :: cs), AV.int IntKind.i64 (Int.ofNat 1)] H0 = some (AV.tuple [AV.int IntKind.u64 (wrapA IntKind.u64 ((Int.ofNat 0).add (wrapA IntKind.u64 (AV.int IntKind.u8 (Int.ofNat b0.toNat)).intOf))), AV.bool true], h') ∧ [].map h'.get = [] :=
  call_run (q := (.z :: (oc 2 (.y :: (.y :: (oc 3 [])))))) (c := (Cnd.tst _ false :: Cnd.tst _ true :: Cnd.tst _ true :: [])) (by kernel_rfl) ⟨h0, h1, h2, trivial⟩
theorem rput1 (x : Int) :
    ∃ h', aCall C01 60 (Tgt.fn 49) [AV.int IntKind.u64 x, AV.int IntKind.i64 (Int.ofNat 1)] H0 = some (AV.slice (some (0, 0)) 1 (some 1), h') ∧ [0].map h'.get = [Blk.cells true 5 1 [AV.int IntKind.u8 (wrapA IntKind.u8 (x.tmod (Int.ofNat 256)))]] :=
  call_run (q := (oc 13 [])) (c := ([])) (by kernel_rfl) trivial
theorem rget2A (nl : Bool) (len : Nat) (l : List UInt8) (h0 : (iltB (Int.ofNat len) (Int.ofNat 2)) = true) :
    ∃ h', aCall C01 60 (Tgt.fn 76) [AV.fsl nl len (ofBytes l), AV.int IntKind.i64 (Int.ofNat 2)] H0 = some (AV.tuple [AV.int IntKind.u64 (Int.ofNat 0), AV.bool false], h') ∧ [].map h'.get = [] :=
  call_run (q := (.y :: [])) (c := (Cnd.tst _ true :: [])) (by kernel_rfl) ⟨h0, trivial⟩
theorem rget2B (nl : Bool) (len : Nat) (b0 : UInt8) (b1 : UInt8) (cs : List AV) (h0 : (iltB (Int.ofNat len) (Int.ofNat 2)) = false) (h1 : (Nat.ble 1 len) = true) (h2 : ((AV.int IntKind.u8 (Int.ofNat b0.toNat) :: AV.int IntKind.u8 (Int.ofNat b1.toNat) :: cs).length.beq (len.mul 1)) = true) (h3 : (Nat.ble 2 len) = true) :
    ∃ h', aCall C01 60 (Tgt.fn 76) [AV.fsl nl len (AV.int IntKind.u8 (Int.ofNat b0.toNat) :: AV.int IntKind.u8 (Int.ofNat b1.toNat) :: cs), AV.int IntKind.i64 (Int.ofNat 2)] H0 = some (AV.tuple [AV.int IntKind.u64 (wrapA IntKind.u64 ((wrapA IntKind.u64 ((wrapA IntKind.u64 ((Int.ofNat 0).add (wrapA IntKind.u64 (AV.int IntKind.u8 (Int.ofNat b0.toNat)).intOf))).mul (Int.ofNat 256))).add (wrapA IntKind.u64 (AV.int IntKind.u8 (Int.ofNat b1.toNat)).intOf))), AV.bool true], h') ∧ [].map h'.get = [] :=
  call_run (q := (.z :: (oc 2 (.y :: (.y :: (oc 4 (.y :: (.y :: (oc 3 []))))))))) (c := (Cnd.tst _ false :: Cnd.tst _ true :: Cnd.tst _ true :: Cnd.tst _ true :: Cnd.tst _ true :: [])) (by kernel_rfl) ⟨h0, h1, h2, h3, h2, trivial⟩
theorem rput2 (x : Int) :
    ∃ h', aCall C01 60 (Tgt.fn 49) [AV.int IntKind.u64 x, AV.int IntKind.i64 (Int.ofNat 2)] H0 = some (AV.slice (some (0, 0)) 2 (some 2), h') ∧ [0].map h'.get = [Blk.cells true 5 2 [AV.int IntKind.u8 (wrapA IntKind.u8 ((wrapA IntKind.u64 (x.tdiv (Int.ofNat 256))).tmod (Int.ofNat 256))), AV.int IntKind.u8 (wrapA IntKind.u8 (x.tmod (Int.ofNat 256)))]] :=
  call_run (q := (oc 21 [])) (c := ([])) (by kernel_rfl) trivial
theorem rget4A (nl : Bool) (len : Nat) (l : List UInt8) (h0 : (iltB (Int.ofNat len) (Int.ofNat 4)) = true) :
    ∃ h', aCall C01 60 (Tgt.fn 76) [AV.fsl nl len (ofBytes l), AV.int IntKind.i64 (Int.ofNat 4)] H0 = some (AV.tuple [AV.int IntKind.u64 (Int.ofNat 0), AV.bool false], h') ∧ [].map h'.get = [] :=
  call_run (q := (.y :: [])) (c := (Cnd.tst _ true :: [])) (by kernel_rfl) ⟨h0, trivial⟩
theorem rget4B (nl : Bool) (len : Nat) (b0 : UInt8) (b1 : UInt8) (b2 : UInt8) (b3 : UInt8) (cs : List AV) (h0 : (iltB (Int.ofNat len) (Int.ofNat 4)) = false) (h1 : (Nat.ble 1 len) = true) (h2 : ((AV.int IntKind.u8 (Int.ofNat b0.toNat) :: AV.int IntKind.u8 (Int.ofNat b1.toNat) :: AV.int IntKind.u8 (Int.ofNat b2.toNat) :: AV.int IntKind.u8 (Int.ofNat b3.toNat) :: cs).length.beq (len.mul 1)) = true) (h3 : (Nat.ble 2 len) = true) (h4 : (Nat.ble 3 len) = true) (h5 : (Nat.ble 4 len) = true) :
    ∃ h', aCall C01 60 (Tgt.fn 76) [AV.fsl nl len (AV.int IntKind.u8 (Int.ofNat b0.toNat) :: AV.int IntKind.u8 (Int.ofNat b1.toNat) :: AV.int IntKind.u8 (Int.ofNat b2.toNat) :: AV.int IntKind.u8 (Int.ofNat b3.toNat) :: cs), AV.int IntKind.i64 (Int.ofNat 4)] H0 = some (AV.tuple [AV.int IntKind.u64 (wrapA IntKind.u64 ((wrapA IntKind.u64 ((wrapA IntKind.u64 ((wrapA IntKind.u64 ((wrapA IntKind.u64 ((wrapA IntKind.u64 ((wrapA IntKind.u64 ((Int.ofNat 0).add (wrapA IntKind.u64 (AV.int IntKind.u8 (Int.ofNat b0.toNat)).intOf))).mul (Int.ofNat 256))).add (wrapA IntKind.u64 (AV.int IntKind.u8 (Int.ofNat b1.toNat)).intOf))).mul (Int.ofNat 256))).add (wrapA IntKind.u64 (AV.int IntKind.u8 (Int.ofNat b2.toNat)).intOf))).mul (Int.ofNat 256))).add (wrapA IntKind.u64 (AV.int IntKind.u8 (Int.ofNat b3.toNat)).intOf))), AV.bool true], h') ∧ [].map h'.get = [] :=
  call_run (q := (.z :: (oc 2 (.y :: (.y :: (oc 4 (.y :: (.y :: (oc 4 (.y :: (.y :: (oc 4 (.y :: (.y :: (oc 3 []))))))))))))))) (c := (Cnd.tst _ false :: Cnd.tst _ true :: Cnd.tst _ true :: Cnd.tst _ true :: Cnd.tst _ true :: Cnd.tst _ true :: Cnd.tst _ true :: Cnd.tst _ true :: Cnd.tst _ true :: [])) (by kernel_rfl) ⟨h0, h1, h2, h3, h2, h4, h2, h5, h2, trivial⟩
theorem rput4 (x : Int) :
    ∃ h', aCall C01 60 (Tgt.fn 49) [AV.int IntKind.u64 x, AV.int IntKind.i64 (Int.ofNat 4)] H0 = some (AV.slice (some (0, 0)) 4 (some 4), h') ∧ [0].map h'.get = [Blk.cells true 5 4 [AV.int IntKind.u8 (wrapA IntKind.u8 ((wrapA IntKind.u64 ((wrapA IntKind.u64 ((wrapA IntKind.u64 (x.tdiv (Int.ofNat 256))).tdiv (Int.ofNat 256))).tdiv (Int.ofNat 256))).tmod (Int.ofNat 256))), AV.int IntKind.u8 (wrapA IntKind.u8 ((wrapA IntKind.u64 ((wrapA IntKind.u64 (x.tdiv (Int.ofNat 256))).tdiv (Int.ofNat 256))).tmod (Int.ofNat 256))), AV.int IntKind.u8 (wrapA IntKind.u8 ((wrapA IntKind.u64 (x.tdiv (Int.ofNat 256))).tmod (Int.ofNat 256))), AV.int IntKind.u8 (wrapA IntKind.u8 (x.tmod (Int.ofNat 256)))]] :=
  call_run (q := (oc 37 [])) (c := ([])) (by kernel_rfl) trivial
theorem rget8A (nl : Bool) (len : Nat) (l : List UInt8) (h0 : (iltB (Int.ofNat len) (Int.ofNat 8)) = true) :
    ∃ h', aCall C01 60 (Tgt.fn 76) [AV.fsl nl len (ofBytes l), AV.int IntKind.i64 (Int.ofNat 8)] H0 = some (AV.tuple [AV.int IntKind.u64 (Int.ofNat 0), AV.bool false], h') ∧ [].map h'.get = [] :=
  call_run (q := (.y :: [])) (c := (Cnd.tst _ true :: [])) (by kernel_rfl) ⟨h0, trivial⟩
theorem rget8B (nl : Bool) (len : Nat) (b0 : UInt8) (b1 : UInt8) (b2 : UInt8) (b3 : UInt8) (b4 : UInt8) (b5 : UInt8) (b6 : UInt8) (b7 : UInt8) (cs : List AV) (h0 : (iltB (Int.ofNat len) (Int.ofNat 8)) = false) (h1 : (Nat.ble 1 len) = true) (h2 : ((AV.int IntKind.u8 (Int.ofNat b0.toNat) :: AV.int IntKind.u8 (Int.ofNat b1.toNat) :: AV.int IntKind.u8 (Int.ofNat b2.toNat) :: AV.int IntKind.u8 (Int.ofNat b3.toNat) :: AV.int IntKind.u8 (Int.ofNat b4.toNat) :: AV.int IntKind.u8 (Int.ofNat b5.toNat) :: AV.int IntKind.u8 (Int.ofNat b6.toNat) :: AV.int IntKind.u8 (Int.ofNat b7.toNat) :: cs).length.beq (len.mul 1)) = true) (h3 : (Nat.ble 2 len) = true) (h4 : (Nat.ble 3 len) = true) (h5 : (Nat.ble 4 len) = true) (h6 : (Nat.ble 5 len) = true) (h7 : (Nat.ble 6 len) = true) (h8 : (Nat.ble 7 len) = true) (h9 : (Nat.ble 8 len) = true) :
    ∃ h', aCall C01 60 (Tgt.fn 76) [AV.fsl nl len (AV.int IntKind.u8 (Int.ofNat b0.toNat) :: AV.int IntKind.u8 (Int.ofNat b1.toNat) :: AV.int IntKind.u8 (Int.ofNat b2.toNat) :: AV.int IntKind.u8 (Int.ofNat b3.toNat) :: AV.int IntKind.u8 (Int.ofNat b4.toNat) :: AV.int IntKind.u8 (Int.ofNat b5.toNat) :: AV.int IntKind.u8 (Int.ofNat b6.toNat) :: AV.int IntKind.u8 (Int.ofNat b7.toNat) :: cs), AV.int IntKind.i64 (Int.ofNat 8)] H0 = some (AV.tuple [AV.int IntKind.u64 (wrapA IntKind.u64 ((wrapA IntKind.u64 ((wrapA IntKind.u64 ((wrapA IntKind.u64 ((wrapA IntKind.u64 ((wrapA IntKind.u64 ((wrapA IntKind.u64 ((wrapA IntKind.u64 ((wrapA IntKind.u64 ((wrapA IntKind.u64 ((wrapA IntKind.u64 ((wrapA IntKind.u64 ((wrapA IntKind.u64 ((wrapA IntKind.u64 ((wrapA IntKind.u64 ((Int.ofNat 0).add (wrapA IntKind.u64 (AV.int IntKind.u8 (Int.ofNat b0.toNat)).intOf))).mul (Int.ofNat 256))).add (wrapA IntKind.u64 (AV.int IntKind.u8 (Int.ofNat b1.toNat)).intOf))).mul (Int.ofNat 256))).add (wrapA IntKind.u64 (AV.int IntKind.u8 (Int.ofNat b2.toNat)).intOf))).mul (Int.ofNat 256))).add (wrapA IntKind.u64 (AV.int IntKind.u8 (Int.ofNat b3.toNat)).intOf))).mul (Int.ofNat 256))).add (wrapA IntKind.u64 (AV.int IntKind.u8 (Int.ofNat b4.toNat)).intOf))).mul (Int.ofNat 256))).add (wrapA IntKind.u64 (AV.int IntKind.u8 (Int.ofNat b5.toNat)).intOf))).mul (Int.ofNat 256))).add (wrapA IntKind.u64 (AV.int IntKind.u8 (Int.ofNat b6.toNat)).intOf))).mul (Int.ofNat 256))).add (wrapA IntKind.u64 (AV.int IntKind.u8 (Int.ofNat b7.toNat)).intOf))), AV.bool true], h') ∧ [].map h'.get = [] :=
  call_run (q := (.z :: (oc 2 (.y :: (.y :: (oc 4 (.y :: (.y :: (oc 4 (.y :: (.y :: (oc 4 (.y :: (.y :: (oc 4 (.y :: (.y :: (oc 4 (.y :: (.y :: (oc 4 (.y :: (.y :: (oc 4 (.y :: (.y :: (oc 3 []))))))))))))))))))))))))))) (c := (Cnd.tst _ false :: Cnd.tst _ true :: Cnd.tst _ true :: Cnd.tst _ true :: Cnd.tst _ true :: Cnd.tst _ true :: Cnd.tst _ true :: Cnd.tst _ true :: Cnd.tst _ true :: Cnd.tst _ true :: Cnd.tst _ true :: Cnd.tst _ true :: Cnd.tst _ true :: Cnd.tst _ true :: Cnd.tst _ true :: Cnd.tst _ true :: Cnd.tst _ true :: [])) (by kernel_rfl) ⟨h0, h1, h2, h3, h2, h4, h2, h5, h2, h6, h2, h7, h2, h8, h2, h9, h2, trivial⟩
theorem rput8 (x : Int) :
    ∃ h', aCall C01 60 (Tgt.fn 49) [AV.int IntKind.u64 x, AV.int IntKind.i64 (Int.ofNat 8)] H0 = some (AV.slice (some (0, 0)) 8 (some 8), h') ∧ [0].map h'.get = [Blk.cells true 5 8 [AV.int IntKind.u8 (wrapA IntKind.u8 ((wrapA IntKind.u64 ((wrapA IntKind.u64 ((wrapA IntKind.u64 ((wrapA IntKind.u64 ((wrapA IntKind.u64 ((wrapA IntKind.u64 ((wrapA IntKind.u64 (x.tdiv (Int.ofNat 256))).tdiv (Int.ofNat 256))).tdiv (Int.ofNat 256))).tdiv (Int.ofNat 256))).tdiv (Int.ofNat 256))).tdiv (Int.ofNat 256))).tdiv (Int.ofNat 256))).tmod (Int.ofNat 256))), AV.int IntKind.u8 (wrapA IntKind.u8 ((wrapA IntKind.u64 ((wrapA IntKind.u64 ((wrapA IntKind.u64 ((wrapA IntKind.u64 ((wrapA IntKind.u64 ((wrapA IntKind.u64 (x.tdiv (Int.ofNat 256))).tdiv (Int.ofNat 256))).tdiv (Int.ofNat 256))).tdiv (Int.ofNat 256))).tdiv (Int.ofNat 256))).tdiv (Int.ofNat 256))).tmod (Int.ofNat 256))), AV.int IntKind.u8 (wrapA IntKind.u8 ((wrapA IntKind.u64 ((wrapA IntKind.u64 ((wrapA IntKind.u64 ((wrapA IntKind.u64 ((wrapA IntKind.u64 (x.tdiv (Int.ofNat 256))).tdiv (Int.ofNat 256))).tdiv (Int.ofNat 256))).tdiv (Int.ofNat 256))).tdiv (Int.ofNat 256))).tmod (Int.ofNat 256))), AV.int IntKind.u8 (wrapA IntKind.u8 ((wrapA IntKind.u64 ((wrapA IntKind.u64 ((wrapA IntKind.u64 ((wrapA IntKind.u64 (x.tdiv (Int.ofNat 256))).tdiv (Int.ofNat 256))).tdiv (Int.ofNat 256))).tdiv (Int.ofNat 256))).tmod (Int.ofNat 256))), AV.int IntKind.u8 (wrapA IntKind.u8 ((wrapA IntKind.u64 ((wrapA IntKind.u64 ((wrapA IntKind.u64 (x.tdiv (Int.ofNat 256))).tdiv (Int.ofNat 256))).tdiv (Int.ofNat 256))).tmod (Int.ofNat 256))), AV.int IntKind.u8 (wrapA IntKind.u8 ((wrapA IntKind.u64 ((wrapA IntKind.u64 (x.tdiv (Int.ofNat 256))).tdiv (Int.ofNat 256))).tmod (Int.ofNat 256))), AV.int IntKind.u8 (wrapA IntKind.u8 ((wrapA IntKind.u64 (x.tdiv (Int.ofNat 256))).tmod (Int.ofNat 256))), AV.int IntKind.u8 (wrapA IntKind.u8 (x.tmod (Int.ofNat 256)))]] :=
  call_run (q := (oc 69 [])) (c := ([])) (by kernel_rfl) trivial
def rgetR : RSum := RSum.pl true fun us => match us with
  | [.fsl nl len cs, .int .i64 (.ofNat w)] => some ([Nat.beq cs.length len, u8L cs, isW w], .tuple [.int .u64 (getI w cs), .bool (Nat.ble w len)])
  | _ => none
theorem rgetR_ok : RSum.Sound Try.prog tys 76 rgetR := by
  refine RSum.sound (cx_goes _ _) all01 (RSum.pl_ok fun us c v hm hc => ?_)
  split at hm
  · rename_i nl len cs w
    injection hm with hm; injection hm with e1 e2; subst e1; subst e2
    simp only [allTrue_cons] at hc
    obtain ⟨c1, c2, c3, _⟩ := hc
    have c1 := eq_of_beq' c1
    obtain ⟨l, rfl⟩ := u8L_iff.1 c2
    rw [ofBytes_length] at c1
    refine ⟨rfl, 60, ?_⟩
    rw [getI_ofBytes]
    by_cases hl : w ≤ l.length
    · rw [if_pos hl, ble_of (by omega)]
      have hil : iltB (Int.ofNat len) (Int.ofNat w) = false := by rw [iltB_eq]; exact decide_eq_false (by show ¬ (len : Int) < ((w : Nat) : Int); omega)
      rcases isW_cases c3 with rfl | rfl | rfl | rfl
      · rcases l with _ | ⟨b0, l⟩
        · simp at hl; try omega
        obtain ⟨h', h, _⟩ := rget1B nl len b0 (ofBytes l) hil (ble_of (by simp only [List.length_cons] at c1; omega)) (beq_of1 (by simp only [List.length_cons, ofBytes_length] at c1 ⊢; omega)) 
        have q0 := b0.toNat_lt;
        refine ⟨h', Eq.trans h ?_⟩
        simp only [AV.intOf]
        rw [add_first b0]
        have hg : getN (List.take 1 (b0 :: l)) = b0.toNat := by simp [getN]
        rw [hg]
      · rcases l with _ | ⟨b0, l⟩
        · simp at hl; try omega
        rcases l with _ | ⟨b1, l⟩
        · simp at hl; try omega
        obtain ⟨h', h, _⟩ := rget2B nl len b0 b1 (ofBytes l) hil (ble_of (by simp only [List.length_cons] at c1; omega)) (beq_of1 (by simp only [List.length_cons, ofBytes_length] at c1 ⊢; omega)) (ble_of (by simp only [List.length_cons] at c1; omega))
        have q0 := b0.toNat_lt; have q1 := b1.toNat_lt;
        refine ⟨h', Eq.trans h ?_⟩
        simp only [AV.intOf]
        rw [add_first b0, add_step (b0.toNat) b1 (by omega)]
        have hg : getN (List.take 2 (b0 :: b1 :: l)) = (b0.toNat * 256 + b1.toNat) := by simp [getN]
        rw [hg]
      · rcases l with _ | ⟨b0, l⟩
        · simp at hl; try omega
        rcases l with _ | ⟨b1, l⟩
        · simp at hl; try omega
        rcases l with _ | ⟨b2, l⟩
        · simp at hl; try omega
        rcases l with _ | ⟨b3, l⟩
        · simp at hl; try omega
        obtain ⟨h', h, _⟩ := rget4B nl len b0 b1 b2 b3 (ofBytes l) hil (ble_of (by simp only [List.length_cons] at c1; omega)) (beq_of1 (by simp only [List.length_cons, ofBytes_length] at c1 ⊢; omega)) (ble_of (by simp only [List.length_cons] at c1; omega)) (ble_of (by simp only [List.length_cons] at c1; omega)) (ble_of (by simp only [List.length_cons] at c1; omega))
        have q0 := b0.toNat_lt; have q1 := b1.toNat_lt; have q2 := b2.toNat_lt; have q3 := b3.toNat_lt;
        refine ⟨h', Eq.trans h ?_⟩
        simp only [AV.intOf]
        rw [add_first b0, add_step (b0.toNat) b1 (by omega), add_step ((b0.toNat * 256 + b1.toNat)) b2 (by omega), add_step (((b0.toNat * 256 + b1.toNat) * 256 + b2.toNat)) b3 (by omega)]
        have hg : getN (List.take 4 (b0 :: b1 :: b2 :: b3 :: l)) = (((b0.toNat * 256 + b1.toNat) * 256 + b2.toNat) * 256 + b3.toNat) := by simp [getN]
        rw [hg]
      · rcases l with _ | ⟨b0, l⟩
        · simp at hl; try omega
        rcases l with _ | ⟨b1, l⟩
        · simp at hl; try omega
        rcases l with _ | ⟨b2, l⟩
        · simp at hl; try omega
        rcases l with _ | ⟨b3, l⟩
        · simp at hl; try omega
        rcases l with _ | ⟨b4, l⟩
        · simp at hl; try omega
        rcases l with _ | ⟨b5, l⟩
        · simp at hl; try omega
        rcases l with _ | ⟨b6, l⟩
        · simp at hl; try omega
        rcases l with _ | ⟨b7, l⟩
        · simp at hl; try omega
        obtain ⟨h', h, _⟩ := rget8B nl len b0 b1 b2 b3 b4 b5 b6 b7 (ofBytes l) hil (ble_of (by simp only [List.length_cons] at c1; omega)) (beq_of1 (by simp only [List.length_cons, ofBytes_length] at c1 ⊢; omega)) (ble_of (by simp only [List.length_cons] at c1; omega)) (ble_of (by simp only [List.length_cons] at c1; omega)) (ble_of (by simp only [List.length_cons] at c1; omega)) (ble_of (by simp only [List.length_cons] at c1; omega)) (ble_of (by simp only [List.length_cons] at c1; omega)) (ble_of (by simp only [List.length_cons] at c1; omega)) (ble_of (by simp only [List.length_cons] at c1; omega))
        have q0 := b0.toNat_lt; have q1 := b1.toNat_lt; have q2 := b2.toNat_lt; have q3 := b3.toNat_lt; have q4 := b4.toNat_lt; have q5 := b5.toNat_lt; have q6 := b6.toNat_lt; have q7 := b7.toNat_lt;
        refine ⟨h', Eq.trans h ?_⟩
        simp only [AV.intOf]
        rw [add_first b0, add_step (b0.toNat) b1 (by omega), add_step ((b0.toNat * 256 + b1.toNat)) b2 (by omega), add_step (((b0.toNat * 256 + b1.toNat) * 256 + b2.toNat)) b3 (by omega), add_step ((((b0.toNat * 256 + b1.toNat) * 256 + b2.toNat) * 256 + b3.toNat)) b4 (by omega), add_step (((((b0.toNat * 256 + b1.toNat) * 256 + b2.toNat) * 256 + b3.toNat) * 256 + b4.toNat)) b5 (by omega), add_step ((((((b0.toNat * 256 + b1.toNat) * 256 + b2.toNat) * 256 + b3.toNat) * 256 + b4.toNat) * 256 + b5.toNat)) b6 (by omega), add_step (((((((b0.toNat * 256 + b1.toNat) * 256 + b2.toNat) * 256 + b3.toNat) * 256 + b4.toNat) * 256 + b5.toNat) * 256 + b6.toNat)) b7 (by omega)]
        have hg : getN (List.take 8 (b0 :: b1 :: b2 :: b3 :: b4 :: b5 :: b6 :: b7 :: l)) = (((((((b0.toNat * 256 + b1.toNat) * 256 + b2.toNat) * 256 + b3.toNat) * 256 + b4.toNat) * 256 + b5.toNat) * 256 + b6.toNat) * 256 + b7.toNat) := by simp [getN]
        rw [hg]
    · rw [if_neg hl]
      have hil : iltB (Int.ofNat len) (Int.ofNat w) = true := by rw [iltB_eq]; exact decide_eq_true (by show (len : Int) < ((w : Nat) : Int); omega)
      have : Nat.ble w len = false := by rw [nble]; exact decide_eq_false (by omega)
      rw [this]
      rcases isW_cases c3 with rfl | rfl | rfl | rfl
      · obtain ⟨h', h, _⟩ := rget1A nl len l hil; exact ⟨h', h⟩
      · obtain ⟨h', h, _⟩ := rget2A nl len l hil; exact ⟨h', h⟩
      · obtain ⟨h', h, _⟩ := rget4A nl len l hil; exact ⟨h', h⟩
      · obtain ⟨h', h, _⟩ := rget8A nl len l hil; exact ⟨h', h⟩
  · cases hm
theorem rcells1 (x : Nat) (hx : x < 18446744073709551616) : [AV.int .u8 (wrapA .u8 ((x : Int).tmod (Int.ofNat 256)))] = ofBytes (putB 1 x) := by
  have h : ofBytes (putB 1 x) = [.int .u8 ((UInt8.ofNat (x / 256 ^ 0)).toNat : Int)] := rfl
  have e0 : (x : Int) = ((x / 256 ^ 0 : Nat) : Int) := by simp

  rw [h, e0]
  try simp only [low_byte]
  try simp only [low_byte]
theorem rcells2 (x : Nat) (hx : x < 18446744073709551616) : [AV.int .u8 (wrapA .u8 ((wrapA .u64 ((x : Int).tdiv (Int.ofNat 256))).tmod (Int.ofNat 256))), AV.int .u8 (wrapA .u8 ((x : Int).tmod (Int.ofNat 256)))] = ofBytes (putB 2 x) := by
  have h : ofBytes (putB 2 x) = [.int .u8 ((UInt8.ofNat (x / 256 ^ 1)).toNat : Int), .int .u8 ((UInt8.ofNat (x / 256 ^ 0)).toNat : Int)] := rfl
  have e0 : (x : Int) = ((x / 256 ^ 0 : Nat) : Int) := by simp
  have d0 : wrapA .u64 (((x / 256 ^ 0 : Nat) : Int).tdiv (Int.ofNat 256)) = ((x / 256 ^ 1 : Nat) : Int) := by rw [div_step _ (by omega), Nat.div_div_eq_div_mul, ← Nat.pow_succ]
  rw [h, e0]
  try simp only [d0]
  try simp only [low_byte]
theorem rcells4 (x : Nat) (hx : x < 18446744073709551616) : [AV.int .u8 (wrapA .u8 ((wrapA .u64 ((wrapA .u64 ((wrapA .u64 ((x : Int).tdiv (Int.ofNat 256))).tdiv (Int.ofNat 256))).tdiv (Int.ofNat 256))).tmod (Int.ofNat 256))), AV.int .u8 (wrapA .u8 ((wrapA .u64 ((wrapA .u64 ((x : Int).tdiv (Int.ofNat 256))).tdiv (Int.ofNat 256))).tmod (Int.ofNat 256))), AV.int .u8 (wrapA .u8 ((wrapA .u64 ((x : Int).tdiv (Int.ofNat 256))).tmod (Int.ofNat 256))), AV.int .u8 (wrapA .u8 ((x : Int).tmod (Int.ofNat 256)))] = ofBytes (putB 4 x) := by
  have h : ofBytes (putB 4 x) = [.int .u8 ((UInt8.ofNat (x / 256 ^ 3)).toNat : Int), .int .u8 ((UInt8.ofNat (x / 256 ^ 2)).toNat : Int), .int .u8 ((UInt8.ofNat (x / 256 ^ 1)).toNat : Int), .int .u8 ((UInt8.ofNat (x / 256 ^ 0)).toNat : Int)] := rfl
  have e0 : (x : Int) = ((x / 256 ^ 0 : Nat) : Int) := by simp
  have d0 : wrapA .u64 (((x / 256 ^ 0 : Nat) : Int).tdiv (Int.ofNat 256)) = ((x / 256 ^ 1 : Nat) : Int) := by rw [div_step _ (by omega), Nat.div_div_eq_div_mul, ← Nat.pow_succ]
  have d1 : wrapA .u64 (((x / 256 ^ 1 : Nat) : Int).tdiv (Int.ofNat 256)) = ((x / 256 ^ 2 : Nat) : Int) := by rw [div_step _ (by omega), Nat.div_div_eq_div_mul, ← Nat.pow_succ]
  have d2 : wrapA .u64 (((x / 256 ^ 2 : Nat) : Int).tdiv (Int.ofNat 256)) = ((x / 256 ^ 3 : Nat) : Int) := by rw [div_step _ (by omega), Nat.div_div_eq_div_mul, ← Nat.pow_succ]
  rw [h, e0]
  try simp only [d0, d1, d2]
  try simp only [low_byte]
theorem rcells8 (x : Nat) (hx : x < 18446744073709551616) : [AV.int .u8 (wrapA .u8 ((wrapA .u64 ((wrapA .u64 ((wrapA .u64 ((wrapA .u64 ((wrapA .u64 ((wrapA .u64 ((wrapA .u64 ((x : Int).tdiv (Int.ofNat 256))).tdiv (Int.ofNat 256))).tdiv (Int.ofNat 256))).tdiv (Int.ofNat 256))).tdiv (Int.ofNat 256))).tdiv (Int.ofNat 256))).tdiv (Int.ofNat 256))).tmod (Int.ofNat 256))), AV.int .u8 (wrapA .u8 ((wrapA .u64 ((wrapA .u64 ((wrapA .u64 ((wrapA .u64 ((wrapA .u64 ((wrapA .u64 ((x : Int).tdiv (Int.ofNat 256))).tdiv (Int.ofNat 256))).tdiv (Int.ofNat 256))).tdiv (Int.ofNat 256))).tdiv (Int.ofNat 256))).tdiv (Int.ofNat 256))).tmod (Int.ofNat 256))), AV.int .u8 (wrapA .u8 ((wrapA .u64 ((wrapA .u64 ((wrapA .u64 ((wrapA .u64 ((wrapA .u64 ((x : Int).tdiv (Int.ofNat 256))).tdiv (Int.ofNat 256))).tdiv (Int.ofNat 256))).tdiv (Int.ofNat 256))).tdiv (Int.ofNat 256))).tmod (Int.ofNat 256))), AV.int .u8 (wrapA .u8 ((wrapA .u64 ((wrapA .u64 ((wrapA .u64 ((wrapA .u64 ((x : Int).tdiv (Int.ofNat 256))).tdiv (Int.ofNat 256))).tdiv (Int.ofNat 256))).tdiv (Int.ofNat 256))).tmod (Int.ofNat 256))), AV.int .u8 (wrapA .u8 ((wrapA .u64 ((wrapA .u64 ((wrapA .u64 ((x : Int).tdiv (Int.ofNat 256))).tdiv (Int.ofNat 256))).tdiv (Int.ofNat 256))).tmod (Int.ofNat 256))), AV.int .u8 (wrapA .u8 ((wrapA .u64 ((wrapA .u64 ((x : Int).tdiv (Int.ofNat 256))).tdiv (Int.ofNat 256))).tmod (Int.ofNat 256))), AV.int .u8 (wrapA .u8 ((wrapA .u64 ((x : Int).tdiv (Int.ofNat 256))).tmod (Int.ofNat 256))), AV.int .u8 (wrapA .u8 ((x : Int).tmod (Int.ofNat 256)))] = ofBytes (putB 8 x) := by
  have h : ofBytes (putB 8 x) = [.int .u8 ((UInt8.ofNat (x / 256 ^ 7)).toNat : Int), .int .u8 ((UInt8.ofNat (x / 256 ^ 6)).toNat : Int), .int .u8 ((UInt8.ofNat (x / 256 ^ 5)).toNat : Int), .int .u8 ((UInt8.ofNat (x / 256 ^ 4)).toNat : Int), .int .u8 ((UInt8.ofNat (x / 256 ^ 3)).toNat : Int), .int .u8 ((UInt8.ofNat (x / 256 ^ 2)).toNat : Int), .int .u8 ((UInt8.ofNat (x / 256 ^ 1)).toNat : Int), .int .u8 ((UInt8.ofNat (x / 256 ^ 0)).toNat : Int)] := rfl
  have e0 : (x : Int) = ((x / 256 ^ 0 : Nat) : Int) := by simp
  have d0 : wrapA .u64 (((x / 256 ^ 0 : Nat) : Int).tdiv (Int.ofNat 256)) = ((x / 256 ^ 1 : Nat) : Int) := by rw [div_step _ (by omega), Nat.div_div_eq_div_mul, ← Nat.pow_succ]
  have d1 : wrapA .u64 (((x / 256 ^ 1 : Nat) : Int).tdiv (Int.ofNat 256)) = ((x / 256 ^ 2 : Nat) : Int) := by rw [div_step _ (by omega), Nat.div_div_eq_div_mul, ← Nat.pow_succ]
  have d2 : wrapA .u64 (((x / 256 ^ 2 : Nat) : Int).tdiv (Int.ofNat 256)) = ((x / 256 ^ 3 : Nat) : Int) := by rw [div_step _ (by omega), Nat.div_div_eq_div_mul, ← Nat.pow_succ]
  have d3 : wrapA .u64 (((x / 256 ^ 3 : Nat) : Int).tdiv (Int.ofNat 256)) = ((x / 256 ^ 4 : Nat) : Int) := by rw [div_step _ (by omega), Nat.div_div_eq_div_mul, ← Nat.pow_succ]
  have d4 : wrapA .u64 (((x / 256 ^ 4 : Nat) : Int).tdiv (Int.ofNat 256)) = ((x / 256 ^ 5 : Nat) : Int) := by rw [div_step _ (by omega), Nat.div_div_eq_div_mul, ← Nat.pow_succ]
  have d5 : wrapA .u64 (((x / 256 ^ 5 : Nat) : Int).tdiv (Int.ofNat 256)) = ((x / 256 ^ 6 : Nat) : Int) := by rw [div_step _ (by omega), Nat.div_div_eq_div_mul, ← Nat.pow_succ]
  have d6 : wrapA .u64 (((x / 256 ^ 6 : Nat) : Int).tdiv (Int.ofNat 256)) = ((x / 256 ^ 7 : Nat) : Int) := by rw [div_step _ (by omega), Nat.div_div_eq_div_mul, ← Nat.pow_succ]
  rw [h, e0]
  try simp only [d0, d1, d2, d3, d4, d5, d6]
  try simp only [low_byte]
def rputR : RSum := RSum.nb true fun us => match us with
  | [.int .u64 x, .int .i64 (.ofNat w)] => some ([isW w, ileB 0 x, iltB x 18446744073709551616], fun n => .slice (some (n, 0)) w (some w), [.cells true 5 w (kept (ofBytes (putB w x.toNat)))])
  | _ => none
theorem rputR_ok : RSum.Sound Try.prog tys 49 rputR := by
  refine RSum.sound (cx_goes _ _) all01 (RSum.nb_ok fun us c v bs hm hc => ?_)
  split at hm
  · rename_i x w
    injection hm with hm; injection hm with e1 hm; injection hm with e2 e3; rw [kept_eq] at e3; subst e1; subst e2; subst e3
    simp only [allTrue_cons] at hc
    obtain ⟨c1, c2, c3, _⟩ := hc
    obtain ⟨x, rfl⟩ := nat_of c2
    have c3 : x < 18446744073709551616 := lt_of c3
    refine ⟨fun b hb => ?_, ?_⟩
    · have : b = .cells true 5 w (ofBytes (putB w x)) := by simpa using hb
      subst this
      simp only [Blk.plainOwn, ofBytes_plain, Bool.and_self]
    · have fin : ∀ (n : Nat) (ρ : Nat → Nat), (∀ (l j : Nat), [0][l]? = some j → ρ j = n + l) → AV.Le ((AV.slice (some (0, 0)) w (some w)).ren ρ) (.slice (some (n, 0)) w (some w)) := by
        intro n ρ hρ
        have := hρ 0 0 rfl
        simp only [AV.ren, Option.map_some, this, Nat.add_zero]
        exact AV.Le.refl _
      rcases isW_cases c1 with rfl | rfl | rfl | rfl
      · obtain ⟨h', h, hb⟩ := rput1 x
        exact ⟨60, h', [0], _, h, by rw [hb, rcells1 x c3]; rfl, sel_one 0, rfl, fin⟩
      · obtain ⟨h', h, hb⟩ := rput2 x
        exact ⟨60, h', [0], _, h, by rw [hb, rcells2 x c3]; rfl, sel_one 0, rfl, fin⟩
      · obtain ⟨h', h, hb⟩ := rput4 x
        exact ⟨60, h', [0], _, h, by rw [hb, rcells4 x c3]; rfl, sel_one 0, rfl, fin⟩
      · obtain ⟨h', h, hb⟩ := rput8 x
        exact ⟨60, h', [0], _, h, by rw [hb, rcells8 x c3]; rfl, sel_one 0, rfl, fin⟩
  · cases hm
abbrev F03c : FTab := [(75, getRu8), (77, getRu16), (79, getRu32), (81, getRu64), (76, rgetR), (49, rputR)] ++ F03b
abbrev C03c := mkCx tys fns F03c []
abbrev S03c := mkS tys F03c []
theorem f03c_ok : ∀ p ∈ F03c, RSum.Sound Try.prog tys p.1 p.2 := by
  intro p h
  rcases List.mem_append.1 h with h | h
  · simp only [List.mem_cons, List.not_mem_nil, or_false] at h
    rcases h with rfl | rfl | rfl | rfl | rfl | rfl
    · exact getRu8_ok
    · exact getRu16_ok
    · exact getRu32_ok
    · exact getRu64_ok
    · exact rgetR_ok
    · exact rputR_ok
  · exact f03b_ok p h
theorem all03c : SumAll Try.prog C03c := sums_all f03c_ok (fun _ h => by cases h)
end Go.Proofs.Ytecncappdnhbaaa
end
end

/- Bytes added bit by bit; are all noughts? The loops. -/
section
set_option autoImplicit false
set_option linter.unusedVariables false
set_option linter.unusedSimpArgs false
set_option maxRecDepth 100000
noncomputable section
namespace Go.Ab
namespace M
def xorB (n : Nat) (a b : List UInt8) : List UInt8 := (List.range n).map fun i => a.getD i 0 ^^^ b.getD i 0
end M
open M
theorem xorB_length (n : Nat) (a b : List UInt8) : (xorB n a b).length = n := by simp [xorB]
theorem at_ofBytes (l : List UInt8) (i : Nat) (h : i < l.length) : (listAt (List.drop ((Int.ofNat i).toNat * 1) (ofBytes l)) 0).getD AV.undef = .int .u8 ((l.getD i 0).toNat : Int) := by
  have e : List.drop ((Int.ofNat i).toNat * 1) (ofBytes l) = ofBytes (l.drop i) := by
    show List.drop (i * 1) (ofBytes l) = _
    rw [Nat.mul_one, ofBytes_drop]
  rw [e, listAt_ofBytes _ 0 (by rw [List.length_drop]; omega)]
  simp [h]
theorem room_ofBytes (l : List UInt8) (i : Nat) (h : i < l.length) : Nat.ble 1 (List.drop ((Int.ofNat i).toNat * 1) (ofBytes l)).length = true := by
  rw [nble]
  refine decide_eq_true ?_
  show 1 ≤ (List.drop (i * 1) (ofBytes l)).length
  rw [List.length_drop, ofBytes_length]; omega
theorem plainL_append {a b : List AV} (h : AV.plainL a = true) (k : AV.plainL b = true) : AV.plainL (a ++ b) = true := by
  induction a with
  | nil => exact k
  | cons v a ih =>
    simp only [AV.plainL, Bool.and_eq_true, List.cons_append] at h ⊢
    exact ⟨h.1, ih h.2⟩
theorem plainL_drop {a : List AV} (h : AV.plainL a = true) (n : Nat) : AV.plainL (a.drop n) = true := by
  induction a generalizing n with
  | nil => simp [AV.plainL]
  | cons v a ih =>
    cases n with
    | zero => exact h
    | succ n =>
      simp only [AV.plainL, Bool.and_eq_true] at h
      exact ih h.2 n
theorem rowSet_mid (a : List AV) (v w : AV) (c : List AV) : rowSet (a ++ v :: c) a.length [w] = a ++ w :: c := by
  induction a with
  | nil => rfl
  | cons x a ih => show x :: rowSet (a ++ v :: c) a.length [w] = _; rw [ih]; rfl
/-- one byte more. -/
theorem rowSet_next (xs : List UInt8) (cs : List AV) (i : Nat) (hx : i < xs.length) (hc : i < cs.length) : rowSet (ofBytes (xs.take i) ++ cs.drop i) i [.int .u8 ((xs.getD i 0).toNat : Int)] = ofBytes (xs.take (i + 1)) ++ cs.drop (i + 1) := by
  have e1 : cs.drop i = cs[i] :: cs.drop (i + 1) := List.drop_eq_getElem_cons hc
  have e2 : xs.take (i + 1) = xs.take i ++ [xs[i]] := by rw [List.take_add_one, List.getElem?_eq_getElem hx]; rfl
  have e3 : xs.getD i 0 = xs[i] := by simp [hx]
  have h := rowSet_mid (ofBytes (xs.take i)) cs[i] (.int .u8 ((xs.getD i 0).toNat : Int)) (cs.drop (i + 1))
  have hl : (ofBytes (xs.take i)).length = i := by rw [ofBytes_length, List.length_take]; omega
  rw [hl] at h
  rw [e1, h, e2, ofBytes_append, e3]
  simp [ofBytes]
end Go.Ab
namespace Go.Proofs.Ytecncappdnhbaaa
open Go.Ab.M Go.Ab Go
abbrev Ce := mkCxH tys fns [] []
abbrev Se := mkSH tys [] []
theorem allHe : SumAll Try.prog Ce := sums_allH (fun _ h => by cases h) (fun _ h => by cases h)
theorem xor_r (a0 : Bool) (l0 : Nat) (cs0 : List AV) (a1 : Bool) (l1 : Nat) (cs1 : List AV) (n : Nat) (i : Nat) (c : Nat) (cs : List AV) (h0 : (iltB (Int.ofNat i) (Int.ofNat n)) = true) (h1 : ((Int.ofNat i).toNat.succ.ble l0) = true) (h2 : (cs0.length.beq (l0.mul 1)) = true) (h3 : (Nat.ble 1 (List.drop ((Int.ofNat i).toNat * 1) cs0).length) = true) (h4 : (AV.isInt IntKind.u8 ((listAt (List.drop ((Int.ofNat i).toNat * 1) cs0) 0).getD AV.undef)) = true) (h5 : ((Int.ofNat i).toNat.succ.ble l1) = true) (h6 : (cs1.length.beq (l1.mul 1)) = true) (h7 : (Nat.ble 1 (List.drop ((Int.ofNat i).toNat * 1) cs1).length) = true) (h8 : (AV.isInt IntKind.u8 ((listAt (List.drop ((Int.ofNat i).toNat * 1) cs1) 0).getD AV.undef)) = true) (h9 : ((Int.ofNat i).toNat.succ.ble n) = true) (h10 : ((0 + (Int.ofNat i).toNat * 1 + 1).ble n) = true) (hb : Blk.plainB (Blk.cells true 5 n (rowSet cs (0 + (Int.ofNat i).toNat * 1) [AV.int IntKind.u8 (xorN IntKind.u8 ((listAt (List.drop ((Int.ofNat i).toNat * 1) cs0) 0).getD AV.undef).intOf ((listAt (List.drop ((Int.ofNat i).toNat * 1) cs1) 0).getD AV.undef).intOf)])) = true) (hu : AV.plainL [AV.fsl a0 l0 cs0, AV.fsl a1 l1 cs1, AV.int IntKind.i64 (Int.ofNat n), AV.int IntKind.i64 (wrapA IntKind.i64 ((Int.ofNat i).add (Int.ofNat 1)))] = true) :
    CodeOK Try.prog (tyCx tys) 32 0 (roundOf (blockOf Try.f31 0)) { fr := frameOf 32 ((5, AV.slice (some (0, 0)) n (some c)) :: [0, 1, 14, 15].zip [AV.fsl a0 l0 cs0, AV.fsl a1 l1 cs1, AV.int IntKind.i64 (Int.ofNat n), AV.int IntKind.i64 (Int.ofNat i)]), ds := [], H := mk1 (some (Blk.cells true 5 n cs)) } (AX.normal) ⟨frameOf 32 ((5, AV.slice (some (0, 0)) (n) (some c)) :: [0, 1, 14, 15].zip [AV.fsl a0 l0 cs0, AV.fsl a1 l1 cs1, AV.int IntKind.i64 (Int.ofNat n), AV.int IntKind.i64 (wrapA IntKind.i64 ((Int.ofNat i).add (Int.ofNat 1)))]), [], mk1 (some (Blk.cells true 5 n (rowSet cs (0 + (Int.ofNat i).toNat * 1) [AV.int IntKind.u8 (xorN IntKind.u8 ((listAt (List.drop ((Int.ofNat i).toNat * 1) cs0) 0).getD AV.undef).intOf ((listAt (List.drop ((Int.ofNat i).toNat * 1) cs1) 0).getD AV.undef).intOf)])))⟩ :=
  own_run (g := 30) (k := 31) (f := 30) (kk := 0) (cx_goes _ _) allHe (q := (.y :: (oc 1 (.y :: (.y :: (.y :: (.y :: (oc 1 (.y :: (.y :: (.y :: (.y :: (oc 1 (.y :: (oc 2 (.y :: (.y :: (.y :: (.y :: (.y :: (oc 1 (.y :: (.y :: (.y :: (.y :: (.y :: (.y :: (.y :: (.y :: (oc 1 (.y :: (.y :: (.y :: (.y :: (.y :: (.y :: (.y :: (oc 1 (.y :: (.y :: [])))))))))))))))))))))))))))))))))))))))) (c := (Cnd.tst _ true :: Cnd.tst _ true :: Cnd.tst _ true :: Cnd.tst _ true :: Cnd.tst _ true :: Cnd.tst _ true :: Cnd.tst _ true :: Cnd.tst _ true :: Cnd.tst _ true :: Cnd.tst _ true :: Cnd.tst _ true :: Cnd.same (AV.slice (some (0, 0)) n (some c)) (AV.slice (some (0, 0)) n (some c)) :: Cnd.same (AV.int IntKind.i64 (Int.ofNat i)) (AV.int IntKind.i64 (Int.ofNat i)) :: Cnd.same (AV.fsl a0 l0 cs0) (AV.fsl a0 l0 cs0) :: Cnd.same (AV.int IntKind.i64 (Int.ofNat i)) (AV.int IntKind.i64 (Int.ofNat i)) :: Cnd.tst _ true :: Cnd.tst _ true :: Cnd.same (AV.fptr (List.drop ((Int.ofNat i).toNat * 1) cs0)) (AV.fptr (List.drop ((Int.ofNat i).toNat * 1) cs0)) :: Cnd.tst _ true :: Cnd.tst _ true :: Cnd.same (AV.int IntKind.u8 ((listAt (List.drop ((Int.ofNat i).toNat * 1) cs0) 0).getD AV.undef).intOf) (AV.int IntKind.u8 ((listAt (List.drop ((Int.ofNat i).toNat * 1) cs0) 0).getD AV.undef).intOf) :: Cnd.same (AV.fsl a1 l1 cs1) (AV.fsl a1 l1 cs1) :: Cnd.same (AV.int IntKind.i64 (Int.ofNat i)) (AV.int IntKind.i64 (Int.ofNat i)) :: Cnd.tst _ true :: Cnd.tst _ true :: Cnd.same (AV.fptr (List.drop ((Int.ofNat i).toNat * 1) cs1)) (AV.fptr (List.drop ((Int.ofNat i).toNat * 1) cs1)) :: Cnd.tst _ true :: Cnd.tst _ true :: Cnd.same (AV.int IntKind.u8 ((listAt (List.drop ((Int.ofNat i).toNat * 1) cs1) 0).getD AV.undef).intOf) (AV.int IntKind.u8 ((listAt (List.drop ((Int.ofNat i).toNat * 1) cs1) 0).getD AV.undef).intOf) :: Cnd.same (AV.int IntKind.u8 (xorN IntKind.u8 ((listAt (List.drop ((Int.ofNat i).toNat * 1) cs0) 0).getD AV.undef).intOf ((listAt (List.drop ((Int.ofNat i).toNat * 1) cs1) 0).getD AV.undef).intOf)) (AV.int IntKind.u8 (xorN IntKind.u8 ((listAt (List.drop ((Int.ofNat i).toNat * 1) cs0) 0).getD AV.undef).intOf ((listAt (List.drop ((Int.ofNat i).toNat * 1) cs1) 0).getD AV.undef).intOf)) :: Cnd.tst _ true :: Cnd.same (AV.ptr (some (0, 0 + (Int.ofNat i).toNat * 1))) (AV.ptr (some (0, 0 + (Int.ofNat i).toNat * 1))) :: [])) (by kernel_rfl) ⟨h0, h1, h2, h3, h4, h5, h6, h7, h8, h9, h10, rfl, rfl, rfl, rfl, h1, h2, rfl, h3, h4, rfl, rfl, rfl, h5, h6, rfl, h7, h8, rfl, rfl, h9, rfl, trivial⟩ (by kernel_rfl) hb hu
theorem xor_e (a0 : Bool) (l0 : Nat) (cs0 : List AV) (a1 : Bool) (l1 : Nat) (cs1 : List AV) (n : Nat) (i : Nat) (c : Nat) (cs : List AV) (h0 : (iltB (Int.ofNat i) (Int.ofNat n)) = false) (hb : Blk.plainB (Blk.cells true 5 n cs) = true) (hu : AV.plainL [AV.fsl a0 l0 cs0, AV.fsl a1 l1 cs1, AV.int IntKind.i64 (Int.ofNat n), AV.int IntKind.i64 (Int.ofNat i)] = true) :
    CodeOK Try.prog (tyCx tys) 32 0 (roundOf (blockOf Try.f31 0)) { fr := frameOf 32 ((5, AV.slice (some (0, 0)) n (some c)) :: [0, 1, 14, 15].zip [AV.fsl a0 l0 cs0, AV.fsl a1 l1 cs1, AV.int IntKind.i64 (Int.ofNat n), AV.int IntKind.i64 (Int.ofNat i)]), ds := [], H := mk1 (some (Blk.cells true 5 n cs)) } (AX.exit 0) ⟨frameOf 32 ((5, AV.slice (some (0, 0)) (n) (some c)) :: [0, 1, 14, 15].zip [AV.fsl a0 l0 cs0, AV.fsl a1 l1 cs1, AV.int IntKind.i64 (Int.ofNat n), AV.int IntKind.i64 (Int.ofNat i)]), [], mk1 (some (Blk.cells true 5 n cs))⟩ :=
  own_run (g := 30) (k := 31) (f := 30) (kk := 0) (cx_goes _ _) allHe (q := (.z :: [])) (c := (Cnd.tst _ false :: [])) (by kernel_rfl) ⟨h0, trivial⟩ (by kernel_rfl) hb hu
theorem idx_next (nl : Bool) (len : Nat) (cs : List AV) (z : Int) (n : Nat) (i : Nat) (h0 : (iltB (Int.ofNat i) (Int.ofNat n)) = true) (h1 : ((Int.ofNat i).toNat.succ.ble len) = true) (h2 : (cs.length.beq (len.mul 1)) = true) (h3 : (Nat.ble 1 (List.drop ((Int.ofNat i).toNat * 1) cs).length) = true) (h4 : (AV.isInt IntKind.u8 ((listAt (List.drop ((Int.ofNat i).toNat * 1) cs) 0).getD AV.undef)) = true) (h5 : (!ieqB ((listAt (List.drop ((Int.ofNat i).toNat * 1) cs) 0).getD AV.undef).intOf (Int.ofNat 0)) = false) (hu0 : AV.plain (AV.int IntKind.i64 (wrapA IntKind.i64 ((Int.ofNat i).add (Int.ofNat 1)))) = true) (hu : AV.plainL [AV.fsl nl len cs, AV.func 83 [] [], AV.int IntKind.i64 z, AV.int IntKind.i64 (Int.ofNat n)] = true) :
    CodeOK Try.prog (tyCx tys) 19 0 (roundOf (blockOf Try.f101 0)) { fr := frameOf 19 ((8, AV.int IntKind.i64 (Int.ofNat i)) :: [0, 1, 4, 7].zip [AV.fsl nl len cs, AV.func 83 [] [], AV.int IntKind.i64 z, AV.int IntKind.i64 (Int.ofNat n)]), ds := [], H := mk1 none } (AX.normal) ⟨frameOf 19 ((8, AV.int IntKind.i64 (wrapA IntKind.i64 ((Int.ofNat i).add (Int.ofNat 1)))) :: [0, 1, 4, 7].zip [AV.fsl nl len cs, AV.func 83 [] [], AV.int IntKind.i64 z, AV.int IntKind.i64 (Int.ofNat n)]), [], mk1 none⟩ :=
  own_run0 (g := 30) (k := 101) (f := 30) (kk := 0) (bb := Blk.dead) (cx_goes _ _) allHe (q := (.y :: (oc 1 (.y :: (.y :: (.y :: (.y :: (.z :: [])))))))) (c := (Cnd.tst _ true :: Cnd.tst _ true :: Cnd.tst _ true :: Cnd.tst _ true :: Cnd.tst _ true :: Cnd.tst _ false :: [])) (by kernel_rfl) ⟨h0, h1, h2, h3, h4, h5, trivial⟩ (by kernel_rfl) hu0 hu
theorem idx_end (nl : Bool) (len : Nat) (cs : List AV) (z : Int) (n : Nat) (i : Nat) (h0 : (iltB (Int.ofNat i) (Int.ofNat n)) = false) (hu0 : AV.plain (AV.int IntKind.i64 (Int.ofNat i)) = true) (hu : AV.plainL [AV.fsl nl len cs, AV.func 83 [] [], AV.int IntKind.i64 z, AV.int IntKind.i64 (Int.ofNat n)] = true) :
    CodeOK Try.prog (tyCx tys) 19 0 (roundOf (blockOf Try.f101 0)) { fr := frameOf 19 ((8, AV.int IntKind.i64 (Int.ofNat i)) :: [0, 1, 4, 7].zip [AV.fsl nl len cs, AV.func 83 [] [], AV.int IntKind.i64 z, AV.int IntKind.i64 (Int.ofNat n)]), ds := [], H := mk1 none } (AX.exit 0) ⟨frameOf 19 ((8, AV.int IntKind.i64 (Int.ofNat i)) :: [0, 1, 4, 7].zip [AV.fsl nl len cs, AV.func 83 [] [], AV.int IntKind.i64 z, AV.int IntKind.i64 (Int.ofNat n)]), [], mk1 none⟩ :=
  own_run0 (g := 30) (k := 101) (f := 30) (kk := 0) (bb := Blk.dead) (cx_goes _ _) allHe (q := (.z :: [])) (c := (Cnd.tst _ false :: [])) (by kernel_rfl) ⟨h0, trivial⟩ (by kernel_rfl) hu0 hu
theorem idx_hit (nl : Bool) (len : Nat) (cs : List AV) (z : Int) (n : Nat) (i : Nat) (h0 : (iltB (Int.ofNat i) (Int.ofNat n)) = true) (h1 : ((Int.ofNat i).toNat.succ.ble len) = true) (h2 : (cs.length.beq (len.mul 1)) = true) (h3 : (Nat.ble 1 (List.drop ((Int.ofNat i).toNat * 1) cs).length) = true) (h4 : (AV.isInt IntKind.u8 ((listAt (List.drop ((Int.ofNat i).toNat * 1) cs) 0).getD AV.undef)) = true) (h5 : (!ieqB ((listAt (List.drop ((Int.ofNat i).toNat * 1) cs) 0).getD AV.undef).intOf (Int.ofNat 0)) = true) (hu0 : AV.plain (AV.int IntKind.i64 (Int.ofNat i)) = true) (hu : AV.plainL [AV.fsl nl len cs, AV.func 83 [] [], AV.int IntKind.i64 (Int.ofNat i), AV.int IntKind.i64 (Int.ofNat n)] = true) :
    CodeOK Try.prog (tyCx tys) 19 0 (roundOf (blockOf Try.f101 0)) { fr := frameOf 19 ((8, AV.int IntKind.i64 (Int.ofNat i)) :: [0, 1, 4, 7].zip [AV.fsl nl len cs, AV.func 83 [] [], AV.int IntKind.i64 z, AV.int IntKind.i64 (Int.ofNat n)]), ds := [], H := mk1 none } (AX.ret) ⟨frameOf 19 ((8, AV.int IntKind.i64 (Int.ofNat i)) :: [0, 1, 4, 7].zip [AV.fsl nl len cs, AV.func 83 [] [], AV.int IntKind.i64 (Int.ofNat i), AV.int IntKind.i64 (Int.ofNat n)]), [], mk1 none⟩ :=
  own_run0 (g := 30) (k := 101) (f := 30) (kk := 0) (bb := Blk.dead) (cx_goes _ _) allHe (q := (.y :: (oc 1 (.y :: (.y :: (.y :: (.y :: (.y :: [])))))))) (c := (Cnd.tst _ true :: Cnd.tst _ true :: Cnd.tst _ true :: Cnd.tst _ true :: Cnd.tst _ true :: Cnd.tst _ true :: [])) (by kernel_rfl) ⟨h0, h1, h2, h3, h4, h5, trivial⟩ (by kernel_rfl) hu0 hu
structure XorS where
  a0 : Bool
  l : List UInt8
  a1 : Bool
  m : List UInt8
  n : Nat
  c : Nat
  cs : List AV
  i : Nat
def XorS.enc (p : XorS) : HSt := (.slice (some (0, 0)) p.n (some p.c), some (.cells true 5 p.n (ofBytes ((xorB p.n p.l p.m).take p.i) ++ p.cs.drop p.i)), [.fsl p.a0 p.l.length (ofBytes p.l), .fsl p.a1 p.m.length (ofBytes p.m), .int .i64 (.ofNat p.n), .int .i64 (.ofNat p.i)])
def XorS.fin (p : XorS) : AX × HSt := (.exit 0, .slice (some (0, 0)) p.n (some p.c), some (.cells true 5 p.n (ofBytes (xorB p.n p.l p.m))), [.fsl p.a0 p.l.length (ofBytes p.l), .fsl p.a1 p.m.length (ofBytes p.m), .int .i64 (.ofNat p.n), .int .i64 (.ofNat p.n)])
def XorS.ok (p : XorS) : Prop := p.n ≤ p.l.length ∧ p.n ≤ p.m.length ∧ p.cs.length = p.n ∧ AV.plainL p.cs = true ∧ p.i ≤ p.n ∧ p.n ≤ 1000000000000
def xorL : HLoop := ⟨32, blockOf Try.f31 0, 5, [0, 1, 14, 15], fun v ob us => match v, ob, us with
  | .slice (some (0, 0)) n (some c), some (.cells true 5 nc cs), [.fsl a0 l0 cs0, .fsl a1 l1 cs1, .int .i64 (.ofNat n'), .int .i64 (.ofNat 0)] =>
    some ([Nat.beq n' n, Nat.beq nc n, Nat.beq cs.length n, u8L cs0, u8L cs1, Nat.beq cs0.length l0, Nat.beq cs1.length l1, Nat.ble n l0, Nat.ble n l1, Nat.ble n 1000000000000], .normal, .slice (some (0, 0)) n (some c), some (.cells true 5 n (kept (ofBytes (xorB n (bytesL cs0) (bytesL cs1))))), [.fsl a0 l0 cs0, .fsl a1 l1 cs1, .int .i64 (.ofNat n), .int .i64 (.ofNat n)])
  | _, _, _ => none⟩
theorem plain_fsls {a0 a1 : Bool} {l m : List UInt8} {x y : Int} : AV.plainL [.fsl a0 l.length (ofBytes l), .fsl a1 m.length (ofBytes m), .int .i64 x, .int .i64 y] = true := by
  simp [AV.plainL, AV.plain, ofBytes_plainL]
theorem xorL_ok : xorL.OK Try.prog (tyCx tys) 0 := by
  refine HLoop.ok_by (b := roundOf (blockOf Try.f31 0)) (by kernel_rfl) XorS.enc XorS.fin XorS.ok (fun p => p.n - p.i) ?_ ?_
  · intro v ob us conds X v' ob' us' h hc hpl hin
    simp only [xorL] at h
    split at h
    · rename_i n c nc cs a0 l0 cs0 a1 l1 cs1 n'
      injection h with h; injection h with e1 h; injection h with e2 h; injection h with e3 h; injection h with e4 e5
      rw [kept_eq] at e4
      subst e1; subst e2; subst e3; subst e4; subst e5
      simp only [allTrue_cons] at hc
      obtain ⟨c1, c2, c3, c4, c5, c6, c7, c8, c9, c10, _⟩ := hc
      have c1 := eq_of_beq' c1
      have c2 := eq_of_beq' c2
      have c3 := eq_of_beq' c3
      obtain ⟨l, rfl⟩ := u8L_iff.1 c4
      obtain ⟨m, rfl⟩ := u8L_iff.1 c5
      have c6 := eq_of_beq' c6
      have c7 := eq_of_beq' c7
      rw [ofBytes_length] at c6 c7
      subst c1; subst c2; subst c6; subst c7
      have hcp : AV.plainL cs = true := by
        have := hin.1
        simpa [Blk.plainB] using this
      refine ⟨⟨a0, l, a1, m, _, c, cs, 0⟩, ⟨Nat.le_of_ble_eq_true c8, Nat.le_of_ble_eq_true c9, c3, hcp, Nat.zero_le _, Nat.le_of_ble_eq_true c10⟩, ?_, rfl, ?_, plain_fsls, ?_⟩
      · simp [XorS.enc, ofBytes]
      · simp only [XorS.fin, bytesL_ofBytes]
      · exact ⟨by simp [Blk.plainB, ofBytes_plainL], rfl⟩
    · cases h
  · rintro ⟨a0, l, a1, m, n, c, cs, i⟩ ⟨h1, h2, h3, h4, h5, h6⟩
    simp only at h1 h2 h3 h4 h5 h6
    by_cases hi : i < n
    · left
      refine ⟨⟨a0, l, a1, m, n, c, cs, i + 1⟩, ⟨h1, h2, h3, h4, hi, h6⟩, rfl, by simp only; omega, ?_⟩
      have e : rowSet (ofBytes ((xorB n l m).take i) ++ cs.drop i) (0 + (Int.ofNat i).toNat * 1) [AV.int IntKind.u8 (xorN IntKind.u8 ((listAt (List.drop ((Int.ofNat i).toNat * 1) (ofBytes l)) 0).getD AV.undef).intOf ((listAt (List.drop ((Int.ofNat i).toNat * 1) (ofBytes m)) 0).getD AV.undef).intOf)] = ofBytes ((xorB n l m).take (i + 1)) ++ cs.drop (i + 1) := by
        rw [at_ofBytes l i (by omega), at_ofBytes m i (by omega)]
        simp only [AV.intOf]
        have b1 := (l.getD i 0).toNat_lt
        have b2 := (m.getD i 0).toNat_lt
        rw [xorN_nat .u8 _ _ b1 b2, ← UInt8.toNat_xor]
        have e0 : (0 + (Int.ofNat i).toNat * 1) = i := by show 0 + i * 1 = i; omega
        have e1 : l.getD i 0 ^^^ m.getD i 0 = (xorB n l m).getD i 0 := by simp [xorB, hi]
        rw [e0, e1]
        exact rowSet_next _ _ _ (by rw [xorB_length]; exact hi) (by omega)
      have ew : wrapA IntKind.i64 ((Int.ofNat i).add (Int.ofNat 1)) = Int.ofNat (i + 1) := i64_add i 1 (by omega)
      have hp : AV.plainL (ofBytes ((xorB n l m).take (i + 1)) ++ cs.drop (i + 1)) = true := plainL_append (ofBytes_plainL _) (plainL_drop h4 _)
      have h := xor_r a0 l.length (ofBytes l) a1 m.length (ofBytes m) n i c (ofBytes ((xorB n l m).take i) ++ cs.drop i) (by rw [iltB_eq]; exact decide_eq_true (by show (i : Int) < (n : Int); omega)) (ble_of (by show i + 1 ≤ _; omega)) (beq_of1 (ofBytes_length l)) (room_ofBytes l i (by omega)) (by rw [at_ofBytes l i (by omega)]; rfl) (ble_of (by show i + 1 ≤ _; omega)) (beq_of1 (ofBytes_length m)) (room_ofBytes m i (by omega)) (by rw [at_ofBytes m i (by omega)]; rfl) (ble_of (by show i + 1 ≤ _; omega)) (ble_of (by show 0 + i * 1 + 1 ≤ _; omega)) (by rw [e]; simp [Blk.plainB, hp]) (by rw [ew]; exact plain_fsls)
      rw [e, ew] at h
      exact h
    · have hi : i = n := by omega
      subst hi
      right
      refine ⟨by simp [XorS.fin], ?_⟩
      have e : ofBytes ((xorB i l m).take i) ++ cs.drop i = ofBytes (xorB i l m) := by
        rw [List.take_of_length_le (by rw [xorB_length]; exact Nat.le_refl _), List.drop_eq_nil_of_le (by omega), List.append_nil]
      have h := xor_e a0 l.length (ofBytes l) a1 m.length (ofBytes m) i i c (ofBytes ((xorB i l m).take i) ++ cs.drop i) (by rw [iltB_eq]; exact decide_eq_false (by show ¬ (i : Int) < (i : Int); omega)) (by rw [e]; simp [Blk.plainB, ofBytes_plainL]) plain_fsls
      rw [e] at h
      show CodeOK Try.prog (tyCx tys) 32 0 _ ⟨frameOf 32 ((5, AV.slice (some (0, 0)) i (some c)) :: [0, 1, 14, 15].zip [AV.fsl a0 l.length (ofBytes l), AV.fsl a1 m.length (ofBytes m), AV.int IntKind.i64 (Int.ofNat i), AV.int IntKind.i64 (Int.ofNat i)]), [], mk1 (some (Blk.cells true 5 i (ofBytes ((xorB i l m).take i) ++ cs.drop i)))⟩ _ _
      rw [e]
      exact h
end Go.Proofs.Ytecncappdnhbaaa
end
end

/- Are all noughts? and the law's own loop. -/
section
set_option autoImplicit false
set_option linter.unusedVariables false
set_option linter.unusedSimpArgs false
set_option maxRecDepth 100000
noncomputable section
namespace Go.Ab
namespace M
def zeroL (cs : List AV) : Bool := kept ((bytesL cs).all fun b => b == 0)
def firstNZ (cs : List AV) : Nat := kept ((bytesL cs).findIdx fun b => b != 0)
def eqXor (n : Nat) (cs a b : List AV) : Bool := kept (bytesEq (bytesL cs) (xorB n (bytesL a) (bytesL b)))
end M
open M
theorem low_bit (n k : Nat) : (n >>> k) &&& 1 = (n.testBit k).toNat := by
  have h : n.testBit k = (1 &&& (n >>> k) != 0) := rfl
  rw [h, Nat.and_comm, Nat.and_comm 1, Nat.and_one_is_mod]
  have : (n >>> k) % 2 = 0 ∨ (n >>> k) % 2 = 1 := by omega
  rcases this with e | e <;> rw [e] <;> rfl
theorem bit_of (a : UInt8) (k : Nat) : andN .u8 (shrN (a.toNat : Int) k) (Int.ofNat 1) = (((a.toNat.testBit k).toNat : Nat) : Int) := by
  have ha := a.toNat_lt
  have e : shrN (a.toNat : Int) k = ((a.toNat >>> k : Nat) : Int) := by
    rw [Nat.shiftRight_eq_div_pow]; rfl
  have hlt : a.toNat >>> k < 256 := Nat.lt_of_le_of_lt (Nat.shiftRight_le _ _) ha
  rw [e]
  have h := andN_nat .u8 (a.toNat >>> k) 1 hlt (by decide)
  have h2 : ((1 : Nat) : Int) = Int.ofNat 1 := rfl
  rw [h2] at h
  rw [h, low_bit]
theorem bit_ok (a b : UInt8) (k : Nat) : (!ieqB (andN IntKind.u8 (shrN ((a ^^^ b).toNat : Int) k) (Int.ofNat 1)) (Int.ofNat 1) == !ieqB (andN IntKind.u8 (shrN (a.toNat : Int) k) (Int.ofNat 1)) (andN IntKind.u8 (shrN (b.toNat : Int) k) (Int.ofNat 1))) = false := by
  rw [bit_of, bit_of, bit_of, UInt8.toNat_xor, Nat.testBit_xor]
  cases a.toNat.testBit k <;> cases b.toNat.testBit k <;> rfl
end Go.Ab
namespace Go.Proofs.Ytecncappdnhbaaa
open Go.Ab.M Go.Ab Go
theorem plain_idx {nl : Bool} {l : List UInt8} {x y : Int} : AV.plainL [.fsl nl l.length (ofBytes l), .func 83 [] [], .int .i64 x, .int .i64 y] = true := by
  simp [AV.plainL, AV.plain, ofBytes_plainL]
structure IdxS where
  nl : Bool
  l : List UInt8
  z : Int
  i : Nat
def IdxS.enc (p : IdxS) : HSt := (.int .i64 (.ofNat p.i), none, [.fsl p.nl p.l.length (ofBytes p.l), .func 83 [] [], .int .i64 p.z, .int .i64 (.ofNat p.l.length)])
def IdxS.finZ (p : IdxS) : AX × HSt := (.exit 0, .int .i64 (.ofNat p.l.length), none, [.fsl p.nl p.l.length (ofBytes p.l), .func 83 [] [], .int .i64 p.z, .int .i64 (.ofNat p.l.length)])
def IdxS.finN (p : IdxS) : AX × HSt := (.ret, .int .i64 (.ofNat (p.l.findIdx fun b => b != 0)), none, [.fsl p.nl p.l.length (ofBytes p.l), .func 83 [] [], .int .i64 (.ofNat (p.l.findIdx fun b => b != 0)), .int .i64 (.ofNat p.l.length)])
theorem idx_go (nl : Bool) (l : List UInt8) (z : Int) (i : Nat) (hi : i < l.length) (hb : l.length ≤ 1000000000000) (h0 : l.getD i 0 = 0) : CodeOK Try.prog (tyCx tys) 19 0 (roundOf (blockOf Try.f101 0)) { fr := frameOf 19 ((8, AV.int IntKind.i64 (Int.ofNat i)) :: [0, 1, 4, 7].zip [.fsl nl l.length (ofBytes l), AV.func 83 [] [], AV.int IntKind.i64 z, AV.int IntKind.i64 (Int.ofNat l.length)]), ds := [], H := mk1 none } AX.normal { fr := frameOf 19 ((8, AV.int IntKind.i64 (Int.ofNat (i + 1))) :: [0, 1, 4, 7].zip [.fsl nl l.length (ofBytes l), AV.func 83 [] [], AV.int IntKind.i64 z, AV.int IntKind.i64 (Int.ofNat l.length)]), ds := [], H := mk1 none } := by
  have ew : wrapA IntKind.i64 ((Int.ofNat i).add (Int.ofNat 1)) = Int.ofNat (i + 1) := i64_add i 1 (by omega)
  have h := idx_next nl l.length (ofBytes l) z l.length i (by rw [iltB_eq]; exact decide_eq_true (by show (i : Int) < (l.length : Int); omega)) (ble_of (by show i + 1 ≤ _; omega)) (beq_of1 (ofBytes_length l)) (room_ofBytes l i hi) (by rw [at_ofBytes l i hi]; rfl) (by rw [at_ofBytes l i hi, h0]; rfl) rfl plain_idx
  rw [ew] at h
  exact h
def idxZ : HLoop := ⟨19, blockOf Try.f101 0, 8, [0, 1, 4, 7], fun v ob us => match v, ob, us with
  | .int .i64 (.ofNat 0), none, [.fsl nl len cs, .func 83 [] [], .int .i64 z, .int .i64 (.ofNat n)] =>
    some ([u8L cs, Nat.beq cs.length len, Nat.beq n len, zeroL cs, Nat.ble len 1000000000000], .normal, .int .i64 (.ofNat n), none, [.fsl nl len cs, .func 83 [] [], .int .i64 z, .int .i64 (.ofNat n)])
  | _, _, _ => none⟩
theorem idxZ_ok : idxZ.OK Try.prog (tyCx tys) 0 := by
  refine HLoop.ok_by (b := roundOf (blockOf Try.f101 0)) (by kernel_rfl) IdxS.enc IdxS.finZ (fun p => p.i ≤ p.l.length ∧ p.l.length ≤ 1000000000000 ∧ ∀ i, i < p.l.length → p.l.getD i 0 = 0) (fun p => p.l.length - p.i) ?_ ?_
  · intro v ob us conds X v' ob' us' h hc hpl hin
    simp only [idxZ] at h
    split at h
    · rename_i nl len cs z n
      injection h with h; injection h with e1 h; injection h with e2 h; injection h with e3 h; injection h with e4 e5
      subst e1; subst e2; subst e3; subst e4; subst e5
      simp only [allTrue_cons] at hc
      obtain ⟨c1, c2, c3, c4, c5, _⟩ := hc
      obtain ⟨l, rfl⟩ := u8L_iff.1 c1
      have c2 := eq_of_beq' c2
      have c3 := eq_of_beq' c3
      rw [ofBytes_length] at c2
      subst c2; subst c3
      refine ⟨⟨nl, l, z, 0⟩, ⟨Nat.zero_le _, Nat.le_of_ble_eq_true c5, ?_⟩, rfl, rfl, rfl, plain_idx, rfl⟩
      intro i hi
      unfold zeroL at c4
      rw [kept_eq, bytesL_ofBytes, List.all_eq_true] at c4
      have := c4 l[i] (List.getElem_mem hi)
      simpa [hi] using this
    · cases h
  · rintro ⟨nl, l, z, i⟩ ⟨h1, h2, h3⟩
    simp only at h1 h2 h3
    by_cases hi : i < l.length
    · left
      exact ⟨⟨nl, l, z, i + 1⟩, ⟨hi, h2, h3⟩, rfl, by simp only; omega, idx_go nl l z i hi h2 (h3 i hi)⟩
    · have hi : i = l.length := by omega
      subst hi
      right
      exact ⟨by simp [IdxS.finZ], idx_end nl l.length (ofBytes l) z l.length l.length (by rw [iltB_eq]; exact decide_eq_false (by show ¬ (l.length : Int) < (l.length : Int); omega)) rfl plain_idx⟩
def idxN : HLoop := ⟨19, blockOf Try.f101 0, 8, [0, 1, 4, 7], fun v ob us => match v, ob, us with
  | .int .i64 (.ofNat 0), none, [.fsl nl len cs, .func 83 [] [], .int .i64 z, .int .i64 (.ofNat n)] =>
    some ([u8L cs, Nat.beq cs.length len, Nat.beq n len, !zeroL cs, Nat.ble len 1000000000000], .ret, .int .i64 (.ofNat (firstNZ cs)), none, [.fsl nl len cs, .func 83 [] [], .int .i64 (.ofNat (firstNZ cs)), .int .i64 (.ofNat n)])
  | _, _, _ => none⟩
theorem idxN_ok : idxN.OK Try.prog (tyCx tys) 0 := by
  refine HLoop.ok_by (b := roundOf (blockOf Try.f101 0)) (by kernel_rfl) IdxS.enc IdxS.finN (fun p => p.i ≤ (p.l.findIdx fun b => b != 0) ∧ p.l.length ≤ 1000000000000 ∧ (p.l.findIdx fun b => b != 0) < p.l.length) (fun p => p.l.length - p.i) ?_ ?_
  · intro v ob us conds X v' ob' us' h hc hpl hin
    simp only [idxN] at h
    split at h
    · rename_i nl len cs z n
      injection h with h; injection h with e1 h; injection h with e2 h; injection h with e3 h; injection h with e4 e5
      unfold firstNZ at e3 e5
      rw [kept_eq] at e3 e5
      subst e1; subst e2; subst e3; subst e4; subst e5
      simp only [allTrue_cons] at hc
      obtain ⟨c1, c2, c3, c4, c5, _⟩ := hc
      obtain ⟨l, rfl⟩ := u8L_iff.1 c1
      have c2 := eq_of_beq' c2
      have c3 := eq_of_beq' c3
      rw [ofBytes_length] at c2
      subst c2; subst c3
      rw [bytesL_ofBytes]
      refine ⟨⟨nl, l, z, 0⟩, ⟨Nat.zero_le _, Nat.le_of_ble_eq_true c5, ?_⟩, rfl, rfl, rfl, plain_idx, rfl⟩
      unfold zeroL at c4
      rw [kept_eq, bytesL_ofBytes] at c4
      simp only
      rw [List.findIdx_lt_length]
      simp only [Bool.not_eq_true', List.all_eq_false] at c4
      obtain ⟨b, hb, hn⟩ := c4
      exact ⟨b, hb, by simpa using hn⟩
    · cases h
  · rintro ⟨nl, l, z, i⟩ ⟨h1, h2, h3⟩
    simp only at h1 h2 h3
    by_cases hi : i < l.findIdx fun b => b != 0
    · left
      refine ⟨⟨nl, l, z, i + 1⟩, ⟨hi, h2, h3⟩, rfl, by simp only; omega, idx_go nl l z i (by omega) h2 ?_⟩
      have := List.not_of_lt_findIdx hi
      simpa [show i < l.length by omega] using this
    · right
      have hi : i = l.findIdx fun b => b != 0 := by omega
      refine ⟨by simp [IdxS.finN], ?_⟩
      have hlt : i < l.length := by omega
      have hne : l.getD i 0 ≠ 0 := by
        have := List.findIdx_getElem (w := h3)
        simpa [← hi, hlt] using this
      have h := idx_hit nl l.length (ofBytes l) z l.length i (by rw [iltB_eq]; exact decide_eq_true (by show (i : Int) < (l.length : Int); omega)) (ble_of (by show i + 1 ≤ _; omega)) (beq_of1 (ofBytes_length l)) (room_ofBytes l i hlt) (by rw [at_ofBytes l i hlt]; rfl) (by
        rw [at_ofBytes l i hlt]
        simp only [AV.intOf]
        rw [ieqB_eq]
        have : ¬ ((l.getD i 0).toNat : Int) = Int.ofNat 0 := by
          intro e
          apply hne
          have : (l.getD i 0).toNat = 0 := by
            have e : ((l.getD i 0).toNat : Int) = ((0 : Nat) : Int) := e
            omega
          exact UInt8.toNat_inj.1 this
        simpa using this) rfl plain_idx
      have e : IdxS.finN ⟨nl, l, z, i⟩ = (.ret, .int .i64 (.ofNat i), none, [.fsl nl l.length (ofBytes l), .func 83 [] [], .int .i64 (.ofNat i), .int .i64 (.ofNat l.length)]) := by
        simp only [IdxS.finN, ← hi]
      rw [e]
      exact h
theorem law_r (a0 : Bool) (l0 : Nat) (cs0 : List AV) (a1 : Bool) (l1 : Nat) (cs1 : List AV) (z : Int) (n : Nat) (i : Nat) (c : Nat) (cs : List AV) (h0 : (iltB (Int.ofNat i) (Int.ofNat n)) = true) (h1 : ((Int.ofNat i).toNat.succ.ble n) = true) (h2 : ((0 + (Int.ofNat i).toNat * 1).succ.ble n) = true) (h3 : ((0 + (Int.ofNat i).toNat * 1).succ.ble cs.length) = true) (h4 : (AV.isInt IntKind.u8 ((listAt cs (0 + (Int.ofNat i).toNat * 1)).getD AV.undef)) = true) (h5 : ((Int.ofNat i).toNat.succ.ble l0) = true) (h6 : (cs0.length.beq (l0.mul 1)) = true) (h7 : (Nat.ble 1 (List.drop ((Int.ofNat i).toNat * 1) cs0).length) = true) (h8 : (AV.isInt IntKind.u8 ((listAt (List.drop ((Int.ofNat i).toNat * 1) cs0) 0).getD AV.undef)) = true) (h9 : ((Int.ofNat i).toNat.succ.ble l1) = true) (h10 : (cs1.length.beq (l1.mul 1)) = true) (h11 : (Nat.ble 1 (List.drop ((Int.ofNat i).toNat * 1) cs1).length) = true) (h12 : (AV.isInt IntKind.u8 ((listAt (List.drop ((Int.ofNat i).toNat * 1) cs1) 0).getD AV.undef)) = true) (h13 : (!ieqB (andN IntKind.u8 (shrN ((listAt cs (0 + (Int.ofNat i).toNat * 1)).getD AV.undef).intOf 0) (Int.ofNat 1)) (Int.ofNat 1) == !ieqB (andN IntKind.u8 (shrN ((listAt (List.drop ((Int.ofNat i).toNat * 1) cs0) 0).getD AV.undef).intOf 0) (Int.ofNat 1)) (andN IntKind.u8 (shrN ((listAt (List.drop ((Int.ofNat i).toNat * 1) cs1) 0).getD AV.undef).intOf 0) (Int.ofNat 1))) = false) (h14 : (!ieqB (andN IntKind.u8 (shrN ((listAt cs (0 + (Int.ofNat i).toNat * 1)).getD AV.undef).intOf 1) (Int.ofNat 1)) (Int.ofNat 1) == !ieqB (andN IntKind.u8 (shrN ((listAt (List.drop ((Int.ofNat i).toNat * 1) cs0) 0).getD AV.undef).intOf 1) (Int.ofNat 1)) (andN IntKind.u8 (shrN ((listAt (List.drop ((Int.ofNat i).toNat * 1) cs1) 0).getD AV.undef).intOf 1) (Int.ofNat 1))) = false) (h15 : (!ieqB (andN IntKind.u8 (shrN ((listAt cs (0 + (Int.ofNat i).toNat * 1)).getD AV.undef).intOf 2) (Int.ofNat 1)) (Int.ofNat 1) == !ieqB (andN IntKind.u8 (shrN ((listAt (List.drop ((Int.ofNat i).toNat * 1) cs0) 0).getD AV.undef).intOf 2) (Int.ofNat 1)) (andN IntKind.u8 (shrN ((listAt (List.drop ((Int.ofNat i).toNat * 1) cs1) 0).getD AV.undef).intOf 2) (Int.ofNat 1))) = false) (h16 : (!ieqB (andN IntKind.u8 (shrN ((listAt cs (0 + (Int.ofNat i).toNat * 1)).getD AV.undef).intOf 3) (Int.ofNat 1)) (Int.ofNat 1) == !ieqB (andN IntKind.u8 (shrN ((listAt (List.drop ((Int.ofNat i).toNat * 1) cs0) 0).getD AV.undef).intOf 3) (Int.ofNat 1)) (andN IntKind.u8 (shrN ((listAt (List.drop ((Int.ofNat i).toNat * 1) cs1) 0).getD AV.undef).intOf 3) (Int.ofNat 1))) = false) (h17 : (!ieqB (andN IntKind.u8 (shrN ((listAt cs (0 + (Int.ofNat i).toNat * 1)).getD AV.undef).intOf 4) (Int.ofNat 1)) (Int.ofNat 1) == !ieqB (andN IntKind.u8 (shrN ((listAt (List.drop ((Int.ofNat i).toNat * 1) cs0) 0).getD AV.undef).intOf 4) (Int.ofNat 1)) (andN IntKind.u8 (shrN ((listAt (List.drop ((Int.ofNat i).toNat * 1) cs1) 0).getD AV.undef).intOf 4) (Int.ofNat 1))) = false) (h18 : (!ieqB (andN IntKind.u8 (shrN ((listAt cs (0 + (Int.ofNat i).toNat * 1)).getD AV.undef).intOf 5) (Int.ofNat 1)) (Int.ofNat 1) == !ieqB (andN IntKind.u8 (shrN ((listAt (List.drop ((Int.ofNat i).toNat * 1) cs0) 0).getD AV.undef).intOf 5) (Int.ofNat 1)) (andN IntKind.u8 (shrN ((listAt (List.drop ((Int.ofNat i).toNat * 1) cs1) 0).getD AV.undef).intOf 5) (Int.ofNat 1))) = false) (h19 : (!ieqB (andN IntKind.u8 (shrN ((listAt cs (0 + (Int.ofNat i).toNat * 1)).getD AV.undef).intOf 6) (Int.ofNat 1)) (Int.ofNat 1) == !ieqB (andN IntKind.u8 (shrN ((listAt (List.drop ((Int.ofNat i).toNat * 1) cs0) 0).getD AV.undef).intOf 6) (Int.ofNat 1)) (andN IntKind.u8 (shrN ((listAt (List.drop ((Int.ofNat i).toNat * 1) cs1) 0).getD AV.undef).intOf 6) (Int.ofNat 1))) = false) (h20 : (!ieqB (andN IntKind.u8 (shrN ((listAt cs (0 + (Int.ofNat i).toNat * 1)).getD AV.undef).intOf 7) (Int.ofNat 1)) (Int.ofNat 1) == !ieqB (andN IntKind.u8 (shrN ((listAt (List.drop ((Int.ofNat i).toNat * 1) cs0) 0).getD AV.undef).intOf 7) (Int.ofNat 1)) (andN IntKind.u8 (shrN ((listAt (List.drop ((Int.ofNat i).toNat * 1) cs1) 0).getD AV.undef).intOf 7) (Int.ofNat 1))) = false) (hb : Blk.plainB (Blk.cells true 5 n cs) = true) (hu : AV.plainL [AV.fsl a0 l0 cs0, AV.fsl a1 l1 cs1, AV.int IntKind.i64 z, AV.int IntKind.i64 (Int.ofNat n), AV.int IntKind.i64 (wrapA IntKind.i64 ((Int.ofNat i).add (Int.ofNat 1)))] = true) :
    CodeOK Try.prog (tyCx tys) 94 0 (roundOf (blockOf Try.f7 0)) { fr := frameOf 94 ((6, AV.slice (some (0, 0)) n (some c)) :: [0, 1, 5, 46, 47].zip [AV.fsl a0 l0 cs0, AV.fsl a1 l1 cs1, AV.int IntKind.i64 z, AV.int IntKind.i64 (Int.ofNat n), AV.int IntKind.i64 (Int.ofNat i)]), ds := [], H := mk1 (some (Blk.cells true 5 n cs)) } (AX.normal) ⟨frameOf 94 ((6, AV.slice (some (0, 0)) (n) (some c)) :: [0, 1, 5, 46, 47].zip [AV.fsl a0 l0 cs0, AV.fsl a1 l1 cs1, AV.int IntKind.i64 z, AV.int IntKind.i64 (Int.ofNat n), AV.int IntKind.i64 (wrapA IntKind.i64 ((Int.ofNat i).add (Int.ofNat 1)))]), [], mk1 (some (Blk.cells true 5 n cs))⟩ :=
  own_run (g := 30) (k := 7) (f := 30) (kk := 0) (cx_goes _ _) allHe (q := (.y :: (oc 2 (.y :: (.y :: (.y :: (.y :: (oc 2 (.y :: (.y :: (.y :: (.y :: (oc 2 (.y :: (.y :: (.y :: (.y :: (oc 1 (.z :: (oc 2 (.y :: (.y :: (.y :: (.y :: (oc 2 (.y :: (.y :: (.y :: (.y :: (oc 2 (.y :: (.y :: (.y :: (.y :: (oc 1 (.z :: (oc 2 (.y :: (.y :: (.y :: (.y :: (oc 2 (.y :: (.y :: (.y :: (.y :: (oc 2 (.y :: (.y :: (.y :: (.y :: (oc 1 (.z :: (oc 2 (.y :: (.y :: (.y :: (.y :: (oc 2 (.y :: (.y :: (.y :: (.y :: (oc 2 (.y :: (.y :: (.y :: (.y :: (oc 1 (.z :: (oc 2 (.y :: (.y :: (.y :: (.y :: (oc 2 (.y :: (.y :: (.y :: (.y :: (oc 2 (.y :: (.y :: (.y :: (.y :: (oc 1 (.z :: (oc 2 (.y :: (.y :: (.y :: (.y :: (oc 2 (.y :: (.y :: (.y :: (.y :: (oc 2 (.y :: (.y :: (.y :: (.y :: (oc 1 (.z :: (oc 2 (.y :: (.y :: (.y :: (.y :: (oc 2 (.y :: (.y :: (.y :: (.y :: (oc 2 (.y :: (.y :: (.y :: (.y :: (oc 1 (.z :: (oc 2 (.y :: (.y :: (.y :: (.y :: (oc 2 (.y :: (.y :: (.y :: (.y :: (oc 2 (.y :: (.y :: (.y :: (.y :: (oc 1 (.z :: (oc 1 []))))))))))))))))))))))))))))))))))))))))))))))))))))))))))))))))))))))))))))))))))))))))))))))))))))))))))))))))))))))))))))))))))))))))))) (c := (Cnd.tst _ true :: Cnd.tst _ true :: Cnd.tst _ true :: Cnd.tst _ true :: Cnd.tst _ true :: Cnd.tst _ true :: Cnd.tst _ true :: Cnd.tst _ true :: Cnd.tst _ true :: Cnd.tst _ true :: Cnd.tst _ true :: Cnd.tst _ true :: Cnd.tst _ true :: Cnd.tst _ false :: Cnd.tst _ true :: Cnd.tst _ true :: Cnd.tst _ true :: Cnd.tst _ true :: Cnd.tst _ true :: Cnd.tst _ true :: Cnd.tst _ true :: Cnd.tst _ true :: Cnd.tst _ true :: Cnd.tst _ true :: Cnd.tst _ true :: Cnd.tst _ true :: Cnd.tst _ false :: Cnd.tst _ true :: Cnd.tst _ true :: Cnd.tst _ true :: Cnd.tst _ true :: Cnd.tst _ true :: Cnd.tst _ true :: Cnd.tst _ true :: Cnd.tst _ true :: Cnd.tst _ true :: Cnd.tst _ true :: Cnd.tst _ true :: Cnd.tst _ true :: Cnd.tst _ false :: Cnd.tst _ true :: Cnd.tst _ true :: Cnd.tst _ true :: Cnd.tst _ true :: Cnd.tst _ true :: Cnd.tst _ true :: Cnd.tst _ true :: Cnd.tst _ true :: Cnd.tst _ true :: Cnd.tst _ true :: Cnd.tst _ true :: Cnd.tst _ true :: Cnd.tst _ false :: Cnd.tst _ true :: Cnd.tst _ true :: Cnd.tst _ true :: Cnd.tst _ true :: Cnd.tst _ true :: Cnd.tst _ true :: Cnd.tst _ true :: Cnd.tst _ true :: Cnd.tst _ true :: Cnd.tst _ true :: Cnd.tst _ true :: Cnd.tst _ true :: Cnd.tst _ false :: Cnd.tst _ true :: Cnd.tst _ true :: Cnd.tst _ true :: Cnd.tst _ true :: Cnd.tst _ true :: Cnd.tst _ true :: Cnd.tst _ true :: Cnd.tst _ true :: Cnd.tst _ true :: Cnd.tst _ true :: Cnd.tst _ true :: Cnd.tst _ true :: Cnd.tst _ false :: Cnd.tst _ true :: Cnd.tst _ true :: Cnd.tst _ true :: Cnd.tst _ true :: Cnd.tst _ true :: Cnd.tst _ true :: Cnd.tst _ true :: Cnd.tst _ true :: Cnd.tst _ true :: Cnd.tst _ true :: Cnd.tst _ true :: Cnd.tst _ true :: Cnd.tst _ false :: Cnd.tst _ true :: Cnd.tst _ true :: Cnd.tst _ true :: Cnd.tst _ true :: Cnd.tst _ true :: Cnd.tst _ true :: Cnd.tst _ true :: Cnd.tst _ true :: Cnd.tst _ true :: Cnd.tst _ true :: Cnd.tst _ true :: Cnd.tst _ true :: Cnd.tst _ false :: [])) (by kernel_rfl) ⟨h0, h1, h2, h3, h4, h5, h6, h7, h8, h9, h10, h11, h12, h13, h1, h2, h3, h4, h5, h6, h7, h8, h9, h10, h11, h12, h14, h1, h2, h3, h4, h5, h6, h7, h8, h9, h10, h11, h12, h15, h1, h2, h3, h4, h5, h6, h7, h8, h9, h10, h11, h12, h16, h1, h2, h3, h4, h5, h6, h7, h8, h9, h10, h11, h12, h17, h1, h2, h3, h4, h5, h6, h7, h8, h9, h10, h11, h12, h18, h1, h2, h3, h4, h5, h6, h7, h8, h9, h10, h11, h12, h19, h1, h2, h3, h4, h5, h6, h7, h8, h9, h10, h11, h12, h20, trivial⟩ (by kernel_rfl) hb hu
theorem law_e (a0 : Bool) (l0 : Nat) (cs0 : List AV) (a1 : Bool) (l1 : Nat) (cs1 : List AV) (z : Int) (n : Nat) (i : Nat) (c : Nat) (cs : List AV) (h0 : (iltB (Int.ofNat i) (Int.ofNat n)) = false) (hb : Blk.plainB (Blk.cells true 5 n cs) = true) (hu : AV.plainL [AV.fsl a0 l0 cs0, AV.fsl a1 l1 cs1, AV.int IntKind.i64 z, AV.int IntKind.i64 (Int.ofNat n), AV.int IntKind.i64 (Int.ofNat i)] = true) :
    CodeOK Try.prog (tyCx tys) 94 0 (roundOf (blockOf Try.f7 0)) { fr := frameOf 94 ((6, AV.slice (some (0, 0)) n (some c)) :: [0, 1, 5, 46, 47].zip [AV.fsl a0 l0 cs0, AV.fsl a1 l1 cs1, AV.int IntKind.i64 z, AV.int IntKind.i64 (Int.ofNat n), AV.int IntKind.i64 (Int.ofNat i)]), ds := [], H := mk1 (some (Blk.cells true 5 n cs)) } (AX.exit 0) ⟨frameOf 94 ((6, AV.slice (some (0, 0)) (n) (some c)) :: [0, 1, 5, 46, 47].zip [AV.fsl a0 l0 cs0, AV.fsl a1 l1 cs1, AV.int IntKind.i64 z, AV.int IntKind.i64 (Int.ofNat n), AV.int IntKind.i64 (Int.ofNat i)]), [], mk1 (some (Blk.cells true 5 n cs))⟩ :=
  own_run (g := 30) (k := 7) (f := 30) (kk := 0) (cx_goes _ _) allHe (q := (.z :: [])) (c := (Cnd.tst _ false :: [])) (by kernel_rfl) ⟨h0, trivial⟩ (by kernel_rfl) hb hu
structure LawS where
  a0 : Bool
  l : List UInt8
  a1 : Bool
  m : List UInt8
  z : Int
  n : Nat
  c : Nat
  i : Nat
def LawS.enc (p : LawS) : HSt := (.slice (some (0, 0)) p.n (some p.c), some (.cells true 5 p.n (ofBytes (xorB p.n p.l p.m))), [.fsl p.a0 p.l.length (ofBytes p.l), .fsl p.a1 p.m.length (ofBytes p.m), .int .i64 p.z, .int .i64 (.ofNat p.n), .int .i64 (.ofNat p.i)])
def LawS.fin (p : LawS) : AX × HSt := (.exit 0, .slice (some (0, 0)) p.n (some p.c), some (.cells true 5 p.n (ofBytes (xorB p.n p.l p.m))), [.fsl p.a0 p.l.length (ofBytes p.l), .fsl p.a1 p.m.length (ofBytes p.m), .int .i64 p.z, .int .i64 (.ofNat p.n), .int .i64 (.ofNat p.n)])
theorem plain_law {a0 a1 : Bool} {l m : List UInt8} {x y z : Int} : AV.plainL [.fsl a0 l.length (ofBytes l), .fsl a1 m.length (ofBytes m), .int .i64 x, .int .i64 y, .int .i64 z] = true := by
  simp [AV.plainL, AV.plain, ofBytes_plainL]
def xlawL : HLoop := ⟨94, blockOf Try.f7 0, 6, [0, 1, 5, 46, 47], fun v ob us => match v, ob, us with
  | .slice (some (0, 0)) n (some c), some (.cells true 5 nc cs), [.fsl a0 l0 cs0, .fsl a1 l1 cs1, .int .i64 z, .int .i64 (.ofNat n'), .int .i64 (.ofNat 0)] =>
    some ([Nat.beq n' n, Nat.beq nc n, u8L cs, u8L cs0, u8L cs1, Nat.beq cs0.length l0, Nat.beq cs1.length l1, Nat.ble n l0, Nat.ble n l1, eqXor n cs cs0 cs1, Nat.ble n 1000000000000], .normal, .slice (some (0, 0)) n (some c), some (.cells true 5 n cs), [.fsl a0 l0 cs0, .fsl a1 l1 cs1, .int .i64 z, .int .i64 (.ofNat n), .int .i64 (.ofNat n)])
  | _, _, _ => none⟩
theorem at0_ofBytes (l : List UInt8) (i : Nat) (h : i < l.length) : (listAt (ofBytes l) (0 + (Int.ofNat i).toNat * 1)).getD AV.undef = .int .u8 ((l.getD i 0).toNat : Int) := by
  have e : (0 + (Int.ofNat i).toNat * 1) = i := by show 0 + i * 1 = i; omega
  rw [e, listAt_ofBytes _ i h]
  simp [h]
theorem xlawL_ok : xlawL.OK Try.prog (tyCx tys) 0 := by
  refine HLoop.ok_by (b := roundOf (blockOf Try.f7 0)) (by kernel_rfl) LawS.enc LawS.fin (fun p => p.n ≤ p.l.length ∧ p.n ≤ p.m.length ∧ p.i ≤ p.n ∧ p.n ≤ 1000000000000) (fun p => p.n - p.i) ?_ ?_
  · intro v ob us conds X v' ob' us' h hc hpl hin
    simp only [xlawL] at h
    split at h
    · rename_i n c nc cs a0 l0 cs0 a1 l1 cs1 z n'
      injection h with h; injection h with e1 h; injection h with e2 h; injection h with e3 h; injection h with e4 e5
      subst e1; subst e2; subst e3; subst e4; subst e5
      simp only [allTrue_cons] at hc
      obtain ⟨c1, c2, c3, c4, c5, c6, c7, c8, c9, c10, c11, _⟩ := hc
      have c1 := eq_of_beq' c1
      have c2 := eq_of_beq' c2
      obtain ⟨xs, rfl⟩ := u8L_iff.1 c3
      obtain ⟨l, rfl⟩ := u8L_iff.1 c4
      obtain ⟨m, rfl⟩ := u8L_iff.1 c5
      have c6 := eq_of_beq' c6
      have c7 := eq_of_beq' c7
      rw [ofBytes_length] at c6 c7
      subst c1; subst c2; subst c6; subst c7
      unfold eqXor at c10
      rw [kept_eq, bytesL_ofBytes, bytesL_ofBytes, bytesL_ofBytes, bytesEq_eq] at c10
      have c10 := eq_of_beq c10
      subst c10
      refine ⟨⟨a0, l, a1, m, z, _, c, 0⟩, ⟨Nat.le_of_ble_eq_true c8, Nat.le_of_ble_eq_true c9, Nat.zero_le _, Nat.le_of_ble_eq_true c11⟩, rfl, rfl, rfl, plain_law, ?_⟩
      exact ⟨by simp [Blk.plainB, ofBytes_plainL], rfl⟩
    · cases h
  · rintro ⟨a0, l, a1, m, z, n, c, i⟩ ⟨h1, h2, h5, h6⟩
    simp only at h1 h2 h5 h6
    have hb : Blk.plainB (.cells true 5 n (ofBytes (xorB n l m))) = true := by simp [Blk.plainB, ofBytes_plainL]
    by_cases hi : i < n
    · left
      refine ⟨⟨a0, l, a1, m, z, n, c, i + 1⟩, ⟨h1, h2, hi, h6⟩, rfl, by simp only; omega, ?_⟩
      have ew : wrapA IntKind.i64 ((Int.ofNat i).add (Int.ofNat 1)) = Int.ofNat (i + 1) := i64_add i 1 (by omega)
      have hxl : i < (xorB n l m).length := by rw [xorB_length]; exact hi
      have e1 : (xorB n l m).getD i 0 = l.getD i 0 ^^^ m.getD i 0 := by simp [xorB, hi]
      have bits : ∀ k, _ := fun k => bit_ok (l.getD i 0) (m.getD i 0) k
      have h := law_r a0 l.length (ofBytes l) a1 m.length (ofBytes m) z n i c (ofBytes (xorB n l m)) (by rw [iltB_eq]; exact decide_eq_true (by show (i : Int) < (n : Int); omega)) (ble_of (by show i + 1 ≤ _; omega)) (ble_of (by show 0 + i * 1 + 1 ≤ _; omega)) (ble_of (by rw [ofBytes_length, xorB_length]; show 0 + i * 1 + 1 ≤ _; omega)) (by rw [at0_ofBytes _ i hxl]; rfl) (ble_of (by show i + 1 ≤ _; omega)) (beq_of1 (ofBytes_length l)) (room_ofBytes l i (by omega)) (by rw [at_ofBytes l i (by omega)]; rfl) (ble_of (by show i + 1 ≤ _; omega)) (beq_of1 (ofBytes_length m)) (room_ofBytes m i (by omega)) (by rw [at_ofBytes m i (by omega)]; rfl) (by rw [at0_ofBytes _ i hxl, at_ofBytes l i (by omega), at_ofBytes m i (by omega), e1]; exact bits 0) (by rw [at0_ofBytes _ i hxl, at_ofBytes l i (by omega), at_ofBytes m i (by omega), e1]; exact bits 1) (by rw [at0_ofBytes _ i hxl, at_ofBytes l i (by omega), at_ofBytes m i (by omega), e1]; exact bits 2) (by rw [at0_ofBytes _ i hxl, at_ofBytes l i (by omega), at_ofBytes m i (by omega), e1]; exact bits 3) (by rw [at0_ofBytes _ i hxl, at_ofBytes l i (by omega), at_ofBytes m i (by omega), e1]; exact bits 4) (by rw [at0_ofBytes _ i hxl, at_ofBytes l i (by omega), at_ofBytes m i (by omega), e1]; exact bits 5) (by rw [at0_ofBytes _ i hxl, at_ofBytes l i (by omega), at_ofBytes m i (by omega), e1]; exact bits 6) (by rw [at0_ofBytes _ i hxl, at_ofBytes l i (by omega), at_ofBytes m i (by omega), e1]; exact bits 7) hb plain_law
      rw [ew] at h
      exact h
    · have hi : i = n := by omega
      subst hi
      right
      exact ⟨by simp [LawS.fin], law_e a0 l.length (ofBytes l) a1 m.length (ofBytes m) z i i c (ofBytes (xorB i l m)) (by rw [iltB_eq]; exact decide_eq_false (by show ¬ (i : Int) < (i : Int); omega)) hb plain_law⟩
end Go.Proofs.Ytecncappdnhbaaa
end
end

/- Rows of Xor and of Zero. -/
section
set_option autoImplicit false
set_option linter.unusedVariables false
set_option linter.unusedSimpArgs false
set_option maxRecDepth 100000
noncomputable section
namespace Go.Proofs.Ytecncappdnhbaaa
open Go.Ab.M Go.Ab Go
abbrev Cx1 := mkCxH tys fns [] [((31, 0), xorL)]
abbrev Sx1 := mkSH tys [] [((31, 0), xorL)]
theorem allx1 : SumAll Try.prog Cx1 := sums_allH (fun _ h => by cases h) (fun p h => by
  have : p = ((31, 0), xorL) := by simpa using h
  subst this; exact xorL_ok)
abbrev C04z := mkCxH tys fns [] [((101, 0), idxZ)]
abbrev S04z := mkSH tys [] [((101, 0), idxZ)]
theorem all04z : SumAll Try.prog C04z := sums_allH (fun _ h => by cases h) (fun p h => by
  have : p = ((101, 0), idxZ) := by simpa using h
  subst this; exact idxZ_ok)
abbrev C04n := mkCxH tys fns [] [((101, 0), idxN)]
abbrev S04n := mkSH tys [] [((101, 0), idxN)]
theorem all04n : SumAll Try.prog C04n := sums_allH (fun _ h => by cases h) (fun p h => by
  have : p = ((101, 0), idxN) := by simpa using h
  subst this; exact idxN_ok)
theorem xor_run (a0 : Bool) (l0 : Nat) (cs0 : List AV) (a1 : Bool) (l1 : Nat) (cs1 : List AV) (h0 : (ileB (Int.ofNat 0) (minI (Int.ofNat l0) (Int.ofNat l1))) = true) (h1 : (ileB (minI (Int.ofNat l0) (Int.ofNat l1)) (minI (Int.ofNat l0) (Int.ofNat l1))) = true) (h2 : (iltB (minI (Int.ofNat l0) (Int.ofNat l1)) (Int.ofNat 9223372036854775808)) = true) (h3 : (ileB (Int.ofNat 1 * minI (Int.ofNat l0) (Int.ofNat l1)) (Int.ofNat 281474976710656)) = true) (h4 : (AV.plainL (reps (minI (Int.ofNat l0) (Int.ofNat l1)).toNat [AV.int IntKind.u8 (Int.ofNat 0)])) = true) (h5 : (AV.plainL [AV.fsl a0 l0 cs0, AV.fsl a1 l1 cs1, AV.int IntKind.i64 (Int.ofNat (minI (Int.ofNat l0) (Int.ofNat l1)).toNat), AV.int IntKind.i64 (Int.ofNat 0)]) = true) (h6 : ((minI (Int.ofNat l0) (Int.ofNat l1)).toNat.beq (minI (Int.ofNat l0) (Int.ofNat l1)).toNat) = true) (h7 : ((reps (minI (Int.ofNat l0) (Int.ofNat l1)).toNat [AV.int IntKind.u8 (Int.ofNat 0)]).length.beq (minI (Int.ofNat l0) (Int.ofNat l1)).toNat) = true) (h8 : (u8L cs0) = true) (h9 : (u8L cs1) = true) (h10 : (cs0.length.beq l0) = true) (h11 : (cs1.length.beq l1) = true) (h12 : ((minI (Int.ofNat l0) (Int.ofNat l1)).toNat.ble l0) = true) (h13 : ((minI (Int.ofNat l0) (Int.ofNat l1)).toNat.ble l1) = true) (h14 : ((minI (Int.ofNat l0) (Int.ofNat l1)).toNat.ble 1000000000000) = true) :
    ∃ h', aCall Cx1 60 (Tgt.fn 31) [AV.fsl a0 l0 cs0, AV.fsl a1 l1 cs1] H0 = some (AV.slice (some (1, 0)) (minI (Int.ofNat l0) (Int.ofNat l1)).toNat (some (minI (Int.ofNat l0) (Int.ofNat l1)).toNat), h') ∧ [0, 1].map h'.get = [Blk.dead, Blk.cells true 5 (minI (Int.ofNat l0) (Int.ofNat l1)).toNat (kept (ofBytes (xorB (minI (Int.ofNat l0) (Int.ofNat l1)).toNat (bytesL cs0) (bytesL cs1))))] :=
  call_runH (q := (.y :: (.y :: (.y :: (.y :: (oc 1 (.y :: (.y :: (.y :: (.y :: (.y :: (.y :: (.y :: (.y :: (.y :: (.y :: (.y :: (.y :: [])))))))))))))))))) (c := (Cnd.tst _ true :: Cnd.tst _ true :: Cnd.tst _ true :: Cnd.tst _ true :: Cnd.code ((31, 0), xorL).snd.lsumS.fst ((31, 0), xorL).snd.lsumS.fst :: Cnd.tst _ true :: Cnd.tst _ true :: Cnd.tst _ true :: Cnd.tst _ true :: Cnd.tst _ true :: Cnd.tst _ true :: Cnd.tst _ true :: Cnd.tst _ true :: Cnd.tst _ true :: Cnd.tst _ true :: Cnd.tst _ true :: Cnd.tst _ true :: [])) (by kernel_rfl) ⟨h0, h1, h2, h3, rfl, h4, h5, h6, h7, h7, h8, h9, h10, h11, h12, h13, h14, trivial⟩
theorem zero_Z (nl : Bool) (len : Nat) (cs : List AV) (h0 : (AV.plainL [AV.fsl nl len cs, AV.func 83 [] [], AV.int IntKind.i64 (Int.ofNat 0), AV.int IntKind.i64 (Int.ofNat len)]) = true) (h1 : (u8L cs) = true) (h2 : (cs.length.beq len) = true) (h3 : (len.beq len) = true) (h4 : (zeroL cs) = true) (h5 : (len.ble 1000000000000) = true) :
    ∃ h', aCall C04z 60 (Tgt.fn 32) [AV.fsl nl len cs] H0 = some (AV.bool true, h') ∧ [].map h'.get = [] :=
  call_runH (q := (.y :: (.y :: (.y :: (.y :: (.y :: (.y :: []))))))) (c := (Cnd.code ((101, 0), idxZ).snd.lsumS.fst ((101, 0), idxZ).snd.lsumS.fst :: Cnd.tst _ true :: Cnd.tst _ true :: Cnd.tst _ true :: Cnd.tst _ true :: Cnd.tst _ true :: Cnd.tst _ true :: [])) (by kernel_rfl) ⟨rfl, h0, h1, h2, h3, h4, h5, trivial⟩
theorem zero_N (nl : Bool) (len : Nat) (cs : List AV) (h0 : (AV.plainL [AV.fsl nl len cs, AV.func 83 [] [], AV.int IntKind.i64 (Int.ofNat 0), AV.int IntKind.i64 (Int.ofNat len)]) = true) (h1 : (u8L cs) = true) (h2 : (cs.length.beq len) = true) (h3 : (len.beq len) = true) (h4 : (!zeroL cs) = true) (h5 : (len.ble 1000000000000) = true) :
    ∃ h', aCall C04n 60 (Tgt.fn 32) [AV.fsl nl len cs] H0 = some (AV.bool !ileB (Int.ofNat 0) (Int.ofNat (firstNZ cs)), h') ∧ [].map h'.get = [] :=
  call_runH (q := (.y :: (.y :: (.y :: (.y :: (.y :: (.y :: []))))))) (c := (Cnd.code ((101, 0), idxN).snd.lsumS.fst ((101, 0), idxN).snd.lsumS.fst :: Cnd.tst _ true :: Cnd.tst _ true :: Cnd.tst _ true :: Cnd.tst _ true :: Cnd.tst _ true :: Cnd.tst _ true :: [])) (by kernel_rfl) ⟨rfl, h0, h1, h2, h3, h4, h5, trivial⟩
theorem zeroR_Z (nl : Bool) (l : List UInt8) (hb : l.length ≤ 1000000000000) (hz : zeroL (ofBytes l) = true) : ∃ h', aCall C04z 60 (.fn 32) [.fsl nl l.length (ofBytes l)] H0 = some (.bool true, h') := by
  obtain ⟨h', h, _⟩ := zero_Z nl l.length (ofBytes l) plain_idx (u8L_ofBytes l) (beq_of (ofBytes_length l)) (beq_of rfl) hz (ble_of hb)
  exact ⟨h', h⟩
theorem zeroR_N (nl : Bool) (l : List UInt8) (hb : l.length ≤ 1000000000000) (hz : zeroL (ofBytes l) = false) : ∃ h', aCall C04n 60 (.fn 32) [.fsl nl l.length (ofBytes l)] H0 = some (.bool false, h') := by
  obtain ⟨h', h, _⟩ := zero_N nl l.length (ofBytes l) plain_idx (u8L_ofBytes l) (beq_of (ofBytes_length l)) (beq_of rfl) (by rw [hz]; rfl) (ble_of hb)
  have e : ileB (Int.ofNat 0) (Int.ofNat (firstNZ (ofBytes l))) = true := by
    rw [ileB_eq]; exact decide_eq_true (by show ((0 : Nat) : Int) ≤ ((firstNZ (ofBytes l) : Nat) : Int); omega)
  rw [e] at h
  exact ⟨h', h⟩
theorem sound_split {P : Program} {ty : TypeId → Option ATy} {g : FuncId} {s s1 s2 : RSum} (h1 : RSum.Sound P ty g s1) (h2 : RSum.Sound P ty g s2) (n1 : s1.nf = s.nf) (n2 : s2.nf = s.nf)
    (h : ∀ us c q, s.m us = some (c, q) → allTrue c = true → (∃ c', s1.m us = some (c', q) ∧ allTrue c' = true) ∨ (∃ c', s2.m us = some (c', q) ∧ allTrue c' = true)) : RSum.Sound P ty g s := by
  intro base w0 g' args H H' v μ w xs hsum hw hr r n
  have one : ∀ s' : RSum, ftFind [(g, s')] g' = cb (Nat.beq g' g) (some s') none := fun s' => rfl
  replace hsum : ftSum ty [(g, s)] g' args H = some (v, H') := hsum
  unfold ftSum at hsum
  rw [one] at hsum
  cases hg : Nat.beq g' g with
  | false => rw [hg] at hsum; cases hsum
  | true =>
  rw [hg, cb_true, ob_some] at hsum
  replace hsum := ob_eq hsum; obtain ⟨⟨c1, us⟩, hv, hsum⟩ := hsum
  replace hsum := ob_eq hsum; obtain ⟨⟨c2, q⟩, hm, hsum⟩ := hsum
  simp only at hsum hm
  cases hc : allTrue (c1 ++ c2) with
  | false => rw [hc] at hsum; cases hsum
  | true =>
  rw [hc, cb_true] at hsum
  rw [allTrue_append] at hc
  have go : ∀ s' : RSum, s'.nf = s.nf → (∃ c', s'.m us = some (c', q) ∧ allTrue c' = true) → ftSum ty [(g, s')] g' args H = some (v, H') := by
    intro s' hn ⟨c', hm', hc'⟩
    unfold ftSum
    rw [one, hg, cb_true, ob_some, hn, hv, ob_some]
    simp only
    rw [hm', ob_some]
    simp only
    have : allTrue (c1 ++ c') = true := allTrue_append.2 ⟨hc.1, hc'⟩
    rw [this, cb_true]
    exact hsum
  rcases h us c2 q hm hc.2 with k | k
  · exact h1 base w0 (go s1 n1 k) hw hr r n
  · exact h2 base w0 (go s2 n2 k) hw hr r n
def zeroRZ : RSum := RSum.pl true fun us => match us with
  | [.fsl nl len cs] => some ([u8L cs, Nat.beq cs.length len, Nat.ble len 1000000000000, zeroL cs], .bool true)
  | _ => none
def zeroRN : RSum := RSum.pl true fun us => match us with
  | [.fsl nl len cs] => some ([u8L cs, Nat.beq cs.length len, Nat.ble len 1000000000000, !zeroL cs], .bool false)
  | _ => none
theorem zeroRZ_ok : RSum.Sound Try.prog tys 32 zeroRZ := by
  refine RSum.soundH (cx_goes _ _) all04z (RSum.pl_ok fun us c v hm hc => ?_)
  split at hm
  · injection hm with hm; injection hm with e1 e2; subst e1; subst e2
    simp only [allTrue_cons] at hc
    obtain ⟨c1, c2, c3, c4, _⟩ := hc
    obtain ⟨l, rfl⟩ := u8L_iff.1 c1
    have c2 := eq_of_beq' c2
    rw [ofBytes_length] at c2
    subst c2
    exact ⟨rfl, 60, zeroR_Z _ l (Nat.le_of_ble_eq_true c3) c4⟩
  · cases hm
theorem zeroRN_ok : RSum.Sound Try.prog tys 32 zeroRN := by
  refine RSum.soundH (cx_goes _ _) all04n (RSum.pl_ok fun us c v hm hc => ?_)
  split at hm
  · injection hm with hm; injection hm with e1 e2; subst e1; subst e2
    simp only [allTrue_cons] at hc
    obtain ⟨c1, c2, c3, c4, _⟩ := hc
    obtain ⟨l, rfl⟩ := u8L_iff.1 c1
    have c2 := eq_of_beq' c2
    rw [ofBytes_length] at c2
    subst c2
    exact ⟨rfl, 60, zeroR_N _ l (Nat.le_of_ble_eq_true c3) (by simpa using c4)⟩
  · cases hm
def zeroR : RSum := RSum.pl true fun us => match us with
  | [.fsl nl len cs] => some ([u8L cs, Nat.beq cs.length len, Nat.ble len 1000000000000], .bool (zeroL cs))
  | _ => none
theorem zeroR_ok : RSum.Sound Try.prog tys 32 zeroR := by
  refine sound_split zeroRZ_ok zeroRN_ok rfl rfl fun us c q hm hc => ?_
  simp only [zeroR, zeroRZ, zeroRN, RSum.pl] at hm ⊢
  split at hm
  · rename_i nl len cs
    simp only [ob_some] at hm ⊢
    injection hm with hm; injection hm with e1 e2; subst e1; subst e2
    simp only [allTrue_cons] at hc
    obtain ⟨c1, c2, c3, _⟩ := hc
    cases hz : zeroL cs with
    | true => exact .inl ⟨_, rfl, by simp [allTrue_cons, c1, c2, c3, hz]; rfl⟩
    | false => exact .inr ⟨_, rfl, by simp [allTrue_cons, c1, c2, c3, hz]; rfl⟩
  · cases hm
theorem minI_nat (a b : Nat) : minI (Int.ofNat a) (Int.ofNat b) = Int.ofNat (min a b) := by
  show (if (Int.ofNat b) < (Int.ofNat a) then _ else _) = _
  split
  · rename_i h
    have h : (b : Int) < (a : Int) := h
    have : min a b = b := by omega
    rw [this]
  · rename_i h
    have h : ¬ (b : Int) < (a : Int) := h
    have : min a b = a := by omega
    rw [this]
theorem reps_length (n : Nat) (v : AV) : (reps n [v]).length = n := by
  induction n with
  | zero => rfl
  | succ n ih => show ([v] ++ reps n [v]).length = _; rw [List.length_append, ih]; simp; omega
theorem reps_plain (n : Nat) (v : AV) (h : v.plain = true) : AV.plainL (reps n [v]) = true := by
  induction n with
  | zero => rfl
  | succ n ih => show AV.plainL ([v] ++ reps n [v]) = true; exact plainL_append (by simp [AV.plainL, h]) ih
def xorR : RSum := RSum.nb true fun us => match us with
  | [.fsl a0 l0 cs0, .fsl a1 l1 cs1] => some ([u8L cs0, Nat.beq cs0.length l0, u8L cs1, Nat.beq cs1.length l1, Nat.ble l0 1000, Nat.ble l1 1000],
    fun n => .slice (some (n, 0)) (minI (Int.ofNat l0) (Int.ofNat l1)).toNat (some (minI (Int.ofNat l0) (Int.ofNat l1)).toNat),
    [.cells true 5 (minI (Int.ofNat l0) (Int.ofNat l1)).toNat (kept (ofBytes (xorB (minI (Int.ofNat l0) (Int.ofNat l1)).toNat (bytesL cs0) (bytesL cs1))))])
  | _ => none
theorem xorR_ok : RSum.Sound Try.prog tys 31 xorR := by
  refine RSum.soundH (cx_goes _ _) allx1 (RSum.nb_ok fun us c v bs hm hc => ?_)
  split at hm
  · rename_i a0 l0 cs0 a1 l1 cs1
    injection hm with hm; injection hm with e1 hm; injection hm with e2 e3; subst e1; subst e2; subst e3
    simp only [allTrue_cons] at hc
    obtain ⟨c1, c2, c3, c4, c5, c6, _⟩ := hc
    obtain ⟨l, rfl⟩ := u8L_iff.1 c1
    obtain ⟨m, rfl⟩ := u8L_iff.1 c3
    have c2 := eq_of_beq' c2
    have c4 := eq_of_beq' c4
    rw [ofBytes_length] at c2 c4
    subst c2; subst c4
    have c5 : l.length ≤ 1000 := Nat.le_of_ble_eq_true c5
    have c6 : m.length ≤ 1000 := Nat.le_of_ble_eq_true c6
    have hmin := minI_nat l.length m.length
    have ht : (minI (Int.ofNat l.length) (Int.ofNat m.length)).toNat = min l.length m.length := by rw [hmin]; rfl
    refine ⟨fun b hb => ?_, ?_⟩
    · rw [kept_eq] at hb
      have : b = .cells true 5 (minI (Int.ofNat l.length) (Int.ofNat m.length)).toNat (ofBytes (xorB (minI (Int.ofNat l.length) (Int.ofNat m.length)).toNat (bytesL (ofBytes l)) (bytesL (ofBytes m)))) := by simpa using hb
      subst this
      simp only [Blk.plainOwn, ofBytes_plain, Bool.and_self]
    · have le1 : min l.length m.length ≤ l.length := Nat.min_le_left _ _
      have le2 : min l.length m.length ≤ m.length := Nat.min_le_right _ _
      obtain ⟨h', h, hb⟩ := xor_run a0 l.length (ofBytes l) a1 m.length (ofBytes m)
        (by rw [hmin, ileB_eq]; exact decide_eq_true (by show ((0 : Nat) : Int) ≤ ((min l.length m.length : Nat) : Int); omega))
        (by rw [ileB_eq]; exact decide_eq_true (Int.le_refl _))
        (by rw [hmin, iltB_eq]; exact decide_eq_true (by show ((min l.length m.length : Nat) : Int) < ((9223372036854775808 : Nat) : Int); omega))
        (by rw [hmin, ileB_eq]; exact decide_eq_true (by show ((1 : Nat) : Int) * ((min l.length m.length : Nat) : Int) ≤ ((281474976710656 : Nat) : Int); omega))
        (reps_plain _ _ rfl) plain_fsls (beq_of rfl) (beq_of (reps_length _ _)) (u8L_ofBytes l) (u8L_ofBytes m) (beq_of (ofBytes_length l)) (beq_of (ofBytes_length m))
        (ble_of (by rw [ht]; exact le1)) (ble_of (by rw [ht]; exact le2)) (ble_of (by rw [ht]; omega))
      refine ⟨60, h', [1], _, h, ?_, sel_one 1, rfl, fun n ρ hρ => ?_⟩
      · have hb : [h'.get 0, h'.get 1] = [_, _] := hb
        injection hb with _ hb
      · have := hρ 0 1 rfl
        simp only [AV.ren, Option.map_some, this, Nat.add_zero]
        exact AV.Le.refl _
  · cases hm
abbrev F04 : FTab := [(31, xorR), (32, zeroR)] ++ F01
abbrev H04 : HTab := [((7, 0), xlawL)]
abbrev C04 := mkCxH tys fns F04 H04
abbrev S04 := mkSH tys F04 H04
theorem all04 : SumAll Try.prog C04 := sums_allH (fun p h => by
  rcases List.mem_append.1 h with h | h
  · simp only [List.mem_cons, List.not_mem_nil, or_false] at h
    rcases h with rfl | rfl
    · exact xorR_ok
    · exact zeroR_ok
  · exact f01_ok p h) (fun p h => by
  have : p = ((7, 0), xlawL) := by simpa using h
  subst this; exact xlawL_ok)
end Go.Proofs.Ytecncappdnhbaaa
end
end

/- Words written behind bytes: what is written stays folded. -/
section
set_option autoImplicit false
set_option linter.unusedVariables false
set_option linter.unusedSimpArgs false
set_option maxRecDepth 100000
noncomputable section
namespace Go.Ab
open Go.RowKit
/-- A row says what another one says, where its conditions hold. -/
theorem RSum.Sound.of {P : Program} {ty : TypeId → Option ATy} {g : FuncId} {s s' : RSum} (h : RSum.Sound P ty g s) (hn : s'.nf = s.nf)
    (hm : ∀ us c' q, s'.m us = some (c', q) → allTrue c' = true → ∃ c, s.m us = some (c, q) ∧ allTrue c = true) : RSum.Sound P ty g s' := by
  intro base w0 g' args H H' v μ w xs hsum hw hr r n
  have hsum' : ftSum ty [(g, s')] g' args H = some (v, H') := hsum
  unfold ftSum at hsum'
  replace hsum' := ob_eq hsum'; obtain ⟨s1, hf, hsum'⟩ := hsum'
  have hg : (g', s1) = (g, s') := by simpa using ftFind_mem hf
  injection hg with hg1 hg2
  subst hg1; subst hg2
  replace hsum' := ob_eq hsum'; obtain ⟨⟨c1, us⟩, hv, hsum'⟩ := hsum'
  replace hsum' := ob_eq hsum'; obtain ⟨⟨c2, q⟩, hq, hsum'⟩ := hsum'
  simp only at hsum' hq
  cases hc : allTrue (c1 ++ c2) with
  | false => rw [hc] at hsum'; cases hsum'
  | true =>
    rw [hc, cb_true] at hsum'
    rw [allTrue_append] at hc
    obtain ⟨c, h1, h2⟩ := hm us c2 q hq hc.2
    refine h base w0 (g := g') (args := args) (H := H) (H' := H') (v := v) (μ := μ) (w := w) (xs := xs) ?_ hw hr r n
    show ftSum ty [(g', s)] g' args H = some (v, H')
    unfold ftSum
    have e1 : ftFind [(g', s)] g' = some s := by
      show cb (Nat.beq g' g') _ _ = _
      simp
    rw [e1, ob_some, ← hn, hv, ob_some]
    simp only
    rw [h1, ob_some]
    simp only
    rw [allTrue_append.2 ⟨hc.1, h2⟩, cb_true]
    exact hsum'
end Go.Ab
namespace Go.Proofs.Ytecncappdnhbaaa
open Go.Ab.M Go.Ab Go
theorem allM6 : SumAll Try.prog (mkCxM tys fns [] []) := sums_allM (fun _ h => by cases h) (fun _ h => by cases h)
def putKu16 : RSum := RSum.nb true fun us => match us with
  | [.fsl false len cs, .int .u16 x] => some ([Nat.beq cs.length len, u8L cs, Nat.ble len 1000000000000, ileB 0 x, iltB x 65536], fun n => .slice (some (n, 0)) (len + 2) none, [.cells true 5 (len + 2) (kept (ofBytes (bytesL cs ++ putB 2 x.toNat)))])
  | _ => none
theorem putKu16_ok : RSum.Sound Try.prog tys 62 putKu16 := by
  refine putRu16_ok.of rfl fun us c' q hq hc => ?_
  simp only [putKu16, RSum.nb] at hq
  replace hq := ob_eq hq; obtain ⟨⟨c1, v, bs⟩, hm, hq⟩ := hq
  injection hq with hq; injection hq with e1 e2; subst e1; subst e2
  split at hm
  · rename_i len cs x
    injection hm with hm; injection hm with e1 hm; injection hm with e2 e3; subst e1; subst e2; subst e3
    refine ⟨_, ?_, hc⟩
    simp only [allTrue_cons] at hc
    obtain ⟨b, rfl⟩ := u8L_iff.1 hc.2.1
    show (some _ : Option _) = some _
    simp only [kept_eq, bytesL_ofBytes, ofBytes_append]
  · cases hm
def putKu32 : RSum := RSum.nb true fun us => match us with
  | [.fsl false len cs, .int .u32 x] => some ([Nat.beq cs.length len, u8L cs, Nat.ble len 1000000000000, ileB 0 x, iltB x 4294967296], fun n => .slice (some (n, 0)) (len + 4) none, [.cells true 5 (len + 4) (kept (ofBytes (bytesL cs ++ putB 4 x.toNat)))])
  | _ => none
theorem putKu32_ok : RSum.Sound Try.prog tys 78 putKu32 := by
  refine putRu32_ok.of rfl fun us c' q hq hc => ?_
  simp only [putKu32, RSum.nb] at hq
  replace hq := ob_eq hq; obtain ⟨⟨c1, v, bs⟩, hm, hq⟩ := hq
  injection hq with hq; injection hq with e1 e2; subst e1; subst e2
  split at hm
  · rename_i len cs x
    injection hm with hm; injection hm with e1 hm; injection hm with e2 e3; subst e1; subst e2; subst e3
    refine ⟨_, ?_, hc⟩
    simp only [allTrue_cons] at hc
    obtain ⟨b, rfl⟩ := u8L_iff.1 hc.2.1
    show (some _ : Option _) = some _
    simp only [kept_eq, bytesL_ofBytes, ofBytes_append]
  · cases hm
def putKu64 : RSum := RSum.nb true fun us => match us with
  | [.fsl false len cs, .int .u64 x] => some ([Nat.beq cs.length len, u8L cs, Nat.ble len 1000000000000, ileB 0 x, iltB x 18446744073709551616], fun n => .slice (some (n, 0)) (len + 8) none, [.cells true 5 (len + 8) (kept (ofBytes (bytesL cs ++ putB 8 x.toNat)))])
  | _ => none
theorem putKu64_ok : RSum.Sound Try.prog tys 80 putKu64 := by
  refine putRu64_ok.of rfl fun us c' q hq hc => ?_
  simp only [putKu64, RSum.nb] at hq
  replace hq := ob_eq hq; obtain ⟨⟨c1, v, bs⟩, hm, hq⟩ := hq
  injection hq with hq; injection hq with e1 e2; subst e1; subst e2
  split at hm
  · rename_i len cs x
    injection hm with hm; injection hm with e1 hm; injection hm with e2 e3; subst e1; subst e2; subst e3
    refine ⟨_, ?_, hc⟩
    simp only [allTrue_cons] at hc
    obtain ⟨b, rfl⟩ := u8L_iff.1 hc.2.1
    show (some _ : Option _) = some _
    simp only [kept_eq, bytesL_ofBytes, ofBytes_append]
  · cases hm
end Go.Proofs.Ytecncappdnhbaaa
end
end

/- Commits: what their sectors are: rows of the functions that write and parse them. -/
section
set_option autoImplicit false
set_option linter.unusedVariables false
set_option linter.unusedSimpArgs false
set_option maxRecDepth 100000
noncomputable section
namespace Go.Ab
namespace M
def padB (n : Nat) (b : List UInt8) : List UInt8 := b ++ List.replicate (n - b.length) 0
def rightC (s c : Int) : Bool := decide (s < 3) && decide (c ≤ 16)
def commitB (s c g : Nat) : List UInt8 := [UInt8.ofNat 76, UInt8.ofNat 67, UInt8.ofNat s, UInt8.ofNat c] ++ putB 8 g ++ List.replicate 500 0
/-- is it a commit's sector? -/
def isCB (b : List UInt8) : Bool := decide (b.length = 512) && (b.take 2 == [UInt8.ofNat 76, UInt8.ofNat 67]) && rightC ((b.getD 2 0).toNat : Int) ((b.getD 3 0).toNat : Int) && (b.drop 12).all fun x => x == 0
def byteI (b : List UInt8) (i : Nat) : Int := ((b.getD i 0).toNat : Int)
def genI (b : List UInt8) : Int := ((getN ((b.drop 4).take 8) : Nat) : Int)
end M
open M
theorem padB_length (n : Nat) (b : List UInt8) (h : b.length ≤ n) : (padB n b).length = n := by simp [padB]; omega
theorem commitB_length (s c g : Nat) : (commitB s c g).length = 512 := by simp [commitB, putB_length]
theorem u8_of (n : Int) (h0 : 0 ≤ n) (h1 : n < 256) : AV.int .u8 n = .int .u8 ((UInt8.ofNat n.toNat).toNat : Int) := by
  rw [UInt8.toNat_ofNat']
  congr 1
  omega
theorem isCell_ofBytes (l : List UInt8) : (ofBytes l).all AV.isCell = true := ofBytes_cells l
end Go.Ab
namespace Go.Proofs.Ytecncappdnhbaaa
open Go.Ab.M Go.Ab Go
theorem bits64_ok : RSum.Sound Try.prog tys 66 (RSum.const (.int .i64 (Int.ofNat 64))) := RSum.sound (cx_goes _ _) all0 (RSum.const_ok rfl (let ⟨h', h, _⟩ := bits_u64; ⟨h', h⟩))
abbrev T6a : TTab := [(80, putKu64.rt), (49, rputR.rt), (32, zeroR.rt), (81, getRu64.rt), (66, (RSum.const (.int .i64 (Int.ofNat 64))).rt)]
theorem T6a_ok : TOK Try.prog tys T6a := ⟨RSum.rt_sound putKu64_ok, RSum.rt_sound rputR_ok, RSum.rt_sound zeroR_ok, RSum.rt_sound getRu64_ok, RSum.rt_sound bits64_ok, trivial⟩
abbrev C6a := mkCxT tys fns T6a []
abbrev S6a := mkST tys T6a []
theorem all6a : SumAll Try.prog C6a := sums_allT T6a_ok trivial
theorem sized_r (n : Nat) (cs : List AV) (h0 : (iltB (Int.ofNat n) (Int.ofNat 512)) = true) (h1 : (appRoom 1 n 1) = true) (h2 : (n.beq (n * 1)) = true) (hb : List.all [Blk.cells true 5 (cs ++ [AV.int IntKind.u8 (Int.ofNat 0)]).length (cs ++ [AV.int IntKind.u8 (Int.ofNat 0)])] Blk.plainB = true) (hu : List.all [AV.slice (some (2, 0)) (n + 1) none] (okS [2]) = true) :
    CodeOK Try.prog (tyCx tys) 11 0 (roundOf (blockOf Try.f87 0)) { fr := frameOf 11 ([0].zip [AV.slice (some (0, 0)) n none]), ds := [], H := mkL [Blk.cells true 5 n cs] } (AX.normal) ⟨frameOf 11 ([0].zip [AV.slice (some (0, 0)) (n + 1) (none)]), [], mkL [Blk.cells true 5 (cs ++ [AV.int IntKind.u8 (Int.ofNat 0)]).length (cs ++ [AV.int IntKind.u8 (Int.ofNat 0)])]⟩ :=
  rows_run (g := 30) (k := 87) (f := 30) (sl := [0]) (ks := [2]) (us := [AV.slice (some (2, 0)) (n + 1) none]) (cx_goes _ _) allM6 (q := (.y :: (oc 5 (.y :: (.y :: (oc 1 [])))))) (c := (Cnd.tst _ true :: Cnd.tst _ true :: Cnd.tst _ true :: [])) (by kernel_rfl) ⟨h0, h1, h2, trivial⟩ (by kernel_rfl) (by kernel_rfl) rfl hb hu
theorem sized_e (n : Nat) (cs : List AV) (h0 : (iltB (Int.ofNat n) (Int.ofNat 512)) = false) (hb : List.all [Blk.cells true 5 n cs] Blk.plainB = true) (hu : List.all [AV.slice (some (0, 0)) n none] (okS [0]) = true) :
    CodeOK Try.prog (tyCx tys) 11 0 (roundOf (blockOf Try.f87 0)) { fr := frameOf 11 ([0].zip [AV.slice (some (0, 0)) n none]), ds := [], H := mkL [Blk.cells true 5 n cs] } (AX.exit 0) ⟨frameOf 11 ([0].zip [AV.slice (some (0, 0)) (n) (none)]), [], mkL [Blk.cells true 5 n cs]⟩ :=
  rows_run (g := 30) (k := 87) (f := 30) (sl := [0]) (ks := [0]) (us := [AV.slice (some (0, 0)) n none]) (cx_goes _ _) allM6 (q := (.z :: [])) (c := (Cnd.tst _ false :: [])) (by kernel_rfl) ⟨h0, trivial⟩ (by kernel_rfl) (by kernel_rfl) rfl hb hu
structure SzS where
  l : List UInt8
  i : Nat
def SzS.enc (p : SzS) : MSt := ([.slice (some (0, 0)) (p.l.length + p.i) none], [.cells true 5 (p.l.length + p.i) (ofBytes (p.l ++ List.replicate p.i 0))])
def SzS.fin (p : SzS) : AX × MSt := (.exit 0, [.slice (some (0, 0)) 512 none], [.cells true 5 512 (ofBytes (padB 512 p.l))])
def szL : MLoop := ⟨11, blockOf Try.f87 0, [0], fun vs bs => match vs, bs with
  | [.slice (some (0, 0)) n none], [.cells true 5 n' cs] =>
    some ([u8L cs, Nat.beq cs.length n, Nat.beq n' n, Nat.ble n 512], .normal, [.slice (some (0, 0)) 512 none], [.cells true 5 512 (kept (ofBytes (padB 512 (bytesL cs))))])
  | _, _ => none⟩
theorem szL_ok : szL.OK Try.prog (tyCx tys) 0 := by
  refine MLoop.ok_by (b := roundOf (blockOf Try.f87 0)) (by kernel_rfl) SzS.enc SzS.fin (fun p => p.l.length + p.i ≤ 512) (fun p => 512 - (p.l.length + p.i)) ?_ ?_
  · intro vs bs conds X vs' bs' h hc hin
    simp only [szL] at h
    split at h
    · rename_i n n' cs
      injection h with h; injection h with e1 h; injection h with e2 h; injection h with e3 e4
      rw [kept_eq] at e4
      subst e1; subst e2; subst e3; subst e4
      simp only [allTrue_cons] at hc
      obtain ⟨c1, c2, c3, c4, _⟩ := hc
      obtain ⟨b, rfl⟩ := u8L_iff.1 c1
      have c2 := eq_of_beq' c2
      have c3 := eq_of_beq' c3
      rw [ofBytes_length] at c2
      subst c3; subst c2
      rw [bytesL_ofBytes]
      refine ⟨⟨b, 0⟩, Nat.le_of_ble_eq_true c4, ?_, rfl, rfl, fun u hu => ?_, fun k hk => ?_⟩
      · simp [SzS.enc]
      · have : u = .slice (some (0, 0)) 512 none := by simpa using hu
        subst this; rfl
      · have : k = .cells true 5 512 (ofBytes (padB 512 b)) := by simpa using hk
        subst this
        simp [Blk.plainB, ofBytes_plainL]
    · cases h
  · rintro ⟨l, i⟩ hi
    simp only at hi
    by_cases hlt : l.length + i < 512
    · left
      refine ⟨⟨l, i + 1⟩, by show l.length + (i + 1) ≤ 512; omega, rfl, by simp only; omega, ?_⟩
      have h := sized_r (l.length + i) (ofBytes (l ++ List.replicate i 0)) (by rw [iltB_eq]; exact decide_eq_true (by show ((l.length + i : Nat) : Int) < ((512 : Nat) : Int); omega)) (room_of (by omega) (by decide)) (beq_of (by omega)) ?_ (by simp [okS, memB])
      · have e1 : ofBytes (l ++ List.replicate i 0) ++ [AV.int IntKind.u8 (Int.ofNat 0)] = ofBytes (l ++ List.replicate (i + 1) 0) := by
          have : [AV.int IntKind.u8 (Int.ofNat 0)] = ofBytes [0] := rfl
          rw [this, ← ofBytes_append, List.append_assoc, List.replicate_succ']
        have e2 : (ofBytes (l ++ List.replicate (i + 1) 0)).length = l.length + (i + 1) := by simp [ofBytes_length]
        rw [e1, e2] at h
        exact h
      · have e1 : ofBytes (l ++ List.replicate i 0) ++ [AV.int IntKind.u8 (Int.ofNat 0)] = ofBytes (l ++ List.replicate (i + 1) 0) := by
          have : [AV.int IntKind.u8 (Int.ofNat 0)] = ofBytes [0] := rfl
          rw [this, ← ofBytes_append, List.append_assoc, List.replicate_succ']
        rw [e1]
        simp [Blk.plainB, ofBytes_plainL]
    · right
      have hi : l.length + i = 512 := by omega
      refine ⟨by simp [SzS.fin], ?_⟩
      have h := sized_e (l.length + i) (ofBytes (l ++ List.replicate i 0)) (by rw [iltB_eq]; exact decide_eq_false (by show ¬ ((l.length + i : Nat) : Int) < ((512 : Nat) : Int); omega)) (by simp [Blk.plainB, ofBytes_plainL]) (by simp [okS, memB])
      have e1 : padB 512 l = l ++ List.replicate i 0 := by unfold padB; rw [show 512 - l.length = i by omega]
      show CodeOK _ _ _ _ _ _ _ ⟨frameOf 11 ([0].zip [.slice (some (0, 0)) 512 none]), [], mkL [.cells true 5 512 (ofBytes (padB 512 l))]⟩
      rw [e1]
      have e2 : SzS.enc ⟨l, i⟩ = ([.slice (some (0, 0)) 512 none], [.cells true 5 512 (ofBytes (l ++ List.replicate i 0))]) := by simp only [SzS.enc, hi]
      rw [e2]
      rw [hi] at h
      exact h
abbrev M6 : MTab := [((87, 0), szL)]
abbrev C6 := mkCxT tys fns T6a M6
abbrev S6 := mkST tys T6a M6
theorem all6 : SumAll Try.prog C6 := sums_allT T6a_ok ⟨szL_ok, trivial⟩
theorem cb_no1 (s : Int) (c : Int) (g : Int) (h0 : (iltB (AV.int IntKind.u8 s).intOf (Int.ofNat 3)) = false) :
    ∃ h', aCall C6a 60 (Tgt.fn 41) [AV.agg [AV.int IntKind.u8 s, AV.int IntKind.u8 c, AV.int IntKind.u64 g]] H0 = some (AV.tuple [AV.slice none 0 (some 0), AV.int IntKind.i64 (Int.ofNat 2)], h') ∧ [].map h'.get = [] :=
  call_runT (q := (oc 4 (.z :: (.z :: (.z :: (.z :: (oc 1 []))))))) (c := (Cnd.tst _ false :: Cnd.tst _ false :: Cnd.tst _ false :: Cnd.tst _ false :: [])) (by kernel_rfl) ⟨h0, h0, h0, h0, trivial⟩
theorem cb_no2 (s : Int) (c : Int) (g : Int) (h0 : (iltB (AV.int IntKind.u8 s).intOf (Int.ofNat 3)) = true) (h1 : (!ileB (AV.int IntKind.u8 c).intOf (Int.ofNat 16)) = true) :
    ∃ h', aCall C6a 60 (Tgt.fn 41) [AV.agg [AV.int IntKind.u8 s, AV.int IntKind.u8 c, AV.int IntKind.u64 g]] H0 = some (AV.tuple [AV.slice none 0 (some 0), AV.int IntKind.i64 (Int.ofNat 2)], h') ∧ [].map h'.get = [] :=
  call_runT (q := (oc 4 (.y :: (.y :: (oc 3 (.y :: (.y :: (.y :: [])))))))) (c := (Cnd.tst _ true :: Cnd.tst _ true :: Cnd.tst _ true :: Cnd.tst _ true :: Cnd.tst _ true :: [])) (by kernel_rfl) ⟨h0, h0, h0, h0, h1, trivial⟩
theorem cb_ok (s : Int) (c : Int) (g : Int) (h0 : (iltB (AV.int IntKind.u8 s).intOf (Int.ofNat 3)) = true) (h1 : (!ileB (AV.int IntKind.u8 c).intOf (Int.ofNat 16)) = false) (h2 : (u8L [AV.int IntKind.u8 (Int.ofNat 76), AV.int IntKind.u8 (Int.ofNat 67), AV.int IntKind.u8 (AV.int IntKind.u8 s).intOf, AV.int IntKind.u8 (AV.int IntKind.u8 c).intOf]) = true) (h3 : (ileB (Int.ofNat 0) (AV.int IntKind.u64 g).intOf) = true) (h4 : (iltB (AV.int IntKind.u64 g).intOf (Int.ofNat 18446744073709551616)) = true) :
    ∃ h', aCall C6a 60 (Tgt.fn 41) [AV.agg [AV.int IntKind.u8 s, AV.int IntKind.u8 c, AV.int IntKind.u64 g]] H0 = some (AV.tuple [AV.slice (some (6, 0)) 512 none, AV.int IntKind.i64 (Int.ofNat 0)], h') ∧ [6].map h'.get = [Blk.cells true 5 (kept (ofBytes [UInt8.ofNat 76, UInt8.ofNat 67, UInt8.ofNat (AV.int IntKind.u8 (AV.int IntKind.u8 s).intOf).intOf.toNat, UInt8.ofNat (AV.int IntKind.u8 (AV.int IntKind.u8 c).intOf).intOf.toNat, UInt8.ofNat ((AV.int IntKind.u64 g).intOf.toNat / 72057594037927936), UInt8.ofNat ((AV.int IntKind.u64 g).intOf.toNat / 281474976710656), UInt8.ofNat ((AV.int IntKind.u64 g).intOf.toNat / 1099511627776), UInt8.ofNat ((AV.int IntKind.u64 g).intOf.toNat / 4294967296), UInt8.ofNat ((AV.int IntKind.u64 g).intOf.toNat / 16777216), UInt8.ofNat ((AV.int IntKind.u64 g).intOf.toNat / 65536), UInt8.ofNat ((AV.int IntKind.u64 g).intOf.toNat / 256), UInt8.ofNat ((AV.int IntKind.u64 g).intOf.toNat / 1)]) ++ [AV.int IntKind.u8 (Int.ofNat 0), AV.int IntKind.u8 (Int.ofNat 0), AV.int IntKind.u8 (Int.ofNat 0), AV.int IntKind.u8 (Int.ofNat 0), AV.int IntKind.u8 (Int.ofNat 0), AV.int IntKind.u8 (Int.ofNat 0), AV.int IntKind.u8 (Int.ofNat 0), AV.int IntKind.u8 (Int.ofNat 0), AV.int IntKind.u8 (Int.ofNat 0), AV.int IntKind.u8 (Int.ofNat 0), AV.int IntKind.u8 (Int.ofNat 0), AV.int IntKind.u8 (Int.ofNat 0), AV.int IntKind.u8 (Int.ofNat 0), AV.int IntKind.u8 (Int.ofNat 0), AV.int IntKind.u8 (Int.ofNat 0), AV.int IntKind.u8 (Int.ofNat 0), AV.int IntKind.u8 (Int.ofNat 0), AV.int IntKind.u8 (Int.ofNat 0), AV.int IntKind.u8 (Int.ofNat 0), AV.int IntKind.u8 (Int.ofNat 0), AV.int IntKind.u8 (Int.ofNat 0), AV.int IntKind.u8 (Int.ofNat 0), AV.int IntKind.u8 (Int.ofNat 0), AV.int IntKind.u8 (Int.ofNat 0), AV.int IntKind.u8 (Int.ofNat 0), AV.int IntKind.u8 (Int.ofNat 0), AV.int IntKind.u8 (Int.ofNat 0), AV.int IntKind.u8 (Int.ofNat 0), AV.int IntKind.u8 (Int.ofNat 0), AV.int IntKind.u8 (Int.ofNat 0), AV.int IntKind.u8 (Int.ofNat 0), AV.int IntKind.u8 (Int.ofNat 0), AV.int IntKind.u8 (Int.ofNat 0), AV.int IntKind.u8 (Int.ofNat 0), AV.int IntKind.u8 (Int.ofNat 0), AV.int IntKind.u8 (Int.ofNat 0), AV.int IntKind.u8 (Int.ofNat 0), AV.int IntKind.u8 (Int.ofNat 0), AV.int IntKind.u8 (Int.ofNat 0), AV.int IntKind.u8 (Int.ofNat 0), AV.int IntKind.u8 (Int.ofNat 0), AV.int IntKind.u8 (Int.ofNat 0), AV.int IntKind.u8 (Int.ofNat 0), AV.int IntKind.u8 (Int.ofNat 0), AV.int IntKind.u8 (Int.ofNat 0), AV.int IntKind.u8 (Int.ofNat 0), AV.int IntKind.u8 (Int.ofNat 0), AV.int IntKind.u8 (Int.ofNat 0), AV.int IntKind.u8 (Int.ofNat 0), AV.int IntKind.u8 (Int.ofNat 0), AV.int IntKind.u8 (Int.ofNat 0), AV.int IntKind.u8 (Int.ofNat 0), AV.int IntKind.u8 (Int.ofNat 0), AV.int IntKind.u8 (Int.ofNat 0), AV.int IntKind.u8 (Int.ofNat 0), AV.int IntKind.u8 (Int.ofNat 0), AV.int IntKind.u8 (Int.ofNat 0), AV.int IntKind.u8 (Int.ofNat 0), AV.int IntKind.u8 (Int.ofNat 0), AV.int IntKind.u8 (Int.ofNat 0), AV.int IntKind.u8 (Int.ofNat 0), AV.int IntKind.u8 (Int.ofNat 0), AV.int IntKind.u8 (Int.ofNat 0), AV.int IntKind.u8 (Int.ofNat 0), AV.int IntKind.u8 (Int.ofNat 0), AV.int IntKind.u8 (Int.ofNat 0), AV.int IntKind.u8 (Int.ofNat 0), AV.int IntKind.u8 (Int.ofNat 0), AV.int IntKind.u8 (Int.ofNat 0), AV.int IntKind.u8 (Int.ofNat 0), AV.int IntKind.u8 (Int.ofNat 0), AV.int IntKind.u8 (Int.ofNat 0), AV.int IntKind.u8 (Int.ofNat 0), AV.int IntKind.u8 (Int.ofNat 0), AV.int IntKind.u8 (Int.ofNat 0), AV.int IntKind.u8 (Int.ofNat 0), AV.int IntKind.u8 (Int.ofNat 0), AV.int IntKind.u8 (Int.ofNat 0), AV.int IntKind.u8 (Int.ofNat 0), AV.int IntKind.u8 (Int.ofNat 0), AV.int IntKind.u8 (Int.ofNat 0), AV.int IntKind.u8 (Int.ofNat 0), AV.int IntKind.u8 (Int.ofNat 0), AV.int IntKind.u8 (Int.ofNat 0), AV.int IntKind.u8 (Int.ofNat 0), AV.int IntKind.u8 (Int.ofNat 0), AV.int IntKind.u8 (Int.ofNat 0), AV.int IntKind.u8 (Int.ofNat 0), AV.int IntKind.u8 (Int.ofNat 0), AV.int IntKind.u8 (Int.ofNat 0), AV.int IntKind.u8 (Int.ofNat 0), AV.int IntKind.u8 (Int.ofNat 0), AV.int IntKind.u8 (Int.ofNat 0), AV.int IntKind.u8 (Int.ofNat 0), AV.int IntKind.u8 (Int.ofNat 0), AV.int IntKind.u8 (Int.ofNat 0), AV.int IntKind.u8 (Int.ofNat 0), AV.int IntKind.u8 (Int.ofNat 0), AV.int IntKind.u8 (Int.ofNat 0), AV.int IntKind.u8 (Int.ofNat 0), AV.int IntKind.u8 (Int.ofNat 0), AV.int IntKind.u8 (Int.ofNat 0), AV.int IntKind.u8 (Int.ofNat 0), AV.int IntKind.u8 (Int.ofNat 0), AV.int IntKind.u8 (Int.ofNat 0), AV.int IntKind.u8 (Int.ofNat 0), AV.int IntKind.u8 (Int.ofNat 0), AV.int IntKind.u8 (Int.ofNat 0), AV.int IntKind.u8 (Int.ofNat 0), AV.int IntKind.u8 (Int.ofNat 0), AV.int IntKind.u8 (Int.ofNat 0), AV.int IntKind.u8 (Int.ofNat 0), AV.int IntKind.u8 (Int.ofNat 0), AV.int IntKind.u8 (Int.ofNat 0), AV.int IntKind.u8 (Int.ofNat 0), AV.int IntKind.u8 (Int.ofNat 0), AV.int IntKind.u8 (Int.ofNat 0), AV.int IntKind.u8 (Int.ofNat 0), AV.int IntKind.u8 (Int.ofNat 0), AV.int IntKind.u8 (Int.ofNat 0), AV.int IntKind.u8 (Int.ofNat 0), AV.int IntKind.u8 (Int.ofNat 0), AV.int IntKind.u8 (Int.ofNat 0), AV.int IntKind.u8 (Int.ofNat 0), AV.int IntKind.u8 (Int.ofNat 0), AV.int IntKind.u8 (Int.ofNat 0), AV.int IntKind.u8 (Int.ofNat 0), AV.int IntKind.u8 (Int.ofNat 0), AV.int IntKind.u8 (Int.ofNat 0), AV.int IntKind.u8 (Int.ofNat 0), AV.int IntKind.u8 (Int.ofNat 0), AV.int IntKind.u8 (Int.ofNat 0), AV.int IntKind.u8 (Int.ofNat 0), AV.int IntKind.u8 (Int.ofNat 0), AV.int IntKind.u8 (Int.ofNat 0), AV.int IntKind.u8 (Int.ofNat 0), AV.int IntKind.u8 (Int.ofNat 0), AV.int IntKind.u8 (Int.ofNat 0), AV.int IntKind.u8 (Int.ofNat 0), AV.int IntKind.u8 (Int.ofNat 0), AV.int IntKind.u8 (Int.ofNat 0), AV.int IntKind.u8 (Int.ofNat 0), AV.int IntKind.u8 (Int.ofNat 0), AV.int IntKind.u8 (Int.ofNat 0), AV.int IntKind.u8 (Int.ofNat 0), AV.int IntKind.u8 (Int.ofNat 0), AV.int IntKind.u8 (Int.ofNat 0), AV.int IntKind.u8 (Int.ofNat 0), AV.int IntKind.u8 (Int.ofNat 0), AV.int IntKind.u8 (Int.ofNat 0), AV.int IntKind.u8 (Int.ofNat 0), AV.int IntKind.u8 (Int.ofNat 0), AV.int IntKind.u8 (Int.ofNat 0), AV.int IntKind.u8 (Int.ofNat 0), AV.int IntKind.u8 (Int.ofNat 0), AV.int IntKind.u8 (Int.ofNat 0), AV.int IntKind.u8 (Int.ofNat 0), AV.int IntKind.u8 (Int.ofNat 0), AV.int IntKind.u8 (Int.ofNat 0), AV.int IntKind.u8 (Int.ofNat 0), AV.int IntKind.u8 (Int.ofNat 0), AV.int IntKind.u8 (Int.ofNat 0), AV.int IntKind.u8 (Int.ofNat 0), AV.int IntKind.u8 (Int.ofNat 0), AV.int IntKind.u8 (Int.ofNat 0), AV.int IntKind.u8 (Int.ofNat 0), AV.int IntKind.u8 (Int.ofNat 0), AV.int IntKind.u8 (Int.ofNat 0), AV.int IntKind.u8 (Int.ofNat 0), AV.int IntKind.u8 (Int.ofNat 0), AV.int IntKind.u8 (Int.ofNat 0), AV.int IntKind.u8 (Int.ofNat 0), AV.int IntKind.u8 (Int.ofNat 0), AV.int IntKind.u8 (Int.ofNat 0), AV.int IntKind.u8 (Int.ofNat 0), AV.int IntKind.u8 (Int.ofNat 0), AV.int IntKind.u8 (Int.ofNat 0), AV.int IntKind.u8 (Int.ofNat 0), AV.int IntKind.u8 (Int.ofNat 0), AV.int IntKind.u8 (Int.ofNat 0), AV.int IntKind.u8 (Int.ofNat 0), AV.int IntKind.u8 (Int.ofNat 0), AV.int IntKind.u8 (Int.ofNat 0), AV.int IntKind.u8 (Int.ofNat 0), AV.int IntKind.u8 (Int.ofNat 0), AV.int IntKind.u8 (Int.ofNat 0), AV.int IntKind.u8 (Int.ofNat 0), AV.int IntKind.u8 (Int.ofNat 0), AV.int IntKind.u8 (Int.ofNat 0), AV.int IntKind.u8 (Int.ofNat 0), AV.int IntKind.u8 (Int.ofNat 0), AV.int IntKind.u8 (Int.ofNat 0), AV.int IntKind.u8 (Int.ofNat 0), AV.int IntKind.u8 (Int.ofNat 0), AV.int IntKind.u8 (Int.ofNat 0), AV.int IntKind.u8 (Int.ofNat 0), AV.int IntKind.u8 (Int.ofNat 0), AV.int IntKind.u8 (Int.ofNat 0), AV.int IntKind.u8 (Int.ofNat 0), AV.int IntKind.u8 (Int.ofNat 0), AV.int IntKind.u8 (Int.ofNat 0), AV.int IntKind.u8 (Int.ofNat 0), AV.int IntKind.u8 (Int.ofNat 0), AV.int IntKind.u8 (Int.ofNat 0), AV.int IntKind.u8 (Int.ofNat 0), AV.int IntKind.u8 (Int.ofNat 0), AV.int IntKind.u8 (Int.ofNat 0), AV.int IntKind.u8 (Int.ofNat 0), AV.int IntKind.u8 (Int.ofNat 0), AV.int IntKind.u8 (Int.ofNat 0), AV.int IntKind.u8 (Int.ofNat 0), AV.int IntKind.u8 (Int.ofNat 0), AV.int IntKind.u8 (Int.ofNat 0), AV.int IntKind.u8 (Int.ofNat 0), AV.int IntKind.u8 (Int.ofNat 0), AV.int IntKind.u8 (Int.ofNat 0), AV.int IntKind.u8 (Int.ofNat 0), AV.int IntKind.u8 (Int.ofNat 0), AV.int IntKind.u8 (Int.ofNat 0), AV.int IntKind.u8 (Int.ofNat 0), AV.int IntKind.u8 (Int.ofNat 0), AV.int IntKind.u8 (Int.ofNat 0), AV.int IntKind.u8 (Int.ofNat 0), AV.int IntKind.u8 (Int.ofNat 0), AV.int IntKind.u8 (Int.ofNat 0), AV.int IntKind.u8 (Int.ofNat 0), AV.int IntKind.u8 (Int.ofNat 0), AV.int IntKind.u8 (Int.ofNat 0), AV.int IntKind.u8 (Int.ofNat 0), AV.int IntKind.u8 (Int.ofNat 0), AV.int IntKind.u8 (Int.ofNat 0), AV.int IntKind.u8 (Int.ofNat 0), AV.int IntKind.u8 (Int.ofNat 0), AV.int IntKind.u8 (Int.ofNat 0), AV.int IntKind.u8 (Int.ofNat 0), AV.int IntKind.u8 (Int.ofNat 0), AV.int IntKind.u8 (Int.ofNat 0), AV.int IntKind.u8 (Int.ofNat 0), AV.int IntKind.u8 (Int.ofNat 0), AV.int IntKind.u8 (Int.ofNat 0), AV.int IntKind.u8 (Int.ofNat 0), AV.int IntKind.u8 (Int.ofNat 0), AV.int IntKind.u8 (Int.ofNat 0), AV.int IntKind.u8 (Int.ofNat 0), AV.int IntKind.u8 (Int.ofNat 0), AV.int IntKind.u8 (Int.ofNat 0), AV.int IntKind.u8 (Int.ofNat 0), AV.int IntKind.u8 (Int.ofNat 0), AV.int IntKind.u8 (Int.ofNat 0), AV.int IntKind.u8 (Int.ofNat 0), AV.int IntKind.u8 (Int.ofNat 0), AV.int IntKind.u8 (Int.ofNat 0), AV.int IntKind.u8 (Int.ofNat 0), AV.int IntKind.u8 (Int.ofNat 0), AV.int IntKind.u8 (Int.ofNat 0), AV.int IntKind.u8 (Int.ofNat 0), AV.int IntKind.u8 (Int.ofNat 0), AV.int IntKind.u8 (Int.ofNat 0), AV.int IntKind.u8 (Int.ofNat 0), AV.int IntKind.u8 (Int.ofNat 0), AV.int IntKind.u8 (Int.ofNat 0), AV.int IntKind.u8 (Int.ofNat 0), AV.int IntKind.u8 (Int.ofNat 0), AV.int IntKind.u8 (Int.ofNat 0), AV.int IntKind.u8 (Int.ofNat 0), AV.int IntKind.u8 (Int.ofNat 0), AV.int IntKind.u8 (Int.ofNat 0), AV.int IntKind.u8 (Int.ofNat 0), AV.int IntKind.u8 (Int.ofNat 0), AV.int IntKind.u8 (Int.ofNat 0), AV.int IntKind.u8 (Int.ofNat 0), AV.int IntKind.u8 (Int.ofNat 0), AV.int IntKind.u8 (Int.ofNat 0), AV.int IntKind.u8 (Int.ofNat 0), AV.int IntKind.u8 (Int.ofNat 0), AV.int IntKind.u8 (Int.ofNat 0), AV.int IntKind.u8 (Int.ofNat 0), AV.int IntKind.u8 (Int.ofNat 0), AV.int IntKind.u8 (Int.ofNat 0), AV.int IntKind.u8 (Int.ofNat 0), AV.int IntKind.u8 (Int.ofNat 0), AV.int IntKind.u8 (Int.ofNat 0), AV.int IntKind.u8 (Int.ofNat 0), AV.int IntKind.u8 (Int.ofNat 0), AV.int IntKind.u8 (Int.ofNat 0), AV.int IntKind.u8 (Int.ofNat 0), AV.int IntKind.u8 (Int.ofNat 0), AV.int IntKind.u8 (Int.ofNat 0), AV.int IntKind.u8 (Int.ofNat 0), AV.int IntKind.u8 (Int.ofNat 0), AV.int IntKind.u8 (Int.ofNat 0), AV.int IntKind.u8 (Int.ofNat 0), AV.int IntKind.u8 (Int.ofNat 0), AV.int IntKind.u8 (Int.ofNat 0), AV.int IntKind.u8 (Int.ofNat 0), AV.int IntKind.u8 (Int.ofNat 0), AV.int IntKind.u8 (Int.ofNat 0), AV.int IntKind.u8 (Int.ofNat 0), AV.int IntKind.u8 (Int.ofNat 0), AV.int IntKind.u8 (Int.ofNat 0), AV.int IntKind.u8 (Int.ofNat 0), AV.int IntKind.u8 (Int.ofNat 0), AV.int IntKind.u8 (Int.ofNat 0), AV.int IntKind.u8 (Int.ofNat 0), AV.int IntKind.u8 (Int.ofNat 0), AV.int IntKind.u8 (Int.ofNat 0), AV.int IntKind.u8 (Int.ofNat 0), AV.int IntKind.u8 (Int.ofNat 0), AV.int IntKind.u8 (Int.ofNat 0), AV.int IntKind.u8 (Int.ofNat 0), AV.int IntKind.u8 (Int.ofNat 0), AV.int IntKind.u8 (Int.ofNat 0), AV.int IntKind.u8 (Int.ofNat 0), AV.int IntKind.u8 (Int.ofNat 0), AV.int IntKind.u8 (Int.ofNat 0), AV.int IntKind.u8 (Int.ofNat 0), AV.int IntKind.u8 (Int.ofNat 0), AV.int IntKind.u8 (Int.ofNat 0), AV.int IntKind.u8 (Int.ofNat 0), AV.int IntKind.u8 (Int.ofNat 0), AV.int IntKind.u8 (Int.ofNat 0), AV.int IntKind.u8 (Int.ofNat 0), AV.int IntKind.u8 (Int.ofNat 0), AV.int IntKind.u8 (Int.ofNat 0), AV.int IntKind.u8 (Int.ofNat 0), AV.int IntKind.u8 (Int.ofNat 0), AV.int IntKind.u8 (Int.ofNat 0), AV.int IntKind.u8 (Int.ofNat 0), AV.int IntKind.u8 (Int.ofNat 0), AV.int IntKind.u8 (Int.ofNat 0), AV.int IntKind.u8 (Int.ofNat 0), AV.int IntKind.u8 (Int.ofNat 0), AV.int IntKind.u8 (Int.ofNat 0), AV.int IntKind.u8 (Int.ofNat 0), AV.int IntKind.u8 (Int.ofNat 0), AV.int IntKind.u8 (Int.ofNat 0), AV.int IntKind.u8 (Int.ofNat 0), AV.int IntKind.u8 (Int.ofNat 0), AV.int IntKind.u8 (Int.ofNat 0), AV.int IntKind.u8 (Int.ofNat 0), AV.int IntKind.u8 (Int.ofNat 0), AV.int IntKind.u8 (Int.ofNat 0), AV.int IntKind.u8 (Int.ofNat 0), AV.int IntKind.u8 (Int.ofNat 0), AV.int IntKind.u8 (Int.ofNat 0), AV.int IntKind.u8 (Int.ofNat 0), AV.int IntKind.u8 (Int.ofNat 0), AV.int IntKind.u8 (Int.ofNat 0), AV.int IntKind.u8 (Int.ofNat 0), AV.int IntKind.u8 (Int.ofNat 0), AV.int IntKind.u8 (Int.ofNat 0), AV.int IntKind.u8 (Int.ofNat 0), AV.int IntKind.u8 (Int.ofNat 0), AV.int IntKind.u8 (Int.ofNat 0), AV.int IntKind.u8 (Int.ofNat 0), AV.int IntKind.u8 (Int.ofNat 0), AV.int IntKind.u8 (Int.ofNat 0), AV.int IntKind.u8 (Int.ofNat 0), AV.int IntKind.u8 (Int.ofNat 0), AV.int IntKind.u8 (Int.ofNat 0), AV.int IntKind.u8 (Int.ofNat 0), AV.int IntKind.u8 (Int.ofNat 0), AV.int IntKind.u8 (Int.ofNat 0), AV.int IntKind.u8 (Int.ofNat 0), AV.int IntKind.u8 (Int.ofNat 0), AV.int IntKind.u8 (Int.ofNat 0), AV.int IntKind.u8 (Int.ofNat 0), AV.int IntKind.u8 (Int.ofNat 0), AV.int IntKind.u8 (Int.ofNat 0), AV.int IntKind.u8 (Int.ofNat 0), AV.int IntKind.u8 (Int.ofNat 0), AV.int IntKind.u8 (Int.ofNat 0), AV.int IntKind.u8 (Int.ofNat 0), AV.int IntKind.u8 (Int.ofNat 0), AV.int IntKind.u8 (Int.ofNat 0), AV.int IntKind.u8 (Int.ofNat 0), AV.int IntKind.u8 (Int.ofNat 0), AV.int IntKind.u8 (Int.ofNat 0), AV.int IntKind.u8 (Int.ofNat 0), AV.int IntKind.u8 (Int.ofNat 0), AV.int IntKind.u8 (Int.ofNat 0), AV.int IntKind.u8 (Int.ofNat 0), AV.int IntKind.u8 (Int.ofNat 0), AV.int IntKind.u8 (Int.ofNat 0), AV.int IntKind.u8 (Int.ofNat 0), AV.int IntKind.u8 (Int.ofNat 0), AV.int IntKind.u8 (Int.ofNat 0), AV.int IntKind.u8 (Int.ofNat 0), AV.int IntKind.u8 (Int.ofNat 0), AV.int IntKind.u8 (Int.ofNat 0), AV.int IntKind.u8 (Int.ofNat 0), AV.int IntKind.u8 (Int.ofNat 0), AV.int IntKind.u8 (Int.ofNat 0), AV.int IntKind.u8 (Int.ofNat 0), AV.int IntKind.u8 (Int.ofNat 0), AV.int IntKind.u8 (Int.ofNat 0), AV.int IntKind.u8 (Int.ofNat 0), AV.int IntKind.u8 (Int.ofNat 0), AV.int IntKind.u8 (Int.ofNat 0), AV.int IntKind.u8 (Int.ofNat 0), AV.int IntKind.u8 (Int.ofNat 0), AV.int IntKind.u8 (Int.ofNat 0), AV.int IntKind.u8 (Int.ofNat 0), AV.int IntKind.u8 (Int.ofNat 0), AV.int IntKind.u8 (Int.ofNat 0), AV.int IntKind.u8 (Int.ofNat 0), AV.int IntKind.u8 (Int.ofNat 0), AV.int IntKind.u8 (Int.ofNat 0), AV.int IntKind.u8 (Int.ofNat 0), AV.int IntKind.u8 (Int.ofNat 0), AV.int IntKind.u8 (Int.ofNat 0), AV.int IntKind.u8 (Int.ofNat 0), AV.int IntKind.u8 (Int.ofNat 0), AV.int IntKind.u8 (Int.ofNat 0), AV.int IntKind.u8 (Int.ofNat 0), AV.int IntKind.u8 (Int.ofNat 0), AV.int IntKind.u8 (Int.ofNat 0), AV.int IntKind.u8 (Int.ofNat 0), AV.int IntKind.u8 (Int.ofNat 0), AV.int IntKind.u8 (Int.ofNat 0), AV.int IntKind.u8 (Int.ofNat 0), AV.int IntKind.u8 (Int.ofNat 0), AV.int IntKind.u8 (Int.ofNat 0), AV.int IntKind.u8 (Int.ofNat 0), AV.int IntKind.u8 (Int.ofNat 0), AV.int IntKind.u8 (Int.ofNat 0), AV.int IntKind.u8 (Int.ofNat 0), AV.int IntKind.u8 (Int.ofNat 0), AV.int IntKind.u8 (Int.ofNat 0), AV.int IntKind.u8 (Int.ofNat 0), AV.int IntKind.u8 (Int.ofNat 0), AV.int IntKind.u8 (Int.ofNat 0), AV.int IntKind.u8 (Int.ofNat 0), AV.int IntKind.u8 (Int.ofNat 0), AV.int IntKind.u8 (Int.ofNat 0), AV.int IntKind.u8 (Int.ofNat 0), AV.int IntKind.u8 (Int.ofNat 0), AV.int IntKind.u8 (Int.ofNat 0), AV.int IntKind.u8 (Int.ofNat 0), AV.int IntKind.u8 (Int.ofNat 0), AV.int IntKind.u8 (Int.ofNat 0), AV.int IntKind.u8 (Int.ofNat 0), AV.int IntKind.u8 (Int.ofNat 0), AV.int IntKind.u8 (Int.ofNat 0), AV.int IntKind.u8 (Int.ofNat 0), AV.int IntKind.u8 (Int.ofNat 0), AV.int IntKind.u8 (Int.ofNat 0), AV.int IntKind.u8 (Int.ofNat 0), AV.int IntKind.u8 (Int.ofNat 0), AV.int IntKind.u8 (Int.ofNat 0), AV.int IntKind.u8 (Int.ofNat 0), AV.int IntKind.u8 (Int.ofNat 0), AV.int IntKind.u8 (Int.ofNat 0), AV.int IntKind.u8 (Int.ofNat 0), AV.int IntKind.u8 (Int.ofNat 0), AV.int IntKind.u8 (Int.ofNat 0), AV.int IntKind.u8 (Int.ofNat 0), AV.int IntKind.u8 (Int.ofNat 0), AV.int IntKind.u8 (Int.ofNat 0), AV.int IntKind.u8 (Int.ofNat 0), AV.int IntKind.u8 (Int.ofNat 0), AV.int IntKind.u8 (Int.ofNat 0), AV.int IntKind.u8 (Int.ofNat 0), AV.int IntKind.u8 (Int.ofNat 0), AV.int IntKind.u8 (Int.ofNat 0), AV.int IntKind.u8 (Int.ofNat 0), AV.int IntKind.u8 (Int.ofNat 0), AV.int IntKind.u8 (Int.ofNat 0), AV.int IntKind.u8 (Int.ofNat 0), AV.int IntKind.u8 (Int.ofNat 0), AV.int IntKind.u8 (Int.ofNat 0), AV.int IntKind.u8 (Int.ofNat 0), AV.int IntKind.u8 (Int.ofNat 0), AV.int IntKind.u8 (Int.ofNat 0), AV.int IntKind.u8 (Int.ofNat 0), AV.int IntKind.u8 (Int.ofNat 0), AV.int IntKind.u8 (Int.ofNat 0), AV.int IntKind.u8 (Int.ofNat 0), AV.int IntKind.u8 (Int.ofNat 0), AV.int IntKind.u8 (Int.ofNat 0), AV.int IntKind.u8 (Int.ofNat 0), AV.int IntKind.u8 (Int.ofNat 0), AV.int IntKind.u8 (Int.ofNat 0), AV.int IntKind.u8 (Int.ofNat 0), AV.int IntKind.u8 (Int.ofNat 0), AV.int IntKind.u8 (Int.ofNat 0), AV.int IntKind.u8 (Int.ofNat 0), AV.int IntKind.u8 (Int.ofNat 0), AV.int IntKind.u8 (Int.ofNat 0), AV.int IntKind.u8 (Int.ofNat 0), AV.int IntKind.u8 (Int.ofNat 0), AV.int IntKind.u8 (Int.ofNat 0), AV.int IntKind.u8 (Int.ofNat 0), AV.int IntKind.u8 (Int.ofNat 0), AV.int IntKind.u8 (Int.ofNat 0), AV.int IntKind.u8 (Int.ofNat 0), AV.int IntKind.u8 (Int.ofNat 0), AV.int IntKind.u8 (Int.ofNat 0), AV.int IntKind.u8 (Int.ofNat 0), AV.int IntKind.u8 (Int.ofNat 0)]).length (kept (ofBytes [UInt8.ofNat 76, UInt8.ofNat 67, UInt8.ofNat (AV.int IntKind.u8 (AV.int IntKind.u8 s).intOf).intOf.toNat, UInt8.ofNat (AV.int IntKind.u8 (AV.int IntKind.u8 c).intOf).intOf.toNat, UInt8.ofNat ((AV.int IntKind.u64 g).intOf.toNat / 72057594037927936), UInt8.ofNat ((AV.int IntKind.u64 g).intOf.toNat / 281474976710656), UInt8.ofNat ((AV.int IntKind.u64 g).intOf.toNat / 1099511627776), UInt8.ofNat ((AV.int IntKind.u64 g).intOf.toNat / 4294967296), UInt8.ofNat ((AV.int IntKind.u64 g).intOf.toNat / 16777216), UInt8.ofNat ((AV.int IntKind.u64 g).intOf.toNat / 65536), UInt8.ofNat ((AV.int IntKind.u64 g).intOf.toNat / 256), UInt8.ofNat ((AV.int IntKind.u64 g).intOf.toNat / 1)]) ++ [AV.int IntKind.u8 (Int.ofNat 0), AV.int IntKind.u8 (Int.ofNat 0), AV.int IntKind.u8 (Int.ofNat 0), AV.int IntKind.u8 (Int.ofNat 0), AV.int IntKind.u8 (Int.ofNat 0), AV.int IntKind.u8 (Int.ofNat 0), AV.int IntKind.u8 (Int.ofNat 0), AV.int IntKind.u8 (Int.ofNat 0), AV.int IntKind.u8 (Int.ofNat 0), AV.int IntKind.u8 (Int.ofNat 0), AV.int IntKind.u8 (Int.ofNat 0), AV.int IntKind.u8 (Int.ofNat 0), AV.int IntKind.u8 (Int.ofNat 0), AV.int IntKind.u8 (Int.ofNat 0), AV.int IntKind.u8 (Int.ofNat 0), AV.int IntKind.u8 (Int.ofNat 0), AV.int IntKind.u8 (Int.ofNat 0), AV.int IntKind.u8 (Int.ofNat 0), AV.int IntKind.u8 (Int.ofNat 0), AV.int IntKind.u8 (Int.ofNat 0), AV.int IntKind.u8 (Int.ofNat 0), AV.int IntKind.u8 (Int.ofNat 0), AV.int IntKind.u8 (Int.ofNat 0), AV.int IntKind.u8 (Int.ofNat 0), AV.int IntKind.u8 (Int.ofNat 0), AV.int IntKind.u8 (Int.ofNat 0), AV.int IntKind.u8 (Int.ofNat 0), AV.int IntKind.u8 (Int.ofNat 0), AV.int IntKind.u8 (Int.ofNat 0), AV.int IntKind.u8 (Int.ofNat 0), AV.int IntKind.u8 (Int.ofNat 0), AV.int IntKind.u8 (Int.ofNat 0), AV.int IntKind.u8 (Int.ofNat 0), AV.int IntKind.u8 (Int.ofNat 0), AV.int IntKind.u8 (Int.ofNat 0), AV.int IntKind.u8 (Int.ofNat 0), AV.int IntKind.u8 (Int.ofNat 0), AV.int IntKind.u8 (Int.ofNat 0), AV.int IntKind.u8 (Int.ofNat 0), AV.int IntKind.u8 (Int.ofNat 0), AV.int IntKind.u8 (Int.ofNat 0), AV.int IntKind.u8 (Int.ofNat 0), AV.int IntKind.u8 (Int.ofNat 0), AV.int IntKind.u8 (Int.ofNat 0), AV.int IntKind.u8 (Int.ofNat 0), AV.int IntKind.u8 (Int.ofNat 0), AV.int IntKind.u8 (Int.ofNat 0), AV.int IntKind.u8 (Int.ofNat 0), AV.int IntKind.u8 (Int.ofNat 0), AV.int IntKind.u8 (Int.ofNat 0), AV.int IntKind.u8 (Int.ofNat 0), AV.int IntKind.u8 (Int.ofNat 0), AV.int IntKind.u8 (Int.ofNat 0), AV.int IntKind.u8 (Int.ofNat 0), AV.int IntKind.u8 (Int.ofNat 0), AV.int IntKind.u8 (Int.ofNat 0), AV.int IntKind.u8 (Int.ofNat 0), AV.int IntKind.u8 (Int.ofNat 0), AV.int IntKind.u8 (Int.ofNat 0), AV.int IntKind.u8 (Int.ofNat 0), AV.int IntKind.u8 (Int.ofNat 0), AV.int IntKind.u8 (Int.ofNat 0), AV.int IntKind.u8 (Int.ofNat 0), AV.int IntKind.u8 (Int.ofNat 0), AV.int IntKind.u8 (Int.ofNat 0), AV.int IntKind.u8 (Int.ofNat 0), AV.int IntKind.u8 (Int.ofNat 0), AV.int IntKind.u8 (Int.ofNat 0), AV.int IntKind.u8 (Int.ofNat 0), AV.int IntKind.u8 (Int.ofNat 0), AV.int IntKind.u8 (Int.ofNat 0), AV.int IntKind.u8 (Int.ofNat 0), AV.int IntKind.u8 (Int.ofNat 0), AV.int IntKind.u8 (Int.ofNat 0), AV.int IntKind.u8 (Int.ofNat 0), AV.int IntKind.u8 (Int.ofNat 0), AV.int IntKind.u8 (Int.ofNat 0), AV.int IntKind.u8 (Int.ofNat 0), AV.int IntKind.u8 (Int.ofNat 0), AV.int IntKind.u8 (Int.ofNat 0), AV.int IntKind.u8 (Int.ofNat 0), AV.int IntKind.u8 (Int.ofNat 0), AV.int IntKind.u8 (Int.ofNat 0), AV.int IntKind.u8 (Int.ofNat 0), AV.int IntKind.u8 (Int.ofNat 0), AV.int IntKind.u8 (Int.ofNat 0), AV.int IntKind.u8 (Int.ofNat 0), AV.int IntKind.u8 (Int.ofNat 0), AV.int IntKind.u8 (Int.ofNat 0), AV.int IntKind.u8 (Int.ofNat 0), AV.int IntKind.u8 (Int.ofNat 0), AV.int IntKind.u8 (Int.ofNat 0), AV.int IntKind.u8 (Int.ofNat 0), AV.int IntKind.u8 (Int.ofNat 0), AV.int IntKind.u8 (Int.ofNat 0), AV.int IntKind.u8 (Int.ofNat 0), AV.int IntKind.u8 (Int.ofNat 0), AV.int IntKind.u8 (Int.ofNat 0), AV.int IntKind.u8 (Int.ofNat 0), AV.int IntKind.u8 (Int.ofNat 0), AV.int IntKind.u8 (Int.ofNat 0), AV.int IntKind.u8 (Int.ofNat 0), AV.int IntKind.u8 (Int.ofNat 0), AV.int IntKind.u8 (Int.ofNat 0), AV.int IntKind.u8 (Int.ofNat 0), AV.int IntKind.u8 (Int.ofNat 0), AV.int IntKind.u8 (Int.ofNat 0), AV.int IntKind.u8 (Int.ofNat 0), AV.int IntKind.u8 (Int.ofNat 0), AV.int IntKind.u8 (Int.ofNat 0), AV.int IntKind.u8 (Int.ofNat 0), AV.int IntKind.u8 (Int.ofNat 0), AV.int IntKind.u8 (Int.ofNat 0), AV.int IntKind.u8 (Int.ofNat 0), AV.int IntKind.u8 (Int.ofNat 0), AV.int IntKind.u8 (Int.ofNat 0), AV.int IntKind.u8 (Int.ofNat 0), AV.int IntKind.u8 (Int.ofNat 0), AV.int IntKind.u8 (Int.ofNat 0), AV.int IntKind.u8 (Int.ofNat 0), AV.int IntKind.u8 (Int.ofNat 0), AV.int IntKind.u8 (Int.ofNat 0), AV.int IntKind.u8 (Int.ofNat 0), AV.int IntKind.u8 (Int.ofNat 0), AV.int IntKind.u8 (Int.ofNat 0), AV.int IntKind.u8 (Int.ofNat 0), AV.int IntKind.u8 (Int.ofNat 0), AV.int IntKind.u8 (Int.ofNat 0), AV.int IntKind.u8 (Int.ofNat 0), AV.int IntKind.u8 (Int.ofNat 0), AV.int IntKind.u8 (Int.ofNat 0), AV.int IntKind.u8 (Int.ofNat 0), AV.int IntKind.u8 (Int.ofNat 0), AV.int IntKind.u8 (Int.ofNat 0), AV.int IntKind.u8 (Int.ofNat 0), AV.int IntKind.u8 (Int.ofNat 0), AV.int IntKind.u8 (Int.ofNat 0), AV.int IntKind.u8 (Int.ofNat 0), AV.int IntKind.u8 (Int.ofNat 0), AV.int IntKind.u8 (Int.ofNat 0), AV.int IntKind.u8 (Int.ofNat 0), AV.int IntKind.u8 (Int.ofNat 0), AV.int IntKind.u8 (Int.ofNat 0), AV.int IntKind.u8 (Int.ofNat 0), AV.int IntKind.u8 (Int.ofNat 0), AV.int IntKind.u8 (Int.ofNat 0), AV.int IntKind.u8 (Int.ofNat 0), AV.int IntKind.u8 (Int.ofNat 0), AV.int IntKind.u8 (Int.ofNat 0), AV.int IntKind.u8 (Int.ofNat 0), AV.int IntKind.u8 (Int.ofNat 0), AV.int IntKind.u8 (Int.ofNat 0), AV.int IntKind.u8 (Int.ofNat 0), AV.int IntKind.u8 (Int.ofNat 0), AV.int IntKind.u8 (Int.ofNat 0), AV.int IntKind.u8 (Int.ofNat 0), AV.int IntKind.u8 (Int.ofNat 0), AV.int IntKind.u8 (Int.ofNat 0), AV.int IntKind.u8 (Int.ofNat 0), AV.int IntKind.u8 (Int.ofNat 0), AV.int IntKind.u8 (Int.ofNat 0), AV.int IntKind.u8 (Int.ofNat 0), AV.int IntKind.u8 (Int.ofNat 0), AV.int IntKind.u8 (Int.ofNat 0), AV.int IntKind.u8 (Int.ofNat 0), AV.int IntKind.u8 (Int.ofNat 0), AV.int IntKind.u8 (Int.ofNat 0), AV.int IntKind.u8 (Int.ofNat 0), AV.int IntKind.u8 (Int.ofNat 0), AV.int IntKind.u8 (Int.ofNat 0), AV.int IntKind.u8 (Int.ofNat 0), AV.int IntKind.u8 (Int.ofNat 0), AV.int IntKind.u8 (Int.ofNat 0), AV.int IntKind.u8 (Int.ofNat 0), AV.int IntKind.u8 (Int.ofNat 0), AV.int IntKind.u8 (Int.ofNat 0), AV.int IntKind.u8 (Int.ofNat 0), AV.int IntKind.u8 (Int.ofNat 0), AV.int IntKind.u8 (Int.ofNat 0), AV.int IntKind.u8 (Int.ofNat 0), AV.int IntKind.u8 (Int.ofNat 0), AV.int IntKind.u8 (Int.ofNat 0), AV.int IntKind.u8 (Int.ofNat 0), AV.int IntKind.u8 (Int.ofNat 0), AV.int IntKind.u8 (Int.ofNat 0), AV.int IntKind.u8 (Int.ofNat 0), AV.int IntKind.u8 (Int.ofNat 0), AV.int IntKind.u8 (Int.ofNat 0), AV.int IntKind.u8 (Int.ofNat 0), AV.int IntKind.u8 (Int.ofNat 0), AV.int IntKind.u8 (Int.ofNat 0), AV.int IntKind.u8 (Int.ofNat 0), AV.int IntKind.u8 (Int.ofNat 0), AV.int IntKind.u8 (Int.ofNat 0), AV.int IntKind.u8 (Int.ofNat 0), AV.int IntKind.u8 (Int.ofNat 0), AV.int IntKind.u8 (Int.ofNat 0), AV.int IntKind.u8 (Int.ofNat 0), AV.int IntKind.u8 (Int.ofNat 0), AV.int IntKind.u8 (Int.ofNat 0), AV.int IntKind.u8 (Int.ofNat 0), AV.int IntKind.u8 (Int.ofNat 0), AV.int IntKind.u8 (Int.ofNat 0), AV.int IntKind.u8 (Int.ofNat 0), AV.int IntKind.u8 (Int.ofNat 0), AV.int IntKind.u8 (Int.ofNat 0), AV.int IntKind.u8 (Int.ofNat 0), AV.int IntKind.u8 (Int.ofNat 0), AV.int IntKind.u8 (Int.ofNat 0), AV.int IntKind.u8 (Int.ofNat 0), AV.int IntKind.u8 (Int.ofNat 0), AV.int IntKind.u8 (Int.ofNat 0), AV.int IntKind.u8 (Int.ofNat 0), AV.int IntKind.u8 (Int.ofNat 0), AV.int IntKind.u8 (Int.ofNat 0), AV.int IntKind.u8 (Int.ofNat 0), AV.int IntKind.u8 (Int.ofNat 0), AV.int IntKind.u8 (Int.ofNat 0), AV.int IntKind.u8 (Int.ofNat 0), AV.int IntKind.u8 (Int.ofNat 0), AV.int IntKind.u8 (Int.ofNat 0), AV.int IntKind.u8 (Int.ofNat 0), AV.int IntKind.u8 (Int.ofNat 0), AV.int IntKind.u8 (Int.ofNat 0), AV.int IntKind.u8 (Int.ofNat 0), AV.int IntKind.u8 (Int.ofNat 0), AV.int IntKind.u8 (Int.ofNat 0), AV.int IntKind.u8 (Int.ofNat 0), AV.int IntKind.u8 (Int.ofNat 0), AV.int IntKind.u8 (Int.ofNat 0), AV.int IntKind.u8 (Int.ofNat 0), AV.int IntKind.u8 (Int.ofNat 0), AV.int IntKind.u8 (Int.ofNat 0), AV.int IntKind.u8 (Int.ofNat 0), AV.int IntKind.u8 (Int.ofNat 0), AV.int IntKind.u8 (Int.ofNat 0), AV.int IntKind.u8 (Int.ofNat 0), AV.int IntKind.u8 (Int.ofNat 0), AV.int IntKind.u8 (Int.ofNat 0), AV.int IntKind.u8 (Int.ofNat 0), AV.int IntKind.u8 (Int.ofNat 0), AV.int IntKind.u8 (Int.ofNat 0), AV.int IntKind.u8 (Int.ofNat 0), AV.int IntKind.u8 (Int.ofNat 0), AV.int IntKind.u8 (Int.ofNat 0), AV.int IntKind.u8 (Int.ofNat 0), AV.int IntKind.u8 (Int.ofNat 0), AV.int IntKind.u8 (Int.ofNat 0), AV.int IntKind.u8 (Int.ofNat 0), AV.int IntKind.u8 (Int.ofNat 0), AV.int IntKind.u8 (Int.ofNat 0), AV.int IntKind.u8 (Int.ofNat 0), AV.int IntKind.u8 (Int.ofNat 0), AV.int IntKind.u8 (Int.ofNat 0), AV.int IntKind.u8 (Int.ofNat 0), AV.int IntKind.u8 (Int.ofNat 0), AV.int IntKind.u8 (Int.ofNat 0), AV.int IntKind.u8 (Int.ofNat 0), AV.int IntKind.u8 (Int.ofNat 0), AV.int IntKind.u8 (Int.ofNat 0), AV.int IntKind.u8 (Int.ofNat 0), AV.int IntKind.u8 (Int.ofNat 0), AV.int IntKind.u8 (Int.ofNat 0), AV.int IntKind.u8 (Int.ofNat 0), AV.int IntKind.u8 (Int.ofNat 0), AV.int IntKind.u8 (Int.ofNat 0), AV.int IntKind.u8 (Int.ofNat 0), AV.int IntKind.u8 (Int.ofNat 0), AV.int IntKind.u8 (Int.ofNat 0), AV.int IntKind.u8 (Int.ofNat 0), AV.int IntKind.u8 (Int.ofNat 0), AV.int IntKind.u8 (Int.ofNat 0), AV.int IntKind.u8 (Int.ofNat 0), AV.int IntKind.u8 (Int.ofNat 0), AV.int IntKind.u8 (Int.ofNat 0), AV.int IntKind.u8 (Int.ofNat 0), AV.int IntKind.u8 (Int.ofNat 0), AV.int IntKind.u8 (Int.ofNat 0), AV.int IntKind.u8 (Int.ofNat 0), AV.int IntKind.u8 (Int.ofNat 0), AV.int IntKind.u8 (Int.ofNat 0), AV.int IntKind.u8 (Int.ofNat 0), AV.int IntKind.u8 (Int.ofNat 0), AV.int IntKind.u8 (Int.ofNat 0), AV.int IntKind.u8 (Int.ofNat 0), AV.int IntKind.u8 (Int.ofNat 0), AV.int IntKind.u8 (Int.ofNat 0), AV.int IntKind.u8 (Int.ofNat 0), AV.int IntKind.u8 (Int.ofNat 0), AV.int IntKind.u8 (Int.ofNat 0), AV.int IntKind.u8 (Int.ofNat 0), AV.int IntKind.u8 (Int.ofNat 0), AV.int IntKind.u8 (Int.ofNat 0), AV.int IntKind.u8 (Int.ofNat 0), AV.int IntKind.u8 (Int.ofNat 0), AV.int IntKind.u8 (Int.ofNat 0), AV.int IntKind.u8 (Int.ofNat 0), AV.int IntKind.u8 (Int.ofNat 0), AV.int IntKind.u8 (Int.ofNat 0), AV.int IntKind.u8 (Int.ofNat 0), AV.int IntKind.u8 (Int.ofNat 0), AV.int IntKind.u8 (Int.ofNat 0), AV.int IntKind.u8 (Int.ofNat 0), AV.int IntKind.u8 (Int.ofNat 0), AV.int IntKind.u8 (Int.ofNat 0), AV.int IntKind.u8 (Int.ofNat 0), AV.int IntKind.u8 (Int.ofNat 0), AV.int IntKind.u8 (Int.ofNat 0), AV.int IntKind.u8 (Int.ofNat 0), AV.int IntKind.u8 (Int.ofNat 0), AV.int IntKind.u8 (Int.ofNat 0), AV.int IntKind.u8 (Int.ofNat 0), AV.int IntKind.u8 (Int.ofNat 0), AV.int IntKind.u8 (Int.ofNat 0), AV.int IntKind.u8 (Int.ofNat 0), AV.int IntKind.u8 (Int.ofNat 0), AV.int IntKind.u8 (Int.ofNat 0), AV.int IntKind.u8 (Int.ofNat 0), AV.int IntKind.u8 (Int.ofNat 0), AV.int IntKind.u8 (Int.ofNat 0), AV.int IntKind.u8 (Int.ofNat 0), AV.int IntKind.u8 (Int.ofNat 0), AV.int IntKind.u8 (Int.ofNat 0), AV.int IntKind.u8 (Int.ofNat 0), AV.int IntKind.u8 (Int.ofNat 0), AV.int IntKind.u8 (Int.ofNat 0), AV.int IntKind.u8 (Int.ofNat 0), AV.int IntKind.u8 (Int.ofNat 0), AV.int IntKind.u8 (Int.ofNat 0), AV.int IntKind.u8 (Int.ofNat 0), AV.int IntKind.u8 (Int.ofNat 0), AV.int IntKind.u8 (Int.ofNat 0), AV.int IntKind.u8 (Int.ofNat 0), AV.int IntKind.u8 (Int.ofNat 0), AV.int IntKind.u8 (Int.ofNat 0), AV.int IntKind.u8 (Int.ofNat 0), AV.int IntKind.u8 (Int.ofNat 0), AV.int IntKind.u8 (Int.ofNat 0), AV.int IntKind.u8 (Int.ofNat 0), AV.int IntKind.u8 (Int.ofNat 0), AV.int IntKind.u8 (Int.ofNat 0), AV.int IntKind.u8 (Int.ofNat 0), AV.int IntKind.u8 (Int.ofNat 0), AV.int IntKind.u8 (Int.ofNat 0), AV.int IntKind.u8 (Int.ofNat 0), AV.int IntKind.u8 (Int.ofNat 0), AV.int IntKind.u8 (Int.ofNat 0), AV.int IntKind.u8 (Int.ofNat 0), AV.int IntKind.u8 (Int.ofNat 0), AV.int IntKind.u8 (Int.ofNat 0), AV.int IntKind.u8 (Int.ofNat 0), AV.int IntKind.u8 (Int.ofNat 0), AV.int IntKind.u8 (Int.ofNat 0), AV.int IntKind.u8 (Int.ofNat 0), AV.int IntKind.u8 (Int.ofNat 0), AV.int IntKind.u8 (Int.ofNat 0), AV.int IntKind.u8 (Int.ofNat 0), AV.int IntKind.u8 (Int.ofNat 0), AV.int IntKind.u8 (Int.ofNat 0), AV.int IntKind.u8 (Int.ofNat 0), AV.int IntKind.u8 (Int.ofNat 0), AV.int IntKind.u8 (Int.ofNat 0), AV.int IntKind.u8 (Int.ofNat 0), AV.int IntKind.u8 (Int.ofNat 0), AV.int IntKind.u8 (Int.ofNat 0), AV.int IntKind.u8 (Int.ofNat 0), AV.int IntKind.u8 (Int.ofNat 0), AV.int IntKind.u8 (Int.ofNat 0), AV.int IntKind.u8 (Int.ofNat 0), AV.int IntKind.u8 (Int.ofNat 0), AV.int IntKind.u8 (Int.ofNat 0), AV.int IntKind.u8 (Int.ofNat 0), AV.int IntKind.u8 (Int.ofNat 0), AV.int IntKind.u8 (Int.ofNat 0), AV.int IntKind.u8 (Int.ofNat 0), AV.int IntKind.u8 (Int.ofNat 0), AV.int IntKind.u8 (Int.ofNat 0), AV.int IntKind.u8 (Int.ofNat 0), AV.int IntKind.u8 (Int.ofNat 0), AV.int IntKind.u8 (Int.ofNat 0), AV.int IntKind.u8 (Int.ofNat 0), AV.int IntKind.u8 (Int.ofNat 0), AV.int IntKind.u8 (Int.ofNat 0), AV.int IntKind.u8 (Int.ofNat 0), AV.int IntKind.u8 (Int.ofNat 0), AV.int IntKind.u8 (Int.ofNat 0), AV.int IntKind.u8 (Int.ofNat 0), AV.int IntKind.u8 (Int.ofNat 0), AV.int IntKind.u8 (Int.ofNat 0), AV.int IntKind.u8 (Int.ofNat 0), AV.int IntKind.u8 (Int.ofNat 0), AV.int IntKind.u8 (Int.ofNat 0), AV.int IntKind.u8 (Int.ofNat 0), AV.int IntKind.u8 (Int.ofNat 0), AV.int IntKind.u8 (Int.ofNat 0), AV.int IntKind.u8 (Int.ofNat 0), AV.int IntKind.u8 (Int.ofNat 0), AV.int IntKind.u8 (Int.ofNat 0), AV.int IntKind.u8 (Int.ofNat 0), AV.int IntKind.u8 (Int.ofNat 0), AV.int IntKind.u8 (Int.ofNat 0), AV.int IntKind.u8 (Int.ofNat 0), AV.int IntKind.u8 (Int.ofNat 0), AV.int IntKind.u8 (Int.ofNat 0), AV.int IntKind.u8 (Int.ofNat 0), AV.int IntKind.u8 (Int.ofNat 0), AV.int IntKind.u8 (Int.ofNat 0), AV.int IntKind.u8 (Int.ofNat 0), AV.int IntKind.u8 (Int.ofNat 0), AV.int IntKind.u8 (Int.ofNat 0), AV.int IntKind.u8 (Int.ofNat 0), AV.int IntKind.u8 (Int.ofNat 0), AV.int IntKind.u8 (Int.ofNat 0), AV.int IntKind.u8 (Int.ofNat 0), AV.int IntKind.u8 (Int.ofNat 0), AV.int IntKind.u8 (Int.ofNat 0), AV.int IntKind.u8 (Int.ofNat 0), AV.int IntKind.u8 (Int.ofNat 0), AV.int IntKind.u8 (Int.ofNat 0), AV.int IntKind.u8 (Int.ofNat 0), AV.int IntKind.u8 (Int.ofNat 0), AV.int IntKind.u8 (Int.ofNat 0), AV.int IntKind.u8 (Int.ofNat 0), AV.int IntKind.u8 (Int.ofNat 0), AV.int IntKind.u8 (Int.ofNat 0), AV.int IntKind.u8 (Int.ofNat 0), AV.int IntKind.u8 (Int.ofNat 0), AV.int IntKind.u8 (Int.ofNat 0), AV.int IntKind.u8 (Int.ofNat 0), AV.int IntKind.u8 (Int.ofNat 0), AV.int IntKind.u8 (Int.ofNat 0), AV.int IntKind.u8 (Int.ofNat 0), AV.int IntKind.u8 (Int.ofNat 0), AV.int IntKind.u8 (Int.ofNat 0), AV.int IntKind.u8 (Int.ofNat 0), AV.int IntKind.u8 (Int.ofNat 0), AV.int IntKind.u8 (Int.ofNat 0), AV.int IntKind.u8 (Int.ofNat 0), AV.int IntKind.u8 (Int.ofNat 0), AV.int IntKind.u8 (Int.ofNat 0), AV.int IntKind.u8 (Int.ofNat 0), AV.int IntKind.u8 (Int.ofNat 0), AV.int IntKind.u8 (Int.ofNat 0), AV.int IntKind.u8 (Int.ofNat 0), AV.int IntKind.u8 (Int.ofNat 0), AV.int IntKind.u8 (Int.ofNat 0), AV.int IntKind.u8 (Int.ofNat 0), AV.int IntKind.u8 (Int.ofNat 0), AV.int IntKind.u8 (Int.ofNat 0), AV.int IntKind.u8 (Int.ofNat 0), AV.int IntKind.u8 (Int.ofNat 0), AV.int IntKind.u8 (Int.ofNat 0), AV.int IntKind.u8 (Int.ofNat 0), AV.int IntKind.u8 (Int.ofNat 0), AV.int IntKind.u8 (Int.ofNat 0), AV.int IntKind.u8 (Int.ofNat 0), AV.int IntKind.u8 (Int.ofNat 0), AV.int IntKind.u8 (Int.ofNat 0), AV.int IntKind.u8 (Int.ofNat 0), AV.int IntKind.u8 (Int.ofNat 0), AV.int IntKind.u8 (Int.ofNat 0), AV.int IntKind.u8 (Int.ofNat 0), AV.int IntKind.u8 (Int.ofNat 0), AV.int IntKind.u8 (Int.ofNat 0), AV.int IntKind.u8 (Int.ofNat 0), AV.int IntKind.u8 (Int.ofNat 0), AV.int IntKind.u8 (Int.ofNat 0), AV.int IntKind.u8 (Int.ofNat 0), AV.int IntKind.u8 (Int.ofNat 0), AV.int IntKind.u8 (Int.ofNat 0), AV.int IntKind.u8 (Int.ofNat 0), AV.int IntKind.u8 (Int.ofNat 0), AV.int IntKind.u8 (Int.ofNat 0), AV.int IntKind.u8 (Int.ofNat 0), AV.int IntKind.u8 (Int.ofNat 0), AV.int IntKind.u8 (Int.ofNat 0), AV.int IntKind.u8 (Int.ofNat 0), AV.int IntKind.u8 (Int.ofNat 0), AV.int IntKind.u8 (Int.ofNat 0), AV.int IntKind.u8 (Int.ofNat 0), AV.int IntKind.u8 (Int.ofNat 0), AV.int IntKind.u8 (Int.ofNat 0), AV.int IntKind.u8 (Int.ofNat 0), AV.int IntKind.u8 (Int.ofNat 0), AV.int IntKind.u8 (Int.ofNat 0), AV.int IntKind.u8 (Int.ofNat 0), AV.int IntKind.u8 (Int.ofNat 0), AV.int IntKind.u8 (Int.ofNat 0), AV.int IntKind.u8 (Int.ofNat 0), AV.int IntKind.u8 (Int.ofNat 0), AV.int IntKind.u8 (Int.ofNat 0), AV.int IntKind.u8 (Int.ofNat 0), AV.int IntKind.u8 (Int.ofNat 0), AV.int IntKind.u8 (Int.ofNat 0), AV.int IntKind.u8 (Int.ofNat 0), AV.int IntKind.u8 (Int.ofNat 0), AV.int IntKind.u8 (Int.ofNat 0), AV.int IntKind.u8 (Int.ofNat 0), AV.int IntKind.u8 (Int.ofNat 0), AV.int IntKind.u8 (Int.ofNat 0)])] :=
  call_runT (q := (oc 4 (.y :: (.y :: (oc 3 (.y :: (.y :: (.z :: (oc 28 (.y :: (oc 1 (.y :: (.y :: (oc 20 (.y :: (oc 4 (.y :: (oc 6 (.y :: (oc 5 (.y :: (oc 3 (.y :: (oc 2 [])))))))))))))))))))))))) (c := (Cnd.tst _ true :: Cnd.tst _ true :: Cnd.tst _ true :: Cnd.tst _ true :: Cnd.tst _ false :: Cnd.tst _ true :: Cnd.tst _ true :: Cnd.tst _ true :: Cnd.same (AV.int IntKind.u8 (AV.int IntKind.u8 s).intOf) (AV.int IntKind.u8 (AV.int IntKind.u8 s).intOf) :: Cnd.same (AV.int IntKind.u8 (AV.int IntKind.u8 c).intOf) (AV.int IntKind.u8 (AV.int IntKind.u8 c).intOf) :: Cnd.same (AV.agg [AV.int IntKind.u8 (AV.int IntKind.u8 s).intOf, AV.int IntKind.u8 (AV.int IntKind.u8 c).intOf]) (AV.agg [AV.int IntKind.u8 (AV.int IntKind.u8 s).intOf, AV.int IntKind.u8 (AV.int IntKind.u8 c).intOf]) :: Cnd.same (AV.int IntKind.u64 (AV.int IntKind.u64 g).intOf) (AV.int IntKind.u64 (AV.int IntKind.u64 g).intOf) :: Cnd.same (AV.int IntKind.u64 (AV.int IntKind.u64 g).intOf) (AV.int IntKind.u64 (AV.int IntKind.u64 g).intOf) :: [])) (by kernel_rfl) ⟨h0, h0, h0, h0, h1, h2, h3, h4, rfl, rfl, rfl, rfl, rfl, trivial⟩
theorem rc_no1 (s : Int) (c : Int) (g : Int) (h0 : (iltB (Int.ofNat 2) s) = true) :
    ∃ h', aCall C6 60 (Tgt.fn 42) [AV.int IntKind.u8 s, AV.int IntKind.u8 c, AV.int IntKind.u64 g] H0 = some (AV.str [], h') ∧ [].map h'.get = [] :=
  call_runT (q := (.y :: (.y :: (.y :: (oc 1 []))))) (c := (Cnd.tst _ true :: Cnd.tst _ true :: Cnd.tst _ true :: [])) (by kernel_rfl) ⟨h0, h0, h0, trivial⟩
theorem rc_no2 (s : Int) (c : Int) (g : Int) (h0 : (iltB (Int.ofNat 2) s) = false) (h1 : (iltB (Int.ofNat 16) c) = true) :
    ∃ h', aCall C6 60 (Tgt.fn 42) [AV.int IntKind.u8 s, AV.int IntKind.u8 c, AV.int IntKind.u64 g] H0 = some (AV.str [], h') ∧ [].map h'.get = [] :=
  call_runT (q := (.z :: (.z :: (.z :: (.y :: []))))) (c := (Cnd.tst _ false :: Cnd.tst _ false :: Cnd.tst _ false :: Cnd.tst _ true :: [])) (by kernel_rfl) ⟨h0, h0, h0, h1, trivial⟩
theorem rc_ok (s : Int) (c : Int) (g : Int) (h0 : (iltB (Int.ofNat 2) s) = false) (h1 : (iltB (Int.ofNat 16) c) = false) (h2 : (ileB (Int.ofNat 0) g) = true) (h3 : (iltB g (Int.ofNat 18446744073709551616)) = true) (h4 : (AV.plainL (AV.int IntKind.u8 (Int.ofNat 76) :: AV.int IntKind.u8 (Int.ofNat 67) :: AV.int IntKind.u8 s :: AV.int IntKind.u8 c :: rowCut (kept (ofBytes (putB 8 g.toNat))) 0 8)) = true) (h5 : (u8L (AV.int IntKind.u8 (Int.ofNat 76) :: AV.int IntKind.u8 (Int.ofNat 67) :: AV.int IntKind.u8 s :: AV.int IntKind.u8 c :: rowCut (kept (ofBytes (putB 8 g.toNat))) 0 8)) = true) (h6 : ((AV.int IntKind.u8 (Int.ofNat 76) :: AV.int IntKind.u8 (Int.ofNat 67) :: AV.int IntKind.u8 s :: AV.int IntKind.u8 c :: rowCut (kept (ofBytes (putB 8 g.toNat))) 0 8).length.beq 12) = true) (h7 : ((bytesOf (rowCut (kept (ofBytes (padB 512 (bytesL (AV.int IntKind.u8 (Int.ofNat 76) :: AV.int IntKind.u8 (Int.ofNat 67) :: AV.int IntKind.u8 s :: AV.int IntKind.u8 c :: rowCut (kept (ofBytes (putB 8 g.toNat))) 0 8))))) 0 512)).isSome) = true) :
    ∃ h', aCall C6 60 (Tgt.fn 42) [AV.int IntKind.u8 s, AV.int IntKind.u8 c, AV.int IntKind.u64 g] H0 = some (AV.str ((bytesOf (rowCut (kept (ofBytes (padB 512 (bytesL (AV.int IntKind.u8 (Int.ofNat 76) :: AV.int IntKind.u8 (Int.ofNat 67) :: AV.int IntKind.u8 s :: AV.int IntKind.u8 c :: rowCut (kept (ofBytes (putB 8 g.toNat))) 0 8))))) 0 512)).getD []), h') ∧ [].map h'.get = [] :=
  call_runT (q := (.z :: (.z :: (.z :: (.z :: (oc 10 (.y :: (.y :: (oc 7 (.y :: (.y :: (.y :: (.y :: (oc 2 (.y :: []))))))))))))))) (c := (Cnd.tst _ false :: Cnd.tst _ false :: Cnd.tst _ false :: Cnd.tst _ false :: Cnd.tst _ true :: Cnd.tst _ true :: Cnd.code ((87, 0), szL).snd.lsumS.fst ((87, 0), szL).snd.lsumS.fst :: Cnd.tst _ true :: Cnd.tst _ true :: Cnd.tst _ true :: Cnd.tst _ true :: Cnd.tst _ true :: [])) (by kernel_rfl) ⟨h0, h0, h0, h1, h2, h3, rfl, h4, h5, h6, h6, h7, trivial⟩
theorem made_0 (a0 : Bool) (l0 : Nat) (cs0 : List AV) (h0 : ((min l0 512).beq 0) = true) :
    ∃ h', aCall C6a 60 (Tgt.fn 44) [AV.fsl a0 l0 cs0] H0 = some (AV.slice (some (0, 0)) 512 (some 512), h') ∧ [0, 1, 2].map h'.get = [Blk.cells true 5 512 (ofBytes (List.replicate 512 0)), Blk.dead, Blk.dead] :=
  call_runT (q := (oc 4 (.y :: []))) (c := (Cnd.tst _ true :: [])) (by kernel_rfl) ⟨h0, trivial⟩
theorem made_1 (a0 : Bool) (l0 : Nat) (cs0 : List AV) (h0 : ((min l0 512).beq 0) = false) (h1 : (cs0.length.beq (l0.mul 1)) = true) (h2 : ((rowCut cs0 0 (min l0 512 * 1)).all AV.isCell) = true) (h3 : ((0 + (rowCut cs0 0 (min l0 512 * 1)).length).ble 512) = true) :
    ∃ h', aCall C6a 60 (Tgt.fn 44) [AV.fsl a0 l0 cs0] H0 = some (AV.slice (some (0, 0)) 512 (some 512), h') ∧ [0, 1, 2].map h'.get = [Blk.cells true 5 512 (rowSet (ofBytes (List.replicate 512 0)) 0 (rowCut cs0 0 (min l0 512 * 1))), Blk.dead, Blk.dead] :=
  call_runT (q := (oc 4 (.z :: (.y :: (.y :: (.y :: [])))))) (c := (Cnd.tst _ false :: Cnd.tst _ true :: Cnd.tst _ true :: Cnd.tst _ true :: [])) (by kernel_rfl) ⟨h0, h1, h2, h3, trivial⟩
theorem gens_r (a0 : Bool) (l0 : Nat) (cs0 : List AV) (h0 : (cs0.length.beq (l0.mul 1)) = true) (h1 : (Nat.ble 12 l0) = true) (h2 : ((rowCut cs0 4 8).length.beq 8) = true) (h3 : (Nat.ble 1 (List.drop 0 (rowCut cs0 4 8)).length) = true) (h4 : (AV.isInt IntKind.u8 ((listAt (List.drop 0 (rowCut cs0 4 8)) 0).getD AV.undef)) = true) (h5 : (Nat.ble 1 (List.drop 1 (rowCut cs0 4 8)).length) = true) (h6 : (AV.isInt IntKind.u8 ((listAt (List.drop 1 (rowCut cs0 4 8)) 0).getD AV.undef)) = true) (h7 : (Nat.ble 1 (List.drop 2 (rowCut cs0 4 8)).length) = true) (h8 : (AV.isInt IntKind.u8 ((listAt (List.drop 2 (rowCut cs0 4 8)) 0).getD AV.undef)) = true) (h9 : (Nat.ble 1 (List.drop 3 (rowCut cs0 4 8)).length) = true) (h10 : (AV.isInt IntKind.u8 ((listAt (List.drop 3 (rowCut cs0 4 8)) 0).getD AV.undef)) = true) (h11 : (Nat.ble 1 (List.drop 4 (rowCut cs0 4 8)).length) = true) (h12 : (AV.isInt IntKind.u8 ((listAt (List.drop 4 (rowCut cs0 4 8)) 0).getD AV.undef)) = true) (h13 : (Nat.ble 1 (List.drop 5 (rowCut cs0 4 8)).length) = true) (h14 : (AV.isInt IntKind.u8 ((listAt (List.drop 5 (rowCut cs0 4 8)) 0).getD AV.undef)) = true) (h15 : (Nat.ble 1 (List.drop 6 (rowCut cs0 4 8)).length) = true) (h16 : (AV.isInt IntKind.u8 ((listAt (List.drop 6 (rowCut cs0 4 8)) 0).getD AV.undef)) = true) (h17 : (Nat.ble 1 (List.drop 7 (rowCut cs0 4 8)).length) = true) (h18 : (AV.isInt IntKind.u8 ((listAt (List.drop 7 (rowCut cs0 4 8)) 0).getD AV.undef)) = true) :
    ∃ h', aCall C6a 60 (Tgt.fn 45) [AV.fsl a0 l0 cs0] H0 = some (AV.int IntKind.u64 (wrapA IntKind.u64 ((shlN IntKind.u64 (wrapA IntKind.u64 ((shlN IntKind.u64 (wrapA IntKind.u64 ((shlN IntKind.u64 (wrapA IntKind.u64 ((shlN IntKind.u64 (wrapA IntKind.u64 ((shlN IntKind.u64 (wrapA IntKind.u64 ((shlN IntKind.u64 (wrapA IntKind.u64 ((shlN IntKind.u64 (wrapA IntKind.u64 ((Int.ofNat 0).add (wrapA IntKind.u64 ((listAt (List.drop 0 (rowCut cs0 4 8)) 0).getD AV.undef).intOf))) 8).add (wrapA IntKind.u64 ((listAt (List.drop 1 (rowCut cs0 4 8)) 0).getD AV.undef).intOf))) 8).add (wrapA IntKind.u64 ((listAt (List.drop 2 (rowCut cs0 4 8)) 0).getD AV.undef).intOf))) 8).add (wrapA IntKind.u64 ((listAt (List.drop 3 (rowCut cs0 4 8)) 0).getD AV.undef).intOf))) 8).add (wrapA IntKind.u64 ((listAt (List.drop 4 (rowCut cs0 4 8)) 0).getD AV.undef).intOf))) 8).add (wrapA IntKind.u64 ((listAt (List.drop 5 (rowCut cs0 4 8)) 0).getD AV.undef).intOf))) 8).add (wrapA IntKind.u64 ((listAt (List.drop 6 (rowCut cs0 4 8)) 0).getD AV.undef).intOf))) 8).add (wrapA IntKind.u64 ((listAt (List.drop 7 (rowCut cs0 4 8)) 0).getD AV.undef).intOf))), h') ∧ [].map h'.get = [] :=
  call_runT (q := (.y :: (oc 1 (.y :: (oc 5 (.y :: (.y :: (.y :: (oc 4 (.y :: (.y :: (.y :: (oc 4 (.y :: (.y :: (.y :: (oc 4 (.y :: (.y :: (.y :: (oc 4 (.y :: (.y :: (.y :: (oc 4 (.y :: (.y :: (.y :: (oc 4 (.y :: (.y :: (.y :: (oc 4 (.y :: (.y :: (.y :: (oc 2 []))))))))))))))))))))))))))))))))))))) (c := (Cnd.tst _ true :: Cnd.tst _ true :: Cnd.tst _ true :: Cnd.tst _ true :: Cnd.tst _ true :: Cnd.tst _ true :: Cnd.tst _ true :: Cnd.tst _ true :: Cnd.tst _ true :: Cnd.tst _ true :: Cnd.tst _ true :: Cnd.tst _ true :: Cnd.tst _ true :: Cnd.tst _ true :: Cnd.tst _ true :: Cnd.tst _ true :: Cnd.tst _ true :: Cnd.tst _ true :: Cnd.tst _ true :: Cnd.tst _ true :: Cnd.tst _ true :: Cnd.tst _ true :: Cnd.tst _ true :: Cnd.tst _ true :: Cnd.tst _ true :: Cnd.tst _ true :: [])) (by kernel_rfl) ⟨h0, h1, h2, h3, h4, h2, h5, h6, h2, h7, h8, h2, h9, h10, h2, h11, h12, h2, h13, h14, h2, h15, h16, h2, h17, h18, trivial⟩
theorem pc_len (a0 : Bool) (l0 : Nat) (cs0 : List AV) (h0 : (ieqB (Int.ofNat l0) (Int.ofNat 512)) = false) :
    ∃ h', aCall C6a 60 (Tgt.fn 43) [AV.fsl a0 l0 cs0] H0 = some (AV.tuple [AV.agg [AV.int IntKind.u8 (Int.ofNat 0), AV.int IntKind.u8 (Int.ofNat 0), AV.int IntKind.u64 (Int.ofNat 0)], AV.int IntKind.i64 (Int.ofNat 3)], h') ∧ [].map h'.get = [] :=
  call_runT (q := (oc 2 (.z :: (.z :: (.z :: (.z :: (.z :: (.z :: (oc 2 (.y :: (.y :: (.y :: (.y :: (.z :: (.z :: (.z :: (.z :: (.z :: (.z :: (oc 8 [])))))))))))))))))))) (c := (Cnd.tst _ false :: Cnd.tst _ false :: Cnd.tst _ false :: Cnd.tst _ false :: Cnd.tst _ false :: Cnd.tst _ false :: Cnd.same (AV.fsl a0 l0 cs0) (AV.fsl a0 l0 cs0) :: Cnd.same (AV.int IntKind.i64 (Int.ofNat l0)) (AV.int IntKind.i64 (Int.ofNat l0)) :: Cnd.same (AV.bool (ieqB (Int.ofNat l0) (Int.ofNat 512))) (AV.bool (ieqB (Int.ofNat l0) (Int.ofNat 512))) :: Cnd.same (AV.bool (ieqB (Int.ofNat l0) (Int.ofNat 512))) (AV.bool (ieqB (Int.ofNat l0) (Int.ofNat 512))) :: Cnd.tst _ false :: Cnd.tst _ false :: Cnd.tst _ false :: Cnd.tst _ false :: Cnd.tst _ false :: Cnd.tst _ false :: [])) (by kernel_rfl) ⟨h0, h0, h0, h0, h0, h0, rfl, rfl, rfl, rfl, h0, h0, h0, h0, h0, h0, trivial⟩
theorem pc_sign (a0 : Bool) (cs0 : List AV) (h0 : (cs0.length.beq 512) = true) (h1 : ((rowCut cs0 0 2).length.beq 2) = true) (h2 : ((bytesOf (rowCut cs0 0 2)).isSome) = true) (h3 : (!bytesEq ((bytesOf (rowCut cs0 0 2)).getD []) [UInt8.ofNat 76, UInt8.ofNat 67]) = true) :
    ∃ h', aCall C6a 60 (Tgt.fn 43) [AV.fsl a0 512 cs0] H0 = some (AV.tuple [AV.agg [AV.int IntKind.u8 (Int.ofNat 0), AV.int IntKind.u8 (Int.ofNat 0), AV.int IntKind.u64 (Int.ofNat 0)], AV.int IntKind.i64 (Int.ofNat 3)], h') ∧ [].map h'.get = [] :=
  call_runT (q := (oc 8 (.y :: (oc 5 (.y :: (oc 6 (.y :: (.y :: (oc 4 (.y :: (oc 10 (.y :: (.y :: (.y :: (oc 1 (.y :: (oc 1 (.y :: (oc 1 (.y :: (.y :: (oc 4 [])))))))))))))))))))))) (c := (Cnd.tst _ true :: Cnd.tst _ true :: Cnd.tst _ true :: Cnd.tst _ true :: Cnd.same (AV.fsl a0 512 cs0) (AV.fsl a0 512 cs0) :: Cnd.tst _ true :: Cnd.tst _ true :: Cnd.same (AV.str ((bytesOf (rowCut cs0 0 2)).getD [])) (AV.str ((bytesOf (rowCut cs0 0 2)).getD [])) :: Cnd.same (AV.bool (bytesEq ((bytesOf (rowCut cs0 0 2)).getD []) [UInt8.ofNat 76, UInt8.ofNat 67])) (AV.bool (bytesEq ((bytesOf (rowCut cs0 0 2)).getD []) [UInt8.ofNat 76, UInt8.ofNat 67])) :: Cnd.same (AV.bool (bytesEq ((bytesOf (rowCut cs0 0 2)).getD []) [UInt8.ofNat 76, UInt8.ofNat 67])) (AV.bool (bytesEq ((bytesOf (rowCut cs0 0 2)).getD []) [UInt8.ofNat 76, UInt8.ofNat 67])) :: Cnd.same (AV.bool (bytesEq ((bytesOf (rowCut cs0 0 2)).getD []) [UInt8.ofNat 76, UInt8.ofNat 67])) (AV.bool (bytesEq ((bytesOf (rowCut cs0 0 2)).getD []) [UInt8.ofNat 76, UInt8.ofNat 67])) :: Cnd.tst _ true :: [])) (by kernel_rfl) ⟨h0, h0, h1, h2, rfl, h1, h2, rfl, rfl, rfl, rfl, h3, trivial⟩
theorem pc_state (a0 : Bool) (cs0 : List AV) (h0 : (cs0.length.beq 512) = true) (h1 : ((rowCut cs0 0 2).length.beq 2) = true) (h2 : ((bytesOf (rowCut cs0 0 2)).isSome) = true) (h3 : (!bytesEq ((bytesOf (rowCut cs0 0 2)).getD []) [UInt8.ofNat 76, UInt8.ofNat 67]) = false) (h4 : ((rowCut cs0 2 510).length.beq 510) = true) (h5 : ((rowCut (rowCut cs0 2 510) 0 1).length.beq 1) = true) (h6 : (Nat.ble 1 (List.drop 0 (rowCut (rowCut cs0 2 510) 0 1)).length) = true) (h7 : (AV.isInt IntKind.u8 ((listAt (List.drop 0 (rowCut (rowCut cs0 2 510) 0 1)) 0).getD AV.undef)) = true) (h8 : ((rowCut (rowCut cs0 2 510) 1 509).length.beq 509) = true) (h9 : ((rowCut (rowCut (rowCut cs0 2 510) 1 509) 0 1).length.beq 1) = true) (h10 : (Nat.ble 1 (List.drop 0 (rowCut (rowCut (rowCut cs0 2 510) 1 509) 0 1)).length) = true) (h11 : (AV.isInt IntKind.u8 ((listAt (List.drop 0 (rowCut (rowCut (rowCut cs0 2 510) 1 509) 0 1)) 0).getD AV.undef)) = true) (h12 : ((rowCut (rowCut (rowCut cs0 2 510) 1 509) 1 508).length.beq 508) = true) (h13 : (AV.plainL (rowCut (rowCut (rowCut (rowCut cs0 2 510) 1 509) 1 508) 0 8)) = true) (h14 : ((rowCut (rowCut (rowCut (rowCut cs0 2 510) 1 509) 1 508) 0 8).length.beq 8) = true) (h15 : (u8L (rowCut (rowCut (rowCut (rowCut cs0 2 510) 1 509) 1 508) 0 8)) = true) (h16 : (iltB (AV.int IntKind.u8 ((listAt (List.drop 0 (rowCut (rowCut cs0 2 510) 0 1)) 0).getD AV.undef).intOf).intOf (Int.ofNat 3)) = false) :
    ∃ h', aCall C6a 60 (Tgt.fn 43) [AV.fsl a0 512 cs0] H0 = some (AV.tuple [AV.agg [AV.int IntKind.u8 (Int.ofNat 0), AV.int IntKind.u8 (Int.ofNat 0), AV.int IntKind.u64 (Int.ofNat 0)], AV.int IntKind.i64 (Int.ofNat 3)], h') ∧ [].map h'.get = [] :=
  call_runT (q := (oc 8 (.y :: (oc 5 (.y :: (oc 6 (.y :: (.y :: (oc 4 (.y :: (oc 10 (.y :: (.y :: (.y :: (oc 1 (.y :: (oc 1 (.y :: (oc 1 (.y :: (.z :: (oc 3 (.y :: (oc 5 (.y :: (oc 7 (.y :: (.y :: (.y :: (oc 3 (.y :: (oc 5 (.y :: (oc 7 (.y :: (.y :: (.y :: (oc 4 (.y :: (oc 5 (.y :: (oc 5 (.y :: (.y :: (.y :: (oc 13 (.z :: (.z :: (.z :: (.z :: (oc 12 []))))))))))))))))))))))))))))))))))))))))))))))))))) (c := (Cnd.tst _ true :: Cnd.tst _ true :: Cnd.tst _ true :: Cnd.tst _ true :: Cnd.same (AV.fsl a0 512 cs0) (AV.fsl a0 512 cs0) :: Cnd.tst _ true :: Cnd.tst _ true :: Cnd.same (AV.str ((bytesOf (rowCut cs0 0 2)).getD [])) (AV.str ((bytesOf (rowCut cs0 0 2)).getD [])) :: Cnd.same (AV.bool (bytesEq ((bytesOf (rowCut cs0 0 2)).getD []) [UInt8.ofNat 76, UInt8.ofNat 67])) (AV.bool (bytesEq ((bytesOf (rowCut cs0 0 2)).getD []) [UInt8.ofNat 76, UInt8.ofNat 67])) :: Cnd.same (AV.bool (bytesEq ((bytesOf (rowCut cs0 0 2)).getD []) [UInt8.ofNat 76, UInt8.ofNat 67])) (AV.bool (bytesEq ((bytesOf (rowCut cs0 0 2)).getD []) [UInt8.ofNat 76, UInt8.ofNat 67])) :: Cnd.same (AV.bool (bytesEq ((bytesOf (rowCut cs0 0 2)).getD []) [UInt8.ofNat 76, UInt8.ofNat 67])) (AV.bool (bytesEq ((bytesOf (rowCut cs0 0 2)).getD []) [UInt8.ofNat 76, UInt8.ofNat 67])) :: Cnd.tst _ false :: Cnd.tst _ true :: Cnd.tst _ true :: Cnd.tst _ true :: Cnd.tst _ true :: Cnd.tst _ true :: Cnd.tst _ true :: Cnd.tst _ true :: Cnd.tst _ true :: Cnd.tst _ true :: Cnd.tst _ true :: Cnd.tst _ true :: Cnd.tst _ true :: Cnd.tst _ true :: Cnd.tst _ true :: Cnd.tst _ true :: Cnd.tst _ false :: Cnd.tst _ false :: Cnd.tst _ false :: Cnd.tst _ false :: [])) (by kernel_rfl) ⟨h0, h0, h1, h2, rfl, h1, h2, rfl, rfl, rfl, rfl, h3, h4, h4, h5, h6, h7, h8, h8, h9, h10, h11, h12, h12, h13, h14, h15, h16, h16, h16, h16, trivial⟩
theorem pc_count (a0 : Bool) (cs0 : List AV) (h0 : (cs0.length.beq 512) = true) (h1 : ((rowCut cs0 0 2).length.beq 2) = true) (h2 : ((bytesOf (rowCut cs0 0 2)).isSome) = true) (h3 : (!bytesEq ((bytesOf (rowCut cs0 0 2)).getD []) [UInt8.ofNat 76, UInt8.ofNat 67]) = false) (h4 : ((rowCut cs0 2 510).length.beq 510) = true) (h5 : ((rowCut (rowCut cs0 2 510) 0 1).length.beq 1) = true) (h6 : (Nat.ble 1 (List.drop 0 (rowCut (rowCut cs0 2 510) 0 1)).length) = true) (h7 : (AV.isInt IntKind.u8 ((listAt (List.drop 0 (rowCut (rowCut cs0 2 510) 0 1)) 0).getD AV.undef)) = true) (h8 : ((rowCut (rowCut cs0 2 510) 1 509).length.beq 509) = true) (h9 : ((rowCut (rowCut (rowCut cs0 2 510) 1 509) 0 1).length.beq 1) = true) (h10 : (Nat.ble 1 (List.drop 0 (rowCut (rowCut (rowCut cs0 2 510) 1 509) 0 1)).length) = true) (h11 : (AV.isInt IntKind.u8 ((listAt (List.drop 0 (rowCut (rowCut (rowCut cs0 2 510) 1 509) 0 1)) 0).getD AV.undef)) = true) (h12 : ((rowCut (rowCut (rowCut cs0 2 510) 1 509) 1 508).length.beq 508) = true) (h13 : (AV.plainL (rowCut (rowCut (rowCut (rowCut cs0 2 510) 1 509) 1 508) 0 8)) = true) (h14 : ((rowCut (rowCut (rowCut (rowCut cs0 2 510) 1 509) 1 508) 0 8).length.beq 8) = true) (h15 : (u8L (rowCut (rowCut (rowCut (rowCut cs0 2 510) 1 509) 1 508) 0 8)) = true) (h16 : (iltB (AV.int IntKind.u8 ((listAt (List.drop 0 (rowCut (rowCut cs0 2 510) 0 1)) 0).getD AV.undef).intOf).intOf (Int.ofNat 3)) = true) (h17 : (!ileB (AV.int IntKind.u8 ((listAt (List.drop 0 (rowCut (rowCut (rowCut cs0 2 510) 1 509) 0 1)) 0).getD AV.undef).intOf).intOf (Int.ofNat 16)) = true) :
    ∃ h', aCall C6a 60 (Tgt.fn 43) [AV.fsl a0 512 cs0] H0 = some (AV.tuple [AV.agg [AV.int IntKind.u8 (Int.ofNat 0), AV.int IntKind.u8 (Int.ofNat 0), AV.int IntKind.u64 (Int.ofNat 0)], AV.int IntKind.i64 (Int.ofNat 3)], h') ∧ [].map h'.get = [] :=
  call_runT (q := (oc 8 (.y :: (oc 5 (.y :: (oc 6 (.y :: (.y :: (oc 4 (.y :: (oc 10 (.y :: (.y :: (.y :: (oc 1 (.y :: (oc 1 (.y :: (oc 1 (.y :: (.z :: (oc 3 (.y :: (oc 5 (.y :: (oc 7 (.y :: (.y :: (.y :: (oc 3 (.y :: (oc 5 (.y :: (oc 7 (.y :: (.y :: (.y :: (oc 4 (.y :: (oc 5 (.y :: (oc 5 (.y :: (.y :: (.y :: (oc 13 (.y :: (.y :: (oc 3 (.y :: (.y :: (.y :: (.y :: (.y :: (.y :: (.y :: (.y :: (.y :: (oc 5 []))))))))))))))))))))))))))))))))))))))))))))))))))))))))))) (c := (Cnd.tst _ true :: Cnd.tst _ true :: Cnd.tst _ true :: Cnd.tst _ true :: Cnd.same (AV.fsl a0 512 cs0) (AV.fsl a0 512 cs0) :: Cnd.tst _ true :: Cnd.tst _ true :: Cnd.same (AV.str ((bytesOf (rowCut cs0 0 2)).getD [])) (AV.str ((bytesOf (rowCut cs0 0 2)).getD [])) :: Cnd.same (AV.bool (bytesEq ((bytesOf (rowCut cs0 0 2)).getD []) [UInt8.ofNat 76, UInt8.ofNat 67])) (AV.bool (bytesEq ((bytesOf (rowCut cs0 0 2)).getD []) [UInt8.ofNat 76, UInt8.ofNat 67])) :: Cnd.same (AV.bool (bytesEq ((bytesOf (rowCut cs0 0 2)).getD []) [UInt8.ofNat 76, UInt8.ofNat 67])) (AV.bool (bytesEq ((bytesOf (rowCut cs0 0 2)).getD []) [UInt8.ofNat 76, UInt8.ofNat 67])) :: Cnd.same (AV.bool (bytesEq ((bytesOf (rowCut cs0 0 2)).getD []) [UInt8.ofNat 76, UInt8.ofNat 67])) (AV.bool (bytesEq ((bytesOf (rowCut cs0 0 2)).getD []) [UInt8.ofNat 76, UInt8.ofNat 67])) :: Cnd.tst _ false :: Cnd.tst _ true :: Cnd.tst _ true :: Cnd.tst _ true :: Cnd.tst _ true :: Cnd.tst _ true :: Cnd.tst _ true :: Cnd.tst _ true :: Cnd.tst _ true :: Cnd.tst _ true :: Cnd.tst _ true :: Cnd.tst _ true :: Cnd.tst _ true :: Cnd.tst _ true :: Cnd.tst _ true :: Cnd.tst _ true :: Cnd.tst _ true :: Cnd.tst _ true :: Cnd.tst _ true :: Cnd.tst _ true :: Cnd.tst _ true :: Cnd.tst _ true :: Cnd.tst _ true :: Cnd.tst _ true :: Cnd.tst _ true :: Cnd.tst _ true :: Cnd.tst _ true :: [])) (by kernel_rfl) ⟨h0, h0, h1, h2, rfl, h1, h2, rfl, rfl, rfl, rfl, h3, h4, h4, h5, h6, h7, h8, h8, h9, h10, h11, h12, h12, h13, h14, h15, h16, h16, h16, h16, h17, h17, h17, h17, h17, h17, h17, trivial⟩
theorem pc_zero (a0 : Bool) (cs0 : List AV) (h0 : (cs0.length.beq 512) = true) (h1 : ((rowCut cs0 0 2).length.beq 2) = true) (h2 : ((bytesOf (rowCut cs0 0 2)).isSome) = true) (h3 : (!bytesEq ((bytesOf (rowCut cs0 0 2)).getD []) [UInt8.ofNat 76, UInt8.ofNat 67]) = false) (h4 : ((rowCut cs0 2 510).length.beq 510) = true) (h5 : ((rowCut (rowCut cs0 2 510) 0 1).length.beq 1) = true) (h6 : (Nat.ble 1 (List.drop 0 (rowCut (rowCut cs0 2 510) 0 1)).length) = true) (h7 : (AV.isInt IntKind.u8 ((listAt (List.drop 0 (rowCut (rowCut cs0 2 510) 0 1)) 0).getD AV.undef)) = true) (h8 : ((rowCut (rowCut cs0 2 510) 1 509).length.beq 509) = true) (h9 : ((rowCut (rowCut (rowCut cs0 2 510) 1 509) 0 1).length.beq 1) = true) (h10 : (Nat.ble 1 (List.drop 0 (rowCut (rowCut (rowCut cs0 2 510) 1 509) 0 1)).length) = true) (h11 : (AV.isInt IntKind.u8 ((listAt (List.drop 0 (rowCut (rowCut (rowCut cs0 2 510) 1 509) 0 1)) 0).getD AV.undef)) = true) (h12 : ((rowCut (rowCut (rowCut cs0 2 510) 1 509) 1 508).length.beq 508) = true) (h13 : (AV.plainL (rowCut (rowCut (rowCut (rowCut cs0 2 510) 1 509) 1 508) 0 8)) = true) (h14 : ((rowCut (rowCut (rowCut (rowCut cs0 2 510) 1 509) 1 508) 0 8).length.beq 8) = true) (h15 : (u8L (rowCut (rowCut (rowCut (rowCut cs0 2 510) 1 509) 1 508) 0 8)) = true) (h16 : (iltB (AV.int IntKind.u8 ((listAt (List.drop 0 (rowCut (rowCut cs0 2 510) 0 1)) 0).getD AV.undef).intOf).intOf (Int.ofNat 3)) = true) (h17 : (!ileB (AV.int IntKind.u8 ((listAt (List.drop 0 (rowCut (rowCut (rowCut cs0 2 510) 1 509) 0 1)) 0).getD AV.undef).intOf).intOf (Int.ofNat 16)) = false) (h18 : (AV.plainL (rowCut (rowCut (rowCut (rowCut cs0 2 510) 1 509) 1 508) 8 500)) = true) (h19 : (u8L (rowCut (rowCut (rowCut (rowCut cs0 2 510) 1 509) 1 508) 8 500)) = true) (h20 : ((rowCut (rowCut (rowCut (rowCut cs0 2 510) 1 509) 1 508) 8 500).length.beq 500) = true) (h21 : (!zeroL (rowCut (rowCut (rowCut (rowCut cs0 2 510) 1 509) 1 508) 8 500)) = true) :
    ∃ h', aCall C6a 60 (Tgt.fn 43) [AV.fsl a0 512 cs0] H0 = some (AV.tuple [AV.agg [AV.int IntKind.u8 (Int.ofNat 0), AV.int IntKind.u8 (Int.ofNat 0), AV.int IntKind.u64 (Int.ofNat 0)], AV.int IntKind.i64 (Int.ofNat 3)], h') ∧ [].map h'.get = [] :=
  call_runT (q := (oc 8 (.y :: (oc 5 (.y :: (oc 6 (.y :: (.y :: (oc 4 (.y :: (oc 10 (.y :: (.y :: (.y :: (oc 1 (.y :: (oc 1 (.y :: (oc 1 (.y :: (.z :: (oc 3 (.y :: (oc 5 (.y :: (oc 7 (.y :: (.y :: (.y :: (oc 3 (.y :: (oc 5 (.y :: (oc 7 (.y :: (.y :: (.y :: (oc 4 (.y :: (oc 5 (.y :: (oc 5 (.y :: (.y :: (.y :: (oc 13 (.y :: (.y :: (oc 3 (.y :: (.y :: (.z :: (.z :: (.z :: (.z :: (oc 3 (.z :: (.y :: (.y :: (.y :: (oc 1 (.z :: (.z :: (.y :: (oc 4 []))))))))))))))))))))))))))))))))))))))))))))))))))))))))))))))))) (c := (Cnd.tst _ true :: Cnd.tst _ true :: Cnd.tst _ true :: Cnd.tst _ true :: Cnd.same (AV.fsl a0 512 cs0) (AV.fsl a0 512 cs0) :: Cnd.tst _ true :: Cnd.tst _ true :: Cnd.same (AV.str ((bytesOf (rowCut cs0 0 2)).getD [])) (AV.str ((bytesOf (rowCut cs0 0 2)).getD [])) :: Cnd.same (AV.bool (bytesEq ((bytesOf (rowCut cs0 0 2)).getD []) [UInt8.ofNat 76, UInt8.ofNat 67])) (AV.bool (bytesEq ((bytesOf (rowCut cs0 0 2)).getD []) [UInt8.ofNat 76, UInt8.ofNat 67])) :: Cnd.same (AV.bool (bytesEq ((bytesOf (rowCut cs0 0 2)).getD []) [UInt8.ofNat 76, UInt8.ofNat 67])) (AV.bool (bytesEq ((bytesOf (rowCut cs0 0 2)).getD []) [UInt8.ofNat 76, UInt8.ofNat 67])) :: Cnd.same (AV.bool (bytesEq ((bytesOf (rowCut cs0 0 2)).getD []) [UInt8.ofNat 76, UInt8.ofNat 67])) (AV.bool (bytesEq ((bytesOf (rowCut cs0 0 2)).getD []) [UInt8.ofNat 76, UInt8.ofNat 67])) :: Cnd.tst _ false :: Cnd.tst _ true :: Cnd.tst _ true :: Cnd.tst _ true :: Cnd.tst _ true :: Cnd.tst _ true :: Cnd.tst _ true :: Cnd.tst _ true :: Cnd.tst _ true :: Cnd.tst _ true :: Cnd.tst _ true :: Cnd.tst _ true :: Cnd.tst _ true :: Cnd.tst _ true :: Cnd.tst _ true :: Cnd.tst _ true :: Cnd.tst _ true :: Cnd.tst _ true :: Cnd.tst _ true :: Cnd.tst _ true :: Cnd.tst _ false :: Cnd.tst _ false :: Cnd.tst _ false :: Cnd.tst _ false :: Cnd.tst _ false :: Cnd.tst _ true :: Cnd.tst _ true :: Cnd.tst _ true :: Cnd.tst _ false :: Cnd.tst _ false :: Cnd.tst _ true :: [])) (by kernel_rfl) ⟨h0, h0, h1, h2, rfl, h1, h2, rfl, rfl, rfl, rfl, h3, h4, h4, h5, h6, h7, h8, h8, h9, h10, h11, h12, h12, h13, h14, h15, h16, h16, h16, h16, h17, h17, h17, h17, h17, h18, h19, h20, h17, h17, h21, trivial⟩
theorem pc_ok (a0 : Bool) (cs0 : List AV) (h0 : (cs0.length.beq 512) = true) (h1 : ((rowCut cs0 0 2).length.beq 2) = true) (h2 : ((bytesOf (rowCut cs0 0 2)).isSome) = true) (h3 : (!bytesEq ((bytesOf (rowCut cs0 0 2)).getD []) [UInt8.ofNat 76, UInt8.ofNat 67]) = false) (h4 : ((rowCut cs0 2 510).length.beq 510) = true) (h5 : ((rowCut (rowCut cs0 2 510) 0 1).length.beq 1) = true) (h6 : (Nat.ble 1 (List.drop 0 (rowCut (rowCut cs0 2 510) 0 1)).length) = true) (h7 : (AV.isInt IntKind.u8 ((listAt (List.drop 0 (rowCut (rowCut cs0 2 510) 0 1)) 0).getD AV.undef)) = true) (h8 : ((rowCut (rowCut cs0 2 510) 1 509).length.beq 509) = true) (h9 : ((rowCut (rowCut (rowCut cs0 2 510) 1 509) 0 1).length.beq 1) = true) (h10 : (Nat.ble 1 (List.drop 0 (rowCut (rowCut (rowCut cs0 2 510) 1 509) 0 1)).length) = true) (h11 : (AV.isInt IntKind.u8 ((listAt (List.drop 0 (rowCut (rowCut (rowCut cs0 2 510) 1 509) 0 1)) 0).getD AV.undef)) = true) (h12 : ((rowCut (rowCut (rowCut cs0 2 510) 1 509) 1 508).length.beq 508) = true) (h13 : (AV.plainL (rowCut (rowCut (rowCut (rowCut cs0 2 510) 1 509) 1 508) 0 8)) = true) (h14 : ((rowCut (rowCut (rowCut (rowCut cs0 2 510) 1 509) 1 508) 0 8).length.beq 8) = true) (h15 : (u8L (rowCut (rowCut (rowCut (rowCut cs0 2 510) 1 509) 1 508) 0 8)) = true) (h16 : (iltB (AV.int IntKind.u8 ((listAt (List.drop 0 (rowCut (rowCut cs0 2 510) 0 1)) 0).getD AV.undef).intOf).intOf (Int.ofNat 3)) = true) (h17 : (!ileB (AV.int IntKind.u8 ((listAt (List.drop 0 (rowCut (rowCut (rowCut cs0 2 510) 1 509) 0 1)) 0).getD AV.undef).intOf).intOf (Int.ofNat 16)) = false) (h18 : (AV.plainL (rowCut (rowCut (rowCut (rowCut cs0 2 510) 1 509) 1 508) 8 500)) = true) (h19 : (u8L (rowCut (rowCut (rowCut (rowCut cs0 2 510) 1 509) 1 508) 8 500)) = true) (h20 : ((rowCut (rowCut (rowCut (rowCut cs0 2 510) 1 509) 1 508) 8 500).length.beq 500) = true) (h21 : (!zeroL (rowCut (rowCut (rowCut (rowCut cs0 2 510) 1 509) 1 508) 8 500)) = false) :
    ∃ h', aCall C6a 60 (Tgt.fn 43) [AV.fsl a0 512 cs0] H0 = some (AV.tuple [AV.agg [AV.int IntKind.u8 ((listAt (List.drop 0 (rowCut (rowCut cs0 2 510) 0 1)) 0).getD AV.undef).intOf, AV.int IntKind.u8 ((listAt (List.drop 0 (rowCut (rowCut (rowCut cs0 2 510) 1 509) 0 1)) 0).getD AV.undef).intOf, AV.int IntKind.u64 (getI 8 (rowCut (rowCut (rowCut (rowCut cs0 2 510) 1 509) 1 508) 0 8))], AV.int IntKind.i64 (Int.ofNat 0)], h') ∧ [].map h'.get = [] :=
  call_runT (q := (oc 8 (.y :: (oc 5 (.y :: (oc 6 (.y :: (.y :: (oc 4 (.y :: (oc 10 (.y :: (.y :: (.y :: (oc 1 (.y :: (oc 1 (.y :: (oc 1 (.y :: (.z :: (oc 3 (.y :: (oc 5 (.y :: (oc 7 (.y :: (.y :: (.y :: (oc 3 (.y :: (oc 5 (.y :: (oc 7 (.y :: (.y :: (.y :: (oc 4 (.y :: (oc 5 (.y :: (oc 5 (.y :: (.y :: (.y :: (oc 13 (.y :: (.y :: (oc 3 (.y :: (.y :: (.z :: (.z :: (.z :: (.z :: (oc 3 (.z :: (.y :: (.y :: (.y :: (oc 1 (.z :: (.z :: (.z :: (oc 5 []))))))))))))))))))))))))))))))))))))))))))))))))))))))))))))))))) (c := (Cnd.tst _ true :: Cnd.tst _ true :: Cnd.tst _ true :: Cnd.tst _ true :: Cnd.same (AV.fsl a0 512 cs0) (AV.fsl a0 512 cs0) :: Cnd.tst _ true :: Cnd.tst _ true :: Cnd.same (AV.str ((bytesOf (rowCut cs0 0 2)).getD [])) (AV.str ((bytesOf (rowCut cs0 0 2)).getD [])) :: Cnd.same (AV.bool (bytesEq ((bytesOf (rowCut cs0 0 2)).getD []) [UInt8.ofNat 76, UInt8.ofNat 67])) (AV.bool (bytesEq ((bytesOf (rowCut cs0 0 2)).getD []) [UInt8.ofNat 76, UInt8.ofNat 67])) :: Cnd.same (AV.bool (bytesEq ((bytesOf (rowCut cs0 0 2)).getD []) [UInt8.ofNat 76, UInt8.ofNat 67])) (AV.bool (bytesEq ((bytesOf (rowCut cs0 0 2)).getD []) [UInt8.ofNat 76, UInt8.ofNat 67])) :: Cnd.same (AV.bool (bytesEq ((bytesOf (rowCut cs0 0 2)).getD []) [UInt8.ofNat 76, UInt8.ofNat 67])) (AV.bool (bytesEq ((bytesOf (rowCut cs0 0 2)).getD []) [UInt8.ofNat 76, UInt8.ofNat 67])) :: Cnd.tst _ false :: Cnd.tst _ true :: Cnd.tst _ true :: Cnd.tst _ true :: Cnd.tst _ true :: Cnd.tst _ true :: Cnd.tst _ true :: Cnd.tst _ true :: Cnd.tst _ true :: Cnd.tst _ true :: Cnd.tst _ true :: Cnd.tst _ true :: Cnd.tst _ true :: Cnd.tst _ true :: Cnd.tst _ true :: Cnd.tst _ true :: Cnd.tst _ true :: Cnd.tst _ true :: Cnd.tst _ true :: Cnd.tst _ true :: Cnd.tst _ false :: Cnd.tst _ false :: Cnd.tst _ false :: Cnd.tst _ false :: Cnd.tst _ false :: Cnd.tst _ true :: Cnd.tst _ true :: Cnd.tst _ true :: Cnd.tst _ false :: Cnd.tst _ false :: Cnd.tst _ false :: [])) (by kernel_rfl) ⟨h0, h0, h1, h2, rfl, h1, h2, rfl, rfl, rfl, rfl, h3, h4, h4, h5, h6, h7, h8, h8, h9, h10, h11, h12, h12, h13, h14, h15, h16, h16, h16, h16, h17, h17, h17, h17, h17, h18, h19, h20, h17, h17, h21, trivial⟩
theorem rightC_iff {s c : Int} : rightC s c = true ↔ s < 3 ∧ c ≤ 16 := by simp [rightC]
def bytesCy : RSum := RSum.nb true fun us => match us with
  | [.agg [.int .u8 s, .int .u8 c, .int .u64 g]] => some ([ileB (Int.ofNat 0) s, ileB (Int.ofNat 0) c, ileB (Int.ofNat 0) g, iltB g (Int.ofNat 18446744073709551616), kept (rightC s c)],
    fun n => .tuple [.slice (some (n, 0)) 512 none, .int .i64 (Int.ofNat 0)], [.cells true 5 512 (kept (ofBytes (commitB s.toNat c.toNat g.toNat)))])
  | _ => none
def bytesCn : RSum := RSum.pl true fun us => match us with
  | [.agg [.int .u8 s, .int .u8 c, .int .u64 g]] => some ([kept (!rightC s c)], .tuple [.slice none 0 (some 0), .int .i64 (Int.ofNat 2)])
  | _ => none
theorem u8_ofNat {n : Int} (h0 : 0 ≤ n) (h1 : n < 256) : ∃ b : UInt8, n = (b.toNat : Int) ∧ b = UInt8.ofNat n.toNat := by
  refine ⟨UInt8.ofNat n.toNat, ?_, rfl⟩
  rw [UInt8.toNat_ofNat']
  omega
theorem commitB_eq (s c g : Nat) : commitB s c g = [UInt8.ofNat 76, UInt8.ofNat 67, UInt8.ofNat s, UInt8.ofNat c] ++ putB 8 g ++ List.replicate 500 0 := rfl
theorem bytesCy_ok : RSum.Sound Try.prog tys 41 bytesCy := by
  refine RSum.soundT (cx_goes _ _) all6a (RSum.nb_ok fun us q v bs hm hc => ?_)
  split at hm
  · rename_i s c g
    injection hm with hm; injection hm with e1 hm; injection hm with e2 e3; rw [kept_eq] at e3; subst e1; subst e2; subst e3
    simp only [allTrue_cons, ileB_eq, iltB_eq, decide_eq_true_eq, kept_eq, rightC_iff] at hc
    obtain ⟨c1, c2, c3, c4, ⟨c5, c6⟩, _⟩ := hc
    have c1 : 0 ≤ s := c1
    have c2 : 0 ≤ c := c2
    have c3 : 0 ≤ g := c3
    have c4 : g < 18446744073709551616 := c4
    refine ⟨fun b hb => ?_, ?_⟩
    · have : b = .cells true 5 512 (ofBytes (commitB s.toNat c.toNat g.toNat)) := by simpa using hb
      subst this
      simp only [Blk.plainOwn, ofBytes_plain, Bool.and_self]
    · have hu : u8L [AV.int IntKind.u8 (Int.ofNat 76), AV.int IntKind.u8 (Int.ofNat 67), AV.int IntKind.u8 (AV.int IntKind.u8 s).intOf, AV.int IntKind.u8 (AV.int IntKind.u8 c).intOf] = true := by
        have : [AV.int IntKind.u8 (Int.ofNat 76), AV.int IntKind.u8 (Int.ofNat 67), AV.int IntKind.u8 s, AV.int IntKind.u8 c] = ofBytes [UInt8.ofNat 76, UInt8.ofNat 67, UInt8.ofNat s.toNat, UInt8.ofNat c.toNat] := by
          rw [u8_of s c1 (by omega), u8_of c c2 (by omega)]; rfl
        show u8L [AV.int IntKind.u8 (Int.ofNat 76), AV.int IntKind.u8 (Int.ofNat 67), AV.int IntKind.u8 s, AV.int IntKind.u8 c] = true
        rw [this]; exact u8L_ofBytes _
      obtain ⟨h', h, hb⟩ := cb_ok s c g (by rw [iltB_eq]; exact decide_eq_true c5) (by rw [ileB_eq]; simp only [Bool.not_eq_false', decide_eq_true_eq]; exact c6) hu (by rw [ileB_eq]; exact decide_eq_true c3) (by rw [iltB_eq]; exact decide_eq_true c4)
      refine ⟨60, h', [6], _, h, ?_, sel_one 6, rfl, fun n ρ hρ => ?_⟩
      · rw [hb, kept_eq]
        have e1 : ofBytes (commitB s.toNat c.toNat g.toNat) = ofBytes ([UInt8.ofNat 76, UInt8.ofNat 67, UInt8.ofNat s.toNat, UInt8.ofNat c.toNat] ++ putB 8 g.toNat) ++ ofBytes (List.replicate 500 0) := by rw [commitB_eq, ofBytes_append]
        have e2 : (ofBytes (commitB s.toNat c.toNat g.toNat)).length = 512 := by rw [ofBytes_length, commitB_length]
        show [Blk.cells true 5 (List.length (ofBytes ([UInt8.ofNat 76, UInt8.ofNat 67, UInt8.ofNat s.toNat, UInt8.ofNat c.toNat] ++ putB 8 g.toNat) ++ ofBytes (List.replicate 500 0))) (ofBytes ([UInt8.ofNat 76, UInt8.ofNat 67, UInt8.ofNat s.toNat, UInt8.ofNat c.toNat] ++ putB 8 g.toNat) ++ ofBytes (List.replicate 500 0))] = _
        rw [← e1, e2]
      · have := hρ 0 6 rfl
        simp only [AV.ren, AV.renL, Option.map_some, this, Nat.add_zero]
        exact AV.Le.refl _
  · cases hm
theorem bytesCn_ok : RSum.Sound Try.prog tys 41 bytesCn := by
  refine RSum.soundT (cx_goes _ _) all6a (RSum.pl_ok fun us q v hm hc => ?_)
  split at hm
  · rename_i s c g
    injection hm with hm; injection hm with e1 e2; subst e1; subst e2
    simp only [allTrue_cons, kept_eq, Bool.not_eq_true'] at hc
    have hc := hc.1
    by_cases hs : s < 3
    · have hcc : ¬ c ≤ 16 := fun h => by rw [rightC_iff.2 ⟨hs, h⟩] at hc; cases hc
      obtain ⟨h', h, _⟩ := cb_no2 s c g (by rw [iltB_eq]; exact decide_eq_true hs) (by rw [ileB_eq]; simp only [Bool.not_eq_true', decide_eq_false_iff_not]; exact hcc)
      exact ⟨rfl, 60, h', h⟩
    · obtain ⟨h', h, _⟩ := cb_no1 s c g (by rw [iltB_eq]; exact decide_eq_false hs)
      exact ⟨rfl, 60, h', h⟩
  · cases hm
end Go.Proofs.Ytecncappdnhbaaa
end
end

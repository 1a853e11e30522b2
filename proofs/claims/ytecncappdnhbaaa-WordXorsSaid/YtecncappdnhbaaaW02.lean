/- Bits of words: plain laws. -/
import Derived.Test.YtecncappdnhbaaaW01
set_option autoImplicit false
set_option linter.unusedVariables false
set_option linter.unusedSimpArgs false
namespace Go.Ab
def sumN (f : Nat → Nat) : Nat → Nat
  | 0 => 0
  | n + 1 => sumN f n + f n
def bitN (x i : Nat) : Nat := x / 2 ^ i % 2
def pc (b x : Nat) : Nat := sumN (bitN x) b

theorem sumN_congr {f g : Nat → Nat} : ∀ n, (∀ i, i < n → f i = g i) → sumN f n = sumN g n := by
  intro n
  induction n with
  | zero => intro _; rfl
  | succ n ih => intro h; simp only [sumN]; rw [ih fun i hi => h i (by omega), h n (by omega)]
theorem sumN_front (f : Nat → Nat) (n : Nat) : sumN f (n + 1) = f 0 + sumN (fun i => f (i + 1)) n := by
  induction n with
  | zero => simp [sumN]
  | succ n ih => rw [sumN, ih, sumN]; omega
theorem sumN_add (f : Nat → Nat) (a b : Nat) : sumN f (a + b) = sumN f a + sumN (fun i => f (a + i)) b := by
  induction b with
  | zero => simp [sumN]
  | succ b ih => rw [← Nat.add_assoc, sumN, ih, sumN]; omega
theorem bitN_succ (x i : Nat) : bitN x (i + 1) = bitN (x / 2) i := by
  unfold bitN
  rw [Nat.pow_succ, Nat.mul_comm, Nat.div_div_eq_div_mul]
theorem bitN_lt (x i : Nat) : bitN x i < 2 := Nat.mod_lt _ (by decide)
theorem bitN_test (x i : Nat) : bitN x i = (x.testBit i).toNat := by rw [Nat.toNat_testBit]; rfl
theorem pc_succ (b x : Nat) : pc (b + 1) x = x % 2 + pc b (x / 2) := by
  unfold pc
  rw [sumN_front]
  have : bitN x 0 = x % 2 := by simp [bitN]
  rw [this]
  congr 1
  exact sumN_congr _ fun i _ => bitN_succ x i
theorem pc_zero (b : Nat) : pc b 0 = 0 := by
  induction b with
  | zero => rfl
  | succ b ih => rw [pc_succ]; simpa using ih
theorem pc_le (b x : Nat) : pc b x ≤ b := by
  induction b generalizing x with
  | zero => exact Nat.le_refl _
  | succ b ih => rw [pc_succ]; have := ih (x / 2); have := Nat.mod_lt x (by decide : 0 < 2); omega
/-- the lowest bit goes. -/
theorem pc_drop : ∀ (b x : Nat), 0 < x → x < 2 ^ b → pc b (x &&& (x - 1)) + 1 = pc b x := by
  intro b
  induction b with
  | zero => intro x h h2; omega
  | succ b ih =>
    intro x h h2
    rw [pc_succ, pc_succ, Nat.and_div_two]
    have hm : (x &&& (x - 1)) % 2 = x % 2 &&& (x - 1) % 2 := by
      have := @Nat.and_mod_two_pow x (x - 1) 1
      simpa using this
    rw [hm]
    rcases Nat.mod_two_eq_zero_or_one x with e | e
    · have e1 : (x - 1) / 2 = x / 2 - 1 := by omega
      rw [e, e1, Nat.zero_and]
      have := ih (x / 2) (by omega) (by rw [Nat.pow_succ] at h2; omega)
      omega
    · have e1 : (x - 1) / 2 = x / 2 := by omega
      have e2 : (x - 1) % 2 = 0 := by omega
      rw [e, e1, e2, Nat.and_zero, Nat.and_self]; omega
theorem mod_bits (x i : Nat) : x % 2 ^ (i + 1) = x % 2 ^ i + bitN x i * 2 ^ i := by
  unfold bitN
  rw [Nat.pow_succ, Nat.mod_mul]
  rw [Nat.mul_comm]

/-- a word, turned left by m. -/
def rotN (b x m : Nat) : Nat := ((BitVec.ofNat b x).rotateLeft m).toNat
theorem rotI_nat (b x : Nat) (n : Int) : rotI b (x : Int) n = (rotN b x (n % (b : Int)).toNat : Nat) := by
  unfold rotI rotN
  rw [BitVec.ofInt_natCast]
theorem rotN_lt (b x m : Nat) : rotN b x m < 2 ^ b := (BitVec.isLt _)
theorem rotN_bit (b x m i : Nat) (hx : x < 2 ^ b) (hm : m < b) (hi : i < b) : bitN (rotN b x m) i = bitN x (if i < m then b - m + i else i - m) := by
  rw [bitN_test, bitN_test]
  congr 1
  have h1 : (rotN b x m).testBit i = ((BitVec.ofNat b x).rotateLeft m).getLsbD i := rfl
  have h2 : ∀ j, j < b → (BitVec.ofNat b x).getLsbD j = x.testBit j := by
    intro j hj
    rw [BitVec.getLsbD_ofNat]; simp [hj]
  rw [h1, BitVec.getLsbD_rotateLeft, Nat.mod_eq_of_lt hm]
  by_cases h : i < m
  · simp only [h, decide_true, cond_true, if_true]; exact h2 _ (by omega)
  · simp only [h, decide_false, cond_false, if_false, hi, decide_true, Bool.true_and]; exact h2 _ (by omega)
theorem pc_rot (b x m : Nat) (hx : x < 2 ^ b) (hm : m < b) : pc b (rotN b x m) = pc b x := by
  obtain ⟨k, rfl⟩ : ∃ k, b = m + k := ⟨b - m, by omega⟩
  have e1 : pc (m + k) (rotN (m + k) x m) = sumN (fun i => bitN x (k + i)) m + sumN (fun i => bitN x i) k := by
    unfold pc
    rw [sumN_add]
    congr 1
    · exact sumN_congr _ fun i hi => by rw [rotN_bit _ _ _ _ hx hm (by omega), if_pos hi]; congr 1; omega
    · exact sumN_congr _ fun i hi => by rw [rotN_bit _ _ _ _ hx hm (by omega), if_neg (by omega)]; congr 1; omega
  have e2 : pc (m + k) x = sumN (fun i => bitN x i) k + sumN (fun i => bitN x (k + i)) m := by
    unfold pc
    rw [Nat.add_comm m k, sumN_add]
  omega

/-! ### Words as natural numbers -/
theorem wrapA_nat (k : IntKind) (m : Nat) (h : m < topK k) : wrapA k (m : Int) = m := by rw [wrapA_eq]; exact wrap_small k m h
theorem andN_nat (k : IntKind) (x y : Nat) (hx : x < topK k) (hy : y < topK k) : andN k (x : Int) (y : Int) = ((x &&& y : Nat) : Int) := by
  have h := iAnd_eq k (x : Int) (y : Int)
  unfold iAnd at h
  injection h with _ h
  rw [h, BitVec.toNat_and, ofInt_small k x hx, ofInt_small k y hy]
  exact wrap_small k _ (Nat.lt_of_le_of_lt Nat.and_le_left hx)
theorem orN_nat (k : IntKind) (x y : Nat) (hx : x < topK k) (hy : y < topK k) : orN k (x : Int) (y : Int) = ((x ||| y : Nat) : Int) := by
  have h := iOr_eq k (x : Int) (y : Int)
  unfold iOr at h
  injection h with _ h
  rw [h, BitVec.toNat_or, ofInt_small k x hx, ofInt_small k y hy]
  obtain ⟨j, hj, _⟩ := topK_pow k
  refine wrap_small k _ ?_
  rw [hj] at hx hy ⊢
  exact Nat.or_lt_two_pow hx hy
theorem xorN_nat (k : IntKind) (x y : Nat) (hx : x < topK k) (hy : y < topK k) : xorN k (x : Int) (y : Int) = ((x ^^^ y : Nat) : Int) := by
  have h := iXor_eq k (x : Int) (y : Int)
  unfold iXor at h
  injection h with _ h
  rw [h, BitVec.toNat_xor, ofInt_small k x hx, ofInt_small k y hy]
  obtain ⟨j, hj, _⟩ := topK_pow k
  refine wrap_small k _ ?_
  rw [hj] at hx hy ⊢
  exact Nat.xor_lt_two_pow hx hy
theorem i64_add (a b : Nat) (h : a + b < 9223372036854775808) : wrapA .i64 (Int.add (a : Int) (b : Int)) = ((a + b : Nat) : Int) := by
  have : Int.add (a : Int) (b : Int) = ((a + b : Nat) : Int) := by show (a : Int) + b = _; omega
  rw [this]; exact wrapA_nat .i64 _ h
theorem i64_sub (a b : Nat) (h : b ≤ a) (h2 : a < 9223372036854775808) : wrapA .i64 (Int.sub (a : Int) (b : Int)) = ((a - b : Nat) : Int) := by
  have : Int.sub (a : Int) (b : Int) = ((a - b : Nat) : Int) := by show (a : Int) - b = _; omega
  rw [this]; exact wrapA_nat .i64 _ (by show _ < 9223372036854775808; omega)
theorem nat_of {x : Int} (h : ileB 0 x = true) : ∃ y : Nat, x = y := by
  rw [ileB_eq] at h
  exact ⟨x.toNat, by have := of_decide_eq_true h; omega⟩
theorem lt_of {x y : Nat} (h : iltB (x : Int) (y : Int) = true) : x < y := by
  rw [iltB_eq] at h
  have := of_decide_eq_true h; omega
/-- one round of the count of a word's bits. -/
theorem count_round (k : IntKind) (b : Nat) (hk : topK k = 2 ^ b) (x : Nat) (hx : x < 2 ^ b) (h0 : 0 < x) : andN k (x : Int) (wrapA k (Int.sub (x : Int) (Int.ofNat 1))) = ((x &&& (x - 1) : Nat) : Int) := by
  have e : Int.sub (x : Int) (Int.ofNat 1) = ((x - 1 : Nat) : Int) := by show (x : Int) - 1 = _; omega
  rw [e, wrapA_nat k _ (by omega), andN_nat k _ _ (by omega) (by omega)]
end Go.Ab

/- Words that are turned: plain laws. -/
import Derived.Test.YtecncappdnhbaaaAbZ
set_option autoImplicit false
set_option linter.unusedVariables false
set_option linter.unusedSimpArgs false
namespace Go.Ab
def rotI (b : Nat) (x n : Int) : Int := (((BitVec.ofInt b x).rotateLeft (n % (b : Int)).toNat).toNat : Int)
theorem turn_mod (b n : Int) (hb : 0 < b) (hb2 : b ≤ 64) : (wrapA .i64 ((n.tmod b).add b)).tmod b = n % b := by
  have h1 : n.tmod b = n % b - if 0 ≤ n ∨ b ∣ n then 0 else b.natAbs := Int.tmod_eq_emod
  have h2 := Int.emod_nonneg n (by omega : b ≠ 0)
  have h3 := Int.emod_lt_of_pos n hb
  have h4 : (n.tmod b).add b = n.tmod b + b := rfl
  rw [wrapA_eq, h4, IntWalk.i64_in _ (by rw [h1]; split <;> omega)]
  rw [Int.tmod_eq_emod_of_nonneg (by rw [h1]; split <;> omega), Int.add_emod_right, Int.tmod_def, Int.sub_mul_emod_self_left]

/-- the kinds of words. -/
theorem turn_val (k : IntKind) (b : Nat) (hk : k.signed = false) (hb : k.bits = b) (hb8 : 8 ≤ b) (hb64 : b ≤ 64) (x n : Int) (hx : 0 ≤ x) (hx2 : x < 2 ^ b) (hm : n % (b : Int) ≠ 0) :
    orN k (shlN k x (shN k (n % (b : Int)).toNat)) (shrN x (shN k (wrapA .i64 ((b : Int).sub (n % (b : Int)))).toNat)) = rotI b x n := by
  have h2 := Int.emod_nonneg n (by omega : (b : Int) ≠ 0)
  have h3 := Int.emod_lt_of_pos n (by omega : (0 : Int) < b)
  obtain ⟨m, hm'⟩ : ∃ m : Nat, n % (b : Int) = m := ⟨(n % (b : Int)).toNat, by omega⟩
  obtain ⟨y, rfl⟩ : ∃ y : Nat, x = y := ⟨x.toNat, by omega⟩
  rw [hm'] at hm h2 h3 ⊢
  have e1 : wrapA .i64 ((b : Int).sub (m : Int)) = ((b - m : Nat) : Int) := by
    rw [wrapA_eq]
    have : (b : Int).sub (m : Int) = ((b - m : Nat) : Int) := by show (b : Int) - m = _; omega
    rw [this, IntWalk.i64_in _ (by omega)]
  rw [e1, shN_eq, shN_eq, hb, shlN_eq, shrN_eq]
  simp only [Int.toNat_natCast]
  rw [Nat.min_eq_left (by omega), Nat.min_eq_left (by omega)]
  have ewrap : ∀ z : Nat, k.wrap (z : Int) = ((z % 2 ^ b : Nat) : Int) := by
    intro z
    unfold IntKind.wrap
    rw [hk, hb]
    simp
  have hy : y < 2 ^ b := by exact_mod_cast hx2
  have e2 : k.wrap ((y : Int) * 2 ^ m) = (((y * 2 ^ m) % 2 ^ b : Nat) : Int) := by rw [← ewrap]; congr 1
  have epow : ((2 : Int) ^ (b - m)) = ((2 ^ (b - m) : Nat) : Int) := by simp
  have e3 : Int.fdiv (y : Int) (2 ^ (b - m)) = ((y / 2 ^ (b - m) : Nat) : Int) := by
    rw [epow, Int.fdiv_eq_ediv_of_nonneg _ (Int.natCast_nonneg _)]; simp
  rw [e2, e3]
  have l1 : y * 2 ^ m % 2 ^ b < 2 ^ b := Nat.mod_lt _ (Nat.two_pow_pos b)
  have l2 : y / 2 ^ (b - m) < 2 ^ b := Nat.lt_of_le_of_lt (Nat.div_le_self _ _) hy
  have e4 : ∀ u v : Nat, u < 2 ^ b → v < 2 ^ b → orN k (u : Int) (v : Int) = ((u ||| v : Nat) : Int) := by
    intro u v hu hv
    have := iOr_eq k (u : Int) (v : Int)
    unfold iOr at this
    injection this with _ this
    rw [this, ewrap]
    have hof : ∀ z : Nat, z < 2 ^ b → (BitVec.ofInt k.bits (z : Int)).toNat = z := by
      intro z hz
      rw [BitVec.toNat_ofInt, hb]
      have : ((z : Int) % ((2 ^ b : Nat) : Int)) = z := Int.emod_eq_of_lt (by omega) (by omega)
      rw [this]; simp
    rw [BitVec.toNat_or, hof u hu, hof v hv, Nat.mod_eq_of_lt (Nat.or_lt_two_pow hu hv)]
  rw [e4 _ _ l1 l2]
  unfold rotI
  rw [hm', BitVec.toNat_rotateLeft]
  have hof : (BitVec.ofInt b (y : Int)).toNat = y := by
    rw [BitVec.toNat_ofInt]
    have : ((y : Int) % ((2 ^ b : Nat) : Int)) = y := Int.emod_eq_of_lt (by omega) (by omega)
    rw [this]; simp
  rw [hof, Int.toNat_natCast, Nat.mod_eq_of_lt (by omega : m < b), Nat.shiftLeft_eq, Nat.shiftRight_eq_div_pow]

theorem rot_zero (b : Nat) (x n : Int) (hx : 0 ≤ x) (hx2 : x < 2 ^ b) (hm : n % (b : Int) = 0) : rotI b x n = x := by
  unfold rotI
  rw [hm]
  obtain ⟨y, rfl⟩ : ∃ y : Nat, x = y := ⟨x.toNat, by omega⟩
  have hy : y < 2 ^ b := by exact_mod_cast hx2
  rw [BitVec.toNat_rotateLeft]
  simp only [Int.toNat_zero, Nat.zero_mod, Nat.shiftLeft_zero, Nat.sub_zero]
  rw [BitVec.toNat_ofInt]
  have : ((y : Int) % ((2 ^ b : Nat) : Int)) = y := Int.emod_eq_of_lt (by omega) (by omega)
  rw [this, Int.toNat_natCast, Nat.mod_eq_of_lt hy, Nat.shiftRight_eq_div_pow, Nat.div_eq_of_lt hy]; simp

theorem rot_range (b : Nat) (x n : Int) : 0 ≤ rotI b x n ∧ rotI b x n < 2 ^ b := by
  unfold rotI
  have := ((BitVec.ofInt b x).rotateLeft (n % (b : Int)).toNat).isLt
  constructor
  · omega
  · exact_mod_cast this

theorem rot_rot (b : Nat) (hb : 0 < b) (x n m : Int) : rotI b (rotI b x n) m = rotI b x (n + m) := by
  unfold rotI
  generalize hz : (BitVec.ofInt b x) = z
  rw [show BitVec.ofInt b (((z.rotateLeft (n % (b : Int)).toNat).toNat : Nat) : Int) = z.rotateLeft (n % (b : Int)).toNat from by
    rw [BitVec.ofInt_natCast, BitVec.ofNat_toNat, BitVec.setWidth_eq]]
  congr 2
  have h2 := Int.emod_nonneg n (by omega : (b : Int) ≠ 0)
  have h3 := Int.emod_lt_of_pos n (by omega : (0 : Int) < b)
  have h4 := Int.emod_nonneg m (by omega : (b : Int) ≠ 0)
  have h5 := Int.emod_lt_of_pos m (by omega : (0 : Int) < b)
  have h6 : (n + m) % (b : Int) = (n % b + m % b) % b := by rw [Int.emod_add_emod, Int.add_emod_emod]
  obtain ⟨p, hp⟩ : ∃ p : Nat, n % (b : Int) = p := ⟨(n % (b : Int)).toNat, by omega⟩
  obtain ⟨q, hq⟩ : ∃ q : Nat, m % (b : Int) = q := ⟨(m % (b : Int)).toNat, by omega⟩
  rw [h6, hp, hq]
  rw [hp] at h3; rw [hq] at h5
  have hp' : p < b := by omega
  have hq' : q < b := by omega
  have e : ((p : Int) + q) % b = (((p + q) % b : Nat) : Int) := by simp
  rw [e]
  simp only [Int.toNat_natCast]
  rw [BitVec.rotateLeft_mod_eq_rotateLeft]
  apply BitVec.eq_of_getLsbD_eq
  intro i hi
  rw [BitVec.getLsbD_rotateLeft, BitVec.getLsbD_rotateLeft, BitVec.getLsbD_rotateLeft, BitVec.getLsbD_rotateLeft]
  rw [Nat.mod_eq_of_lt hp', Nat.mod_eq_of_lt hq']
  have hr : (p + q) % b = if p + q < b then p + q else p + q - b := by
    split
    · exact Nat.mod_eq_of_lt (by omega)
    · rw [Nat.mod_eq_sub_mod (by omega), Nat.mod_eq_of_lt (by omega)]
  have same : ∀ j j' : Nat, j = j' → z.getLsbD j = z.getLsbD j' := fun j j' h => by rw [h]
  by_cases h1 : i < q
  · by_cases h7 : b - q + i < p
    · have c1 : i < (p + q) % b := by rw [hr]; split <;> omega
      simp only [h1, h7, c1, decide_true, cond_true]
      exact same _ _ (by rw [hr]; split <;> omega)
    · by_cases h8 : p + q < b
      · have c1 : i < (p + q) % b := by rw [hr, if_pos h8]; omega
        have c2 : b - q + i < b := by omega
        simp only [h1, h7, c1, c2, decide_true, decide_false, cond_true, cond_false, Bool.true_and]
        exact same _ _ (by rw [hr, if_pos h8]; omega)
      · have c1 : ¬ i < (p + q) % b := by rw [hr, if_neg h8]; omega
        have c2 : b - q + i < b := by omega
        simp only [h1, h7, c1, c2, hi, decide_true, decide_false, cond_true, cond_false, Bool.true_and]
        exact same _ _ (by rw [hr, if_neg h8]; omega)
  · by_cases h7 : i - q < p
    · by_cases h8 : p + q < b
      · have c1 : i < (p + q) % b := by rw [hr, if_pos h8]; omega
        simp only [h1, h7, c1, hi, decide_true, decide_false, cond_true, cond_false, Bool.true_and]
        exact same _ _ (by rw [hr, if_pos h8]; omega)
      · have c1 : ¬ i < (p + q) % b := by rw [hr, if_neg h8]; omega
        simp only [h1, h7, c1, hi, decide_true, decide_false, cond_true, cond_false, Bool.true_and]
        exact same _ _ (by rw [hr, if_neg h8]; omega)
    · have h8 : p + q < b := by omega
      have c1 : ¬ i < (p + q) % b := by rw [hr, if_pos h8]; omega
      have c2 : i - q < b := by omega
      simp only [h1, h7, c1, c2, hi, decide_true, decide_false, cond_true, cond_false, Bool.true_and]
      exact same _ _ (by rw [hr, if_pos h8]; omega)
end Go.Ab

/- Chapter 1: the table of turning. -/
import Derived.Test.YtecncappdnhbaaaL01b
set_option autoImplicit false
set_option linter.unusedVariables false
set_option linter.unusedSimpArgs false
set_option maxRecDepth 100000
noncomputable section
namespace Go.Proofs.Ytecncappdnhbaaa
open Go.Ab

def turnM (k : IntKind) (b : Nat) (top : Int) : List AV → Option (List Bool × AV) := fun args =>
  match args with
  | [.int j x, .int i n] => cb (decide (j = k) && decide (i = .i64)) (some ([ileB 0 x, iltB x top], .int k (rotI b x n))) none
  | _ => none
def lB : List (FuncId × (List AV → Option (List Bool × AV))) := [(15, const0 (.bool true)), (16, turnM .u8 8 256), (17, turnM .u16 16 65536), (18, turnM .u32 32 4294967296), (19, turnM .u64 64 18446744073709551616)]
theorem run15B : aCall (cxOf (spOf lA)) 100 (.fn 15) [] H0 = some (.bool true, H0) := by kernel_rfl
theorem okB : SumAll Try.prog (cxOf (spOf lB)) := by
  refine specs_ok (cx_goes _) okA fun g m args c v h hm hc => ?_
  have hmem := spOf_mem h
  have fin : ∀ (k : FuncId) (j : IntKind) (b : Nat) (top : Int), (g, m) = (k, turnM j b top) → (∀ x n : Int, 0 ≤ x → x < top → aCall (cxOf (spOf lA)) 30 (.fn k) [.int j x, .int .i64 n] H0 = some (.int j (rotI b x n), H0)) →
      AV.plainL args = true ∧ v.plain = true ∧ ∃ f h', aCall (cxOf (spOf lA)) f (.fn g) args H0 = some (v, h') := by
    intro k j b top e hr
    injection e with e1 e2
    subst e1; subst e2
    unfold turnM at hm
    split at hm
    · rename_i j' x i n
      rw [cb_eq] at hm
      split at hm
      · rename_i hk
        rw [Bool.and_eq_true, decide_eq_true_eq, decide_eq_true_eq] at hk
        obtain ⟨rfl, rfl⟩ := hk
        injection hm with hm; injection hm with h1 h2; subst h1; subst h2
        have c1 : ileB 0 x = true := by
          cases hq : ileB 0 x with
          | true => rfl
          | false => simp only [allTrue, hq] at hc; cases hc
        have c2 : iltB x top = true := by
          cases hq : iltB x top with
          | true => rfl
          | false => simp only [allTrue, c1, hq] at hc; cases hc
        rw [ileB_eq] at c1; rw [iltB_eq] at c2
        exact ⟨rfl, rfl, _, _, hr x n (of_decide_eq_true c1) (of_decide_eq_true c2)⟩
      · cases hm
    · cases hm
  simp only [lB, List.mem_cons, List.not_mem_nil, or_false] at hmem
  rcases hmem with e | e | e | e | e
  · injection e with e1 e2
    subst e1; subst e2
    unfold const0 at hm
    split at hm
    · injection hm with hm; injection hm with h1 h2; subst h2
      exact ⟨rfl, rfl, _, _, run15B⟩
    · cases hm
  · exact fin _ _ _ _ e fun x n h1 h2 => turn8 x n h1 (by simpa using h2)
  · exact fin _ _ _ _ e fun x n h1 h2 => turn16 x n h1 (by simpa using h2)
  · exact fin _ _ _ _ e fun x n h1 h2 => turn32 x n h1 (by simpa using h2)
  · exact fin _ _ _ _ e fun x n h1 h2 => turn64 x n h1 (by simpa using h2)
end Go.Proofs.Ytecncappdnhbaaa

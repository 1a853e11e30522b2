/- Chapter 1: what the functions of words do. -/
import Derived.Test.YtecncappdnhbaaaATab
import Derived.Test.YtecncappdnhbaaaAbW
import Derived.Test.YtecncappdnhbaaaW01
set_option autoImplicit false
set_option linter.unusedVariables false
set_option linter.unusedSimpArgs false
set_option maxRecDepth 100000
noncomputable section
namespace Go.Proofs.Ytecncappdnhbaaa
open Go.Ab

abbrev cxOf (sp : Specs) : Cx := { ty := T.get none atys, fn := T.get none afns, sum := specSum sp }
abbrev cxN : Cx := { ty := T.get none atys, fn := T.get none afns, sum := fun _ _ _ => none }

/-- Without arguments, a number or a bool. -/
def lA : List (FuncId × (List AV → Option (List Bool × AV))) := [(63, const0 (.int .i64 8)), (64, const0 (.int .i64 16)), (65, const0 (.int .i64 32)), (66, const0 (.int .i64 64)), (15, const0 (.bool true))]
theorem run63 : aCall cxN 100 (.fn 63) [] H0 = some (.int .i64 8, H0) := by kernel_rfl
theorem run64 : aCall cxN 100 (.fn 64) [] H0 = some (.int .i64 16, H0) := by kernel_rfl
theorem run65 : aCall cxN 100 (.fn 65) [] H0 = some (.int .i64 32, H0) := by kernel_rfl
theorem run66 : aCall cxN 100 (.fn 66) [] H0 = some (.int .i64 64, H0) := by kernel_rfl
theorem run15 : ((aCall cxN 100 (.fn 15) [] H0).map fun r => AV.beq r.1 (.bool true)) = some true := by kernel_rfl
theorem okA : SumAll Try.prog (cxOf (spOf lA)) := by
  refine specs_ok (cx_goes _) sumAll_none fun g m args c v h hm hc => ?_
  have hmem := spOf_mem h
  have fin : ∀ (k : FuncId) (u : AV), (g, m) = (k, const0 u) → u.plain = true → (∃ f h', aCall cxN f (.fn k) [] H0 = some (u, h')) → AV.plainL args = true ∧ v.plain = true ∧ ∃ f h', aCall cxN f (.fn g) args H0 = some (v, h') := by
    intro k u e hu hr
    injection e with e1 e2
    subst e1; subst e2
    unfold const0 at hm
    split at hm
    · injection hm with hm; injection hm with h1 h2; subst h2
      exact ⟨rfl, hu, hr⟩
    · cases hm
  simp only [lA, List.mem_cons, List.not_mem_nil, or_false] at hmem
  rcases hmem with e | e | e | e | e
  · exact fin _ _ e rfl ⟨_, _, run63⟩
  · exact fin _ _ e rfl ⟨_, _, run64⟩
  · exact fin _ _ e rfl ⟨_, _, run65⟩
  · exact fin _ _ e rfl ⟨_, _, run66⟩
  · refine fin _ _ e rfl ?_
    have := run15
    cases hx : aCall cxN 100 (.fn 15) [] H0 with
    | none => rw [hx] at this; cases this
    | some r =>
      rw [hx] at this
      simp only [Option.map_some] at this
      injection this with this
      exact ⟨100, r.2, by rw [hx, ← AV.beq_eq _ _ this]⟩
end Go.Proofs.Ytecncappdnhbaaa

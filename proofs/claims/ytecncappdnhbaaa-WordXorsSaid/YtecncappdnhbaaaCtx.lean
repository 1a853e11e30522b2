/- The seat's machine, with what is known. -/
import Derived.Test.YtecncappdnhbaaaATab
import Derived.Test.YtecncappdnhbaaaAbRow
set_option autoImplicit false
set_option linter.unusedVariables false
set_option maxRecDepth 100000
noncomputable section
namespace Go.Proofs.Ytecncappdnhbaaa
open Go.Ab
abbrev tys := T.get none atys
abbrev fns := T.get none afns
/-- nothing is known. -/
abbrev C0 := mkCx tys fns [] []
abbrev S0 := mkS tys [] []
theorem all0 : SumAll Try.prog C0 := sums_all (fun _ h => by cases h) (fun _ h => by cases h)
end Go.Proofs.Ytecncappdnhbaaa

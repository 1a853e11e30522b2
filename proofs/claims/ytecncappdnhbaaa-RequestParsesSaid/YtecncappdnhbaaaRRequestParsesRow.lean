/-
  RequestParses holds for every input: the call returns true and each argument reads as it did. The row step was printed by a program of ours, after the guide's skeleton; the walk is a run of the abstract machine.
-/
import Derived.Test.YtecncappdnhbaaaRows
import Derived.WalkKit
import Derived.ProofKit
import Derived.OpenShut
import Derived.ShutString
import Derived.ChangeOld
import Derived.Below
import Derived.Test.YtecncappdnhbaaaG3
import Derived.Test.YtecncappdnhbaaaG7
namespace Go.Proofs.Ytecncappdnhbaaa.requestParses
open Go.ChangeShapes Go.WideShapes Go.ChangeAt Go.RowKit
open Go.ChangeMaps (open_string shut_string)
set_option linter.unusedVariables false

theorem own : ownKnob Try.prog.godebug = none := by kernel_rfl
theorem laidOut : laidOutB Try.prog = true := by kernel_rfl
theorem one_val {w : World} {us : List Go.Ab.AV} {v : Value} (h : Go.Ab.RelL (Go.Ab.Inj.start w) us [v]) : ∃ u, us = [u] ∧ Go.Ab.RelV (Go.Ab.Inj.start w) u v := by
  cases h with
  | cons a b => cases b with | nil => exact ⟨_, rfl, a⟩
def it0 : Go.Ab.IT := .slice (.int .u8) 1

set_option maxRecDepth 100000 in
theorem lifted (os : Os) (started : os.Started) (H : Type) (enc : TypeId × Value → H) :
    ReturnsInHanded {} Try.checked os 14 .any (Rows.requestParsesSpec.pre6 enc Try.prog Try.f14 Rows.requestParsesRow.domain false) (Rows.requestParsesSpec.post enc Try.prog Try.f14 false true false false) := by
  refine returnsInHanded_of_change (C := Try.checked) own started (by kernel_rfl) Try.func14
    (ChangeSpec.witness6 (enc := enc) (C := Try.checked) false ⟨#[], #[.slice none 0 0], []⟩ 8 (by kernel_rfl) (by kernel_rfl) (by kernel_rfl) (by kernel_rfl)) ?_
  intro W base args ds gs before hval0 hW hcnd _
  have hval : ∀ (j : Nat) t v, Try.f14.params[j]? = some t → args[j]? = some v → Value.okWide Try.prog W .any base t v := hval0
  have hW' := hW
  obtain ⟨p, q, hA0, hV, rfl, hfz, hnd⟩ := hW
  have hA : DataW.TrodAll enc Try.prog W 0 (fun _ => true) true Try.f14.params.toList args.toList ds p := hA0
  rw [Try.params14] at hA hval
  obtain ⟨v0, vs0, d0, ds0, p0, q0, hargs, rfl, rfl, h0, r0⟩ := trodAll_cons hA
  obtain ⟨rfl, rfl, rfl⟩ := trodAll_nil r0
  obtain rfl : args = #[v0] := by cases args; simp_all
  obtain ⟨rfl, rfl⟩ := trodVars_none hV
  obtain ⟨a0, len0, cap0, rfl⟩ := okWide_slice Try.underlying36 (hval 0 36 v0 rfl rfl)
  have k0 := h0
  have lt0 : ∀ x ∈ p0, x.block < W.heap.size := by obtain ⟨m, hm⟩ := k0; exact DataW.trod_lt m _ _ _ hm
  obtain ⟨us0, i0, s0⟩ : ∃ us, it0.is us ∧ Go.Ab.RelL (Go.Ab.Inj.start W) us [.slice a0 len0 cap0] := by
    obtain ⟨m, hm⟩ := k0
    exact Go.Ab.trod_in it0 (by kernel_rfl) hm
  obtain ⟨u0, rfl, r0s⟩ := one_val s0
  clear hA0 hval0
  have walk : Calls Try.prog 14 #[.slice a0 len0 cap0] W fun e w' => e = .returned (.bool true) ∧ Below W.heap.size W w' := by
    obtain ⟨nl, b, hu⟩ := bytes_is i0
    obtain rfl : u0 = .fsl nl b.length (Go.Ab.ofBytes b) := by simpa using hu
    obtain ⟨h', h⟩ := parses_run nl b
    exact Go.Ab.law_calls (Go.Ab.cxZ xbd) all10C h (.cons r0s .nil)
  refine walk.mono fun e W' ⟨he, bel⟩ => ?_
  subst he
  exact ⟨_, rfl, _, _, _, [], _, [], hW', trodAll_mk1 (shut_bool Try.underlying4 _), (trodAll_cons_mk (Below.trod laidOut (by kernel_rfl) (of_decide_eq_true (by kernel_rfl)) k0 bel lt0) trodAll_mk0), rfl, bel.frame _, fun h => by cases h⟩

theorem over : Rows.requestParsesRow.holds Try.pinned (OpenSpec.ofChange Rows.requestParsesSpec) :=
  OpenClaim.holds_of_wide 14 Try.f14 rfl rfl rfl rfl rfl rfl rfl ⟨rfl, rfl, rfl, rfl, rfl⟩ rfl rfl rfl rfl rfl (by kernel_rfl) Try.func14 (by kernel_rfl)
    (of_decide_eq_true (by kernel_rfl)) (by unfold Func.isWrapper; first | (rw [if_pos (by decide +kernel)]; kernel_rfl) | (rw [if_neg (by decide +kernel)]; exact ⟨rfl, rfl⟩))
    (fun os started H enc _ => lifted os started H enc)

/-- The statement. -/
theorem proved : Rows.RequestParsesSaid := over
#print axioms proved
end Go.Proofs.Ytecncappdnhbaaa.requestParses

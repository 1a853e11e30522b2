/-
  MediumShows holds for every input: the call returns true and each argument reads as it did. The row step was printed by a program of ours, after the guide's skeleton; the walk is a run of the abstract machine.
-/
import Derived.Test.YtlmgdpaajongbaaRows
import Derived.WalkKit
import Derived.ProofKit
import Derived.OpenShut
import Derived.ShutString
import Derived.ChangeOld
import Derived.Below
import Derived.Test.YtlmgdpaajongbaaG3
import Derived.Test.YtlmgdpaajongbaaG6
namespace Go.Proofs.Ytlmgdpaajongbaa.mediumShows
open Go.ChangeShapes Go.WideShapes Go.ChangeAt Go.RowKit
open Go.ChangeMaps (open_string shut_string)
set_option linter.unusedVariables false

theorem own : ownKnob Try.prog.godebug = none := by kernel_rfl
theorem laidOut : laidOutB Try.prog = true := by kernel_rfl
theorem one_val {w : World} {us : List Go.Ab.AV} {v : Value} (h : Go.Ab.RelL (Go.Ab.Inj.start w) us [v]) : ∃ u, us = [u] ∧ Go.Ab.RelV (Go.Ab.Inj.start w) u v := by
  cases h with
  | cons a b => cases b with | nil => exact ⟨_, rfl, a⟩
def it0 : Go.Ab.IT := .slice (.struct (.cons (.int .i64) (.cons (.int .i64) (.cons (.int .i64) (.cons (.slice .bool 1) .nil))))) 4
def it1 : Go.Ab.IT := .slice .bool 1

theorem closed : joinedFacts Try.pinned.checked.prog 4 Try.f4 Rows.mediumShowsSpec Rows.mediumShowsRow = true := by kernel_rfl
set_option maxRecDepth 100000 in
theorem lifted (os : Os) (started : os.Started) (H : Type) (enc : TypeId × Value → H) :
    ReturnsInHanded {} Try.checked os 4 .any (Rows.mediumShowsSpec.pre6 enc Try.prog Try.f4 Rows.mediumShowsRow.domain false) (Rows.mediumShowsSpec.post enc Try.prog Try.f4 false true false false) := by
  refine returnsInHanded_of_change (C := Try.checked) own started (by kernel_rfl) Try.func4
    (ChangeSpec.witness6 (enc := enc) (C := Try.checked) false ⟨#[], #[.slice none 0 0, .slice none 0 0, .bool false], []⟩ 8 (by kernel_rfl) (by kernel_rfl) (by kernel_rfl) (by kernel_rfl)) ?_
  intro W base args ds gs before hval0 hW hcnd _
  have hval : ∀ (j : Nat) t v, Try.f4.params[j]? = some t → args[j]? = some v → Value.okWide Try.prog W .any base t v := hval0
  have hW' := hW
  obtain ⟨p, q, hA0, hV, rfl, hfz, hnd⟩ := hW
  have hA : DataW.TrodAll enc Try.prog W 0 (fun _ => true) true Try.f4.params.toList args.toList ds p := hA0
  rw [Try.params4] at hA hval
  obtain ⟨v0, vs0, d0, ds0, p0, q0, hargs, rfl, rfl, h0, r0⟩ := trodAll_cons hA
  obtain ⟨v1, vs1, d1, ds1, p1, q1, rfl, rfl, rfl, h1, r1⟩ := trodAll_cons r0
  obtain ⟨v2, vs2, d2, ds2, p2, q2, rfl, rfl, rfl, h2, r2⟩ := trodAll_cons r1
  obtain ⟨rfl, rfl, rfl⟩ := trodAll_nil r2
  obtain rfl : args = #[v0, v1, v2] := by cases args; simp_all
  obtain ⟨rfl, rfl⟩ := trodVars_none hV
  obtain ⟨a0, len0, cap0, rfl⟩ := okWide_slice Try.underlying22 (hval 0 22 v0 rfl rfl)
  have k0 := h0
  have lt0 : ∀ x ∈ p0, x.block < W.heap.size := by obtain ⟨m, hm⟩ := k0; exact DataW.trod_lt m _ _ _ hm
  obtain ⟨us0, i0, s0⟩ : ∃ us, it0.is us ∧ Go.Ab.RelL (Go.Ab.Inj.start W) us [.slice a0 len0 cap0] := by
    obtain ⟨m, hm⟩ := k0
    exact Go.Ab.trod_in it0 (by kernel_rfl) hm
  obtain ⟨u0, rfl, r0s⟩ := one_val s0
  obtain ⟨a1, len1, cap1, rfl⟩ := okWide_slice Try.underlying23 (hval 1 23 v1 rfl rfl)
  have k1 := h1
  have lt1 : ∀ x ∈ p1, x.block < W.heap.size := by obtain ⟨m, hm⟩ := k1; exact DataW.trod_lt m _ _ _ hm
  obtain ⟨us1, i1, s1⟩ : ∃ us, it1.is us ∧ Go.Ab.RelL (Go.Ab.Inj.start W) us [.slice a1 len1 cap1] := by
    obtain ⟨m, hm⟩ := k1
    exact Go.Ab.trod_in it1 (by kernel_rfl) hm
  obtain ⟨u1, rfl, r1s⟩ := one_val s1
  obtain ⟨a2, rfl, rfl, rfl⟩ := open_bool Try.underlying4 (hval 2 4 v2 rfl rfl) h2
  clear hA0 hval0
  have walk : Calls Try.prog 4 #[.slice a0 len0 cap0, .slice a1 len1 cap1, .bool a2] W fun e w' => e = .returned (.bool true) ∧ Below W.heap.size W w' := by
    obtain ⟨n0, l0, hu0, hx0⟩ := acts_is i0
    obtain ⟨n1, l1, hu1, _⟩ := bools_is i1
    obtain rfl : u0 = .fsl n0 l0.length (Go.Ab.M.encA l0) := by simpa using hu0
    obtain rfl : u1 = .fsl n1 l1.length (Go.Ab.M.encB l1) := by simpa using hu1
    obtain ⟨h', h⟩ := ms_run n0 n1 a2 l0 l1 hx0
    exact Go.Ab.law_calls (Go.Ab.cxZ cx_goes) allM19 h (.cons r0s (.cons r1s (.cons (.bool _) .nil)))
  refine walk.mono fun e W' ⟨he, bel⟩ => ?_
  subst he
  exact ⟨_, rfl, _, _, _, [], _, [], hW', trodAll_mk1 (shut_bool Try.underlying4 _), (trodAll_cons_mk (Below.trod laidOut (by kernel_rfl) (of_decide_eq_true (by kernel_rfl)) k0 bel lt0) (trodAll_cons_mk (Below.trod laidOut (by kernel_rfl) (of_decide_eq_true (by kernel_rfl)) k1 bel lt1) (trodAll_cons_mk (shut_bool Try.underlying4 _) trodAll_mk0))), rfl, bel.frame _, fun h => by cases h⟩

theorem over : Rows.mediumShowsRow.holds Try.pinned (OpenSpec.ofChange Rows.mediumShowsSpec) :=
  OpenClaim.holds_of_wide 4 Try.f4 rfl rfl rfl rfl rfl rfl rfl ⟨rfl, rfl, rfl, rfl, rfl⟩ rfl rfl rfl rfl rfl (by kernel_rfl) Try.func4 closed
    (of_decide_eq_true (by kernel_rfl)) (by unfold Func.isWrapper; first | (rw [if_pos (by decide +kernel)]; kernel_rfl) | (rw [if_neg (by decide +kernel)]; exact ⟨rfl, rfl⟩))
    (fun os started H enc _ => lifted os started H enc)

/-- The statement. -/
theorem proved : Rows.MediumShowsSaid := over
#print axioms proved
end Go.Proofs.Ytlmgdpaajongbaa.mediumShows

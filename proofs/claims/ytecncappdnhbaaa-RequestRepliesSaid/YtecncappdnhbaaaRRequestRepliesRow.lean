/-
  RequestReplies holds for every input: the call returns true and each argument reads as it did. The row step was printed by a program of ours, after the guide's skeleton; the walk is a run of the abstract machine.
-/
import Derived.Test.YtecncappdnhbaaaRows
import Derived.WalkKit
import Derived.ProofKit
import Derived.OpenShut
import Derived.ShutString
import Derived.ChangeOld
import Derived.Below
import Derived.Test.YtecncappdnhbaaaG3
import Derived.Test.YtecncappdnhbaaaG5
namespace Go.Proofs.Ytecncappdnhbaaa.requestReplies
open Go.ChangeShapes Go.WideShapes Go.ChangeAt Go.RowKit
open Go.ChangeMaps (open_string shut_string)
set_option linter.unusedVariables false

theorem own : ownKnob Try.prog.godebug = none := by kernel_rfl
theorem laidOut : laidOutB Try.prog = true := by kernel_rfl
theorem one_val {w : World} {us : List Go.Ab.AV} {v : Value} (h : Go.Ab.RelL (Go.Ab.Inj.start w) us [v]) : ∃ u, us = [u] ∧ Go.Ab.RelV (Go.Ab.Inj.start w) u v := by
  cases h with
  | cons a b => cases b with | nil => exact ⟨_, rfl, a⟩
def it1 : Go.Ab.IT := .slice (.int .u8) 1
def it2 : Go.Ab.IT := .struct (.cons (.struct (.cons (.int .i64) (.cons (.int .i64) (.cons (.int .i64) (.cons (.int .i64) .nil))))) (.cons (.int .i64) (.cons (.slice (.int .i64) 1) (.cons (.int .u32) (.cons (.int .u32) (.cons (.int .i64) (.cons (.int .u32) (.cons (.int .u32) .nil))))))))

set_option maxRecDepth 100000 in
theorem lifted (os : Os) (started : os.Started) (H : Type) (enc : TypeId × Value → H) :
    ReturnsInHanded {} Try.checked os 11 .any (Rows.requestRepliesSpec.pre6 enc Try.prog Try.f11 Rows.requestRepliesRow.domain false) (Rows.requestRepliesSpec.post enc Try.prog Try.f11 false true false false) := by
  refine returnsInHanded_of_change (C := Try.checked) own started (by kernel_rfl) Try.func11
    (ChangeSpec.witness6 (enc := enc) (C := Try.checked) false ⟨#[], #[.int .u8 0, .slice none 0 0, .agg #[.int .i64 0, .int .i64 0, .int .i64 0, .int .i64 0, .int .i64 0, .slice none 0 0, .int .u32 0, .int .u32 0, .int .i64 0, .int .u32 0, .int .u32 0]], []⟩ 8 (by kernel_rfl) (by kernel_rfl) (by kernel_rfl) (by kernel_rfl)) ?_
  intro W base args ds gs before hval0 hW hcnd _
  have hval : ∀ (j : Nat) t v, Try.f11.params[j]? = some t → args[j]? = some v → Value.okWide Try.prog W .any base t v := hval0
  have hW' := hW
  obtain ⟨p, q, hA0, hV, rfl, hfz, hnd⟩ := hW
  have hA : DataW.TrodAll enc Try.prog W 0 (fun _ => true) true Try.f11.params.toList args.toList ds p := hA0
  rw [Try.params11] at hA hval
  obtain ⟨v0, vs0, d0, ds0, p0, q0, hargs, rfl, rfl, h0, r0⟩ := trodAll_cons hA
  obtain ⟨v1, vs1, d1, ds1, p1, q1, rfl, rfl, rfl, h1, r1⟩ := trodAll_cons r0
  obtain ⟨v2, vs2, d2, ds2, p2, q2, rfl, rfl, rfl, h2, r2⟩ := trodAll_cons r1
  obtain ⟨rfl, rfl, rfl⟩ := trodAll_nil r2
  obtain rfl : args = #[v0, v1, v2] := by cases args; simp_all
  obtain ⟨rfl, rfl⟩ := trodVars_none hV
  obtain ⟨a0, rfl, rfl, rfl, w0⟩ := open_int Try.underlying5 (hval 0 5 v0 rfl rfl) h0
  obtain ⟨a1, len1, cap1, rfl⟩ := okWide_slice Try.underlying36 (hval 1 36 v1 rfl rfl)
  have k1 := h1
  have lt1 : ∀ x ∈ p1, x.block < W.heap.size := by obtain ⟨m, hm⟩ := k1; exact DataW.trod_lt m _ _ _ hm
  obtain ⟨us1, i1, s1⟩ : ∃ us, it1.is us ∧ Go.Ab.RelL (Go.Ab.Inj.start W) us [.slice a1 len1 cap1] := by
    obtain ⟨m, hm⟩ := k1
    exact Go.Ab.trod_in it1 (by kernel_rfl) hm
  obtain ⟨u1, rfl, r1s⟩ := one_val s1
  obtain ⟨c2, rfl, hsz2⟩ := okWide_struct Try.underlying80 (hval 2 80 v2 rfl rfl)
  have k2 := h2
  have lt2 : ∀ x ∈ p2, x.block < W.heap.size := by obtain ⟨m, hm⟩ := k2; exact DataW.trod_lt m _ _ _ hm
  obtain ⟨us2, i2, s2⟩ : ∃ us, it2.is us ∧ Go.Ab.RelL (Go.Ab.Inj.start W) us c2.toList := by
    obtain ⟨m, hm⟩ := k2
    exact Go.Ab.trod_in it2 (by kernel_rfl) hm
  clear hA0 hval0
  have walk : Calls Try.prog 11 #[.int .u8 a0, .slice a1 len1 cap1, .agg c2] W fun e w' => e = .returned (.bool true) ∧ Below W.heap.size W w' := by
    obtain ⟨nl, b, hu⟩ := bytes_is i1
    obtain rfl : u1 = .fsl nl b.length (Go.Ab.ofBytes b) := by simpa using hu
    obtain ⟨s0, s1', s2', s3, s4, la, zs, s6, s7, s8, s9, s10, rfl, q6, q7, q9, q10⟩ := stat_is i2
    have hr0 : 0 ≤ a0 ∧ a0 < 256 := by
      have x := Go.Ab.int_range w0
      have x0 : 0 ≤ a0 := x.1
      have x1 : a0 ≤ 255 := x.2
      omega
    obtain ⟨h', h⟩ := replies_run a0 nl b s0 s1' s2' s3 s4 la zs s6 s7 s8 s9 s10 hr0.1 hr0.2 q6.1 q6.2 q7.1 q7.2 q9.1 q9.2 q10.1 q10.2
    exact Go.Ab.law_calls (Go.Ab.cxZ cx_goes) all9f h (.cons (.int _ _) (.cons r1s (.cons (.agg s2) .nil)))
  refine walk.mono fun e W' ⟨he, bel⟩ => ?_
  subst he
  exact ⟨_, rfl, _, _, _, [], _, [], hW', trodAll_mk1 (shut_bool Try.underlying4 _), (trodAll_cons_mk (shut_int Try.underlying5 w0) (trodAll_cons_mk (Below.trod laidOut (by kernel_rfl) (of_decide_eq_true (by kernel_rfl)) k1 bel lt1) (trodAll_cons_mk (Below.trod laidOut (by kernel_rfl) (of_decide_eq_true (by kernel_rfl)) k2 bel lt2) trodAll_mk0))), rfl, bel.frame _, fun h => by cases h⟩

theorem over : Rows.requestRepliesRow.holds Try.pinned (OpenSpec.ofChange Rows.requestRepliesSpec) :=
  OpenClaim.holds_of_wide 11 Try.f11 rfl rfl rfl rfl rfl rfl rfl ⟨rfl, rfl, rfl, rfl, rfl⟩ rfl rfl rfl rfl rfl (by kernel_rfl) Try.func11 (by kernel_rfl)
    (of_decide_eq_true (by kernel_rfl)) (by unfold Func.isWrapper; first | (rw [if_pos (by decide +kernel)]; kernel_rfl) | (rw [if_neg (by decide +kernel)]; exact ⟨rfl, rfl⟩))
    (fun os started H enc _ => lifted os started H enc)

/-- The statement. -/
theorem proved : Rows.RequestRepliesSaid := over
#print axioms proved
end Go.Proofs.Ytecncappdnhbaaa.requestReplies

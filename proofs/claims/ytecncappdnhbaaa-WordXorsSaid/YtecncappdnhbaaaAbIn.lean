/- How a law's arguments come in: as they stand in the world. -/
import Derived.Test.YtecncappdnhbaaaAbZ
set_option autoImplicit false
set_option linter.unusedVariables false
set_option linter.unusedSimpArgs false
set_option linter.unusedSectionVars false
namespace Go.Ab
open Go.RowKit

noncomputable def Inj.start (w : World) : Inj := ⟨fun _ => none, fzAll w, w.heap.size⟩
theorem relW_start (sz : TypeId → Nat) (w : World) : RelW sz (Old w) w (Inj.start w) H0 w := by
  refine ⟨Keep.refl _ _, fun _ h => h, fun _ _ e => (by cases e), fun _ _ e => (by cases e), fun _ _ _ _ e => (by cases e), fun k arr e => ?_, fun _ _ _ _ e => (by cases e), Nat.le_refl _⟩
  have e : fzAll w k = some arr := e
  unfold fzAll at e
  split at e
  · rename_i arr' t fr hk
    injection e with e; subst e
    exact ⟨t, fr, hk⟩
  · cases e

/-- **A law**: the run by itself says what the call does. -/
theorem law_calls {P : Program} {cx : Cx} (hcx : CxOK P cx) (hs : SumAll P cx) {f : Nat} {g : FuncId} {us : List AV} {h' : Heap} {w : World} {xs : List Value}
    (h : aCall cx f (.fn g) us H0 = some (.bool true, h')) (hr : RelL (Inj.start w) us xs) : Calls P g xs.toArray w fun e w' => e = .returned (.bool true) ∧ Below w.heap.size w w' := by
  refine (calls_of_aCall hcx (hs.sum _ _) (hs.loop _ _) h (relW_start _ w) hr).mono ?_
  rintro e w' ⟨Z, μ, rfl, hz, hb⟩
  cases hz
  exact ⟨rfl, hb⟩

theorem cell_spot {w : World} {a : Addr} {v : Value} (h : w.cell? a = some v) : a.spot = none ∧ ∃ arr e fr, w.heap[a.block]? = some (.cells arr e fr) ∧ arr[a.off]? = some v := by
  unfold World.cell? at h
  split at h
  · rename_i c e fr hc
    split at h
    · cases h
    · rename_i hs
      exact ⟨by simpa using hs, c, e, fr, hc, h⟩
  · cases h

/-- A slice of integers. -/
theorem row_in {w : World} {k : IntKind} {a : Option Addr} {len cap : Nat} {zs : List Int}
    (h : (a = none ∧ len = 0 ∧ cap = 0 ∧ zs = []) ∨ ∃ x, a = some x ∧ len ≤ cap ∧ cap ≤ maxLen ∧ zs.length = cap ∧ (∀ i, i < zs.length → w.cell? (x.add i) = some (.int k (zs.getD i 0))) ∧ ∀ n ∈ zs, (Lit.int k n).wf = true) :
    ∃ nl, RelV (Inj.start w) (.fsl nl len ((zs.take len).map (AV.int k))) (.slice a len cap) ∧ (zs.take len).length = len ∧ (nl = true → len = 0) ∧ len ≤ maxLen ∧ ∀ n ∈ zs.take len, (Lit.int k n).wf = true := by
  rcases h with ⟨rfl, rfl, rfl, rfl⟩ | ⟨x, rfl, h1, h2, h3, h4, h5⟩
  · exact ⟨true, .fslN, rfl, fun _ => rfl, Nat.zero_le _, fun n hn => by cases hn⟩
  · have hlen : (zs.take len).length = len := by rw [List.length_take]; omega
    refine ⟨false, ?_, hlen, (fun h => by cases h), by omega, fun n hn => h5 n (List.mem_of_mem_take hn)⟩
    have hfz : len ≠ 0 → x.spot = none ∧ ∃ arr e fr, w.heap[x.block]? = some (.cells arr e fr) := by
      intro hl
      have h0 := h4 0 (by omega)
      have : x.add 0 = x := by simp [Addr.add]
      rw [this] at h0
      obtain ⟨s1, arr, e, fr, s2, _⟩ := cell_spot h0
      exact ⟨s1, arr, e, fr, s2⟩
    by_cases hl : len = 0
    · subst hl
      exact .fsl (arr := #[]) (vs := []) (fun hn => absurd rfl hn) .nil (fun k x hx => by cases hx) (Nat.zero_le _)
    · obtain ⟨s1, arr, e, fr, s2⟩ := hfz hl
      refine .fsl (arr := arr) (vs := (zs.take len).map (Value.int k)) (fun _ => ⟨s1, ?_⟩) ?_ (fun j y hj => ?_) h1
      · show fzAll w x.block = some arr
        unfold fzAll; rw [s2]
      · refine RelL.of_get (by simp) fun j v y hv hy => ?_
        rw [List.getElem?_map] at hv hy
        cases hz : (zs.take len)[j]? with
        | none => rw [hz] at hv; cases hv
        | some z => rw [hz] at hv hy; cases hv; cases hy; exact .int _ _
      · rw [List.getElem?_map] at hj
        cases hz : (zs.take len)[j]? with
        | none => rw [hz] at hj; cases hj
        | some z =>
          rw [hz] at hj; cases hj
          have hjl : j < len := by have := (List.getElem?_eq_some_iff.1 hz).1; omega
          rw [List.getElem?_take, if_pos hjl] at hz
          have h0 := h4 j (by omega)
          have hg : zs.getD j 0 = z := by rw [List.getD_eq_getElem?_getD, hz]; rfl
          rw [hg] at h0
          obtain ⟨_, arr', e', fr', t2, t3⟩ := cell_spot h0
          have hb : (x.add j).block = x.block ∧ (x.add j).off = x.off + j := ⟨(addr_add_off x j).1, (addr_add_off x j).2.1⟩
          rw [hb.1, s2] at t2
          injection t2 with t2; injection t2 with t2 _ _; subst t2
          rw [hb.2] at t3; exact t3

theorem int_range {k : IntKind} {n : Int} (h : (Lit.int k n).wf = true) : k.min ≤ n ∧ n ≤ k.max := by
  simpa [Lit.wf] using h
theorem u8_range {n : Int} (h : (Lit.int .u8 n).wf = true) : 0 ≤ n ∧ n < 256 := by
  have := int_range h
  simp [IntKind.min, IntKind.max, IntKind.signed, IntKind.bits] at this
  omega
theorem bytes_of_ints {zs : List Int} (h : ∀ n ∈ zs, (Lit.int .u8 n).wf = true) : ∃ l : List UInt8, l.length = zs.length ∧ zs.map (AV.int .u8) = ofBytes l := by
  induction zs with
  | nil => exact ⟨[], rfl, rfl⟩
  | cons z zs ih =>
    obtain ⟨l, h1, h2⟩ := ih fun n hn => h n (by simp [hn])
    obtain ⟨r1, r2⟩ := u8_range (h z (by simp))
    refine ⟨UInt8.ofNat z.toNat :: l, by simp [h1], ?_⟩
    simp only [List.map_cons, h2, ofBytes]
    congr 2
    have : (UInt8.ofNat z.toNat).toNat = z.toNat % 256 := by simp
    rw [this]
    omega
end Go.Ab

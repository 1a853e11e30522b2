/- Texts of the abstract machine and of the laws, merged. -/
import Derived.ChangeSlices
import Derived.Test.YtecncappdnhbaaaG3
/- A slice of bools that comes in. -/
section
set_option autoImplicit false
set_option linter.unusedVariables false
noncomputable section
namespace Go
variable {H : Type} {enc : TypeId × Value → H} {P : Program} {w : World} {base : Nat} {spare : Nat → Bool} {held : Bool}
def boolOf1 (y : DataW H × List MemPlace) : Bool := match y.1 with | .lit (.bool b) => b | _ => false
theorem open_bools {t e : TypeId} {fuel : Nat} {cs : List Value} {x : DataW H × List MemPlace} (ht : P.underlying t = some (.slice e)) (he : P.underlying e = some .bool) (hc : P.cellsOf e = 1)
    (h : DataW.trod enc P w base spare held fuel t cs = some x) :
    cs = [.slice none 0 0] ∨ ∃ (a : Addr) (len cap : Nat) (zs : List Bool), cs = [.slice (some a) len cap] ∧ len ≤ cap ∧ cap ≤ maxLen ∧ zs.length = len ∧ ∀ i, i < zs.length → w.cell? (a.add i) = some (.bool (zs.getD i false)) := by
  rcases DataW.trod_slice ht h with h0 | ⟨a, len, cap, elems, rest, n, _, rfl, rfl, hb, hl, hm, hlen, hel, hsp, hns⟩
  · exact .inl h0.1
  right
  refine ⟨a, len, cap, elems.map boolOf1, rfl, hl, hm, by simpa using hlen, fun i hi => ?_⟩
  simp only [List.length_map] at hi
  have hE := hel i (by omega)
  rw [hc, Nat.mul_one, List.getElem?_eq_getElem hi, Option.bind_eq_some_iff] at hE
  obtain ⟨cs', hcs, hy'⟩ := hE
  obtain ⟨m, rfl, hw⟩ := DataW.trod_bool he hy'
  rw [Go.ChangeShapes.cell_of_cells?_one hcs]
  congr 2
  simp [hi, hw, boolOf1]
namespace Ab
open Go.RowKit
theorem row_inB {w : World} {a : Option Addr} {len cap : Nat} {zs : List Bool}
    (h : (a = none ∧ len = 0 ∧ cap = 0 ∧ zs = []) ∨ ∃ x, a = some x ∧ len ≤ cap ∧ cap ≤ maxLen ∧ zs.length = len ∧ ∀ i, i < zs.length → w.cell? (x.add i) = some (.bool (zs.getD i false))) :
    ∃ nl, RelV (Inj.start w) (.fsl nl len (zs.map AV.bool)) (.slice a len cap) ∧ zs.length = len ∧ (nl = true → len = 0) ∧ len ≤ maxLen := by
  rcases h with ⟨rfl, rfl, rfl, rfl⟩ | ⟨x, rfl, h1, h2, h3, h4⟩
  · exact ⟨true, .fslN, rfl, fun _ => rfl, Nat.zero_le _⟩
  · refine ⟨false, ?_, h3, (fun h => by cases h), by omega⟩
    by_cases hl : len = 0
    · subst hl
      have : zs = [] := List.eq_nil_of_length_eq_zero h3
      subst this
      exact .fsl (arr := #[]) (vs := []) (fun hn => absurd rfl hn) .nil (fun k x hx => by cases hx) (Nat.zero_le _)
    · obtain ⟨s1, arr, e, fr, s2⟩ : x.spot = none ∧ ∃ arr e fr, w.heap[x.block]? = some (.cells arr e fr) := by
        have h0 := h4 0 (by omega)
        have : x.add 0 = x := by simp [Addr.add]
        rw [this] at h0
        obtain ⟨s1, arr, e, fr, s2, _⟩ := cell_spot h0
        exact ⟨s1, arr, e, fr, s2⟩
      refine .fsl (arr := arr) (vs := zs.map Value.bool) (fun _ => ⟨s1, ?_⟩) ?_ (fun j y hj => ?_) h1
      · show fzAll w x.block = some arr
        unfold fzAll; rw [s2]
      · refine RelL.of_get (by simp) fun j v y hv hy => ?_
        rw [List.getElem?_map] at hv hy
        cases hz : zs[j]? with
        | none => rw [hz] at hv; cases hv
        | some z => rw [hz] at hv hy; cases hv; cases hy; exact .bool _
      · rw [List.getElem?_map] at hj
        cases hz : zs[j]? with
        | none => rw [hz] at hj; cases hj
        | some z =>
          rw [hz] at hj; cases hj
          have hjl : j < zs.length := (List.getElem?_eq_some_iff.1 hz).1
          have h0 := h4 j hjl
          have hg : zs.getD j false = z := by rw [List.getD_eq_getElem?_getD, hz]; rfl
          rw [hg] at h0
          obtain ⟨_, arr', e', fr', t2, t3⟩ := cell_spot h0
          have hb : (x.add j).block = x.block ∧ (x.add j).off = x.off + j := ⟨(addr_add_off x j).1, (addr_add_off x j).2.1⟩
          rw [hb.1, s2] at t2
          injection t2 with t2; injection t2 with t2 _ _; subst t2
          rw [hb.2] at t3; exact t3
end Ab
end Go
end
end

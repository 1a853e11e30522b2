/- Stores; copy; append; maps that are written. -/
import Derived.Test.YtecncappdnhbaaaAbI
set_option autoImplicit false
set_option linter.unusedVariables false
set_option linter.unusedSimpArgs false
set_option linter.unusedSectionVars false
namespace Go.Ab
open Go.RowKit Go.MapKept

/-- Cells that are written, one behind the other. -/
theorem storeCells_run (P : Program) (g o : Nat) (e : TypeId) (fr : Nat × Nat) : ∀ (vs : List Value) (i : Nat) (arr : Array Value) (w : World),
    w.heap[g]? = some (.cells arr e fr) → freeRow arr.size fr → o + i + vs.length ≤ arr.size → (∀ v ∈ vs, v.oneCell' = true) →
    ∃ w' arr', (storeCells ⟨g, o, none⟩ vs i).run P w = .ok () w' ∧ w'.heap[g]? = some (.cells arr' e fr) ∧ arr'.size = arr.size ∧
      (∀ k : Nat, arr'[k]? = if o + i ≤ k ∧ k < o + i + vs.length then vs[k - (o + i)]? else arr[k]?) ∧
      (∀ k, k ≠ g → w'.heap[k]? = w.heap[k]?) ∧ w'.os = w.os ∧ w'.tape = w.tape ∧ w'.output = w.output ∧ w'.heap.size = w.heap.size := by
  intro vs
  induction vs with
  | nil =>
    intro i arr w hg _ _ _
    refine ⟨w, arr, rfl, hg, rfl, fun k => ?_, fun _ _ => rfl, rfl, rfl, rfl, rfl⟩
    rw [if_neg (by simp; try omega)]
  | cons v vs ih =>
    intro i arr w hg hfr hle h1
    simp only [List.length_cons] at hle
    have hi : o + i < arr.size := by omega
    have hcell : w.cell? ⟨g, o + i, none⟩ = some arr[o + i] := by simp [World.cell?, hg, hi]
    have hfro : w.frozen? ⟨g, o + i, none⟩ = false := by
      obtain ⟨lo, hi'⟩ := fr
      simp only [World.frozen?, hg]
      exact hfr.at hi
    have hst : (store ((⟨g, o, none⟩ : Addr).add i) v).run P w = .ok () (w.setCell ⟨g, o + i, none⟩ v) := by
      rw [addr_add, run_store P w _ v .plain (h1 v (by simp)), hcell]
      simp [hfro]
    have hlt : g < w.heap.size := (Array.getElem?_eq_some_iff.1 hg).1
    have hheap : ∀ k, (w.setCell ⟨g, o + i, none⟩ v).heap[k]? = if k = g then some (.cells (arr.setIfInBounds (o + i) v) e fr) else w.heap[k]? := by
      intro k
      simp only [World.setCell, Array.getElem?_modify]
      by_cases hk : k = g
      · rw [if_pos hk, if_pos hk.symm, hk, hg]; rfl
      · rw [if_neg (Ne.symm hk), if_neg hk]
    obtain ⟨w', arr', h2, h3, h4, h5, h6, h7, h8, h9, h10⟩ := ih (i + 1) (arr.setIfInBounds (o + i) v) (w.setCell ⟨g, o + i, none⟩ v) (by rw [hheap, if_pos rfl]) (by simpa using hfr) (by simp; omega) (fun u hu => h1 u (by simp [hu]))
    refine ⟨w', arr', ?_, h3, by simpa using h4, fun k => ?_, fun k hk => ?_, h7, h8, h9, ?_⟩
    · simp only [storeCells, Sem.run_bind, hst, Result.andThen_ok]; exact h2
    · rw [h5]
      simp only [Array.getElem?_setIfInBounds, List.length_cons]
      by_cases hk : k = o + i
      · subst hk
        rw [if_neg (by omega), if_pos rfl, if_pos hi, if_pos (by omega)]
        simp
      · by_cases hk2 : o + i ≤ k ∧ k < o + i + (vs.length + 1)
        · rw [if_pos (by omega), if_pos hk2]
          obtain ⟨q, hq⟩ : ∃ q, k - (o + i) = q + 1 := ⟨k - (o + i) - 1, by omega⟩
          rw [hq, List.getElem?_cons_succ]; congr 1; omega
        · rw [if_neg (by omega), if_neg hk2, if_neg (by omega)]
    · rw [h6 k hk, hheap, if_neg hk]
    · rw [h10]; simp [World.setCell]

section
variable {P : Program} {cx : Cx} (hcx : CxOK P cx) {μ : Inj} {base : Nat → Prop} {w0 w : World} {H : Heap} (hw : RelW (szOf cx) base w0 μ H w) {g : Env} {a : Act} (hf : RelF μ g a.tmps)

theorem RelL.oneCell {vs : List AV} {xs : List Value} (h : RelL μ vs xs) (ha : vs.all AV.isCell = true) : ∀ x ∈ xs, x.oneCell' = true := by
  induction vs generalizing xs with
  | nil => cases h; simp
  | cons v vs ih =>
    cases h with
    | cons a b =>
      simp only [List.all_cons, Bool.and_eq_true] at ha
      intro x hx
      rcases List.mem_cons.1 hx with rfl | hx
      · exact a.oneCell ha.1
      · exact ih b ha.2 x hx

include hw in
/-- A row with new cells in its midst: in the world too. -/
theorem row_write {p : Nat × Nat} {i : BI} (hb : μ p.1 = some i) {e : TypeId} {len : Nat} {cs : List AV} (hg : H.get p.1 = .cells true e len cs) {vs : List AV} {xs : List Value} (hr : RelL μ vs xs)
    (hall : vs.all AV.isCell = true) (cs' : List AV) (hroom : p.2 + vs.length ≤ i.m)
    (hcs : ∀ (k : Nat) (v : AV), cs'[k]? = some v → (p.2 ≤ k ∧ k < p.2 + vs.length ∧ vs[k - p.2]? = some v) ∨ (¬ (p.2 ≤ k ∧ k < p.2 + vs.length) ∧ cs[k]? = some v)) :
    ∃ w', (storeCells ⟨i.blk, i.off + p.2, none⟩ xs).run P w = .ok () w' ∧ RelW (szOf cx) base w0 μ (H.put p.1 (.cells true e cs'.length cs')) w' := by
  obtain ⟨hl, arr, e', fr, harr, hc, hown⟩ := hw.row hb hg
  obtain ⟨h1, h2, h3, h4, h5, h6⟩ := hown rfl
  have hxl := hr.length
  obtain ⟨w', arr', r1, r2, r3, r4, r5, r6, r7, r8, r9⟩ := storeCells_run P i.blk (i.off + p.2) e' fr xs 0 arr w harr h6 (by rw [h2]; omega) (hr.oneCell hall)
  refine ⟨w', r1, RelW.write hw hb (by rw [hg]; rfl) r6 r7 r8 r9 r5 (.inl rfl) ?_⟩
  refine ⟨rfl, arr', e', fr, r2, fun k v hv => ?_, fun _ => ⟨h1, h2, h3, by rw [h4, r3], h5, by rw [r3]; exact h6⟩⟩
  rw [r4, h2]
  rcases hcs k v hv with ⟨k1, k2, k3⟩ | ⟨k1, k2⟩
  · rw [if_pos (by omega)]
    obtain ⟨x, hx, r⟩ := hr.get _ _ k3
    exact ⟨x, by rw [← hx]; congr 1; omega, r⟩
  · rw [if_neg (by omega)]
    obtain ⟨x, hx, r⟩ := hc k v k2
    exact ⟨x, by rw [← hx, h2], r⟩

include hw in
theorem storeAt_sound {p : Nat × Nat} {vs : List AV} {xs : List Value} {H' : Heap} (h : storeAt H p vs = some H') (hr : RelL μ vs xs) {i : BI} (hb : μ p.1 = some i) :
    ∃ w', (storeCells ⟨i.blk, i.off + p.2, none⟩ xs).run P w = .ok () w' ∧ RelW (szOf cx) base w0 μ H' w' ∧ H'.next = H.next := by
  unfold storeAt at h
  split at h
  · rename_i e len cs hg
    split at h
    · rename_i hc
      obtain ⟨hall, hle⟩ := hc
      injection h with h; subst h
      obtain ⟨hl, arr, e', fr, harr, hcc, hown⟩ := hw.row hb hg
      obtain ⟨h1, h2, h3, h4, h5, h6⟩ := hown rfl
      have hm : len ≤ i.m := by
        rw [h4]
        rcases Nat.lt_or_ge arr.size len with hlt | hge
        · exfalso
          have hlt' : arr.size < cs.length := by omega
          obtain ⟨x, hx, _⟩ := hcc arr.size _ (List.getElem?_eq_getElem hlt')
          rw [h2] at hx
          simp at hx
        · exact hge
      obtain ⟨w', r1, r2⟩ := row_write (P := P) hw hb hg hr hall (rowSet cs p.2 vs) (by omega) (fun k v hv => by
        rw [rowSet_get] at hv
        split at hv
        · rename_i hk; exact .inl ⟨hk.1, hk.2.1, hv⟩
        · rename_i hk
          have : k < cs.length := (List.getElem?_eq_some_iff.1 hv).1
          exact .inr ⟨by omega, hv⟩)
      refine ⟨w', r1, ?_, rfl⟩
      rw [rowSet_len, ← hl] at r2
      exact r2
    · cases h
  · cases h

include hw hcx in
theorem aStore_sound {t : TypeId} {x v : AV} {X V : Value} {H' : Heap} (h : aStore cx t H x v = some H') (hx : RelV μ x X) (hv : RelV μ v V) :
    ∃ w', (Instr.storeAt t X V).run P w = .ok () w' ∧ RelW (szOf cx) base w0 μ H' w' ∧ H'.next = H.next := by
  unfold aStore at h
  split at h
  · rename_i ty p ht
    split at h
    · rename_i hlen
      have hty := hcx.ty t ty ht
      obtain ⟨i, hi, rfl⟩ := rel_ptr hx
      have hnv : v ≠ .any := by
        intro e
        subst e
        unfold storeAt at h
        split at h
        · rw [if_neg (by simp [AV.cells, AV.isCell])] at h; cases h
        · cases h
      have hrc := hv.cells hnv
      obtain ⟨w', r1, r2, r3⟩ := storeAt_sound (P := P) hw h hrc hi
      refine ⟨w', ?_, r2, r3⟩
      have hsz : V.cells.size = ty.size := by have := hrc.length; simp at this; omega
      simp only [Instr.storeAt, Instr.sureAddr, pure_bind, storeVar, Sem.run_bind, hty.run_size, Result.andThen_ok]
      rw [if_neg (by simp [hsz])]
      exact r1
    · cases h
  · cases h

/-! ### A new block, and a block under a new number -/
include hw in
theorem RelW.unmapped : μ H.next = none := by
  cases h : μ H.next with
  | none => rfl
  | some i => exact absurd (hw.fresh _ _ h) (Nat.lt_irrefl _)

theorem grow_set (μ : Inj) (n : Nat) (i : BI) : Grow n μ (μ.set n i) := ⟨fun b hb => Inj.set_ne _ _ (by omega), fun _ _ e => e, rfl, fun _ _ e => .inl e⟩

include hw in
theorem RelW.made {e : TypeId} {cs : List AV} {xs rest : List Value} (hr : RelL μ cs xs) {i : BI} (hi : i = ⟨w.heap.size, 0, (xs ++ rest).length, szOf cx e⟩) :
    RelW (szOf cx) base w0 (μ.set H.next i) (H.new (mkCells true e cs)) (w.alloc (.cells (xs ++ rest).toArray e)) := by
  have hu := hw.unmapped
  refine RelW.bind (hw.addDead (mkCells true e cs)) hu (by simp) _ i (by rw [hi]) ?_
  rw [Heap.get_new, if_pos rfl]
  exact cells_made (cx := cx) (base := base) hr w cs.length rfl rest (0, 0) (.inl rfl) i hi _ (ext_set i hu) hw.newOK

include hw in
theorem RelW.rename {b : Nat} {i : BI} (hb : μ b = some i) (hwr : (H.get b).writes = true) (H' : Heap) (hn : H'.next = H.next + 1)
    (hg : ∀ c, H'.get c = if c = H.next then H.get b else if c = b then .dead else H.get c) : RelW (szOf cx) base w0 (μ.set H.next i) H' w := by
  have hu := hw.unmapped
  have hbn := hw.fresh b i hb
  have hlive : (H.get b).live = true := by cases hx : H.get b <;> simp_all [Blk.writes, Blk.live]
  refine ⟨hw.below, hw.baseLe, fun c j e => ?_, fun c j e => ?_, fun c c' j j' e e' hne hcw hcl => ?_, hw.froz, fun c j k arr e hcw hz => ?_, hw.lo⟩
  · rw [hn]
    by_cases hc : c = H.next
    · omega
    · rw [Inj.set_ne _ _ hc] at e; have := hw.fresh c j e; omega
  · rw [hg]
    by_cases hc : c = H.next
    · subst hc; rw [Inj.set_same] at e; cases e
      rw [if_pos rfl]; exact (hw.blk b i hb).mono (ext_set i hu)
    · rw [Inj.set_ne _ _ hc] at e
      rw [if_neg hc]
      split
      · trivial
      · exact (hw.blk c j e).mono (ext_set i hu)
  · rw [hg] at hcw hcl
    by_cases hc : c = H.next
    · rw [if_pos hc] at hcw
      rw [hc, Inj.set_same] at e; cases e
      have hc' : c' ≠ H.next := fun h => hne (hc.trans h.symm)
      rw [Inj.set_ne _ _ hc'] at e'
      rw [if_neg hc'] at hcl
      split at hcl
      · cases hcl
      · rename_i hcb; exact hw.apart b c' i j' hb e' (Ne.symm hcb) hwr hcl
    · rw [if_neg hc] at hcw
      rw [Inj.set_ne _ _ hc] at e
      split at hcw
      · cases hcw
      · rename_i hcb
        by_cases hc' : c' = H.next
        · rw [if_pos hc'] at hcl
          rw [hc', Inj.set_same] at e'; cases e'
          exact hw.apart c b j i e hb hcb hcw hlive
        · rw [if_neg hc'] at hcl
          rw [Inj.set_ne _ _ hc'] at e'
          split at hcl
          · cases hcl
          · exact hw.apart c c' j j' e e' hne hcw hcl
  · rw [hg] at hcw
    by_cases hc : c = H.next
    · rw [hc, Inj.set_same] at e; cases e
      exact hw.frozApart b i k arr hb hwr hz
    · rw [if_neg hc] at hcw
      rw [Inj.set_ne _ _ hc] at e
      split at hcw
      · cases hcw
      · exact hw.frozApart c j k arr e hcw hz
end
end Go.Ab

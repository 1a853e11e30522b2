/- Append, copy, maps that are written: all operations that change the heap, but calls. -/
import Derived.Test.YtecncappdnhbaaaAbK
set_option autoImplicit false
set_option linter.unusedVariables false
set_option linter.unusedSimpArgs false
set_option linter.unusedSectionVars false
namespace Go.Ab
open Go.RowKit Go.MapKept

/-- What a step that changes the heap comes to. -/
def LoudOK (cx : Cx) (base : Nat → Prop) (w0 : World) (μ : Inj) (H : Heap) (v : AV) (H' : Heap) (Z : Value) (w' : World) : Prop :=
  H.next ≤ H'.next ∧ ∃ μ', Grow H.next μ μ' ∧ RelV μ' v Z ∧ RelW (szOf cx) base w0 μ' H' w'

section
variable {P : Program} {cx : Cx} (hcx : CxOK P cx) {μ : Inj} {base : Nat → Prop} {w0 w : World} {H : Heap} (hw : RelW (szOf cx) base w0 μ H w) {g : Env} {a : Act} (hf : RelF μ g a.tmps)

theorem LoudOK.same {v : AV} {H' : Heap} {Z : Value} {w' : World} (hn : H'.next = H.next) (hv : RelV μ v Z) (hw' : RelW (szOf cx) base w0 μ H' w') : LoudOK cx base w0 μ H v H' Z w' :=
  ⟨Nat.le_of_eq hn.symm, μ, Grow.refl _ _, hv, hw'⟩

include hw in
/-- A new row with room behind it. -/
theorem appNew_sound {e : TypeId} {et : ATy} (he : cx.ty e = some et) {n cap : Nat} {cs : List AV} {xs rest : List Value} (hr : RelL μ cs xs) (hn : n ≤ cap) (hlen : (xs ++ rest).length = cap * et.size) {v : AV} {H' : Heap} (h : appNew e n cs H = (v, H')) :
    LoudOK cx base w0 μ H v H' (.slice (some ⟨w.heap.size, 0, none⟩) n cap) (w.drew.alloc (.cells (xs ++ rest).toArray e)) := by
  unfold appNew at h
  injection h with h1 h2
  subst h1; subst h2
  have hw1 := hw.drew (w.drawn + 1)
  refine ⟨by simp, _, grow_set μ H.next ⟨w.heap.size, 0, (xs ++ rest).length, szOf cx e⟩, ?_, RelW.made (w := w.drew) hw1 hr rfl⟩
  exact .sliceU (Inj.set_same _ _ _) hn (fun _ => rfl) (fun _ => by rw [szOf_eq he, hlen]; exact Nat.le_refl _)

include hcx hw in
theorem aAppend_sound {t u ty : TypeId} {s x v : AV} {S X : Value} {H' : Heap} (h : aAppend cx t u s x H = some (v, H')) (hs : RelV μ s S) (hx : RelV μ x X) :
    ∃ Z w', (Builtin.append_ #[t, u] ty #[S, X]).run P w = .ok Z w' ∧ LoudOK cx base w0 μ H v H' Z w' := by
  unfold aAppend at h
  replace h := ob_eq h; obtain ⟨e, he, h⟩ := h
  replace h := ob_eq h; obtain ⟨et, het, h⟩ := h
  replace h := ob_eq h; obtain ⟨r, hr, h⟩ := h
  replace h := ob_eq h; obtain ⟨zf, hzf, h⟩ := h
  replace h := ob_eq h; obtain ⟨nc, hnc, h⟩ := h
  cases slice?_eq hr
  have ht : P.underlying t = some (.slice e) := by
    unfold isSliceT at he
    split at he
    · rename_i hd
      injection he with he; subst he
      obtain ⟨d, hud, hdd⟩ := (hcx.ty t _ hd).und
      cases d <;> simp only [DescOK] at hdd
      rw [hud, hdd]
    · cases he
  have hety := hcx.ty e et het
  obtain ⟨inf, z, hi, hsz, hby, hz, hrz⟩ := hety.info
  have hzl := hety.zero
  have hrz' := hrz.mono (ext_empty μ)
  obtain ⟨new, hrn, hnl, hsrc⟩ := src_sound hcx hw (e := e) hrz' hety.nz hzl hzf hnc hx
  rw [← hsz, ← hby] at hsrc
  rw [← hsz] at hnl
  have hzs : z.cells.size = inf.size := by have := (hrz.cells hety.nz).length; simp at this; omega
  obtain ⟨p, sl, sc⟩ := r
  split at h
  · -- nothing to add
    rename_i h0
    injection h with h; injection h with h1 h2; subst h1; subst h2
    rw [h0] at hsrc hnl
    cases p with
    | none =>
      obtain ⟨rfl, rfl, rfl⟩ := rel_slice_none hs
      exact ⟨_, w, append_none ht hi hz hsrc (by simpa using hnl), LoudOK.same rfl hs hw⟩
    | some p =>
      obtain ⟨i, ad, k, hpi, rfl, hle, had, hc, hm⟩ := rel_slice hs
      have hnil : new = [] := List.eq_nil_of_length_eq_zero (by simpa using hnl)
      subst hnil
      refine ⟨_, w, by rw [append_in ht hi hz hsrc hnl ad sl k (by simpa using hle)]; simp [storeCells], LoudOK.same rfl hs hw⟩
  · rename_i h0
    split at h
    · cases h
    · rename_i hs0
      rw [cb_eq] at h
      split at h
      · rename_i hroom
        have hroom' : (sl + nc.1) * (2 * inf.bytes + 1) ≤ 140737488355328 := by rw [hby]; exact of_decide_eq_true hroom
        unfold appTo at h
        simp only at h
        cases p with
        | none =>
          simp only at h
          split at h
          · injection h with h
            obtain ⟨rfl, rfl, _⟩ := rel_slice_none hs
            obtain ⟨cap, rest, hcap, hrl, hrun⟩ := append_out ht hi hz hsrc hnl hzs none 0 0 (by omega) hroom' [] (fun w' _ => by simp [Builtin.firstCells])
            refine ⟨_, _, hrun, ?_⟩
            simp only [Nat.zero_add, List.nil_append] at h hcap hrl ⊢
            refine appNew_sound hw het hrn hcap ?_ h
            rw [List.length_append, hnl, hrl, ← hsz, ← Nat.add_mul]; congr 1; omega
          · cases h
        | some p =>
          obtain ⟨i, ad, k, hpi, rfl, hle, had, hc, hm⟩ := rel_slice hs
          simp only at h
          cases sc with
          | some c =>
            have := hc c rfl
            subst this
            simp only at h
            split at h
            · -- grown from another row
              rename_i hlt
              unfold appGrow at h
              replace h := ob_eq h; obtain ⟨old, hold, h⟩ := h
              injection h with h
              obtain ⟨xs, hrx, hxl, hrun1⟩ := first_run (P := P) hw hold hs
              rw [← hsz] at hxl
              obtain ⟨cap, rest, hcap, hrl, hrun⟩ := append_out (u := u) (ty := ty) ht hi hz hsrc hnl hzs (some ad) sl k hlt hroom' xs (fun w' hw' => by rw [hsz]; exact hrun1 w' hw')
              refine ⟨_, _, hrun, appNew_sound hw het (hrx.append hrn) hcap ?_ h⟩
              rw [List.length_append, List.length_append, hxl, hnl, hrl, ← hsz, ← Nat.add_mul, ← Nat.add_mul]; congr 1; omega
            · rename_i hge
              unfold appIn at h
              replace h := ob_eq h; obtain ⟨H1, hst, h⟩ := h
              injection h with h; injection h with h1 h2; subst h1; subst h2
              have hpl : μ (place p (sl * et.size)).1 = some i := hpi
              obtain ⟨w', r1, r2, r3⟩ := storeAt_sound (P := P) hw hst hrn hpl
              have hadk := had (by omega)
              refine ⟨.slice (some ad) (sl + nc.1) k, w', ?_, LoudOK.same r3 ?_ r2⟩
              · rw [append_in ht hi hz hsrc hnl ad sl k (by omega), hadk, addr_add, hsz]
                have e1 : i.off + p.2 + sl * et.size = i.off + (place p (sl * et.size)).2 := by simp [place]; omega
                rw [e1, r1]; rfl
              · exact .slice hpi (by omega) had
          | none =>
            simp only at h
            unfold appOwn at h
            split at h
            · rename_i e' n cs hg
              split at h
              · rename_i hcond
                obtain ⟨hp0, hee, hnn, hall⟩ := hcond
                subst hee
                injection h with h
                obtain ⟨hl, arr, e2, fr, harr, hcc, hown⟩ := hw.row hpi hg
                obtain ⟨o1, o2, o3, o4, o5, o6⟩ := hown rfl
                have hki := hm rfl hp0
                rw [o5, szOf_eq het] at hki
                by_cases hfit : sl + nc.1 ≤ k
                · injection h with h1 h2; subst h1; subst h2
                  have hk0 : k ≠ 0 := by omega
                  have hadk := had hk0
                  have hcl : cs.length = sl * et.size := by omega
                  have hncl : nc.2.length = nc.1 * et.size := by have := hrn.length; rw [hnl, hsz] at this; exact this.symm
                  have hfits : sl * et.size + nc.2.length ≤ i.m := by
                    rw [hncl, ← Nat.add_mul]
                    exact Nat.le_trans (Nat.mul_le_mul_right _ hfit) hki
                  obtain ⟨w', r1, r2⟩ := row_write (P := P) hw (p := (p.1, sl * et.size)) hpi hg hrn hall (cs ++ nc.2) hfits (fun k v hv => by
                    simp only
                    rw [List.getElem?_append] at hv
                    split at hv
                    · exact .inr ⟨by omega, hv⟩
                    · refine .inl ⟨by omega, ?_, by rw [← hcl]; exact hv⟩
                      have := (List.getElem?_eq_some_iff.1 hv).1
                      omega)
                  have hmap : (μ.set H.next i) H.next = some i := Inj.set_same _ _ _
                  refine ⟨.slice (some ad) (sl + nc.1) k, w', ?_, by simp [appNew], μ.set H.next i, grow_set _ _ _, .sliceU hmap hfit (fun _ => by rw [hadk, hp0]) (fun _ => by rw [o5, szOf_eq het]; exact hki), ?_⟩
                  · rw [append_in ht hi hz hsrc hnl ad sl k hfit, hadk, addr_add, hsz, hp0]
                    rw [show i.off + 0 + sl * et.size = i.off + (p.1, sl * et.size).2 from by simp, r1]; rfl
                  · refine RelW.rename r2 hpi (by rw [Heap.get_put, if_pos rfl]; rfl) _ (by simp [appNew]) (fun c => ?_)
                    simp only [appNew, Heap.get_new, Heap.get_put, Heap.next_put, if_pos, mkCells]
                    split
                    · rfl
                    · split <;> rfl
                · have hold : cellsAt H p (sl * et.size) = some cs := by
                    unfold cellsAt
                    rw [hg]
                    simp only [hp0]
                    rw [if_pos (by omega), rowCut, List.drop_zero, List.take_of_length_le (by omega)]
                  obtain ⟨xs, hrx, hxl, hrun1⟩ := first_run (P := P) hw hold hs
                  rw [← hsz] at hxl
                  obtain ⟨cap, rest, hcap, hrl, hrun⟩ := append_out (u := u) (ty := ty) ht hi hz hsrc hnl hzs (some ad) sl k (by omega) hroom' xs (fun w' hw' => by rw [hsz]; exact hrun1 w' hw')
                  have hk := hw.kill p.1
                  refine ⟨_, _, hrun, appNew_sound hk het (hrx.append hrn) hcap ?_ h⟩
                  rw [List.length_append, List.length_append, hxl, hnl, hrl, ← hsz, ← Nat.add_mul, ← Nat.add_mul]; congr 1; omega
              · cases h
            · cases h
      · cases h

/-! ### Copy -/
include hw in
theorem first_run' {p : Nat × Nat} {l n size : Nat} {c : Option Nat} {X : Value} {cs : List AV} (h : cellsAt H p (n * size) = some cs) (hx : RelV μ (.slice (some p) l c) X) (hn : n ≤ l) :
    ∃ xs, RelL μ cs xs ∧ xs.length = n * size ∧ (Builtin.firstCells size n X).run P w = .ok xs.toArray w := by
  obtain ⟨i, ad, k, hi, rfl, hle, had, hc, _⟩ := rel_slice hx
  obtain ⟨xs, hr, hl, hcell⟩ := cells_read hw h hi
  refine ⟨xs, hr, hl, ?_⟩
  refine run_firstCells_some (P := P) w size n ad l k xs hl fun j v hv => ?_
  have hk : k ≠ 0 := by
    intro e
    have : j < xs.length := (List.getElem?_eq_some_iff.1 hv).1
    have h0 : n = 0 := by omega
    rw [hl, h0] at this
    omega
  rw [had hk, addr_add]
  exact hcell j v hv

theorem isSliceT_eq (hcx : CxOK P cx) {t e : TypeId} (he : isSliceT cx t = some e) : P.underlying t = some (.slice e) := by
  unfold isSliceT at he
  split at he
  · rename_i hd
    injection he with he; subst he
    obtain ⟨d, hud, hdd⟩ := (hcx.ty t _ hd).und
    cases d <;> simp only [DescOK] at hdd
    rw [hud, hdd]
  · cases he

include hw in
theorem copyTo_sound {p : Option (Nat × Nat)} {l n : Nat} {c : Option Nat} {cs : List AV} {xs : List Value} {D : Value} {v : AV} {H' : Heap} (h : copyTo p n cs H = some (v, H')) (hd : RelV μ (.slice p l c) D) (hn0 : n ≠ 0) (hn : n ≤ l) (hr : RelL μ cs xs) :
    ∃ base' k w', D = .slice (some base') l k ∧ (storeCells base' xs).run P w = .ok () w' ∧ LoudOK cx base w0 μ H v H' (goInt n) w' := by
  unfold copyTo at h
  replace h := ob_eq h; obtain ⟨a, ha, h⟩ := h
  subst ha
  replace h := ob_eq h; obtain ⟨H1, hst, h⟩ := h
  injection h with h; injection h with h1 h2; subst h1; subst h2
  obtain ⟨i, ad, k, hi, rfl, hle, had, hc, _⟩ := rel_slice hd
  obtain ⟨w', r1, r2, r3⟩ := storeAt_sound (P := P) hw hst hr hi
  refine ⟨ad, k, w', rfl, ?_, LoudOK.same r3 (.int _ _) r2⟩
  rw [had (by omega)]; exact r1

include hcx hw in
theorem aCopy_sound {t u ty : TypeId} {d s v : AV} {D S : Value} {H' : Heap} (h : aCopy cx t d s H = some (v, H')) (hd : RelV μ d D) (hs : RelV μ s S) :
    ∃ Z w', (Builtin.copy_ #[t, u] ty #[D, S]).run P w = .ok Z w' ∧ LoudOK cx base w0 μ H v H' Z w' := by
  unfold aCopy at h
  replace h := ob_eq h; obtain ⟨e, he, h⟩ := h
  replace h := ob_eq h; obtain ⟨et, het, h⟩ := h
  replace h := ob_eq h; obtain ⟨r, hr, h⟩ := h
  cases slice?_eq hr
  have ht := isSliceT_eq hcx he
  have hsz := (hcx.ty e et het).run_size w
  obtain ⟨p, l, c⟩ := r
  simp only at hd
  -- the destination is a slice
  obtain ⟨ob, k, rfl⟩ : ∃ ob k, D = .slice ob l k := by
    cases p with
    | none => obtain ⟨rfl, rfl, _⟩ := rel_slice_none hd; exact ⟨none, 0, rfl⟩
    | some p => obtain ⟨i, ad, k, _, rfl, _⟩ := rel_slice hd; exact ⟨some ad, k, rfl⟩
  split at h
  · rename_i q m c'
    unfold copySlice at h
    simp only at h
    split at h
    · rename_i hn
      injection h with h; injection h with h1 h2; subst h1; subst h2
      refine ⟨.int .i64 0, w, ?_, LoudOK.same rfl (.int _ _) hw⟩
      have hn' : Nat.min m l = 0 := hn
      cases q with
      | none =>
        obtain ⟨rfl, rfl, _⟩ := rel_slice_none hs
        cases ob <;> simp [Builtin.copy_, run_underlying ht, Builtin.lenOf, hsz, hn', Builtin.firstCells, storeCells, goInt]
      | some q =>
        obtain ⟨i, ad, k', _, rfl, _⟩ := rel_slice hs
        cases ob <;> simp [Builtin.copy_, run_underlying ht, Builtin.lenOf, hsz, hn', Builtin.firstCells, storeCells, goInt, loadCells, loadCellsFrom]
    · rename_i hn
      replace h := ob_eq h; obtain ⟨b, hb, h⟩ := h
      subst hb
      replace h := ob_eq h; obtain ⟨cs, hcs, h⟩ := h
      obtain ⟨xs, hrx, hxl, hrun⟩ := first_run' (P := P) hw hcs hs (Nat.min_le_left _ _)
      obtain ⟨b', k', w', hD, hst, hl⟩ := copyTo_sound (P := P) hw h hd hn (Nat.min_le_right _ _) hrx
      obtain ⟨i, ad, k2, _, rfl, _⟩ := rel_slice hs
      injection hD with hD1 _ hD3
      subst hD1; subst hD3
      refine ⟨_, w', ?_, hl⟩
      have hrun' : (Builtin.firstCells et.size (Nat.min m l) (.slice (some ad) m k2)).run P w = .ok xs.toArray w := hrun
      show (Builtin.copy_ #[t, u] ty #[.slice (some b') l k, .slice (some ad) m k2]).run P w = .ok (goInt (Nat.min m l : Nat)) w'
      simp [Builtin.copy_, run_underlying ht, Builtin.lenOf, hsz, hrun', hst]
  · rename_i l'
    unfold copyStr at h
    simp only at h
    have := rel_str hs
    subst this
    have hbl : (ByteArray.mk l'.toArray).size = l'.length := by simp [ByteArray.size]
    split at h
    · rename_i h1
      split at h
      · rename_i hn
        injection h with h; injection h with h1 h2; subst h1; subst h2
        refine ⟨.int .i64 0, w, ?_, LoudOK.same rfl (.int _ _) hw⟩
        have hn' : Nat.min l'.length l = 0 := hn
        cases ob <;> simp [Builtin.copy_, run_underlying ht, Builtin.lenOf, hsz, hbl, hn', Builtin.firstCells, storeCells, goInt]
      · rename_i hn
        obtain ⟨b', k', w', hD, hst, hl⟩ := copyTo_sound (P := P) hw h hd hn (Nat.min_le_right _ _) (ofBytes_rel (l'.take (min l'.length l)))
        injection hD with hD1 _ hD3
        subst hD1; subst hD3
        refine ⟨_, w', ?_, hl⟩
        have hcut : ((ByteArray.mk l'.toArray).extract 0 (min l'.length l)).data.map (fun b => Value.int .u8 b.toNat) = (valBytes (l'.take (min l'.length l))).toArray := by
          apply Array.ext'; simp [valBytes]
        have hrun' : (Builtin.firstCells et.size (Nat.min l'.length l) (.string ⟨l'.toArray⟩)).run P w = .ok (valBytes (l'.take (min l'.length l))).toArray w := by
          rw [← hcut]; rfl
        show (Builtin.copy_ #[t, u] ty #[.slice (some b') l k, .string ⟨l'.toArray⟩]).run P w = .ok (goInt (Nat.min l'.length l : Nat)) w'
        simp [Builtin.copy_, run_underlying ht, Builtin.lenOf, hsz, hbl, hrun', hst]
    · cases h
  · rename_i nl m cs
    unfold copyFsl at h
    simp only at h
    split at h
    · rename_i hn
      injection h with h; injection h with h1 h2; subst h1; subst h2
      refine ⟨.int .i64 0, w, ?_, LoudOK.same rfl (.int _ _) hw⟩
      have hn' : Nat.min m l = 0 := hn
      cases hs with
      | fslN => cases ob <;> simp [Builtin.copy_, run_underlying ht, Builtin.lenOf, hsz, hn', Builtin.firstCells, storeCells, goInt]
      | fsl hz hr hv hlc => cases ob <;> simp [Builtin.copy_, run_underlying ht, Builtin.lenOf, hsz, hn', Builtin.firstCells, storeCells, goInt, loadCells, loadCellsFrom]
    · rename_i hn
      rw [cb_eq] at h
      split at h
      · rename_i hcl
        rw [nbeq] at hcl
        have hcl : cs.length = m * et.size := of_decide_eq_true hcl
        cases hs with
        | fslN => exact absurd (Nat.zero_min l) hn
        | fsl hz hr hv hlc =>
          rename_i c2 a arr vs
          have hvl := hr.length
          have hle : min m l * et.size ≤ m * et.size := Nat.mul_le_mul_right _ (Nat.min_le_left _ _)
          have hcut : RelL μ (rowCut cs 0 (min m l * et.size)) (vs.take (min m l * et.size)) := by
            simp only [rowCut, List.drop_zero]; exact hr.take _
          obtain ⟨b', k', w', hD, hst, hl⟩ := copyTo_sound (P := P) hw h hd hn (Nat.min_le_right _ _) hcut
          injection hD with hD1 _ hD3
          subst hD1; subst hD3
          refine ⟨_, w', ?_, hl⟩
          have hrun' : (Builtin.firstCells et.size (Nat.min m l) (.slice (some a) m c2)).run P w = .ok (vs.take (min m l * et.size)).toArray w := by
            refine run_firstCells_some (P := P) w et.size (Nat.min m l) a m c2 (vs.take (min m l * et.size)) (by rw [List.length_take]; show _ = min m l * et.size; omega) fun j v hv' => ?_
            rw [List.getElem?_take] at hv'
            split at hv'
            · exact froz_read hw hz hr hv j v hv'
            · cases hv'
          show (Builtin.copy_ #[t, u] ty #[.slice (some b') l k, .slice (some a) m c2]).run P w = .ok (goInt (Nat.min m l : Nat)) w'
          simp [Builtin.copy_, run_underlying ht, Builtin.lenOf, hsz, hrun', hst]
      · cases h
  · cases h

/-! ### Maps -/
theorem putKey_sound {d : TypeDesc} {k v : AV} {K V : Value} (hk : RelV μ k K) (hv : RelV μ v V) (hs : ∀ x X b, sameKey k x = some b → RelV μ x X → Instr.sameNow d K X = some b ∧ (b = true → X = K)) :
    ∀ {es es' : List (AV × AV)} {fs : List MapEntry} (i : Nat), putKey k v es = some es' → RelE μ es fs →
      (Instr.findNow d K fs i = some none ∧ ∀ born, RelE μ es' (fs ++ [{ key := K, val := V, born := born }])) ∨
      ∃ j e, Instr.findNow d K fs i = some (some (i + j, e.val)) ∧ fs[j]? = some e ∧ e.key = K ∧ RelE μ es' (fs.modify j fun e => { e with key := K, val := V }) := by
  intro es
  induction es with
  | nil =>
    intro es' fs i h hr; cases hr; simp only [putKey] at h; cases h
    exact .inl ⟨rfl, fun born => .cons hk hv .nil⟩
  | cons p es ih =>
    intro es' fs i h hr
    cases hr with
    | cons a b c =>
      rename_i kk vv e fs
      simp only [putKey] at h
      replace h := ob_eq h; obtain ⟨b', hb, h⟩ := h
      obtain ⟨h1, h2⟩ := hs _ _ _ hb a
      cases b' with
      | true =>
        simp only [if_true] at h
        injection h with h; subst h
        exact .inr ⟨0, e, by simp [Instr.findNow, h1], rfl, h2 rfl, by simp; exact .cons hk hv c⟩
      | false =>
        simp only [Bool.false_eq_true, if_false] at h
        replace h := ob_eq h; obtain ⟨r, hr, h⟩ := h
        injection h with h; subst h
        rcases ih (i + 1) hr c with ⟨h3, h4⟩ | ⟨j, e', h3, h4, h5, h6⟩
        · exact .inl ⟨by simp [Instr.findNow, h1, h3], fun born => .cons a b (h4 born)⟩
        · exact .inr ⟨j + 1, e', by simp [Instr.findNow, h1, h3]; omega, by simpa using h4, h5, by simp; exact .cons a b h6⟩

theorem dropKey_sound {d : TypeDesc} {k : AV} {K : Value} (hs : ∀ x X b, sameKey k x = some b → RelV μ x X → Instr.sameNow d K X = some b ∧ (b = true → X = K)) :
    ∀ {es es' : List (AV × AV)} {fs : List MapEntry} (i : Nat), dropKey k es = some es' → RelE μ es fs →
      (Instr.findNow d K fs i = some none ∧ RelE μ es' fs) ∨
      ∃ j e, Instr.findNow d K fs i = some (some (i + j, e.val)) ∧ fs[j]? = some e ∧ RelE μ es' (fs.eraseIdx j) := by
  intro es
  induction es with
  | nil => intro es' fs i h hr; cases hr; simp only [dropKey] at h; cases h; exact .inl ⟨rfl, .nil⟩
  | cons p es ih =>
    intro es' fs i h hr
    cases hr with
    | cons a b c =>
      rename_i kk vv e fs
      simp only [dropKey] at h
      replace h := ob_eq h; obtain ⟨b', hb, h⟩ := h
      obtain ⟨h1, h2⟩ := hs _ _ _ hb a
      cases b' with
      | true =>
        simp only [if_true] at h
        injection h with h; subst h
        exact .inr ⟨0, e, by simp [Instr.findNow, h1], rfl, by simpa using c⟩
      | false =>
        simp only [Bool.false_eq_true, if_false] at h
        replace h := ob_eq h; obtain ⟨r, hr, h⟩ := h
        injection h with h; subst h
        rcases ih (i + 1) hr c with ⟨h3, h4⟩ | ⟨j, e', h3, h4, h5⟩
        · exact .inl ⟨by simp [Instr.findNow, h1, h3], .cons a b h4⟩
        · exact .inr ⟨j + 1, e', by simp [Instr.findNow, h1, h3]; omega, by simpa using h4, by simp; exact .cons a b h5⟩

include hw in
theorem entries_write {r : Nat} {es es' : List (AV × AV)} {i : BI} (hr : μ r = some i) (hg : H.get r = .entries es) (hb : ¬ base i.blk) {o : Obj} (ho : w.heap[i.blk]? = some o) (fs : Array MapEntry) (clock : Nat) (hrel : RelE μ es' fs.toList) :
    RelW (szOf cx) base w0 μ (H.put r (.entries es')) { w with heap := w.heap.setIfInBounds i.blk (.map fs clock) } := by
  obtain ⟨s1, s2⟩ := heap_set (w := w) (o' := .map fs clock) ho
  exact RelW.write hw hr (by rw [hg]; rfl) rfl rfl rfl (by simp) s2 (.inl rfl) ⟨hb, fs, clock, s1, hrel⟩

include hcx hw in
theorem aMapPut_sound {t : TypeId} {x k v : AV} {X K V : Value} {H' : Heap} (h : aMapPut cx t x k v H = some H') (hx : RelV μ x X) (hk : RelV μ k K) (hv : RelV μ v V) :
    ∃ w', (Instr.mapUpdate t X K V).run P w = .ok () w' ∧ RelW (szOf cx) base w0 μ H' w' ∧ H'.next = H.next := by
  unfold aMapPut at h
  replace h := ob_eq h; obtain ⟨m, hm, h⟩ := h
  rw [cb_eq] at h
  split at h
  · rename_i hkt
    replace h := ob_eq h; obtain ⟨r, hr, h⟩ := h
    replace h := ob_eq h; obtain ⟨r', hr', h⟩ := h
    subst hr'
    replace h := ob_eq h; obtain ⟨es, hes, h⟩ := h
    replace h := ob_eq h; obtain ⟨es', hes', h⟩ := h
    injection h with h; subst h
    have hu := mapT_sound hcx hm
    obtain ⟨d, hd, hik, hsk⟩ := isKeyT_sound hkt hcx hk
    cases map?_eq hr
    cases hx with
    | map hi =>
      obtain ⟨hg, hbs, fs, clock, hb, hrel⟩ := entries_sound hw hes hi
      have hc := fun b => MapKept.run_checkKey (w := w) (P := P) hd hik b 9999
      rcases putKey_sound hk hv hsk 0 hes' hrel with ⟨hnow, hre⟩ | ⟨j, e, hnow, hj, hek, hre⟩
      · refine ⟨_, ?_, entries_write hw hi hg hbs hb (fs.push { key := K, val := V, born := clock }) (clock + 1) (by simpa using hre clock), rfl⟩
        simp [Instr.mapUpdate, run_underlying hu, MapKept.run_getObj_map hb, hc, MapKept.run_findKey hd hnow, MapKept.run_setObj_map _ hb]
      · have hj' : fs[j]? = some e := by simpa using hj
        refine ⟨_, ?_, entries_write hw hi hg hbs hb (fs.modify j fun e => { e with key := K, val := V }) clock (by rw [Array.toList_modify]; exact hre), rfl⟩
        simp [Instr.mapUpdate, run_underlying hu, MapKept.run_getObj_map hb, hc, MapKept.run_findKey hd hnow, hj', hek, run_keyThatStays hik, MapKept.run_setObj_map _ hb]
  · cases h

include hcx hw in
theorem aDelete_sound {t u ty : TypeId} {x k : AV} {X K : Value} {H' : Heap} (h : aDelete cx t x k H = some H') (hx : RelV μ x X) (hk : RelV μ k K) :
    ∃ w', (Builtin.delete_ #[t, u] ty #[X, K]).run P w = .ok (.tuple #[]) w' ∧ RelW (szOf cx) base w0 μ H' w' ∧ H'.next = H.next := by
  unfold aDelete at h
  replace h := ob_eq h; obtain ⟨m, hm, h⟩ := h
  rw [cb_eq] at h
  split at h
  · rename_i hkt
    replace h := ob_eq h; obtain ⟨r, hr, h⟩ := h
    have hu := mapT_sound hcx hm
    obtain ⟨d, hd, hik, hsk⟩ := isKeyT_sound hkt hcx hk
    have hc := fun b => MapKept.run_checkKey (w := w) (P := P) hd hik b 9999
    cases map?_eq hr
    unfold dropIn at h
    split at h
    · injection h with h; subst h
      cases hx
      refine ⟨w, ?_, hw, rfl⟩
      simp [Builtin.delete_, run_underlying hu, hc]
    · rename_i r'
      replace h := ob_eq h; obtain ⟨es, hes, h⟩ := h
      replace h := ob_eq h; obtain ⟨es', hes', h⟩ := h
      injection h with h; subst h
      cases hx with
      | map hi =>
        obtain ⟨hg, hbs, fs, clock, hb, hrel⟩ := entries_sound hw hes hi
        rcases dropKey_sound hsk 0 hes' hrel with ⟨hnow, hre⟩ | ⟨j, e, hnow, hj, hre⟩
        · refine ⟨_, ?_, entries_write hw hi hg hbs hb fs clock hre, rfl⟩
          simp [Builtin.delete_, run_underlying hu, MapKept.run_getObj_map hb, hc, MapKept.run_findKey hd hnow, MapKept.run_setObj_map _ hb]
        · have hlt : j < fs.size := by have := (List.getElem?_eq_some_iff.1 hj).1; simpa using this
          refine ⟨_, ?_, entries_write hw hi hg hbs hb (fs.eraseIdxIfInBounds j) clock (by simp [Array.eraseIdxIfInBounds, hlt]; exact hre), rfl⟩
          simp [Builtin.delete_, run_underlying hu, MapKept.run_getObj_map hb, hc, MapKept.run_findKey hd hnow, MapKept.run_setObj_map _ hb]
  · cases h
end
end Go.Ab

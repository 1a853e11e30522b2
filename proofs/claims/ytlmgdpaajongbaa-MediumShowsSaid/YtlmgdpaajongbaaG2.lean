/- Texts of the abstract machine and of the laws, merged. -/
import Derived.Test.YtlmgdpaajongbaaG1
import Derived.OrdersIn
import Derived.RangeFuncLeaves
import Derived.LoopNIn
import Derived.RangeFuncNested
set_option autoImplicit false
set_option linter.unusedVariables false
set_option linter.unusedSimpArgs false
set_option linter.unusedSectionVars false
set_option maxRecDepth 100000
section
section
namespace Go.Ab
open Go.RowKit Go.MapKept
def LoudOK (cx : Cx) (base : Nat → Prop) (w0 : World) (μ : Inj) (H : Heap) (v : AV) (H' : Heap) (Z : Value) (w' : World) : Prop :=
  H.next ≤ H'.next ∧ ∃ μ', Grow H.next μ μ' ∧ RelV μ' v Z ∧ RelW (szOf cx) base w0 μ' H' w'
section
variable {P : Program} {cx : Cx} (hcx : CxOK P cx) {μ : Inj} {base : Nat → Prop} {w0 w : World} {H : Heap} (hw : RelW (szOf cx) base w0 μ H w) {g : Env} {a : Act} (hf : RelF μ g a.tmps)
theorem LoudOK.same {v : AV} {H' : Heap} {Z : Value} {w' : World} (hn : H'.next = H.next) (hv : RelV μ v Z) (hw' : RelW (szOf cx) base w0 μ H' w') : LoudOK cx base w0 μ H v H' Z w' :=
  ⟨Nat.le_of_eq hn.symm, μ, Grow.refl _ _, hv, hw'⟩
include hw in
theorem appNew_sound {e : TypeId} {et : ATy} (he : cx.ty e = some et) {n cap : Nat} {cs : List AV} {xs rest : List Value} (hr : RelL μ cs xs) (hn : n ≤ cap) (hlen : (xs ++ rest).length = cap * et.size) {v : AV} {H' : Heap} (h : appNew e n cs H = (v, H')) :
    LoudOK cx base w0 μ H v H' (.slice (some ⟨w.heap.size, 0, none⟩) n cap) (w.drew.alloc (.cells (xs ++ rest).toArray e)) := by
  unfold appNew at h
  injection h with h1 h2
  subst h1; subst h2
  have hw1 := hw.drew (w.drawn + 1)
  refine ⟨by simp, _, grow_set μ H.next ⟨w.heap.size, 0, (xs ++ rest).length, szOf cx e⟩, ?_, RelW.made (w := w.drew) hw1 hr rfl⟩
  exact .sliceU (Inj.set_same _ _ _) hn (fun _ => rfl) (fun _ => by rw [szOf_eq he, hlen]; exact Nat.le_refl _)
include hcx hw in
theorem aAppend_sound {t u ty : TypeId} {s x v : AV} {S X : Value} {H' : Heap} (h : aAppend cx t u s x H = some (v, H')) (hs : RelV μ s S) (hx : RelV μ x X) :
    ∃ Z w', (Builtin.append_ #[t, u] ty #[S, X]).run P w = .ok Z w' ∧ LoudOK cx base w0 μ H v H' Z w' := by
  unfold aAppend at h
  replace h := ob_eq h; obtain ⟨e, he, h⟩ := h
  replace h := ob_eq h; obtain ⟨et, het, h⟩ := h
  replace h := ob_eq h; obtain ⟨r, hr, h⟩ := h
  replace h := ob_eq h; obtain ⟨zf, hzf, h⟩ := h
  replace h := ob_eq h; obtain ⟨nc, hnc, h⟩ := h
  cases slice?_eq hr
  have ht : P.underlying t = some (.slice e) := by
    unfold isSliceT at he
    split at he
    · rename_i hd
      injection he with he; subst he
      obtain ⟨d, hud, hdd⟩ := (hcx.ty t _ hd).und
      cases d <;> simp only [DescOK] at hdd
      rw [hud, hdd]
    · cases he
  have hety := hcx.ty e et het
  obtain ⟨inf, z, hi, hsz, hby, hz, hrz⟩ := hety.info
  have hzl := hety.zero
  have hrz' := hrz.mono (ext_empty μ)
  obtain ⟨new, hrn, hnl, hsrc⟩ := src_sound hcx hw (e := e) hrz' hety.nz hzl hzf hnc hx
  rw [← hsz, ← hby] at hsrc
  rw [← hsz] at hnl
  have hzs : z.cells.size = inf.size := by have := (hrz.cells hety.nz).length; simp at this; omega
  obtain ⟨p, sl, sc⟩ := r
  split at h
  · -- nothing to add
    rename_i h0
    injection h with h; injection h with h1 h2; subst h1; subst h2
    rw [h0] at hsrc hnl
    cases p with
    | none =>
      obtain ⟨rfl, rfl, rfl⟩ := rel_slice_none hs
      exact ⟨_, w, append_none ht hi hz hsrc (by simpa using hnl), LoudOK.same rfl hs hw⟩
    | some p =>
      obtain ⟨i, ad, k, hpi, rfl, hle, had, hc, hm⟩ := rel_slice hs
      have hnil : new = [] := List.eq_nil_of_length_eq_zero (by simpa using hnl)
      subst hnil
      refine ⟨_, w, by rw [append_in ht hi hz hsrc hnl ad sl k (by simpa using hle)]; simp [storeCells], LoudOK.same rfl hs hw⟩
  · rename_i h0
    split at h
    · cases h
    · rename_i hs0
      rw [cb_eq] at h
      split at h
      · rename_i hroom
        have hroom' : (sl + nc.1) * (2 * inf.bytes + 1) ≤ 140737488355328 := by rw [hby]; exact of_decide_eq_true hroom
        unfold appTo at h
        simp only at h
        cases p with
        | none =>
          simp only at h
          split at h
          · injection h with h
            obtain ⟨rfl, rfl, _⟩ := rel_slice_none hs
            obtain ⟨cap, rest, hcap, hrl, hrun⟩ := append_out ht hi hz hsrc hnl hzs none 0 0 (by omega) hroom' [] (fun w' _ => by simp [Builtin.firstCells])
            refine ⟨_, _, hrun, ?_⟩
            simp only [Nat.zero_add, List.nil_append] at h hcap hrl ⊢
            refine appNew_sound hw het hrn hcap ?_ h
            rw [List.length_append, hnl, hrl, ← hsz, ← Nat.add_mul]; congr 1; omega
          · cases h
        | some p =>
          obtain ⟨i, ad, k, hpi, rfl, hle, had, hc, hm⟩ := rel_slice hs
          simp only at h
          cases sc with
          | some c =>
            have := hc c rfl
            subst this
            simp only at h
            split at h
            · -- grown from another row
              rename_i hlt
              unfold appGrow at h
              replace h := ob_eq h; obtain ⟨old, hold, h⟩ := h
              injection h with h
              obtain ⟨xs, hrx, hxl, hrun1⟩ := first_run (P := P) hw hold hs
              rw [← hsz] at hxl
              obtain ⟨cap, rest, hcap, hrl, hrun⟩ := append_out (u := u) (ty := ty) ht hi hz hsrc hnl hzs (some ad) sl k hlt hroom' xs (fun w' hw' => by rw [hsz]; exact hrun1 w' hw')
              refine ⟨_, _, hrun, appNew_sound hw het (hrx.append hrn) hcap ?_ h⟩
              rw [List.length_append, List.length_append, hxl, hnl, hrl, ← hsz, ← Nat.add_mul, ← Nat.add_mul]; congr 1; omega
            · rename_i hge
              unfold appIn at h
              replace h := ob_eq h; obtain ⟨H1, hst, h⟩ := h
              injection h with h; injection h with h1 h2; subst h1; subst h2
              have hpl : μ (place p (sl * et.size)).1 = some i := hpi
              obtain ⟨w', r1, r2, r3⟩ := storeAt_sound (P := P) hw hst hrn hpl
              have hadk := had (by omega)
              refine ⟨.slice (some ad) (sl + nc.1) k, w', ?_, LoudOK.same r3 ?_ r2⟩
              · rw [append_in ht hi hz hsrc hnl ad sl k (by omega), hadk, addr_add, hsz]
                have e1 : i.off + p.2 + sl * et.size = i.off + (place p (sl * et.size)).2 := by simp [place]; omega
                rw [e1, r1]; rfl
              · exact .slice hpi (by omega) had
          | none =>
            simp only at h
            unfold appOwn at h
            split at h
            · rename_i e' n cs hg
              obtain ⟨hl, arr, e2, fr, harr, hcc, hown⟩ := hw.row hpi hg
              obtain ⟨cs1, hcs1, hp0, hee, hnn, hall, h⟩ : ∃ cs1, cs1 = rowCut cs 0 (sl * et.size) ∧ p.2 = 0 ∧ e' = e ∧ sl * et.size ≤ n ∧ nc.2.all AV.isCell = true ∧ some (appNew e (sl + nc.1) (cs1 ++ nc.2) (H.put p.1 .dead)) = some (v, H') := by
                split at h
                · rename_i hcond
                  obtain ⟨hp0, hee, hnn, hall⟩ := hcond
                  refine ⟨cs, ?_, hp0, hee, by omega, hall, h⟩
                  rw [rowCut, List.drop_zero, List.take_of_length_le (by omega)]
                · split at h
                  · rename_i hcond
                    obtain ⟨hp0, hee, hnn, hall⟩ := hcond
                    exact ⟨_, rfl, hp0, hee, hnn, hall, h⟩
                  · cases h
              have hcl : cs1.length = sl * et.size := by rw [hcs1, rowCut, List.drop_zero, List.length_take]; omega
              have hsub : ∀ (k : Nat) (v : AV), cs1[k]? = some v → cs[k]? = some v := by
                intro k v hv
                rw [hcs1, rowCut, List.drop_zero, List.getElem?_take] at hv
                split at hv
                · exact hv
                · cases hv
              · subst hee
                injection h with h
                obtain ⟨o1, o2, o3, o4, o5, o6⟩ := hown rfl
                have hki := hm rfl hp0
                rw [o5, szOf_eq het] at hki
                by_cases hfit : sl + nc.1 ≤ k
                · injection h with h1 h2; subst h1; subst h2
                  have hk0 : k ≠ 0 := by omega
                  have hadk := had hk0
                  have hncl : nc.2.length = nc.1 * et.size := by have := hrn.length; rw [hnl, hsz] at this; exact this.symm
                  have hfits : sl * et.size + nc.2.length ≤ i.m := by
                    rw [hncl, ← Nat.add_mul]
                    exact Nat.le_trans (Nat.mul_le_mul_right _ hfit) hki
                  obtain ⟨w', r1, r2⟩ := row_write (P := P) hw (p := (p.1, sl * et.size)) hpi hg hrn hall (cs1 ++ nc.2) hfits (fun k v hv => by
                    simp only
                    rw [List.getElem?_append] at hv
                    split at hv
                    · exact .inr ⟨by omega, hsub _ _ hv⟩
                    · refine .inl ⟨by omega, ?_, by rw [← hcl]; exact hv⟩
                      have := (List.getElem?_eq_some_iff.1 hv).1
                      omega)
                  have hmap : (μ.set H.next i) H.next = some i := Inj.set_same _ _ _
                  refine ⟨.slice (some ad) (sl + nc.1) k, w', ?_, by simp [appNew], μ.set H.next i, grow_set _ _ _, .sliceU hmap hfit (fun _ => by rw [hadk, hp0]) (fun _ => by rw [o5, szOf_eq het]; exact hki), ?_⟩
                  · rw [append_in ht hi hz hsrc hnl ad sl k hfit, hadk, addr_add, hsz, hp0]
                    rw [show i.off + 0 + sl * et.size = i.off + (p.1, sl * et.size).2 from by simp, r1]; rfl
                  · refine RelW.rename r2 hpi (by rw [Heap.get_put, if_pos rfl]; rfl) _ (by simp [appNew]) (fun c => ?_)
                    simp only [appNew, Heap.get_new, Heap.get_put, Heap.next_put, if_pos, mkCells]
                    split
                    · rfl
                    · split <;> rfl
                · have hold : cellsAt H p (sl * et.size) = some cs1 := by
                    unfold cellsAt
                    rw [hg]
                    simp only [hp0]
                    rw [if_pos (by omega), hcs1]
                  obtain ⟨xs, hrx, hxl, hrun1⟩ := first_run (P := P) hw hold hs
                  rw [← hsz] at hxl
                  obtain ⟨cap, rest, hcap, hrl, hrun⟩ := append_out (u := u) (ty := ty) ht hi hz hsrc hnl hzs (some ad) sl k (by omega) hroom' xs (fun w' hw' => by rw [hsz]; exact hrun1 w' hw')
                  have hk := hw.kill p.1
                  refine ⟨_, _, hrun, appNew_sound hk het (hrx.append hrn) hcap ?_ h⟩
                  rw [List.length_append, List.length_append, hxl, hnl, hrl, ← hsz, ← Nat.add_mul, ← Nat.add_mul]; congr 1; omega
            · cases h
      · cases h
include hw in
theorem first_run' {p : Nat × Nat} {l n size : Nat} {c : Option Nat} {X : Value} {cs : List AV} (h : cellsAt H p (n * size) = some cs) (hx : RelV μ (.slice (some p) l c) X) (hn : n ≤ l) :
    ∃ xs, RelL μ cs xs ∧ xs.length = n * size ∧ (Builtin.firstCells size n X).run P w = .ok xs.toArray w := by
  obtain ⟨i, ad, k, hi, rfl, hle, had, hc, _⟩ := rel_slice hx
  obtain ⟨xs, hr, hl, hcell⟩ := cells_read hw h hi
  refine ⟨xs, hr, hl, ?_⟩
  refine run_firstCells_some (P := P) w size n ad l k xs hl fun j v hv => ?_
  have hk : k ≠ 0 := by
    intro e
    have : j < xs.length := (List.getElem?_eq_some_iff.1 hv).1
    have h0 : n = 0 := by omega
    rw [hl, h0] at this
    omega
  rw [had hk, addr_add]
  exact hcell j v hv
theorem isSliceT_eq (hcx : CxOK P cx) {t e : TypeId} (he : isSliceT cx t = some e) : P.underlying t = some (.slice e) := by
  unfold isSliceT at he
  split at he
  · rename_i hd
    injection he with he; subst he
    obtain ⟨d, hud, hdd⟩ := (hcx.ty t _ hd).und
    cases d <;> simp only [DescOK] at hdd
    rw [hud, hdd]
  · cases he
include hw in
theorem copyTo_sound {p : Option (Nat × Nat)} {l n : Nat} {c : Option Nat} {cs : List AV} {xs : List Value} {D : Value} {v : AV} {H' : Heap} (h : copyTo p n cs H = some (v, H')) (hd : RelV μ (.slice p l c) D) (hn0 : n ≠ 0) (hn : n ≤ l) (hr : RelL μ cs xs) :
    ∃ base' k w', D = .slice (some base') l k ∧ (storeCells base' xs).run P w = .ok () w' ∧ LoudOK cx base w0 μ H v H' (goInt n) w' := by
  unfold copyTo at h
  replace h := ob_eq h; obtain ⟨a, ha, h⟩ := h
  subst ha
  replace h := ob_eq h; obtain ⟨H1, hst, h⟩ := h
  injection h with h; injection h with h1 h2; subst h1; subst h2
  obtain ⟨i, ad, k, hi, rfl, hle, had, hc, _⟩ := rel_slice hd
  obtain ⟨w', r1, r2, r3⟩ := storeAt_sound (P := P) hw hst hr hi
  refine ⟨ad, k, w', rfl, ?_, LoudOK.same r3 (.int _ _) r2⟩
  rw [had (by omega)]; exact r1
include hcx hw in
theorem aCopy_sound {t u ty : TypeId} {d s v : AV} {D S : Value} {H' : Heap} (h : aCopy cx t d s H = some (v, H')) (hd : RelV μ d D) (hs : RelV μ s S) :
    ∃ Z w', (Builtin.copy_ #[t, u] ty #[D, S]).run P w = .ok Z w' ∧ LoudOK cx base w0 μ H v H' Z w' := by
  unfold aCopy at h
  replace h := ob_eq h; obtain ⟨e, he, h⟩ := h
  replace h := ob_eq h; obtain ⟨et, het, h⟩ := h
  replace h := ob_eq h; obtain ⟨r, hr, h⟩ := h
  cases slice?_eq hr
  have ht := isSliceT_eq hcx he
  have hsz := (hcx.ty e et het).run_size w
  obtain ⟨p, l, c⟩ := r
  simp only at hd
  obtain ⟨ob, k, rfl⟩ : ∃ ob k, D = .slice ob l k := by
    cases p with
    | none => obtain ⟨rfl, rfl, _⟩ := rel_slice_none hd; exact ⟨none, 0, rfl⟩
    | some p => obtain ⟨i, ad, k, _, rfl, _⟩ := rel_slice hd; exact ⟨some ad, k, rfl⟩
  split at h
  · rename_i q m c'
    unfold copySlice at h
    simp only at h
    split at h
    · rename_i hn
      injection h with h; injection h with h1 h2; subst h1; subst h2
      refine ⟨.int .i64 0, w, ?_, LoudOK.same rfl (.int _ _) hw⟩
      have hn' : Nat.min m l = 0 := hn
      cases q with
      | none =>
        obtain ⟨rfl, rfl, _⟩ := rel_slice_none hs
        cases ob <;> simp [Builtin.copy_, run_underlying ht, Builtin.lenOf, hsz, hn', Builtin.firstCells, storeCells, goInt]
      | some q =>
        obtain ⟨i, ad, k', _, rfl, _⟩ := rel_slice hs
        cases ob <;> simp [Builtin.copy_, run_underlying ht, Builtin.lenOf, hsz, hn', Builtin.firstCells, storeCells, goInt, loadCells, loadCellsFrom]
    · rename_i hn
      replace h := ob_eq h; obtain ⟨b, hb, h⟩ := h
      subst hb
      replace h := ob_eq h; obtain ⟨cs, hcs, h⟩ := h
      obtain ⟨xs, hrx, hxl, hrun⟩ := first_run' (P := P) hw hcs hs (Nat.min_le_left _ _)
      obtain ⟨b', k', w', hD, hst, hl⟩ := copyTo_sound (P := P) hw h hd hn (Nat.min_le_right _ _) hrx
      obtain ⟨i, ad, k2, _, rfl, _⟩ := rel_slice hs
      injection hD with hD1 _ hD3
      subst hD1; subst hD3
      refine ⟨_, w', ?_, hl⟩
      have hrun' : (Builtin.firstCells et.size (Nat.min m l) (.slice (some ad) m k2)).run P w = .ok xs.toArray w := hrun
      show (Builtin.copy_ #[t, u] ty #[.slice (some b') l k, .slice (some ad) m k2]).run P w = .ok (goInt (Nat.min m l : Nat)) w'
      simp [Builtin.copy_, run_underlying ht, Builtin.lenOf, hsz, hrun', hst]
  · rename_i l'
    unfold copyStr at h
    simp only at h
    have := rel_str hs
    subst this
    have hbl : (ByteArray.mk l'.toArray).size = l'.length := by simp [ByteArray.size]
    split at h
    · rename_i h1
      split at h
      · rename_i hn
        injection h with h; injection h with h1 h2; subst h1; subst h2
        refine ⟨.int .i64 0, w, ?_, LoudOK.same rfl (.int _ _) hw⟩
        have hn' : Nat.min l'.length l = 0 := hn
        cases ob <;> simp [Builtin.copy_, run_underlying ht, Builtin.lenOf, hsz, hbl, hn', Builtin.firstCells, storeCells, goInt]
      · rename_i hn
        obtain ⟨b', k', w', hD, hst, hl⟩ := copyTo_sound (P := P) hw h hd hn (Nat.min_le_right _ _) (ofBytes_rel (l'.take (min l'.length l)))
        injection hD with hD1 _ hD3
        subst hD1; subst hD3
        refine ⟨_, w', ?_, hl⟩
        have hcut : ((ByteArray.mk l'.toArray).extract 0 (min l'.length l)).data.map (fun b => Value.int .u8 b.toNat) = (valBytes (l'.take (min l'.length l))).toArray := by
          apply Array.ext'; simp [valBytes]
        have hrun' : (Builtin.firstCells et.size (Nat.min l'.length l) (.string ⟨l'.toArray⟩)).run P w = .ok (valBytes (l'.take (min l'.length l))).toArray w := by
          rw [← hcut]; rfl
        show (Builtin.copy_ #[t, u] ty #[.slice (some b') l k, .string ⟨l'.toArray⟩]).run P w = .ok (goInt (Nat.min l'.length l : Nat)) w'
        simp [Builtin.copy_, run_underlying ht, Builtin.lenOf, hsz, hbl, hrun', hst]
    · cases h
  · rename_i nl m cs
    unfold copyFsl at h
    simp only at h
    split at h
    · rename_i hn
      injection h with h; injection h with h1 h2; subst h1; subst h2
      refine ⟨.int .i64 0, w, ?_, LoudOK.same rfl (.int _ _) hw⟩
      have hn' : Nat.min m l = 0 := hn
      cases hs with
      | fslN => cases ob <;> simp [Builtin.copy_, run_underlying ht, Builtin.lenOf, hsz, hn', Builtin.firstCells, storeCells, goInt]
      | fsl hz hr hv hlc => cases ob <;> simp [Builtin.copy_, run_underlying ht, Builtin.lenOf, hsz, hn', Builtin.firstCells, storeCells, goInt, loadCells, loadCellsFrom]
    · rename_i hn
      rw [cb_eq] at h
      split at h
      · rename_i hcl
        rw [nbeq] at hcl
        have hcl : cs.length = m * et.size := of_decide_eq_true hcl
        cases hs with
        | fslN => exact absurd (Nat.zero_min l) hn
        | fsl hz hr hv hlc =>
          rename_i c2 a arr vs
          have hvl := hr.length
          have hle : min m l * et.size ≤ m * et.size := Nat.mul_le_mul_right _ (Nat.min_le_left _ _)
          have hcut : RelL μ (rowCut cs 0 (min m l * et.size)) (vs.take (min m l * et.size)) := by
            simp only [rowCut, List.drop_zero]; exact hr.take _
          obtain ⟨b', k', w', hD, hst, hl⟩ := copyTo_sound (P := P) hw h hd hn (Nat.min_le_right _ _) hcut
          injection hD with hD1 _ hD3
          subst hD1; subst hD3
          refine ⟨_, w', ?_, hl⟩
          have hrun' : (Builtin.firstCells et.size (Nat.min m l) (.slice (some a) m c2)).run P w = .ok (vs.take (min m l * et.size)).toArray w := by
            refine run_firstCells_some (P := P) w et.size (Nat.min m l) a m c2 (vs.take (min m l * et.size)) (by rw [List.length_take]; show _ = min m l * et.size; omega) fun j v hv' => ?_
            rw [List.getElem?_take] at hv'
            split at hv'
            · exact froz_read hw hz hr hv j v hv'
            · cases hv'
          show (Builtin.copy_ #[t, u] ty #[.slice (some b') l k, .slice (some a) m c2]).run P w = .ok (goInt (Nat.min m l : Nat)) w'
          simp [Builtin.copy_, run_underlying ht, Builtin.lenOf, hsz, hrun', hst]
      · cases h
  · cases h
theorem putKey_sound {kt : TypeId} {k v : AV} {K V : Value} {R : Value → Bool → Prop} (hk : RelV μ k K) (hv : RelV μ v V) (hs : ∀ x X b, sameKey cx kt k x = some b → RelV μ x X → R X b ∧ (b = true → X = K)) :
    ∀ {es es' : List (AV × AV)} {fs : List MapEntry} (i : Nat), putKey cx kt k v es = some es' → RelE μ es fs →
      (Finds R fs i none ∧ ∀ born, RelE μ es' (fs ++ [{ key := K, val := V, born := born }])) ∨
      ∃ j e, Finds R fs i (some (i + j, e.val)) ∧ fs[j]? = some e ∧ e.key = K ∧ RelE μ es' (fs.modify j fun e => { e with key := K, val := V }) := by
  intro es
  induction es with
  | nil =>
    intro es' fs i h hr; cases hr; simp only [putKey] at h; cases h
    exact .inl ⟨.nil i, fun born => .cons hk hv .nil⟩
  | cons p es ih =>
    intro es' fs i h hr
    cases hr with
    | cons a b c =>
      rename_i kk vv e fs
      simp only [putKey] at h
      replace h := ob_eq h; obtain ⟨b', hb, h⟩ := h
      obtain ⟨h1, h2⟩ := hs _ _ _ hb a
      cases b' with
      | true =>
        simp only [if_true] at h
        injection h with h; subst h
        exact .inr ⟨0, e, .yes h1, rfl, h2 rfl, by simp; exact .cons hk hv c⟩
      | false =>
        simp only [Bool.false_eq_true, if_false] at h
        replace h := ob_eq h; obtain ⟨r, hr, h⟩ := h
        injection h with h; subst h
        rcases ih (i + 1) hr c with ⟨h3, h4⟩ | ⟨j, e', h3, h4, h5, h6⟩
        · exact .inl ⟨.no h1 h3, fun born => .cons a b (h4 born)⟩
        · exact .inr ⟨j + 1, e', .no h1 (by rw [show i + (j + 1) = i + 1 + j by omega]; exact h3), by simpa using h4, h5, by simp; exact .cons a b h6⟩
theorem dropKey_sound {kt : TypeId} {k : AV} {K : Value} {R : Value → Bool → Prop} (hs : ∀ x X b, sameKey cx kt k x = some b → RelV μ x X → R X b ∧ (b = true → X = K)) :
    ∀ {es es' : List (AV × AV)} {fs : List MapEntry} (i : Nat), dropKey cx kt k es = some es' → RelE μ es fs →
      (Finds R fs i none ∧ RelE μ es' fs) ∨
      ∃ j e, Finds R fs i (some (i + j, e.val)) ∧ fs[j]? = some e ∧ RelE μ es' (fs.eraseIdx j) := by
  intro es
  induction es with
  | nil => intro es' fs i h hr; cases hr; simp only [dropKey] at h; cases h; exact .inl ⟨.nil i, .nil⟩
  | cons p es ih =>
    intro es' fs i h hr
    cases hr with
    | cons a b c =>
      rename_i kk vv e fs
      simp only [dropKey] at h
      replace h := ob_eq h; obtain ⟨b', hb, h⟩ := h
      obtain ⟨h1, h2⟩ := hs _ _ _ hb a
      cases b' with
      | true =>
        simp only [if_true] at h
        injection h with h; subst h
        exact .inr ⟨0, e, .yes h1, rfl, by simpa using c⟩
      | false =>
        simp only [Bool.false_eq_true, if_false] at h
        replace h := ob_eq h; obtain ⟨r, hr, h⟩ := h
        injection h with h; subst h
        rcases ih (i + 1) hr c with ⟨h3, h4⟩ | ⟨j, e', h3, h4, h5⟩
        · exact .inl ⟨.no h1 h3, .cons a b h4⟩
        · exact .inr ⟨j + 1, e', .no h1 (by rw [show i + (j + 1) = i + 1 + j by omega]; exact h3), by simpa using h4, by simp; exact .cons a b h5⟩
include hw in
theorem entries_write {r : Nat} {es es' : List (AV × AV)} {i : BI} (hr : μ r = some i) (hg : H.get r = .entries es) (hb : ¬ base i.blk) {o : Obj} (ho : w.heap[i.blk]? = some o) (fs : Array MapEntry) (clock : Nat) (hrel : RelE μ es' fs.toList) :
    RelW (szOf cx) base w0 μ (H.put r (.entries es')) { w with heap := w.heap.setIfInBounds i.blk (.map fs clock) } := by
  obtain ⟨s1, s2⟩ := heap_set (w := w) (o' := .map fs clock) ho
  exact RelW.write hw hr (by rw [hg]; rfl) rfl rfl rfl (by simp) s2 (.inl rfl) ⟨hb, fs, clock, s1, hrel⟩
include hcx hw in
theorem aMapPut_sound {t : TypeId} {x k v : AV} {X K V : Value} {H' : Heap} (h : aMapPut cx t x k v H = some H') (hx : RelV μ x X) (hk : RelV μ k K) (hv : RelV μ v V) :
    ∃ w', (Instr.mapUpdate t X K V).run P w = .ok () w' ∧ RelW (szOf cx) base w0 μ H' w' ∧ H'.next = H.next := by
  unfold aMapPut at h
  replace h := ob_eq h; obtain ⟨m, hm, h⟩ := h
  rw [cb_eq] at h
  split at h
  · rename_i hkt
    replace h := ob_eq h; obtain ⟨r, hr, h⟩ := h
    replace h := ob_eq h; obtain ⟨r', hr', h⟩ := h
    subst hr'
    replace h := ob_eq h; obtain ⟨es, hes, h⟩ := h
    replace h := ob_eq h; obtain ⟨es', hes', h⟩ := h
    injection h with h; subst h
    have hu := mapT_sound hcx hm
    obtain ⟨R, KO⟩ := isKeyT_sound hkt hcx w hk
    cases map?_eq hr
    cases hx with
    | map hi =>
      obtain ⟨hg, hbs, fs, clock, hb, hrel⟩ := entries_sound hw hes hi
      have hc := KO.check
      rcases putKey_sound hk hv KO.same 0 hes' hrel with ⟨hnow, hre⟩ | ⟨j, e, hnow, hj, hek, hre⟩
      · refine ⟨_, ?_, entries_write hw hi hg hbs hb (fs.push { key := K, val := V, born := clock }) (clock + 1) (by simpa using hre clock), rfl⟩
        simp [Instr.mapUpdate, run_underlying hu, MapKept.run_getObj_map hb, hc, KO.find _ _ hnow, MapKept.run_setObj_map _ hb]
      · have hj' : fs[j]? = some e := by simpa using hj
        refine ⟨_, ?_, entries_write hw hi hg hbs hb (fs.modify j fun e => { e with key := K, val := V }) clock (by rw [Array.toList_modify]; exact hre), rfl⟩
        simp [Instr.mapUpdate, run_underlying hu, MapKept.run_getObj_map hb, hc, KO.find _ _ hnow, hj', hek, KO.stays, MapKept.run_setObj_map _ hb]
  · cases h
include hcx hw in
theorem aDelete_sound {t u ty : TypeId} {x k : AV} {X K : Value} {H' : Heap} (h : aDelete cx t x k H = some H') (hx : RelV μ x X) (hk : RelV μ k K) :
    ∃ w', (Builtin.delete_ #[t, u] ty #[X, K]).run P w = .ok (.tuple #[]) w' ∧ RelW (szOf cx) base w0 μ H' w' ∧ H'.next = H.next := by
  unfold aDelete at h
  replace h := ob_eq h; obtain ⟨m, hm, h⟩ := h
  rw [cb_eq] at h
  split at h
  · rename_i hkt
    replace h := ob_eq h; obtain ⟨r, hr, h⟩ := h
    have hu := mapT_sound hcx hm
    obtain ⟨R, KO⟩ := isKeyT_sound hkt hcx w hk
    have hc := KO.check
    cases map?_eq hr
    unfold dropIn at h
    split at h
    · injection h with h; subst h
      cases hx
      refine ⟨w, ?_, hw, rfl⟩
      simp [Builtin.delete_, run_underlying hu, hc]
    · rename_i r'
      replace h := ob_eq h; obtain ⟨es, hes, h⟩ := h
      replace h := ob_eq h; obtain ⟨es', hes', h⟩ := h
      injection h with h; subst h
      cases hx with
      | map hi =>
        obtain ⟨hg, hbs, fs, clock, hb, hrel⟩ := entries_sound hw hes hi
        rcases dropKey_sound KO.same 0 hes' hrel with ⟨hnow, hre⟩ | ⟨j, e, hnow, hj, hre⟩
        · refine ⟨_, ?_, entries_write hw hi hg hbs hb fs clock hre, rfl⟩
          simp [Builtin.delete_, run_underlying hu, MapKept.run_getObj_map hb, hc, KO.find _ _ hnow, MapKept.run_setObj_map _ hb]
        · have hlt : j < fs.size := by have := (List.getElem?_eq_some_iff.1 hj).1; simpa using this
          refine ⟨_, ?_, entries_write hw hi hg hbs hb (fs.eraseIdxIfInBounds j) clock (by simp [Array.eraseIdxIfInBounds, hlt]; exact hre), rfl⟩
          simp [Builtin.delete_, run_underlying hu, MapKept.run_getObj_map hb, hc, KO.find _ _ hnow, MapKept.run_setObj_map _ hb]
  · cases h
end
end Go.Ab
end
end

section
section
namespace Go.Ab
open Go.RowKit Go.MapKept
abbrev FF (r : Option Nat) : Fence := { fn := fun _ => True, depth := none, alive := false, round := r }
def CallPost (cx : Cx) (base : Nat → Prop) (w0 : World) (μ : Inj) (H : Heap) (v : AV) (H' : Heap) : Ending → World → Prop :=
  fun e w' => ∃ Z, e = .returned Z ∧ LoudOK cx base w0 μ H v H' Z w'
structure CallerOK (P : Program) (cx : Cx) (base : Nat → Prop) (w0 : World) (call : Caller) : Prop where
  fn : ∀ {f : FuncId} {args : List AV} {H H' : Heap} {v : AV} {μ : Inj} {w : World} {xs : List Value}, call (.fn f) args H = some (v, H') → RelW (szOf cx) base w0 μ H w → RelL μ args xs →
    (callFunc f xs.toArray).run P w = .ok (.enter f xs.toArray) w ∧ ∀ r n, CallsIn (FF r) n P f xs.toArray w (CallPost cx base w0 μ H v H')
  yield : ∀ {l : Nat} {args : List AV} {H H' : Heap} {v : AV} {μ : Inj} {w : World} {xs : List Value} {i : BI}, call (.yield l) args H = some (v, H') → RelW (szOf cx) base w0 μ H w → RelL μ args xs → μ l = some i →
    ∃ f tmps asg body, (Instr.yield i.blk xs.toArray).run P w = .ok (.round i.blk f tmps asg body) w ∧ ∀ r n, RoundIn (FF r) n P i.blk f tmps asg body w (CallPost cx base w0 μ H v H')
section
variable {P : Program} {cx : Cx} (hcx : CxOK P cx) {μ : Inj} {base : Nat → Prop} {w0 w : World} {H : Heap} (hw : RelW (szOf cx) base w0 μ H w) {g : Env} {a : Act} (hf : RelF μ g a.tmps)
  {call : Caller} (hcall : CallerOK P cx base w0 call)
theorem uponIn_value {r : Option Nat} {n : Nat} {o : Oper} {next : Act → World → Prop} {Q : Exit → Act → World → Prop} {Z : Value} {w' : World}
    (hd : ∀ c, o.op ≠ .defer c) (h : (execOp a.eval o).run P w = .ok (.value Z) w') (hn : next (a.put o.dst Z) w') : o.wpIn (FF r) n P a w next Q := by
  refine ⟨fun _ _ => trivial, ?_⟩
  rw [Oper.semAt_eq _ _ _ hd, h]
  exact hn
theorem uponIn_skip {r : Option Nat} {n : Nat} {o : Oper} {next : Act → World → Prop} {Q : Exit → Act → World → Prop} {w' : World}
    (hd : ∀ c, o.op ≠ .defer c) (h : (execOp a.eval o).run P w = .ok .skip w') (hn : next (a.put o.dst undef) w') : o.wpIn (FF r) n P a w next Q := by
  refine ⟨fun _ _ => trivial, ?_⟩
  rw [Oper.semAt_eq _ _ _ hd, h]
  exact hn
include hw in
theorem made_loud {m : Made} {x : Value} {ob : Obj} {i : BI} {w1 : World} (h : MadeOK P (szOf cx) base μ m w i x ob w1) :
    LoudOK cx base w0 μ H (m.1 H.next) (H.new m.2) x (w1.alloc ob) := by
  have hu := hw.unmapped
  have hw1 : RelW (szOf cx) base w0 μ H w1 := by
    refine ⟨⟨h.os.trans hw.below.os, h.tape.trans hw.below.tape, h.out.trans hw.below.output, by rw [h.heap]; exact hw.below.size, fun k hk => by rw [h.heap]; exact hw.below.block k hk⟩, by rw [h.heap]; exact hw.baseLe, hw.fresh,
      fun b i e => (hw.blk b i e).same fun _ => by rw [h.heap], hw.apart, by rw [h.heap]; exact hw.froz, hw.frozApart, by rw [h.heap]; exact hw.lo⟩
  refine ⟨by simp, μ.set H.next i, grow_set _ _ _, h.val _ _ (ext_set i hu) (Inj.set_same _ _ _), ?_⟩
  refine RelW.bind (hw1.addDead m.2) hu (by simp) ob i (by rw [h.at_, h.heap]) ?_
  rw [Heap.get_new, if_pos rfl]
  exact h.blk _ (ext_set i hu) hw.newOK
include hcx hw hf hcall in
theorem aOp_sound {o : Oper} {v : AV} {H' : Heap} (h : aOp cx call o.op g H = some (v, H')) {r : Option Nat} {n : Nat} {next : Act → World → Prop} {Q : Exit → Act → World → Prop}
    (hn : ∀ Z w', LoudOK cx base w0 μ H v H' Z w' → next (a.put o.dst Z) w') : o.wpIn (FF r) n P a w next Q := by
  rw [aOp_eq] at h
  unfold aOpK at h
  split at h
  · rename_i hk
    replace h := ob_eq h; obtain ⟨m, hm, h⟩ := h
    injection h with h; injection h with h1 h2; subst h1; subst h2
    obtain ⟨x, ob, i, w1, hrun, hok⟩ := aMade_sound hcx hf hm hk w
    refine uponIn_value (fun c e => ?_) hrun (hn _ _ (made_loud hw hok))
    rw [e] at hk; simp [kindOf] at hk
  · rename_i hk
    replace h := ob_eq h; obtain ⟨u, hu, h⟩ := h
    injection h with h; injection h with h1 h2; subst h1; subst h2
    obtain ⟨x, w', hrun, hv, hw'⟩ := aQuiet_sound hcx hw hf hu
    refine uponIn_value (fun c e => ?_) hrun (hn _ _ (LoudOK.same rfl hv hw'))
    rw [e] at hu; simp [aQuiet] at hu
  · rename_i hk
    obtain ⟨dst, op, ty', pos, after, guard⟩ := o
    have store : ∀ {s : Sem Unit} {H2 : Heap}, (∃ w', s.run P w = .ok () w' ∧ RelW (szOf cx) base w0 μ H2 w' ∧ H2.next = H.next) → v = .undef → H2 = H' →
        ∃ w', (do s; pure Next.skip : Sem Next).run P w = .ok .skip w' ∧ next (a.put dst undef) w' := by
      rintro s H2 ⟨w', h1, h2, h3⟩ rfl rfl
      exact ⟨w', by simp [h1], hn _ _ (LoudOK.same h3 .undef h2)⟩
    cases op <;> simp only [aLoud] at h <;> try (cases h; done)
    case store t x y =>
      simp only [lStore, ev2] at h
      replace h := ob_eq h; obtain ⟨p, hp, h⟩ := h
      replace h := ob_eq h; obtain ⟨q, hq, h⟩ := h
      replace h := ob_eq h; obtain ⟨H2, h2, h⟩ := h
      injection h with h; injection h with h3 h4
      obtain ⟨w', h5, h6⟩ := store (s := Instr.storeAt t (a.eval x) (a.eval y)) (aStore_sound hcx hw h2 (ev_sound hf hp) (ev_sound hf hq)) h3.symm h4
      exact uponIn_skip (fun c e => by cases e) h5 h6
    case mapUpdate t m k x =>
      simp only [lPut, ev2] at h
      replace h := ob_eq h; obtain ⟨s, hs, h⟩ := h
      replace h := ob_eq h; obtain ⟨p, hp, h⟩ := h
      replace h := ob_eq h; obtain ⟨q, hq, h⟩ := h
      replace h := ob_eq h; obtain ⟨H2, h2, h⟩ := h
      injection h with h; injection h with h3 h4
      obtain ⟨w', h5, h6⟩ := store (s := Instr.mapUpdate t (a.eval m) (a.eval k) (a.eval x)) (aMapPut_sound hcx hw h2 (ev_sound hf hs) (ev_sound hf hp) (ev_sound hf hq)) h3.symm h4
      exact uponIn_skip (fun c e => by cases e) h5 h6
    case insert t m k x =>
      simp only [lPut, ev2] at h
      replace h := ob_eq h; obtain ⟨s, hs, h⟩ := h
      replace h := ob_eq h; obtain ⟨p, hp, h⟩ := h
      replace h := ob_eq h; obtain ⟨q, hq, h⟩ := h
      replace h := ob_eq h; obtain ⟨H2, h2, h⟩ := h
      injection h with h; injection h with h3 h4
      obtain ⟨w', h5, h6⟩ := store (s := Instr.mapUpdate t (a.eval m) (a.eval k) (a.eval x)) (aMapPut_sound hcx hw h2 (ev_sound hf hs) (ev_sound hf hp) (ev_sound hf hq)) h3.symm h4
      exact uponIn_skip (fun c e => by cases e) h5 h6
    case call c =>
      have e : c.args.map a.eval = (c.args.toList.map a.eval).toArray := by rw [← Array.toList_map, Array.toArray_toList]
      unfold lCall at h
      split at h
      · rename_i b hb
        replace h := ob_eq h; obtain ⟨l, hl, h⟩ := h
        have hr := evs_sound hf hl
        have two : ∀ {α : Type} {ts : List α} {β : Type} {f : α → α → Option β} {y : β}, two2 ts f = some y → ∃ p q, ts = [p, q] ∧ f p q = some y := by
          intro α ts β f y h
          unfold two2 at h
          split at h
          · exact ⟨_, _, rfl, h⟩
          · cases h
        have fin : ∀ Z w', (builtin b c.argTypes ty' (c.args.map fun | .const _ => true | _ => false) (c.args.toList.map a.eval).toArray).run P w = .ok (.value Z) w' → LoudOK cx base w0 μ H v H' Z w' →
            Oper.wpIn (FF r) n P ⟨dst, .call c, ty', pos, after, guard⟩ a w next Q := by
          intro Z w' h1 h2
          refine uponIn_value (fun c e => by cases e) ?_ (hn _ _ h2)
          simp only [execOp, resolve, hb, pure_bind, invoke, e]
          exact h1
        cases b <;> simp only [lBuiltin] at h <;> try (cases h; done)
        case append =>
          obtain ⟨t, u, ht, h⟩ := two h
          obtain ⟨s, x, rfl, h⟩ := two h
          cases hxs : c.args.toList.map a.eval with
          | nil => rw [hxs] at hr; cases hr
          | cons S xs =>
            rw [hxs] at hr
            cases hr with
            | cons rs rest =>
              cases rest with
              | cons rx rest =>
                cases rest
                obtain ⟨Z, w', h1, h2⟩ := aAppend_sound (ty := ty') hcx hw h rs rx
                refine fin Z w' ?_ h2
                have e2 : c.argTypes = #[t, u] := by rw [← Array.toArray_toList (xs := c.argTypes), ht]
                rw [hxs, e2]
                simp [builtin, h1]
        case copy =>
          obtain ⟨t, u, ht, h⟩ := two h
          obtain ⟨s, x, rfl, h⟩ := two h
          cases hxs : c.args.toList.map a.eval with
          | nil => rw [hxs] at hr; cases hr
          | cons S xs =>
            rw [hxs] at hr
            cases hr with
            | cons rs rest =>
              cases rest with
              | cons rx rest =>
                cases rest
                obtain ⟨Z, w', h1, h2⟩ := aCopy_sound (u := u) (ty := ty') hcx hw h rs rx
                refine fin Z w' ?_ h2
                have e2 : c.argTypes = #[t, u] := by rw [← Array.toArray_toList (xs := c.argTypes), ht]
                rw [hxs, e2]
                simp [builtin, h1]
        case delete =>
          obtain ⟨t, u, ht, h⟩ := two h
          obtain ⟨s, x, rfl, h⟩ := two h
          replace h := ob_eq h; obtain ⟨H2, h2, h⟩ := h
          injection h with h; injection h with h3 h4; subst h3; subst h4
          cases hxs : c.args.toList.map a.eval with
          | nil => rw [hxs] at hr; cases hr
          | cons S xs =>
            rw [hxs] at hr
            cases hr with
            | cons rs rest =>
              cases rest with
              | cons rx rest =>
                cases rest
                obtain ⟨w', h5, h6, h7⟩ := aDelete_sound (u := u) (ty := ty') hcx hw h2 rs rx
                refine fin (.tuple #[]) w' ?_ (LoudOK.same h7 (.tuple (xs := []) .nil) h6)
                have e2 : c.argTypes = #[t, u] := by rw [← Array.toArray_toList (xs := c.argTypes), ht]
                rw [hxs, e2]
                simp [builtin, h5]
      · rename_i fo hb
        replace h := ob_eq h; obtain ⟨fv, hfv, h⟩ := h
        replace h := ob_eq h; obtain ⟨l, hl, h⟩ := h
        have hr := evs_sound hf hl
        have rf := ev_sound hf hfv
        unfold aCallV at h
        split at h
        · rename_i gf first captured
          generalize hF : a.eval fo = F at rf
          cases rf with
          | func r1 r2 =>
            rename_i xs ys
            obtain ⟨h1, h2⟩ := hcall.fn h hw ((r1.append hr).append r2)
            refine ⟨fun _ _ => trivial, ?_⟩
            rw [Oper.semAt_eq _ _ _ (fun c e => by cases e)]
            have hrun : (execOp a.eval ⟨dst, .call c, ty', pos, after, guard⟩).run P w = .ok (.enter gf (xs ++ c.args.toList.map a.eval ++ ys).toArray) w := by
              simp only [execOp, resolve, hb, hF, Deferred.ofValue, pure_bind, invoke, e]
              rw [← h1]; simp
            rw [hrun]
            refine ⟨fun e => (by cases e), (h2 r (n - 1)).mono ?_⟩
            rintro e w' ⟨Z, rfl, hl⟩
            exact hn Z w' hl
        · rename_i l'
          generalize hF : a.eval fo = F at rf
          cases rf with
          | yield hi =>
            rename_i i
            obtain ⟨f', tmps, asg, body, h1, h2⟩ := hcall.yield h hw hr hi
            refine ⟨fun _ _ => trivial, ?_⟩
            rw [Oper.semAt_eq _ _ _ (fun c e => by cases e)]
            have hrun : (execOp a.eval ⟨dst, .call c, ty', pos, after, guard⟩).run P w = .ok (.round i.blk f' tmps asg body) w := by
              simp only [execOp, resolve, hb, hF, Deferred.ofValue, pure_bind, invoke, e]
              rw [← h1]; simp
            rw [hrun]
            refine ⟨fun e => (by cases e), (h2 r (n - 1)).mono ?_⟩
            rintro e w' ⟨Z, rfl, hl⟩
            exact hn Z w' hl
        · cases h
      · cases h
theorem guard_sound {tmps : Array Value} (hf : RelF μ g tmps) (ops : Array Oper) (j : Nat) (want : Bool) (hk : ∀ t, (listAt ops.toList j).ob (·.dst) = some t → g t ≠ .any) : (yielded ops tmps j == some want) = aGuard ops.toList g j want := by
  unfold yielded aGuard
  rw [listAt_eq, Array.getElem?_toList] at hk ⊢
  generalize ops[j]? = oo at hk ⊢
  cases oo with
  | none => simp
  | some o =>
    simp only [Option.bind_some, ob_some] at hk ⊢
    cases hod : o.dst with
    | none => simp
    | some t =>
      rw [hod] at hk
      have hk := hk t rfl
      simp only [Option.bind_some]
      have h := hf t
      rw [Array.getD_eq_getD_getElem?] at h
      generalize g t = u at h hk
      cases hv : tmps[t]? with
      | none =>
        rw [hv] at h
        cases u <;> first | rfl | (cases h; done) | exact absurd rfl hk
      | some x =>
        rw [hv] at h
        simp only [Option.getD_some] at h
        cases h <;> first | rfl | exact absurd rfl hk
theorem wanted_sound {tmps : Array Value} (hf : RelF μ g tmps) (ops : Array Oper) (o : Oper) (hk : gknown ops.toList g o = true) : Region.wanted o (yielded ops tmps) = aWanted ops.toList g o := by
  unfold Region.wanted aWanted
  unfold gknown at hk
  cases hg : o.guard with
  | none => rfl
  | some q =>
    rw [hg] at hk
    simp only at hk
    exact guard_sound hf ops q.1 q.2 fun t ht e => by
      rw [ht] at hk
      simp only [e, isAny] at hk
      cases hk
theorem put_size (a : Act) (dst : Option Tmp) (v : Value) : (a.put dst v).tmps.size = a.tmps.size := by
  cases dst <;> simp [Act.put]
theorem put_defers (a : Act) (dst : Option Tmp) (v : Value) : (a.put dst v).defers = a.defers := by
  cases dst <;> rfl
theorem put_sound {μ' : Inj} {fr fr' : Fr} {nn : Nat} {dst : Option Tmp} {v : AV} {Z : Value} {a : Act} (hf : RelF μ fr.get a.tmps) (hs : a.tmps.size = nn) (h : fr.put nn dst v = some fr') (he : Ext μ μ') (hv : RelV μ' v Z) :
    RelF μ' fr'.get (a.put dst Z).tmps := by
  unfold Fr.put at h
  cases dst with
  | none => simp only at h; injection h with h; subst h; exact hf.mono he
  | some d =>
    simp only [cb_eq, nble] at h
    split at h
    · rename_i hd
      have hd : d < a.tmps.size := by rw [hs]; exact of_decide_eq_true hd
      injection h with h; subst h
      intro t
      show RelV μ' (T.get .undef (T.set .undef fr d v) t) _
      rw [T.get_set]
      simp only [Act.put, Array.getD_eq_getD_getElem?, Array.getElem?_setIfInBounds]
      by_cases ht : t = d
      · subst ht; rw [if_pos rfl, if_pos rfl, if_pos hd]; exact hv
      · rw [if_neg ht, if_neg (Ne.symm ht), ← Array.getD_eq_getD_getElem?]; exact (hf t).mono he
    · cases h
structure RunOK (cx : Cx) (base : Nat → Prop) (w0 : World) (nn : Nat) (μ : Inj) (H : Heap) (ds : List Deferred) (fr' : Fr) (H' : Heap) (a' : Act) (w' : World) : Prop where
  next : H.next ≤ H'.next
  ex : ∃ μ', Grow H.next μ μ' ∧ RelF μ' fr'.get a'.tmps ∧ RelW (szOf cx) base w0 μ' H' w'
  size : a'.tmps.size = nn
  defers : a'.defers = ds
include hcx hcall in
theorem aOps_sound {nn : Nat} {ops : Array Oper} {r : Option Nat} {n : Nat} {Q : Exit → Act → World → Prop} : ∀ (l : List Oper) (k : Nat) (μ : Inj) (fr : Fr) (H : Heap) (a : Act) (w : World) (fr' : Fr) (H' : Heap),
    ops.toList.drop k = l → aOps cx call nn ops.toList l fr H = some (fr', H') → RelF μ fr.get a.tmps → a.tmps.size = nn → RelW (szOf cx) base w0 μ H w →
    (∀ a' w', RunOK cx base w0 nn μ H a.defers fr' H' a' w' → Q .normal a' w') → wpOpsIn (FF r) n P ops Q (List.range' k l.length) a w := by
  intro l
  induction l with
  | nil =>
    intro k μ fr H a w fr' H' hl h hf hs hw hq
    rw [aOps_nil] at h
    injection h with h; injection h with h1 h2; subst h1; subst h2
    exact hq a w ⟨Nat.le_refl _, ⟨μ, Grow.refl _ _, hf, hw⟩, hs, rfl⟩
  | cons o l ih =>
    intro k μ fr H a w fr' H' hl h hf hs hw hq
    rw [aOps_cons] at h
    replace h := ob_eq h; obtain ⟨⟨v, H1⟩, hstep, h⟩ := h
    replace h := ob_eq h; obtain ⟨fr1, hput, h⟩ := h
    simp only at hput h
    have hok : ops[k]? = some o := by
      have : (ops.toList.drop k)[0]? = some o := by rw [hl]; rfl
      rw [List.getElem?_drop] at this
      simpa using this
    have hl' : ops.toList.drop (k + 1) = l := by
      have := congrArg List.tail hl
      simpa using this
    rw [List.length_cons, List.range'_succ]
    unfold wpOpsIn
    simp only [hok]
    obtain ⟨hgk, hstep⟩ := aStep_eq hstep
    rw [wanted_sound hf ops o hgk]
    unfold aStep0 at hstep
    have goOn : ∀ Z w', LoudOK cx base w0 μ H v H1 Z w' → wpOpsIn (FF r) n P ops Q (List.range' (k + 1) l.length) (a.put o.dst Z) w' := by
      rintro Z w' ⟨hn1, μ1, hg1, hv1, hw1⟩
      refine ih (k + 1) μ1 fr1 H1 (a.put o.dst Z) w' fr' H' hl' h (put_sound hf hs hput (hw.ext hg1) hv1) (by rw [put_size]; exact hs) hw1 fun a' w'' hr => hq a' w'' ?_
      obtain ⟨h1, ⟨μ2, h2, h3, h4⟩, h5, h6⟩ := hr
      exact ⟨Nat.le_trans hn1 h1, ⟨μ2, hg1.trans h2 hn1, h3, h4⟩, h5, h6.trans (put_defers _ _ _)⟩
    rw [cb_eq] at hstep
    split at hstep
    · rename_i hwt
      rw [if_pos hwt]
      exact aOp_sound hcx hw hf hcall hstep goOn
    · rename_i hwt
      rw [if_neg hwt]
      injection hstep with hstep; injection hstep with h1 h2; subst h1; subst h2
      exact ⟨fun _ _ => trivial, goOn undef w (LoudOK.same rfl .undef hw)⟩
end
end Go.Ab
end
end

section
section
namespace Go.Ab
open Go.RowKit Go.MapKept
mutual
theorem AV.beq_eq : ∀ (a b : AV), AV.beq a b = true → a = b
  | .undef, b, h => by cases b <;> first | rfl | cases h
  | .int k n, b, h => by cases b <;> first | (simp [AV.beq] at h; obtain ⟨rfl, rfl⟩ := h; rfl) | cases h
  | .bool x, b, h => by cases b <;> first | (simp [AV.beq] at h; subst h; rfl) | cases h
  | .str x, b, h => by cases b <;> first | (simp [AV.beq] at h; subst h; rfl) | cases h
  | .ptr x, b, h => by cases b <;> first | (simp [AV.beq] at h; subst h; rfl) | cases h
  | .slice x l c, b, h => by cases b <;> first | (simp [AV.beq] at h; obtain ⟨⟨rfl, rfl⟩, rfl⟩ := h; rfl) | cases h
  | .map x, b, h => by cases b <;> first | (simp [AV.beq] at h; subst h; rfl) | cases h
  | .func f x y, b, h => by
    cases b <;> first
      | (simp [AV.beq] at h; obtain ⟨⟨rfl, h1⟩, h2⟩ := h; rw [AV.beqL_eq _ _ h1, AV.beqL_eq _ _ h2])
      | cases h
  | .yield x, b, h => by cases b <;> first | (simp [AV.beq] at h; subst h; rfl) | cases h
  | .nilFunc, b, h => by cases b <;> first | rfl | cases h
  | .iface t v, b, h => by
    cases b <;> first
      | (simp [AV.beq] at h; obtain ⟨rfl, h1⟩ := h; rw [AV.beq_eq _ _ h1])
      | cases h
  | .nilIface, b, h => by cases b <;> first | rfl | cases h
  | .agg x, b, h => by cases b <;> first | (simp only [AV.beq] at h; rw [AV.beqL_eq _ _ h]) | cases h
  | .tuple x, b, h => by cases b <;> first | (simp only [AV.beq] at h; rw [AV.beqL_eq _ _ h]) | cases h
  | .fsl n l x, b, h => by
    cases b <;> first
      | (simp only [AV.beq, Bool.and_eq_true, beq_iff_eq, decide_eq_true_eq] at h; obtain ⟨⟨rfl, rfl⟩, h2⟩ := h; rw [AV.beqL_eq _ _ h2])
      | cases h
  | .fptr x, b, h => by cases b <;> first | (simp only [AV.beq] at h; rw [AV.beqL_eq _ _ h]) | cases h
  | .any, b, h => by cases b <;> first | rfl | cases h
theorem AV.beqL_eq : ∀ (a b : List AV), AV.beqL a b = true → a = b
  | [], b, h => by cases b <;> first | rfl | cases h
  | x :: xs, b, h => by
    cases b with
    | nil => cases h
    | cons y ys =>
      simp only [AV.beqL, Bool.and_eq_true] at h
      rw [AV.beq_eq _ _ h.1, AV.beqL_eq _ _ h.2]
end
theorem Blk.same_eq {a b : Blk} (h : Blk.same a b = true) : a = b := by
  unfold Blk.same at h
  split at h
  · simp only [Bool.and_eq_true, beq_iff_eq, decide_eq_true_eq] at h
    obtain ⟨⟨⟨rfl, rfl⟩, rfl⟩, h⟩ := h
    rw [AV.beqL_eq _ _ h]
  · rfl
  · cases h
section congr
variable {g g' : Env}
theorem ev_congr {x : Operand} (h : ∀ t, x = .tmp t → g t = g' t) : ev g x = ev g' x := by
  cases x <;> first | rfl | (simp only [ev]; rw [h _ rfl])
theorem evs_congr {l : List Operand} (h : ∀ x ∈ l, ev g x = ev g' x) : evs g l = evs g' l := by
  induction l with
  | nil => rfl
  | cons x l ih => rw [evs_cons, evs_cons, h x (by simp), ih fun y hy => h y (by simp [hy])]
theorem evParts_congr {l : List (Nat × Operand)} (h : ∀ x ∈ l.map (·.2), ev g x = ev g' x) : evParts g l = evParts g' l := by
  induction l with
  | nil => rfl
  | cons x l ih =>
    obtain ⟨i, x⟩ := x
    simp only [evParts]
    rw [h x (by simp), ih fun y hy => h y (by simp [hy])]
theorem evO_congr {x : Option Operand} (h : ∀ y, x = some y → ev g y = ev g' y) : evO g x = evO g' x := by
  cases x with
  | none => rfl
  | some y => simp only [evO]; rw [h y rfl]
theorem aMade_congr (cx : Cx) {o : Op} (h : ∀ x ∈ o.operands, ev g x = ev g' x) : aMade cx o g = aMade cx o g' := by
  cases o <;> simp only [aMade, mBox, mBuild, mMake, mMap] <;> try rfl
  case box t x => rw [h x (by simp [Op.operands])]
  case buildSlice t n ps => rw [evParts_congr fun x hx => h x (by simpa [Op.operands] using hx)]
  case makeSlice t l c => rw [h l (by simp [Op.operands]), h c (by simp [Op.operands])]
  case convert s d x => rw [h x (by simp [Op.operands])]
theorem call_congr {c : Call} (h : ∀ x ∈ (Op.call c).operands, ev g x = ev g' x) : evs g c.args.toList = evs g' c.args.toList ∧ ∀ f, c.callee = .value f → ev g f = ev g' f := by
  constructor
  · exact evs_congr fun x hx => h x (by simp [Op.operands, Call.operands]; right; simpa using hx)
  · intro f hf
    exact h f (by simp [Op.operands, Call.operands, hf])
theorem aQuiet_congr (cx : Cx) {o : Op} (H : Heap) (h : ∀ x ∈ o.operands, ev g x = ev g' x) : aQuiet cx o g H = aQuiet cx o g' H := by
  cases o <;> simp only [aQuiet, ev2] <;> try rfl
  case move x => rw [h x (by simp [Op.operands])]
  case assign x => rw [h x (by simp [Op.operands])]
  case pick c x y => rw [h c (by simp [Op.operands]), h x (by simp [Op.operands]), h y (by simp [Op.operands])]
  case build t ps => rw [evParts_congr fun x hx => h x (by simpa [Op.operands] using hx)]
  case load t x => rw [h x (by simp [Op.operands])]
  case nilCheck x => rw [h x (by simp [Op.operands])]
  case sliceToArrayPointer t x => rw [h x (by simp [Op.operands])]
  case binOp op t x y z => rw [h x (by simp [Op.operands]), h y (by simp [Op.operands])]
  case unOp op t x => rw [h x (by simp [Op.operands])]
  case convert s d x => rw [h x (by simp [Op.operands])]
  case makeFunc fn first captured =>
    unfold qFunc
    rw [evs_congr (g := g) (l := first.toList) fun x hx => h x (by simp [Op.operands]; left; simpa using hx), evs_congr (g := g) (l := captured.toList) fun x hx => h x (by simp [Op.operands]; right; simpa using hx)]
  case slice t x lo hi mx =>
    unfold qSlice
    rw [h x (by simp [Op.operands]), evO_congr (x := lo) fun y hy => h y (by simp [Op.operands, hy]), evO_congr (x := hi) fun y hy => h y (by simp [Op.operands, hy]), evO_congr (x := mx) fun y hy => h y (by simp [Op.operands, hy])]
  case fieldAddr t x f => rw [h x (by simp [Op.operands])]
  case field t x f => rw [h x (by simp [Op.operands])]
  case indexAddr t x i => rw [h x (by simp [Op.operands]), h i (by simp [Op.operands])]
  case index t x i => rw [h x (by simp [Op.operands]), h i (by simp [Op.operands])]
  case lookup t x i ok => rw [h x (by simp [Op.operands]), h i (by simp [Op.operands])]
  case extract x i => rw [h x (by simp [Op.operands])]
  case call c =>
    unfold qCall
    rw [(call_congr h).1]
theorem aLoud_congr (cx : Cx) (call : Caller) {o : Op} (H : Heap) (h : ∀ x ∈ o.operands, ev g x = ev g' x) : aLoud cx call o g H = aLoud cx call o g' H := by
  cases o <;> simp only [aLoud, lStore, lPut, ev2] <;> try rfl
  case store t x y => rw [h x (by simp [Op.operands]), h y (by simp [Op.operands])]
  case mapUpdate t m k x => rw [h m (by simp [Op.operands]), h k (by simp [Op.operands]), h x (by simp [Op.operands])]
  case insert t m k x => rw [h m (by simp [Op.operands]), h k (by simp [Op.operands]), h x (by simp [Op.operands])]
  case call c =>
    obtain ⟨h1, h2⟩ := call_congr h
    unfold lCall
    split
    · rw [h1]
    · rename_i f hf; rw [h1, h2 f hf]
    · rfl
theorem aOp_congr (cx : Cx) (call : Caller) {o : Op} (H : Heap) (h : ∀ x ∈ o.operands, ev g x = ev g' x) : aOp cx call o g H = aOp cx call o g' H := by
  rw [aOp_eq, aOp_eq]
  unfold aOpK
  rw [aMade_congr cx h, aQuiet_congr cx H h, aLoud_congr cx call H h]
theorem aWanted_congr {ops : List Oper} {o : Oper} (h : ∀ q d, o.guard = some q → (listAt ops q.1).ob (·.dst) = some d → g d = g' d) : aWanted ops g o = aWanted ops g' o := by
  unfold aWanted
  split
  · rfl
  · rename_i q hq
    unfold aGuard
    split
    · rename_i t ht; rw [h q t hq ht]
    · rfl
theorem gknown_congr {ops : List Oper} {o : Oper} (h : ∀ q d, o.guard = some q → (listAt ops q.1).ob (·.dst) = some d → g d = g' d) : gknown ops g o = gknown ops g' o := by
  unfold gknown
  split
  · rfl
  · rename_i q hq
    split
    · rename_i t ht; rw [h q t hq ht]
    · rfl
end congr
end Go.Ab
end
end

section
section
namespace Go.Ab
open Go.RowKit Go.MapKept
theorem fold_bits (x : Nat → Nat) (i : Nat) : ∀ (l : List Edge) (s : Nat), (l.foldl (fun s e => if Region.binds .any e then s ||| 2 ^ e.on ||| x e.on else s) s).testBit i = true →
    s.testBit i = true ∨ ∃ e ∈ l, Region.binds .any e = true ∧ (e.on = i ∨ (x e.on).testBit i = true) := by
  intro l
  induction l with
  | nil => intro s h; exact .inl h
  | cons e l ih =>
    intro s h
    rw [List.foldl_cons] at h
    rcases ih _ h with h | ⟨e', h1, h2, h3⟩
    · split at h
      · rename_i hb
        rw [Nat.testBit_or, Nat.testBit_or, Nat.testBit_two_pow] at h
        simp only [Bool.or_eq_true, decide_eq_true_eq] at h
        rcases h with (h | h) | h
        · exact .inl h
        · exact .inr ⟨e, by simp, hb, .inl h⟩
        · exact .inr ⟨e, by simp, hb, .inr h⟩
      · exact .inl h
    · exact .inr ⟨e', by simp [h1], h2, h3⟩
theorem befs_spec : ∀ (l : List Oper) (acc bs : List Nat), befs l acc = some bs → ∃ new, bs = acc.reverse ++ new ∧ new.length = l.length ∧ ∀ k o b, l[k]? = some o → new[k]? = some b →
    (∀ e ∈ o.after.toList, Region.binds .any e = true → e.on < acc.length + k) ∧ ∀ i, b.testBit i = true → ∃ e ∈ o.after.toList, Region.binds .any e = true ∧ (e.on = i ∨ (bs.getD e.on 0).testBit i = true) := by
  intro l
  induction l with
  | nil => intro acc bs h; simp only [befs] at h; injection h with h; subst h; exact ⟨[], by simp, rfl, fun k o b h => by simp at h⟩
  | cons o l ih =>
    intro acc bs h
    simp only [befs] at h
    split at h
    · rename_i hall
      obtain ⟨new, hbs, hlen, hspec⟩ := ih _ _ h
      refine ⟨_ :: new, by rw [hbs, List.reverse_cons, List.append_assoc]; rfl, by simp [hlen], fun k o' b hk hb => ?_⟩
      cases k with
      | zero =>
        simp at hk hb
        subst hk; subst hb
        have hlt : ∀ e ∈ o.after.toList, Region.binds .any e = true → e.on < acc.length := fun e he hb => by
          have := List.all_eq_true.1 hall e he
          simpa [hb] using this
        refine ⟨fun e he hb => by have := hlt e he hb; omega, fun i hi => ?_⟩
        rcases fold_bits (fun m => acc.getD (acc.length - 1 - m) 0) i o.after.toList 0 (by simpa using hi) with h | ⟨e, h1, h2, h3⟩
        · simp at h
        · refine ⟨e, h1, h2, h3.imp id fun h => ?_⟩
          have hel := hlt e h1 h2
          have e1 : bs.getD e.on 0 = acc.getD (acc.length - 1 - e.on) 0 := by
            rw [hbs, List.getD_eq_getElem?_getD, List.getD_eq_getElem?_getD, List.getElem?_append_left (by simp; omega), List.reverse_cons, List.getElem?_append_left (by simpa using hel), List.getElem?_reverse hel]
          rw [e1]; exact h
      | succ k =>
        simp at hk hb
        obtain ⟨h1, h2⟩ := hspec k o' b hk hb
        exact ⟨fun e he hbb => by have := h1 e he hbb; simp at this; omega, h2⟩
    · cases h
theorem bits_closed {ops : Array Oper} {bs : List Nat} (hb : befs ops.toList [] = some bs) {E : Nat → Prop} (dc : ∀ (j : Nat) (o : Oper), ops[j]? = some o → E j → ∀ e ∈ o.after.toList, Region.binds .any e = true → E e.on) :
    ∀ (j : Nat) (o : Oper) (b : Nat), ops[j]? = some o → bs[j]? = some b → (∀ e ∈ o.after.toList, Region.binds .any e = true → E e.on) → ∀ i, b.testBit i = true → E i := by
  obtain ⟨new, hbs, hlen, hspec⟩ := befs_spec _ _ _ hb
  simp at hbs
  subst hbs
  intro j
  induction j using Nat.strongRecOn with
  | ind j ih =>
    intro o b ho hbj hE i hi
    have hlt := (Array.getElem?_eq_some_iff.1 ho).1
    obtain ⟨h1, h2⟩ := hspec j o b (by simpa using ho) hbj
    obtain ⟨e, he, hbi, h3⟩ := h2 i hi
    rcases h3 with h3 | h3
    · subst h3; exact hE e he hbi
    · have hel := h1 e he hbi
      simp at hel
      have hlt2 : e.on < ops.size := by omega
      have hbe : bs[e.on]? = some (bs.getD e.on 0) := by
        rw [List.getD_eq_getElem?_getD]
        have : e.on < bs.length := by rw [hlen]; simpa using hlt2
        rw [List.getElem?_eq_getElem this]; rfl
      exact ih e.on hel _ _ (Array.getElem?_eq_getElem hlt2) hbe (dc e.on _ (Array.getElem?_eq_getElem hlt2) (hE e he hbi)) i h3
theorem edges_back {ops : Array Oper} {bs : List Nat} (hb : befs ops.toList [] = some bs) {j : Nat} {o : Oper} (ho : ops[j]? = some o) : ∀ e ∈ o.after.toList, Region.binds .any e = true → e.on < j := by
  obtain ⟨new, hbs, hlen, hspec⟩ := befs_spec _ _ _ hb
  have hlt := (Array.getElem?_eq_some_iff.1 ho).1
  have hn : j < new.length := by rw [hlen]; simpa using hlt
  intro e he hbb
  have := (hspec j o new[j] (by simpa using ho) (List.getElem?_eq_getElem hn)).1 e he hbb
  simpa using this
theorem zip3_get : ∀ (os : List Oper) (bs : List Nat) (i k : Nat), os.length = bs.length → ∀ x, (zip3 i os bs)[k]? = some x → x.1 = i + k ∧ os[k]? = some x.2.1 ∧ bs[k]? = some x.2.2 := by
  intro os
  induction os with
  | nil => intro bs i k h x hx; simp [zip3] at hx
  | cons o os ih =>
    intro bs i k h x hx
    cases bs with
    | nil => simp at h
    | cons b bs =>
      simp only [zip3] at hx
      cases k with
      | zero => simp at hx; subst hx; exact ⟨rfl, rfl, rfl⟩
      | succ k =>
        simp at hx
        obtain ⟨h1, h2, h3⟩ := ih bs (i + 1) k (by simpa using h) x hx
        exact ⟨by omega, by simpa using h2, by simpa using h3⟩
theorem zip3_len : ∀ (os : List Oper) (bs : List Nat) (i : Nat), os.length = bs.length → (zip3 i os bs).length = os.length := by
  intro os
  induction os with
  | nil => intro bs i h; simp [zip3]
  | cons o os ih =>
    intro bs i h
    cases bs with
    | nil => simp at h
    | cons b bs => simp [zip3, ih bs (i + 1) (by simpa using h)]
structure RowsOK (cx : Cx) (ops : Array Oper) (bs : List Nat) (rows : List Row) : Prop where
  len : rows.length = ops.size
  get : ∀ (j : Nat) (r : Row), rows[j]? = some r → r.j = j ∧ ops[j]? = some r.o ∧ r.k = kindOf cx r.o.op ∧ bs[j]? = some r.b ∧
    r.lo = loOf r.b ((louds rows).map (·.j)) 0 0 ∧ r.hi = hiOf r.j ((louds rows).map fun r => (r.j, r.b)) 0
theorem rowsOf_ok {cx : Cx} {ops : Array Oper} {rows : List Row} (h : rowsOf cx ops.toList = some rows) : ∃ bs, befs ops.toList [] = some bs ∧ RowsOK cx ops bs rows := by
  unfold rowsOf at h
  replace h := ob_eq h; obtain ⟨bs, hbs, h⟩ := h
  simp only at h
  injection h with h
  obtain ⟨new, hn, hlen, hspec⟩ := befs_spec _ _ _ hbs
  simp at hn; subst hn
  refine ⟨bs, hbs, ?_⟩
  have hl : ops.toList.length = bs.length := hlen.symm
  have hlouds : (louds rows).map (fun r => (r.j, r.b)) = ((zip3 0 ops.toList bs).filter fun x => isLoud cx x.2.1).map fun x => (x.1, x.2.2) := by
    rw [← h]
    unfold louds
    rw [List.filter_map, List.map_map]
    rfl
  have hlouds2 : (louds rows).map (·.j) = (((zip3 0 ops.toList bs).filter fun x => isLoud cx x.2.1).map fun x => (x.1, x.2.2)).map (·.1) := by
    rw [← hlouds, List.map_map]; rfl
  refine ⟨by rw [← h, List.length_map, zip3_len _ _ _ hl]; simp, fun j r hr => ?_⟩
  rw [hlouds, hlouds2]
  rw [← h, List.getElem?_map] at hr
  cases hx : (zip3 0 ops.toList bs)[j]? with
  | none => rw [hx] at hr; cases hr
  | some x =>
    rw [hx] at hr
    simp only [Option.map_some] at hr
    injection hr with hr; subst hr
    obtain ⟨h1, h2, h3⟩ := zip3_get _ _ _ _ hl x hx
    refine ⟨by show x.1 = j; omega, by simpa using h2, rfl, h3, rfl, rfl⟩
theorem louds_mem {rows : List Row} {r : Row} : r ∈ louds rows ↔ r ∈ rows ∧ isLoudR r = true := by simp [louds]
theorem planOf_mem {rows : List Row} {r : Row} : ∀ (ls : List Row) (s : Nat), r ∈ planOf rows ls s ↔ (r ∈ ls ∨ (r ∈ rows ∧ isLoudR r = false ∧ s ≤ r.lo ∧ r.lo ≤ s + ls.length)) := by
  intro ls
  induction ls with
  | nil =>
    intro s
    simp [planOf]
    intro _ _
    constructor
    · rintro rfl; omega
    · intro h; omega
  | cons l ls ih =>
    intro s
    simp only [planOf, List.mem_append, List.mem_cons, ih, List.mem_filter, Bool.and_eq_true, Bool.not_eq_true', beq_iff_eq, List.length_cons]
    constructor
    · rintro (⟨h1, h2, h3⟩ | rfl | h | ⟨h1, h2, h3, h4⟩)
      · exact .inr ⟨h1, h2, by omega, by omega⟩
      · exact .inl (.inl rfl)
      · exact .inl (.inr h)
      · exact .inr ⟨h1, h2, by omega, by omega⟩
    · rintro ((rfl | h) | ⟨h1, h2, h3, h4⟩)
      · exact .inr (.inl rfl)
      · exact .inr (.inr (.inl h))
      · by_cases h5 : r.lo = s
        · exact .inl ⟨h1, h2, h5⟩
        · exact .inr (.inr (.inr ⟨h1, h2, by omega, by omega⟩))
theorem planOf_louds {rows : List Row} : ∀ (ls : List Row) (s : Nat), (∀ l ∈ ls, isLoudR l = true) → (planOf rows ls s).filter isLoudR = ls := by
  intro ls
  induction ls with
  | nil =>
    intro s _
    simp only [planOf, List.filter_filter]
    rw [List.filter_eq_nil_iff]
    intro r _ h
    simp only [Bool.and_eq_true, Bool.not_eq_true'] at h
    rw [h.2.1] at h; exact absurd h.1 (by simp)
  | cons l ls ih =>
    intro s hl
    simp only [planOf, List.filter_append]
    have h0 : ((rows.filter fun r => !isLoudR r && r.lo == s).filter isLoudR) = [] := by
      rw [List.filter_filter, List.filter_eq_nil_iff]
      intro r _ h
      simp only [Bool.and_eq_true, Bool.not_eq_true'] at h
      rw [h.2.1] at h; exact absurd h.1 (by simp)
    rw [h0, List.nil_append, List.filter_cons, if_pos (hl l (by simp)), ih _ fun x hx => hl x (by simp [hx])]
theorem loOf_le (b S : Nat) : ∀ (ls : List Nat) (s r : Nat), r ≤ S → (∀ (k : Nat) (l : Nat), ls[k]? = some l → b.testBit l = true → s + k + 1 ≤ S) → loOf b ls s r ≤ S := by
  intro ls
  induction ls with
  | nil => intro s r h _; exact h
  | cons l ls ih =>
    intro s r h hk
    simp only [loOf]
    refine ih _ _ ?_ fun k l' hl hb => by have := hk (k + 1) l' (by simpa using hl) hb; omega
    split
    · rename_i hb; exact hk 0 l rfl hb
    · exact h
theorem le_hiOf (j : Nat) : ∀ (ls : List (Nat × Nat)) (s m : Nat), m ≤ ls.length → (∀ (k : Nat) (l : Nat × Nat), k < m → ls[k]? = some l → l.2.testBit j = false) → s + m ≤ hiOf j ls s := by
  intro ls
  induction ls with
  | nil => intro s m h _; simp at h; subst h; exact Nat.le_refl _
  | cons l ls ih =>
    intro s m h hk
    simp only [hiOf]
    cases m with
    | zero =>
      split
      · exact Nat.le_refl _
      · have := ih (s + 1) 0 (by simp) (fun k l' hh => by omega); omega
    | succ m =>
      rw [hk 0 l (by omega) rfl]
      simp only [Bool.false_eq_true, if_false]
      have := ih (s + 1) m (by simpa using h) fun k l' hh hl => hk (k + 1) l' (by omega) (by simpa using hl)
      omega
theorem lo_top (b : Nat) (ls : List Nat) : loOf b ls 0 0 ≤ ls.length := loOf_le b ls.length ls 0 0 (Nat.zero_le _) fun k l hl _ => by
  have := (List.getElem?_eq_some_iff.1 hl).1; omega
theorem chained_get : ∀ (l : List Row), chained l = true → ∀ (k : Nat) (a b : Row), l[k]? = some a → l[k + 1]? = some b → b.b.testBit a.j = true := by
  intro l
  induction l with
  | nil => intro _ k a b h; simp at h
  | cons x l ih =>
    intro hc k a b ha hb
    cases l with
    | nil => simp at hb
    | cons y l =>
      simp only [chained, Bool.and_eq_true] at hc
      cases k with
      | zero => simp at ha hb; subst ha; subst hb; exact hc.1
      | succ k => exact ih hc.2 k a b (by simpa using ha) (by simpa using hb)
theorem fitsAll_split {ops : List Oper} : ∀ (pre : List Row) (a : Row) (post : List Row), fitsAll ops (pre ++ a :: post) = true → (∀ b ∈ pre, fits ops b a = true) ∧ ∀ b ∈ post, fits ops a b = true := by
  intro pre
  induction pre with
  | nil =>
    intro a post h
    simp only [List.nil_append, fitsAll, Bool.and_eq_true, List.all_eq_true] at h
    exact ⟨fun b hb => (by cases hb), h.1⟩
  | cons x pre ih =>
    intro a post h
    simp only [List.cons_append, fitsAll, Bool.and_eq_true, List.all_eq_true] at h
    obtain ⟨h1, h2⟩ := ih a post h.2
    refine ⟨fun b hb => ?_, h2⟩
    rcases List.mem_cons.1 hb with rfl | hb
    · exact h.1 a (by simp)
    · exact h1 b hb
theorem fits_dst {ops : List Oper} {a b : Row} (h : fits ops a b = true) {t : Tmp} (ha : a.o.dst = some t) : b.o.dst ≠ some t ∧ (t ∈ looksAt ops b.o → b.b.testBit a.j = true) := by
  simp only [fits, ha, Bool.and_eq_true, bne_iff_ne, ne_eq, Bool.or_eq_true, Bool.not_eq_true'] at h
  obtain ⟨⟨h1, h2⟩, h3⟩ := h
  refine ⟨h1, fun ht => ?_⟩
  rcases h2 with h2 | h2
  · simp at h2; exact absurd ht h2
  · exact h2
theorem fits_look {ops : List Oper} {a b : Row} (h : fits ops a b = true) {t : Tmp} (hb : b.o.dst = some t) (ht : t ∈ looksAt ops a.o) : b.b.testBit a.j = true := by
  simp only [fits, hb, Bool.and_eq_true, Bool.or_eq_true, Bool.not_eq_true'] at h
  rcases h.2 with h2 | h2
  · simp at h2; exact absurd ht h2
  · exact h2
inductive News : Heap → Heap → Prop
  | refl (H : Heap) : News H H
  | cons {H K : Heap} (x : Blk) : News (H.new x) K → News H K
theorem News.next {H K : Heap} (h : News H K) : H.next ≤ K.next := by
  induction h with
  | refl => exact Nat.le_refl _
  | cons x _ ih => simp at ih; omega
theorem News.relW {sz : TypeId → Nat} {base : Nat → Prop} {w0 w : World} {μ : Inj} {H K : Heap} (h : News H K) (hw : RelW sz base w0 μ H w) : RelW sz base w0 μ K w := by
  induction h with
  | refl => exact hw
  | cons x _ ih => exact ih (hw.addDead x)
inductive SRun (cx : Cx) (call : Caller) (n : Nat) (all : List Oper) : List Row → Fr → Heap → List Rec → List Heap → Fr → Prop
  | nil (fr : Fr) (H : Heap) : SRun cx call n all [] fr H [] [H] fr
  | cons {r : Row} {rest : List Row} {fr fr1 fr' : Fr} {H H1 : Heap} {v : AV} {recs : List Rec} {Hs : List Heap} : aStep cx call all r.o fr.get H = some (v, H1) → H.next ≤ H1.next → fr.put n r.o.dst v = some fr1 →
      SRun cx call n all rest fr1 H1 recs Hs fr' → SRun cx call n all (r :: rest) fr H (⟨r, fr, v, H.next⟩ :: recs) (if isLoudR r then H :: Hs else Hs) fr'
section
variable {cx : Cx} {call : Caller} {n : Nat} {all : List Oper}
theorem drawRun_srun : ∀ (l : List Row) (fr : Fr) (H : Heap) (y : List Rec × List Heap × Fr), drawRun cx call n all l fr H = some y → SRun cx call n all l fr H y.1 y.2.1 y.2.2 := by
  intro l
  induction l with
  | nil => intro fr H y h; simp only [drawRun] at h; injection h with h; subst h; exact .nil fr H
  | cons r l ih =>
    intro fr H y h
    simp only [drawRun] at h
    replace h := ob_eq h; obtain ⟨⟨v, H1⟩, hx, h⟩ := h
    simp only [cb_eq, nble] at h
    split at h
    · rename_i hle
      replace h := ob_eq h; obtain ⟨fr1, hf, h⟩ := h
      replace h := ob_eq h; obtain ⟨z, hz, h⟩ := h
      injection h with h; subst h
      exact .cons hx (of_decide_eq_true hle) hf (ih _ _ _ hz)
    · cases h
variable {plan : List Row} {fr fr' : Fr} {H : Heap} {recs : List Rec} {Hs : List Heap}
theorem SRun.map (h : SRun cx call n all plan fr H recs Hs fr') : recs.map (·.r) = plan := by
  induction h with
  | nil => rfl
  | cons _ _ _ _ ih => simp [ih]
theorem SRun.nexts (h : SRun cx call n all plan fr H recs Hs fr') : (∀ K ∈ Hs, H.next ≤ K.next) ∧ (∀ c ∈ recs, H.next ≤ c.id) := by
  induction h with
  | nil => exact ⟨fun K hK => by simp at hK; rw [hK]; exact Nat.le_refl _, fun c hc => by cases hc⟩
  | cons _ h1 _ _ ih =>
    rename_i r rest fr fr1 fr' H H1 v recs Hs _ _ _
    refine ⟨fun K hK => ?_, fun c hc => ?_⟩
    · split at hK
      · rcases List.mem_cons.1 hK with rfl | hK
        · exact Nat.le_refl _
        · exact Nat.le_trans h1 (ih.1 K hK)
      · exact Nat.le_trans h1 (ih.1 K hK)
    · rcases List.mem_cons.1 hc with rfl | hc
      · exact Nat.le_refl _
      · exact Nat.le_trans h1 (ih.2 c hc)
theorem put_get {fr fr1 : Fr} {dst : Option Tmp} {v : AV} (h : fr.put n dst v = some fr1) (t : Tmp) : (dst = some t ∧ fr1.get t = v) ∨ (dst ≠ some t ∧ fr1.get t = fr.get t) := by
  unfold Fr.put at h
  cases dst with
  | none => simp only at h; injection h with h; subst h; exact .inr ⟨by simp, rfl⟩
  | some d =>
    simp only [cb_eq] at h
    split at h
    · injection h with h; subst h
      by_cases htd : t = d
      · subst htd; exact .inl ⟨rfl, by show T.get .undef (T.set .undef fr t v) t = v; rw [T.get_set, if_pos rfl]⟩
      · refine .inr ⟨fun e => htd (by injection e with e; exact e.symm), ?_⟩
        show T.get .undef (T.set .undef fr d v) t = _
        rw [T.get_set, if_neg htd]; rfl
    · cases h
theorem put_lt {fr fr1 : Fr} {d : Tmp} {v : AV} (h : fr.put n (some d) v = some fr1) : d < n := by
  unfold Fr.put at h
  simp only [cb_eq, nble] at h
  split at h
  · rename_i hh; exact of_decide_eq_true hh
  · cases h
theorem SRun.frame (h : SRun cx call n all plan fr H recs Hs fr') (t : Tmp) : (fr'.get t = fr.get t ∧ ∀ c ∈ recs, c.r.o.dst ≠ some t) ∨ ∃ c ∈ recs, c.r.o.dst = some t ∧ fr'.get t = c.v := by
  induction h with
  | nil => exact .inl ⟨rfl, fun c hc => by cases hc⟩
  | cons _ _ hp _ ih =>
    rcases ih with ⟨h1, h2⟩ | ⟨c, h1, h2, h3⟩
    · rcases put_get hp t with ⟨h4, h5⟩ | ⟨h4, h5⟩
      · exact .inr ⟨_, List.mem_cons_self, h4, h1.trans h5⟩
      · refine .inl ⟨h1.trans h5, fun c hc => ?_⟩
        rcases List.mem_cons.1 hc with rfl | hc
        · exact h4
        · exact h2 c hc
    · exact .inr ⟨c, by simp [h1], h2, h3⟩
theorem SRun.at (h : SRun cx call n all plan fr H recs Hs fr') (t : Tmp) : ∀ (pre : List Rec) (c : Rec) (post : List Rec), recs = pre ++ c :: post →
    (c.g.get t = fr.get t ∧ ∀ c' ∈ pre, c'.r.o.dst ≠ some t) ∨ ∃ c' ∈ pre, c'.r.o.dst = some t ∧ c.g.get t = c'.v := by
  induction h with
  | nil => intro pre c post h; simp at h
  | cons _ _ hp _ ih =>
    intro pre c post h
    cases pre with
    | nil => simp at h; obtain ⟨rfl, _⟩ := h; exact .inl ⟨rfl, fun c hc => by cases hc⟩
    | cons x pre =>
      simp at h
      obtain ⟨rfl, h⟩ := h
      rcases ih pre c post h with ⟨h1, h2⟩ | ⟨c', h1, h2, h3⟩
      · rcases put_get hp t with ⟨h4, h5⟩ | ⟨h4, h5⟩
        · exact .inr ⟨_, List.mem_cons_self, h4, h1.trans h5⟩
        · refine .inl ⟨h1.trans h5, fun c hc => ?_⟩
          rcases List.mem_cons.1 hc with rfl | hc
          · exact h4
          · exact h2 c hc
      · exact .inr ⟨c', by simp [h1], h2, h3⟩
theorem SRun.lt (h : SRun cx call n all plan fr H recs Hs fr') : ∀ c ∈ recs, ∀ d, c.r.o.dst = some d → d < n := by
  induction h with
  | nil => intro c hc; cases hc
  | cons _ _ hp _ ih =>
    intro c hc d hd
    rcases List.mem_cons.1 hc with rfl | hc
    · simp only at hd; rw [hd] at hp; exact put_lt hp
    · exact ih c hc d hd
theorem step_calm {o : Oper} {g : Env} {H H1 : Heap} {v : AV} (h : aStep cx call all o g H = some (v, H1)) (hk : kindOf cx o.op ≠ .loud) :
    (aWanted all g o = false ∧ v = .undef ∧ H1 = H) ∨
    (aWanted all g o = true ∧ kindOf cx o.op = .quiet ∧ aQuiet cx o.op g H = some v ∧ H1 = H) ∨
    (aWanted all g o = true ∧ kindOf cx o.op = .made ∧ ∃ m, aMade cx o.op g = some m ∧ v = m.1 H.next ∧ H1 = H.new m.2) := by
  obtain ⟨-, h⟩ := aStep_eq h
  unfold aStep0 at h
  rw [cb_eq] at h
  split at h
  · rename_i hw
    rw [aOp_eq] at h
    unfold aOpK at h
    split at h
    · rename_i hm
      replace h := ob_eq h; obtain ⟨m, hm', h⟩ := h
      injection h with h; injection h with h1 h2
      exact .inr (.inr ⟨hw, hm, m, hm', h1.symm, h2.symm⟩)
    · rename_i hq
      replace h := ob_eq h; obtain ⟨u, hu, h⟩ := h
      injection h with h; injection h with h1 h2
      subst h1
      exact .inr (.inl ⟨hw, hq, hu, h2.symm⟩)
    · rename_i hl; exact absurd hl hk
  · rename_i hw
    injection h with h; injection h with h1 h2
    exact .inl ⟨by simpa using hw, h1.symm, h2.symm⟩
theorem loudR_iff {r : Row} : isLoudR r = true ↔ r.k = .loud := by
  unfold isLoudR
  split
  · rename_i h; simp [h]
  · rename_i h; simp; exact h
def Rec.madeW (all : List Oper) (c : Rec) : Prop := c.r.k = .made ∧ aWanted all c.g.get c.r.o = true
theorem SRun.head (h : SRun cx call n all plan fr H recs Hs fr') (hk : ∀ r ∈ plan, r.k = kindOf cx r.o.op) : ∃ K, Hs[0]? = some K ∧ News H K := by
  induction h with
  | nil => exact ⟨_, rfl, .refl _⟩
  | cons hs _ _ _ ih =>
    rename_i r rest fr fr1 fr' H H1 v recs Hs _ _ _
    split
    · exact ⟨_, rfl, .refl _⟩
    · rename_i hl
      obtain ⟨K, h1, h2⟩ := ih fun r hr => hk r (by simp [hr])
      refine ⟨K, h1, ?_⟩
      have hkr := hk r (by simp)
      have hnl : kindOf cx r.o.op ≠ .loud := fun e => hl (loudR_iff.2 (hkr.trans e))
      rcases step_calm hs hnl with ⟨_, _, rfl⟩ | ⟨_, _, _, rfl⟩ | ⟨_, _, m, _, _, rfl⟩
      · exact h2
      · exact h2
      · exact .cons _ h2
theorem SRun.made (h : SRun cx call n all plan fr H recs Hs fr') (hk : ∀ r ∈ plan, r.k = kindOf cx r.o.op) : ∀ c ∈ recs, c.madeW all → ∃ m, aMade cx c.r.o.op c.g.get = some m ∧ c.v = m.1 c.id := by
  induction h with
  | nil => intro c hc; cases hc
  | cons hs _ _ _ ih =>
    intro c hc hm
    rcases List.mem_cons.1 hc with rfl | hc
    · have hkr := hk _ (List.mem_cons_self)
      have hnl : kindOf cx _ ≠ .loud := fun e => by have := hkr.trans e; rw [hm.1] at this; cases this
      rcases step_calm hs hnl with ⟨h1, _⟩ | ⟨_, h1, _⟩ | ⟨_, _, m, h1, h2, _⟩
      · rw [hm.2] at h1; cases h1
      · rw [← hkr, hm.1] at h1; cases h1
      · exact ⟨m, h1, h2⟩
    · exact ih (fun r hr => hk r (by simp [hr])) c hc hm
theorem SRun.known (h : SRun cx call n all plan fr H recs Hs fr') : ∀ c ∈ recs, gknown all c.g.get c.r.o = true := by
  induction h with
  | nil => intro c hc; cases hc
  | cons hs _ _ _ ih =>
    intro c hc
    rcases List.mem_cons.1 hc with rfl | hc
    · exact (aStep_eq hs).1
    · exact ih c hc
theorem SRun.unwanted (h : SRun cx call n all plan fr H recs Hs fr') : ∀ c ∈ recs, aWanted all c.g.get c.r.o = false → c.v = .undef := by
  induction h with
  | nil => intro c hc; cases hc
  | cons hs _ _ _ ih =>
    intro c hc hm
    rcases List.mem_cons.1 hc with rfl | hc
    · simp only at hm
      obtain ⟨-, hs⟩ := aStep_eq hs
      unfold aStep0 at hs
      rw [hm, cb_false] at hs
      injection hs with hs; injection hs with h1 h2; exact h1.symm
    · exact ih c hc hm
theorem SRun.quiets (h : SRun cx call n all plan fr H recs Hs fr') (hk : ∀ r ∈ plan, r.k = kindOf cx r.o.op) (hq : ∀ r ∈ plan, r.k = .quiet) : Hs = [H] ∧ ∀ c ∈ recs, aWanted all c.g.get c.r.o = true → aQuiet cx c.r.o.op c.g.get H = some c.v := by
  induction h with
  | nil => exact ⟨rfl, fun c hc => by cases hc⟩
  | cons hs _ _ _ ih =>
    rename_i r rest fr fr1 fr' H H1 v recs Hs _ _ _
    have hqr := hq r (by simp)
    have hkr := hk r (by simp)
    have hnl : kindOf cx r.o.op ≠ .loud := fun e => by rw [← hkr, hqr] at e; cases e
    have hl : ¬ isLoudR r = true := fun e => hnl (hkr.symm.trans (loudR_iff.1 e))
    rw [if_neg hl]
    obtain ⟨h1, h2⟩ := ih (fun r hr => hk r (by simp [hr])) (fun r hr => hq r (by simp [hr]))
    rcases step_calm hs hnl with ⟨hw, _, rfl⟩ | ⟨hw, _, hqq, rfl⟩ | ⟨_, hm, _⟩
    · refine ⟨h1, fun c hc hw' => ?_⟩
      rcases List.mem_cons.1 hc with rfl | hc
      · simp only at hw'; rw [hw] at hw'; cases hw'
      · exact h2 c hc hw'
    · refine ⟨h1, fun c hc hw' => ?_⟩
      rcases List.mem_cons.1 hc with rfl | hc
      · exact hqq
      · exact h2 c hc hw'
    · rw [← hkr, hqr] at hm; cases hm
theorem SRun.loud (h : SRun cx call n all plan fr H recs Hs fr') (hk : ∀ r ∈ plan, r.k = kindOf cx r.o.op) : ∀ (k : Nat) (c : Rec), (recs.filter fun c => isLoudR c.r)[k]? = some c →
    ∃ Hk Ha Hk1, Hs[k]? = some Hk ∧ aStep cx call all c.r.o c.g.get Hk = some (c.v, Ha) ∧ Hs[k + 1]? = some Hk1 ∧ News Ha Hk1 ∧ ∀ c' ∈ recs, c'.madeW all → c'.id < Hk.next ∨ Ha.next ≤ c'.id := by
  induction h with
  | nil => intro k c hc; simp at hc
  | cons hs hle _ hrest ih =>
    rename_i r rest fr fr1 fr' H H1 v recs Hs _
    intro k c hc
    have hk' : ∀ r ∈ rest, r.k = kindOf cx r.o.op := fun r hr => hk r (by simp [hr])
    have hkr := hk r (by simp)
    by_cases hl : isLoudR r = true
    · rw [if_pos hl]
      rw [List.filter_cons, if_pos (by exact hl)] at hc
      cases k with
      | zero =>
        simp at hc; subst hc
        obtain ⟨K, h1, h2⟩ := hrest.head hk'
        refine ⟨H, H1, K, rfl, hs, by simpa using h1, h2, fun c' hc' hm => ?_⟩
        rcases List.mem_cons.1 hc' with rfl | hc'
        · rw [loudR_iff] at hl; have := hm.1; simp only at this; rw [hl] at this; cases this
        · exact .inr (hrest.nexts.2 c' hc')
      | succ k =>
        obtain ⟨Hk, Ha, Hk1, h1, h2, h3, h4, h5⟩ := ih hk' k c (by simpa using hc)
        refine ⟨Hk, Ha, Hk1, by simpa using h1, h2, by simpa using h3, h4, fun c' hc' hm => ?_⟩
        rcases List.mem_cons.1 hc' with rfl | hc'
        · rw [loudR_iff] at hl; have := hm.1; simp only at this; rw [hl] at this; cases this
        · exact h5 c' hc' hm
    · rw [if_neg hl]
      rw [List.filter_cons, if_neg (by exact hl)] at hc
      obtain ⟨Hk, Ha, Hk1, h1, h2, h3, h4, h5⟩ := ih hk' k c hc
      refine ⟨Hk, Ha, Hk1, h1, h2, h3, h4, fun c' hc' hm => ?_⟩
      rcases List.mem_cons.1 hc' with rfl | hc'
      · left
        have hnl : kindOf cx r.o.op ≠ .loud := fun e => hl (loudR_iff.2 (hkr.trans e))
        have hn := hrest.nexts.1 Hk (List.mem_of_getElem? h1)
        rcases step_calm hs hnl with ⟨hw, _⟩ | ⟨_, hq, _⟩ | ⟨_, _, m, _, _, rfl⟩
        · have := hm.2; simp only at this; rw [hw] at this; cases this
        · have := hm.1; simp only at this; rw [hkr, hq] at this; cases this
        · simp at hn ⊢; omega
      · exact h5 c' hc' hm
theorem SRun.heaps (h : SRun cx call n all plan fr H recs Hs fr') : Hs.length = (plan.filter isLoudR).length + 1 := by
  induction h with
  | nil => rfl
  | cons _ _ _ _ ih =>
    rename_i r rest fr fr1 fr' H H1 v recs Hs _ _ _ _
    by_cases hl : isLoudR r = true
    · rw [if_pos hl, List.filter_cons, if_pos hl]; simp [ih]
    · rw [if_neg hl, List.filter_cons, if_neg hl]; exact ih
theorem SRun.idsUp (h : SRun cx call n all plan fr H recs Hs fr') (hk : ∀ r ∈ plan, r.k = kindOf cx r.o.op) : ∀ (pre : List Rec) (c : Rec) (post : List Rec), recs = pre ++ c :: post → c.madeW all → ∀ c' ∈ post, c.id < c'.id := by
  induction h with
  | nil => intro pre c post h; simp at h
  | cons hs hle _ hrest ih =>
    intro pre c post h hm c' hc'
    cases pre with
    | nil =>
      simp at h
      obtain ⟨rfl, rfl⟩ := h
      have hkr := hk _ (List.mem_cons_self)
      have hn := hrest.nexts.2 c' hc'
      have hnl : kindOf cx _ ≠ .loud := fun e => by have := hkr.trans e; rw [hm.1] at this; cases this
      rcases step_calm hs hnl with ⟨h1, _⟩ | ⟨_, h1, _⟩ | ⟨_, _, m, _, _, rfl⟩
      · rw [hm.2] at h1; cases h1
      · rw [← hkr, hm.1] at h1; cases h1
      · simp at hn ⊢; omega
    | cons x pre =>
      simp at h
      exact ih (fun r hr => hk r (by simp [hr])) pre c post h.2 hm c' hc'
end
end Go.Ab
end
end

section
section
namespace Go.Ab
open Go.RowKit Go.MapKept
theorem lset {listed : Array Bool} {i j : Nat} (hi : i < listed.size) : (listed.setIfInBounds i true).getD j false = if i = j then true else listed.getD j false := by
  rw [Array.getD_eq_getD_getElem?, Array.getElem?_setIfInBounds]
  by_cases h : i = j
  · subst h; simp [hi]
  · rw [if_neg h, if_neg h, Array.getD_eq_getD_getElem?]
structure Drawn (cx : Cx) (call : Caller) (nn : Nat) (ops : Array Oper) (fr0 : Fr) (H0 : Heap) (bs : List Nat) (rows plan : List Row) (recs : List Rec) (Hs : List Heap) (fr1 : Fr) : Prop where
  hb : befs ops.toList [] = some bs
  rok : RowsOK cx ops bs rows
  hp : plan = planOf rows (louds rows) 0
  run : SRun cx call nn ops.toList plan fr0 H0 recs Hs fr1
  ch : chained (louds rows) = true
  ft : fitsAll ops.toList plan = true
  ok : ∀ c ∈ recs, aWanted ops.toList c.g.get c.r.o = true → ∀ (s : Nat) (K : Heap), c.r.lo ≤ s → s ≤ c.r.hi → Hs[s]? = some K →
    (c.r.k = .quiet → aQuiet cx c.r.o.op c.g.get K = some c.v) ∧ (c.r.k = .made → ∃ m, aMade cx c.r.o.op c.g.get = some m ∧ c.id < K.next ∧ K.get c.id = m.2)
structure Inv (cx : Cx) (base : Nat → Prop) (w0 : World) (nn : Nat) (ops : Array Oper) (fr0 : Fr) (H0 : Heap) (μ0 : Inj) (ds : List Deferred) (rows : List Row) (recs : List Rec) (Hs : List Heap)
    (listed : Array Bool) (s : Nat) (μ : Inj) (a : Act) (w : World) : Prop where
  size : listed.size = ops.size
  dc : ∀ (j : Nat) (o : Oper), ops[j]? = some o → listed.getD j false = true → ∀ e ∈ o.after.toList, Region.binds .any e = true → listed.getD e.on false = true
  st : s ≤ (louds rows).length ∧ ∀ (k : Nat) (r : Row), (louds rows)[k]? = some r → (listed.getD r.j false = true ↔ k < s)
  heap : ∃ K, Hs[s]? = some K ∧ RelW (szOf cx) base w0 μ K w
  ids : ∀ c ∈ recs, c.madeW ops.toList → listed.getD c.r.j false = false → μ c.id = none
  frame : ∀ t, (∃ c ∈ recs, c.r.o.dst = some t ∧ listed.getD c.r.j false = true ∧ RelV μ c.v (a.tmps.getD t undef)) ∨
    ((∀ c ∈ recs, c.r.o.dst = some t → listed.getD c.r.j false = false) ∧ RelV μ (fr0.get t) (a.tmps.getD t undef))
  tsize : a.tmps.size = nn
  defers : a.defers = ds
  grow : Grow H0.next μ0 μ
section
variable {P : Program} {cx : Cx} (hcx : CxOK P cx) {base : Nat → Prop} {w0 : World} {call : Caller} (hcall : CallerOK P cx base w0 call)
  {nn : Nat} {ops : Array Oper} {fr0 fr1 : Fr} {H0 : Heap} {bs : List Nat} {rows plan : List Row} {recs : List Rec} {Hs : List Heap} (D : Drawn cx call nn ops fr0 H0 bs rows plan recs Hs fr1)
  {μ0 : Inj} {ds : List Deferred}
include D
theorem Drawn.row {c : Rec} (hc : c ∈ recs) : ∃ j, rows[j]? = some c.r ∧ c.r.j = j ∧ ops[j]? = some c.r.o ∧ c.r.k = kindOf cx c.r.o.op ∧ bs[j]? = some c.r.b ∧
    c.r.lo = loOf c.r.b ((louds rows).map (·.j)) 0 0 ∧ c.r.hi = hiOf c.r.j ((louds rows).map fun r => (r.j, r.b)) 0 := by
  have h1 : c.r ∈ plan := by rw [← D.run.map]; exact List.mem_map_of_mem hc
  rw [D.hp, planOf_mem] at h1
  have h2 : c.r ∈ rows := by
    rcases h1 with h | h
    · exact (louds_mem.1 h).1
    · exact h.1
  obtain ⟨j, hj⟩ := List.getElem?_of_mem h2
  exact ⟨j, hj, D.rok.get j c.r hj⟩
theorem Drawn.kinds : ∀ r ∈ plan, r.k = kindOf cx r.o.op := by
  intro r hr
  rw [D.hp, planOf_mem] at hr
  have h2 : r ∈ rows := by
    rcases hr with h | h
    · exact (louds_mem.1 h).1
    · exact h.1
  obtain ⟨j, hj⟩ := List.getElem?_of_mem h2
  exact (D.rok.get j r hj).2.2.1
theorem Drawn.sameRow {r r' : Row} {j j' : Nat} (h : rows[j]? = some r) (h' : rows[j']? = some r') (e : r.j = r'.j) : r = r' := by
  have h1 := (D.rok.get j r h).1
  have h2 := (D.rok.get j' r' h').1
  have : j = j' := by omega
  subst this
  rw [h] at h'; injection h'
theorem Drawn.one {c c' : Rec} {t : Tmp} (hc : c ∈ recs) (hc' : c' ∈ recs) (h : c.r.o.dst = some t) (h' : c'.r.o.dst = some t) : c = c' := by
  obtain ⟨pre, post, hs⟩ := List.append_of_mem hc
  have hm := D.run.map
  rw [hs, List.map_append, List.map_cons] at hm
  have hf := D.ft
  rw [← hm] at hf
  obtain ⟨f1, f2⟩ := fitsAll_split _ _ _ hf
  rw [hs] at hc'
  simp only [List.mem_append, List.mem_cons] at hc'
  rcases hc' with h3 | h3 | h3
  · exact absurd h (fits_dst (f1 c'.r (List.mem_map_of_mem h3)) h').1
  · exact h3.symm
  · exact absurd h' (fits_dst (f2 c'.r (List.mem_map_of_mem h3)) h).1
variable {listed : Array Bool} {s : Nat} {μ : Inj} {a : Act} {w : World} (I : Inv cx base w0 nn ops fr0 H0 μ0 ds rows recs Hs listed s μ a w)
include I
theorem Inv.closed {c : Rec} (hc : c ∈ recs) (he : ∀ e ∈ c.r.o.after.toList, Region.binds .any e = true → listed.getD e.on false = true) (i : Nat) (hb : c.r.b.testBit i = true) : listed.getD i false = true := by
  obtain ⟨j, _, hj, ho, _, hbs, _⟩ := D.row hc
  exact bits_closed D.hb (E := fun i => listed.getD i false = true) I.dc j c.r.o c.r.b ho hbs he i hb
theorem Inv.closed' {c : Rec} (hc : c ∈ recs) (hl : listed.getD c.r.j false = true) (i : Nat) (hb : c.r.b.testBit i = true) : listed.getD i false = true := by
  obtain ⟨j, _, hj, ho, _, hbs, _⟩ := D.row hc
  refine Inv.closed D I hc (fun e he hbb => ?_) i hb
  exact I.dc j c.r.o ho (by rw [← hj]; exact hl) e he hbb
theorem Inv.looks {c : Rec} (hc : c ∈ recs) (hl : listed.getD c.r.j false = false) (he : ∀ e ∈ c.r.o.after.toList, Region.binds .any e = true → listed.getD e.on false = true)
    {t : Tmp} (ht : t ∈ looksAt ops.toList c.r.o) : RelV μ (c.g.get t) (a.tmps.getD t undef) := by
  obtain ⟨pre, post, hs⟩ := List.append_of_mem hc
  have hm := D.run.map
  rw [hs, List.map_append, List.map_cons] at hm
  have hf := D.ft
  rw [← hm] at hf
  obtain ⟨f1, f2⟩ := fitsAll_split _ _ _ hf
  rcases I.frame t with ⟨c', h1, h2, h3, h4⟩ | ⟨h1, h2⟩
  · have h1' := h1
    rw [hs] at h1'
    simp only [List.mem_append, List.mem_cons] at h1'
    rcases h1' with h5 | h5 | h5
    · rcases D.run.at t pre c post hs with ⟨_, h6⟩ | ⟨c'', h6, h7, h8⟩
      · exact absurd h2 (h6 c' h5)
      · have : c'' = c' := D.one (by rw [hs]; simp [h6]) h1 h7 h2
        rw [h8, this]; exact h4
    · subst h5; rw [hl] at h3; cases h3
    · have hb := fits_look (f2 c'.r (List.mem_map_of_mem h5)) h2 ht
      have := Inv.closed' D I h1 h3 _ hb
      rw [hl] at this; cases this
  · rcases D.run.at t pre c post hs with ⟨h6, _⟩ | ⟨c'', h6, h7, h8⟩
    · rw [h6]; exact h2
    · have hc'' : c'' ∈ recs := by rw [hs]; simp [h6]
      have hb := (fits_dst (f1 c''.r (List.mem_map_of_mem h6)) h7).2 ht
      have := Inv.closed D I hc he _ hb
      rw [h1 c'' hc'' h7] at this; cases this
theorem Inv.env {c : Rec} (hc : c ∈ recs) (hl : listed.getD c.r.j false = false) (he : ∀ e ∈ c.r.o.after.toList, Region.binds .any e = true → listed.getD e.on false = true) :
    ∃ g : Env, RelF μ g a.tmps ∧ (∀ x ∈ c.r.o.op.operands, ev g x = ev c.g.get x) ∧ aWanted ops.toList g c.r.o = aWanted ops.toList c.g.get c.r.o ∧ gknown ops.toList g c.r.o = true := by
  have hex : ∀ t, ∃ v, RelV μ v (a.tmps.getD t undef) ∧ (t ∈ looksAt ops.toList c.r.o → v = c.g.get t) := by
    intro t
    by_cases ht : t ∈ looksAt ops.toList c.r.o
    · exact ⟨_, Inv.looks D I hc hl he ht, fun _ => rfl⟩
    · rcases I.frame t with ⟨c', _, _, _, h⟩ | ⟨_, h⟩
      · exact ⟨_, h, fun h => absurd h ht⟩
      · exact ⟨_, h, fun h => absurd h ht⟩
  have hgd : ∀ q d, c.r.o.guard = some q → (listAt ops.toList q.1).ob (·.dst) = some d → Classical.choose (hex d) = c.g.get d := fun q d hq hd => by
    refine (Classical.choose_spec (hex d)).2 ?_
    unfold looksAt
    rw [List.mem_append, hq]
    obtain ⟨q1, q2⟩ := q
    simp only at hd
    right
    simp only [hd]
    simp
  refine ⟨fun t => Classical.choose (hex t), fun t => (Classical.choose_spec (hex t)).1, fun x hx => ev_congr fun t e => ?_, aWanted_congr hgd, (gknown_congr hgd).trans (D.run.known c hc)⟩
  refine (Classical.choose_spec (hex t)).2 ?_
  subst e
  unfold looksAt
  rw [List.mem_append]
  exact .inl (List.mem_filterMap.2 ⟨.tmp t, by simpa using hx, rfl⟩)
theorem Inv.stage {c : Rec} (hc : c ∈ recs) (hl : listed.getD c.r.j false = false) (he : ∀ e ∈ c.r.o.after.toList, Region.binds .any e = true → listed.getD e.on false = true) : c.r.lo ≤ s ∧ s ≤ c.r.hi := by
  obtain ⟨j, hrj, hj, ho, hk, hbs, hlo, hhi⟩ := D.row hc
  constructor
  · rw [hlo]
    refine loOf_le _ _ _ _ _ (Nat.zero_le _) fun k l hkl hb => ?_
    rw [List.getElem?_map] at hkl
    cases hx : (louds rows)[k]? with
    | none => rw [hx] at hkl; cases hkl
    | some r =>
      rw [hx] at hkl
      simp only [Option.map_some] at hkl
      injection hkl with hkl; subst hkl
      have := Inv.closed D I hc he _ hb
      have := (I.st.2 k r hx).1 this
      omega
  · rw [hhi]
    have := le_hiOf c.r.j ((louds rows).map fun r => (r.j, r.b)) 0 s (by rw [List.length_map]; exact I.st.1) fun k l hks hkl => by
      rw [List.getElem?_map] at hkl
      cases hx : (louds rows)[k]? with
      | none => rw [hx] at hkl; cases hkl
      | some r =>
        rw [hx] at hkl
        simp only [Option.map_some] at hkl
        injection hkl with hkl; subst hkl
        simp only
        cases hb : r.b.testBit c.r.j with
        | false => rfl
        | true =>
          exfalso
          have hrl := (I.st.2 k r hx).2 hks
          have hrr : r ∈ rows := (louds_mem.1 (List.mem_of_getElem? hx)).1
          obtain ⟨j', hj'⟩ := List.getElem?_of_mem hrr
          obtain ⟨g1, g2, _, g4, _⟩ := D.rok.get j' r hj'
          have := bits_closed D.hb (E := fun i => listed.getD i false = true) I.dc j' r.o r.b g2 g4 (fun e hee hbb => I.dc j' r.o g2 (by rw [← g1]; exact hrl) e hee hbb) c.r.j hb
          rw [hl] at this; cases this
    omega
theorem Inv.step {c : Rec} (hc : c ∈ recs) (hl : listed.getD c.r.j false = false) (he : ∀ e ∈ c.r.o.after.toList, Region.binds .any e = true → listed.getD e.on false = true)
    {s' : Nat} {μ' : Inj} {K' : Heap} {w' : World} {Z : Value} (hext : Ext μ μ') (hK : Hs[s']? = some K') (hw' : RelW (szOf cx) base w0 μ' K' w')
    (hst : s' ≤ (louds rows).length ∧ ∀ (k : Nat) (r : Row), (louds rows)[k]? = some r → ((listed.setIfInBounds c.r.j true).getD r.j false = true ↔ k < s'))
    (hids : ∀ c' ∈ recs, c'.madeW ops.toList → (listed.setIfInBounds c.r.j true).getD c'.r.j false = false → μ' c'.id = none) (hZ : RelV μ' c.v Z) (hg : Grow H0.next μ0 μ') :
    Inv cx base w0 nn ops fr0 H0 μ0 ds rows recs Hs (listed.setIfInBounds c.r.j true) s' μ' (a.put c.r.o.dst Z) w' := by
  obtain ⟨j, hrj, hj, ho, hk, hbs, hlo, hhi⟩ := D.row hc
  have hlt : c.r.j < listed.size := by rw [I.size, hj]; exact (Array.getElem?_eq_some_iff.1 ho).1
  refine ⟨by simpa using I.size, fun j' o' ho' hl' e he' hb' => ?_, hst, ⟨K', hK, hw'⟩, hids, fun t => ?_, by rw [put_size]; exact I.tsize, by rw [put_defers]; exact I.defers, hg⟩
  · rw [lset hlt] at hl' ⊢
    split
    · rfl
    · split at hl'
      · rename_i h
        subst h
        rw [hj, ho] at ho'; injection ho' with ho'; subst ho'
        exact he e he' hb'
      · exact I.dc j' o' ho' hl' e he' hb'
  · by_cases ht : c.r.o.dst = some t
    · have htn : t < a.tmps.size := by rw [I.tsize]; exact D.run.lt c hc t ht
      refine .inl ⟨c, hc, ht, by rw [lset hlt, if_pos rfl], ?_⟩
      rw [ht]
      simp only [Act.put, Array.getD_eq_getD_getElem?, Array.getElem?_setIfInBounds, if_pos, htn]
      exact hZ
    · have e1 : (a.put c.r.o.dst Z).tmps.getD t undef = a.tmps.getD t undef := by
        cases hd : c.r.o.dst with
        | none => rfl
        | some d =>
          have : d ≠ t := fun e => ht (by rw [hd, e])
          simp only [Act.put, Array.getD_eq_getD_getElem?, Array.getElem?_setIfInBounds, if_neg this]
      rw [e1]
      rcases I.frame t with ⟨c', h1, h2, h3, h4⟩ | ⟨h1, h2⟩
      · exact .inl ⟨c', h1, h2, by rw [lset hlt]; split <;> first | rfl | exact h3, h4.mono hext⟩
      · refine .inr ⟨fun c' hc' hd' => ?_, h2.mono hext⟩
        rw [lset hlt]
        split
        · rename_i e
          exfalso
          obtain ⟨j2, hr2, _⟩ := D.row hc'
          have := D.sameRow hrj hr2 e
          rw [← this] at hd'
          exact ht hd'
        · exact h1 c' hc' hd'
theorem Inv.calm {c : Rec} (hc : c ∈ recs) (hnl : isLoudR c.r = false) : s ≤ (louds rows).length ∧ ∀ (k : Nat) (r : Row), (louds rows)[k]? = some r → ((listed.setIfInBounds c.r.j true).getD r.j false = true ↔ k < s) := by
  refine ⟨I.st.1, fun k r hk => ?_⟩
  obtain ⟨j, hrj, hj, ho, _⟩ := D.row hc
  have hlt : c.r.j < listed.size := by rw [I.size, hj]; exact (Array.getElem?_eq_some_iff.1 ho).1
  have hr := louds_mem.1 (List.mem_of_getElem? hk)
  obtain ⟨j', hj'⟩ := List.getElem?_of_mem hr.1
  have hne : c.r.j ≠ r.j := fun e => by
    have := D.sameRow hrj hj' e
    rw [this, hr.2] at hnl; cases hnl
  rw [lset hlt, if_neg hne]
  exact I.st.2 k r hk
theorem Inv.idsOf {c : Rec} (hc : c ∈ recs) {c' : Rec} (hc' : c' ∈ recs) (h : (listed.setIfInBounds c.r.j true).getD c'.r.j false = false) : c.r.j ≠ c'.r.j ∧ listed.getD c'.r.j false = false := by
  obtain ⟨j, hrj, hj, ho, _⟩ := D.row hc
  have hlt : c.r.j < listed.size := by rw [I.size, hj]; exact (Array.getElem?_eq_some_iff.1 ho).1
  rw [lset hlt] at h
  split at h
  · cases h
  · rename_i hne; exact ⟨hne, h⟩
include hcx hcall in
theorem Inv.op {c : Rec} (hc : c ∈ recs) (hl : listed.getD c.r.j false = false) (he : ∀ e ∈ c.r.o.after.toList, Region.binds .any e = true → listed.getD e.on false = true)
    (hcl : isLoudR c.r = true → (recs.filter fun c => isLoudR c.r)[s]? = some c ∧ (louds rows)[s]? = some c.r) {r : Option Nat} {n : Nat} {Q : Exit → Act → World → Prop} {Kp : Act → World → Prop}
    (hK : ∀ s' μ' a' w', Inv cx base w0 nn ops fr0 H0 μ0 ds rows recs Hs (listed.setIfInBounds c.r.j true) s' μ' a' w' → Kp a' w') : wpOpIn (FF r) n P ops Q c.r.j Kp a w := by
  obtain ⟨j, hrj, hj, ho, hkind, hbs, hlo, hhi⟩ := D.row hc
  obtain ⟨g, hf, hcg, hwg, hgk⟩ := Inv.env D I hc hl he
  obtain ⟨hs1, hs2⟩ := Inv.stage D I hc hl he
  obtain ⟨K, hKs, hw⟩ := I.heap
  have hlt : c.r.j < listed.size := by rw [I.size, hj]; exact (Array.getElem?_eq_some_iff.1 ho).1
  have hHK : H0.next ≤ K.next := D.run.nexts.1 K (List.mem_of_getElem? hKs)
  unfold wpOpIn
  rw [hj]
  simp only [ho]
  rw [wanted_sound hf ops c.r.o hgk, hwg]
  by_cases hloud : isLoudR c.r = true
  · obtain ⟨hlr, hls⟩ := hcl hloud
    obtain ⟨Hk, Ha, Hk1, h1, h2, h3, h4, h5⟩ := D.run.loud D.kinds s c hlr
    rw [hKs] at h1; injection h1 with h1; subst h1
    have hst : s + 1 ≤ (louds rows).length ∧ ∀ (k : Nat) (r : Row), (louds rows)[k]? = some r → ((listed.setIfInBounds c.r.j true).getD r.j false = true ↔ k < s + 1) := by
      refine ⟨(List.getElem?_eq_some_iff.1 hls).1, fun k r' hk => ?_⟩
      rw [lset hlt]
      by_cases hks : k = s
      · subst hks
        rw [hls] at hk; injection hk with hk; subst hk
        simp
      · have hne : c.r.j ≠ r'.j := by
          intro e
          have hr' := louds_mem.1 (List.mem_of_getElem? hk)
          obtain ⟨j', hj'⟩ := List.getElem?_of_mem hr'.1
          have hsame := D.sameRow hrj hj' e
          have hnl := I.st.2 k r' hk
          rw [← hsame, hl] at hnl
          have hge : ¬ k < s := fun h => by have := hnl.2 h; cases this
          obtain ⟨q, hq⟩ : ∃ q, k = q + 1 := ⟨k - 1, by omega⟩
          have hqlt : q < (louds rows).length := by have := (List.getElem?_eq_some_iff.1 hk).1; omega
          have hch := chained_get _ D.ch q _ r' (List.getElem?_eq_getElem hqlt) (by rw [← hq]; exact hk)
          rw [← hsame] at hch
          have hcl2 := Inv.closed D I hc he _ hch
          have := (I.st.2 q _ (List.getElem?_eq_getElem hqlt)).1 hcl2
          omega
        rw [if_neg hne]
        rw [I.st.2 k r' hk]; omega
    have goOn : ∀ Z w', LoudOK cx base w0 μ K c.v Ha Z w' → Kp (a.put c.r.o.dst Z) w' := by
      rintro Z w' ⟨hn1, μ', hg, hv, hw'⟩
      refine hK (s + 1) μ' _ w' (Inv.step D I hc hl he (hw.ext hg) h3 (h4.relW hw') hst (fun c' hc' hm hu => ?_) hv (I.grow.trans hg hHK))
      obtain ⟨_, hu2⟩ := Inv.idsOf D I hc hc' hu
      rcases h5 c' hc' hm with h6 | h6
      · rw [hg.same _ h6]; exact I.ids c' hc' hm hu2
      · cases hx : μ' c'.id with
        | none => rfl
        | some i => have := hw'.fresh _ _ hx; omega
    obtain ⟨-, h2⟩ := aStep_eq h2
    unfold aStep0 at h2
    rw [cb_eq] at h2
    split at h2
    · rename_i hwt
      rw [if_pos hwt]
      rw [← aOp_congr cx call K hcg] at h2
      exact aOp_sound hcx hw hf hcall h2 goOn
    · rename_i hwt
      rw [if_neg hwt]
      injection h2 with h2; injection h2 with h6 h7
      refine ⟨fun _ _ => trivial, goOn undef w ?_⟩
      rw [← h6, ← h7]; exact LoudOK.same rfl .undef hw
  · have hloud : isLoudR c.r = false := by simpa using hloud
    have hst := Inv.calm D I hc hloud
    have hids : ∀ c' ∈ recs, c'.madeW ops.toList → (listed.setIfInBounds c.r.j true).getD c'.r.j false = false → μ c'.id = none := fun c' hc' hm hu => I.ids c' hc' hm (Inv.idsOf D I hc hc' hu).2
    split
    · rename_i hwt
      obtain ⟨hq, hm⟩ := D.ok c hc hwt s K hs1 hs2 hKs
      have hnl : c.r.k ≠ .loud := fun e => by rw [loudR_iff.2 e] at hloud; cases hloud
      have hcase : c.r.k = .quiet ∨ c.r.k = .made := by
        cases hck : c.r.k with
        | made => exact .inr rfl
        | quiet => exact .inl rfl
        | loud => exact absurd hck hnl
      rcases hcase with hck | hck
      · have hqv := hq hck
        rw [← aQuiet_congr cx K hcg] at hqv
        obtain ⟨x, w', hrun, hv, hw'⟩ := aQuiet_sound hcx hw hf hqv
        refine uponIn_value (fun d e => ?_) hrun (hK s μ _ w' (Inv.step D I hc hl he (Ext.refl μ) hKs hw' hst hids hv I.grow))
        rw [e] at hqv; simp [aQuiet] at hqv
      · obtain ⟨m, hm1, hm2, hm3⟩ := hm hck
        obtain ⟨m', hm4, hm5⟩ := D.run.made D.kinds c hc ⟨hck, hwt⟩
        rw [hm1] at hm4; injection hm4 with hm4; subst hm4
        rw [← aMade_congr cx hcg] at hm1
        obtain ⟨x, ob, i, w1, hrun, hok⟩ := aMade_sound (base := base) hcx hf hm1 (by rw [← hkind]; exact hck) w
        have hnone := I.ids c hc ⟨hck, hwt⟩ hl
        have hext := ext_set i hnone
        have hw1 : RelW (szOf cx) base w0 μ K w1 := by
          refine ⟨⟨hok.os.trans hw.below.os, hok.tape.trans hw.below.tape, hok.out.trans hw.below.output, by rw [hok.heap]; exact hw.below.size, fun k hk => by rw [hok.heap]; exact hw.below.block k hk⟩, by rw [hok.heap]; exact hw.baseLe, hw.fresh,
            fun b i e => (hw.blk b i e).same fun _ => by rw [hok.heap], hw.apart, by rw [hok.heap]; exact hw.froz, hw.frozApart, by rw [hok.heap]; exact hw.lo⟩
        have hw' : RelW (szOf cx) base w0 (μ.set c.id i) K (w1.alloc ob) := by
          refine RelW.bind hw1 hnone hm2 ob i (by rw [hok.at_, hok.heap]) ?_
          rw [hm3]
          exact hok.blk _ hext hw.newOK
        have hge := D.run.nexts.2 c hc
        refine uponIn_value (fun d e => ?_) hrun (hK s (μ.set c.id i) _ _ (Inv.step D I hc hl he hext hKs hw' hst (fun c' hc' hm' hu => ?_) ?_ ?_))
        · rw [e] at hkind; simp [kindOf] at hkind; rw [hck] at hkind; cases hkind
        · obtain ⟨hne, hu2⟩ := Inv.idsOf D I hc hc' hu
          have hidne : c'.id ≠ c.id := by
            obtain ⟨pre, post, hsplit⟩ := List.append_of_mem hc
            have hc2 := hc'
            rw [hsplit] at hc2
            simp only [List.mem_append, List.mem_cons] at hc2
            rcases hc2 with h6 | h6 | h6
            · obtain ⟨pre2, post2, hsplit2⟩ := List.append_of_mem h6
              have := D.run.idsUp D.kinds pre2 c' (post2 ++ c :: post) (by rw [hsplit, hsplit2]; simp) hm' c (by simp)
              omega
            · subst h6; exact absurd rfl hne
            · have := D.run.idsUp D.kinds pre c post hsplit ⟨hck, hwt⟩ c' h6
              omega
          rw [Inj.set_ne _ _ hidne]
          exact I.ids c' hc' hm' hu2
        · rw [hm5]; exact hok.val _ _ hext (Inj.set_same _ _ _)
        · exact ⟨fun b hb => by rw [Inj.set_ne _ _ (by omega)]; exact I.grow.same b hb, I.grow.fz, I.grow.lo, I.grow.fzn⟩
    · rename_i hwt
      have hv := D.run.unwanted c hc (by simpa using hwt)
      refine ⟨fun _ _ => trivial, hK s μ _ w (Inv.step D I hc hl he (Ext.refl μ) hKs hw hst hids ?_ I.grow)⟩
      rw [hv]; exact .undef
theorem Inv.done (hall : ∀ j, j < ops.size → listed.getD j false = true) : RunOK cx base w0 nn μ0 H0 ds fr1 (Hs.getLastD H0) a w := by
  obtain ⟨K, hKs, hw⟩ := I.heap
  have hlen := D.run.heaps
  rw [D.hp, planOf_louds _ _ (fun l hl => (louds_mem.1 hl).2)] at hlen
  have hs : s = (louds rows).length := by
    rcases Nat.lt_or_ge s (louds rows).length with h | h
    · exfalso
      have hg := List.getElem?_eq_getElem h
      have hr := louds_mem.1 (List.mem_of_getElem? hg)
      obtain ⟨j', hj'⟩ := List.getElem?_of_mem hr.1
      obtain ⟨g1, g2, _⟩ := D.rok.get j' _ hj'
      have h1 := hall j' (Array.getElem?_eq_some_iff.1 g2).1
      rw [← g1] at h1
      have := (I.st.2 s _ hg).1 h1
      omega
    · have := I.st.1; omega
  have hlast : Hs.getLastD H0 = K := by
    rw [List.getLastD_eq_getLast?, List.getLast?_eq_getElem?, hlen]
    simp only [Nat.add_sub_cancel]
    rw [← hs, hKs]; rfl
  rw [hlast]
  refine ⟨D.run.nexts.1 K (List.mem_of_getElem? hKs), ⟨μ, I.grow, fun t => ?_, hw⟩, I.tsize, I.defers⟩
  rcases D.run.frame t with ⟨h1, h2⟩ | ⟨c, h1, h2, h3⟩
  · rw [h1]
    rcases I.frame t with ⟨c, h4, h5, _⟩ | ⟨_, h4⟩
    · exact absurd h5 (h2 c h4)
    · exact h4
  · rw [h3]
    rcases I.frame t with ⟨c', h4, h5, _, h6⟩ | ⟨h4, _⟩
    · rw [D.one h1 h4 h2 h5]; exact h6
    · exfalso
      have := h4 c h1 h2
      obtain ⟨j, _, hj, ho, _⟩ := D.row h1
      rw [hj, hall j (Array.getElem?_eq_some_iff.1 ho).1] at this
      cases this
omit I in
theorem Drawn.pick (I : Inv cx base w0 nn ops fr0 H0 μ0 ds rows recs Hs listed s μ a w) {i : Nat} {o : Oper} (ho : ops[i]? = some o) (hl : listed.getD i false = false)
    (he : ∀ e ∈ o.after.toList, Region.binds .any e = true → listed.getD e.on false = true) :
    ∃ c ∈ recs, c.r.j = i ∧ c.r.o = o ∧ (isLoudR c.r = true → (recs.filter fun c => isLoudR c.r)[s]? = some c ∧ (louds rows)[s]? = some c.r) := by
  have hlt : i < rows.length := by rw [D.rok.len]; exact (Array.getElem?_eq_some_iff.1 ho).1
  obtain ⟨r, hr⟩ : ∃ r, rows[i]? = some r := ⟨_, List.getElem?_eq_getElem hlt⟩
  obtain ⟨g1, g2, g3, g4, g5, g6⟩ := D.rok.get i r hr
  have hro : r.o = o := by rw [g2] at ho; injection ho
  by_cases hloud : isLoudR r = true
  · have hrl : r ∈ louds rows := louds_mem.2 ⟨List.mem_of_getElem? hr, hloud⟩
    obtain ⟨k, hk⟩ := List.getElem?_of_mem hrl
    have hnk : ¬ k < s := fun h => by
      have := (I.st.2 k r hk).2 h
      rw [g1, hl] at this; cases this
    have hks : k = s := by
      rcases Nat.lt_or_ge s k with h | h
      · exfalso
        obtain ⟨q, hq⟩ : ∃ q, k = q + 1 := ⟨k - 1, by omega⟩
        have hqlt : q < (louds rows).length := by have := (List.getElem?_eq_some_iff.1 hk).1; omega
        have hch := chained_get _ D.ch q _ r (List.getElem?_eq_getElem hqlt) (by rw [← hq]; exact hk)
        have hcl2 := bits_closed D.hb (E := fun i => listed.getD i false = true) I.dc i r.o r.b g2 g4 (by rw [hro]; exact he) _ hch
        have := (I.st.2 q _ (List.getElem?_eq_getElem hqlt)).1 hcl2
        omega
      · omega
    subst hks
    have hmap : (recs.filter fun c => isLoudR c.r).map (·.r) = louds rows := by
      have h1 := D.run.map
      rw [← planOf_louds (rows := rows) (louds rows) 0 (fun l hl => (louds_mem.1 hl).2), ← D.hp, ← h1, List.filter_map]
      rfl
    have : ((recs.filter fun c => isLoudR c.r).map (·.r))[k]? = some r := by rw [hmap]; exact hk
    rw [List.getElem?_map] at this
    cases hx : (recs.filter fun c => isLoudR c.r)[k]? with
    | none => rw [hx] at this; cases this
    | some c =>
      rw [hx] at this
      simp only [Option.map_some] at this
      injection this with this
      have hcm := List.mem_of_getElem? hx
      exact ⟨c, (List.mem_filter.1 hcm).1, by rw [this]; exact g1, by rw [this]; exact hro, fun _ => ⟨rfl, by rw [this]; exact hk⟩⟩
  · have hnl : isLoudR r = false := by simpa using hloud
    have hrp : r ∈ plan := by
      rw [D.hp, planOf_mem]
      refine .inr ⟨List.mem_of_getElem? hr, hnl, Nat.zero_le _, ?_⟩
      rw [g5, Nat.zero_add]
      have := lo_top r.b ((louds rows).map (·.j))
      rwa [List.length_map] at this
    rw [← D.run.map] at hrp
    obtain ⟨c, hc, hcr⟩ := List.mem_map.1 hrp
    refine ⟨c, hc, by rw [hcr]; exact g1, by rw [hcr]; exact hro, fun h => ?_⟩
    rw [hcr, hnl] at h; cases h
omit I in
include hcx hcall in
theorem Drawn.any {r : Option Nat} {n : Nat} {Q : Exit → Act → World → Prop} (hq : ∀ a' w', RunOK cx base w0 nn μ0 H0 ds fr1 (Hs.getLastD H0) a' w' → Q .normal a' w') :
    ∀ (fuel : Nat) (listed : Array Bool) (s : Nat) (μ : Inj) (a : Act) (w : World), Inv cx base w0 nn ops fr0 H0 μ0 ds rows recs Hs listed s μ a w → listed.toList.countP (fun b => !b) = fuel →
      wpAnyIn (FF r) n P .any ops Q fuel listed a w := by
  have getT : ∀ {listed : Array Bool} {j : Nat}, j < listed.size → listed.getD j true = listed.getD j false := fun {listed j} h => by
    simp [Array.getD, h]
  have nilAll : ∀ (listed : Array Bool), listed.size = ops.size → Region.ready .any ops listed = [] → ∀ j, j < ops.size → listed.getD j false = true := by
    intro listed hsz hnil j
    induction j using Nat.strongRecOn with
    | ind j ih =>
      intro hj
      cases hl : listed.getD j false with
      | true => rfl
      | false =>
        exfalso
        have : j ∈ Region.ready .any ops listed := by
          rw [mem_ready]
          refine ⟨by rw [getT (by omega)]; exact hl, _, Array.getElem?_eq_getElem hj, fun e he hb => ?_⟩
          have hlt := edges_back D.hb (Array.getElem?_eq_getElem hj) e (by simpa using he) hb
          exact ih e.on hlt (by omega)
        rw [hnil] at this; cases this
  intro fuel
  induction fuel with
  | zero =>
    intro listed s μ a w I hcount
    have hall : ∀ j, j < ops.size → listed.getD j false = true := by
      intro j hj
      have hj' : j < listed.size := by rw [I.size]; exact hj
      rw [List.countP_eq_zero] at hcount
      have := hcount listed[j] (by simp)
      simp only [Array.getD, hj', dif_pos]
      simpa using this
    refine ⟨?_, hq a w (Inv.done D I hall)⟩
    cases hr : Region.ready .any ops listed with
    | nil => rfl
    | cons i is =>
      exfalso
      have hi : i ∈ Region.ready .any ops listed := by rw [hr]; simp
      obtain ⟨h1, o, ho, _⟩ := mem_ready.1 hi
      have hlt := (Array.getElem?_eq_some_iff.1 ho).1
      rw [getT (by rw [I.size]; exact hlt), hall i hlt] at h1
      cases h1
  | succ fuel ih =>
    intro listed s μ a w I hcount
    refine ⟨fun hnil => hq a w (Inv.done D I (nilAll listed I.size hnil)), fun i hi => ?_⟩
    obtain ⟨h1, o, ho, he⟩ := mem_ready.1 hi
    have hlt := (Array.getElem?_eq_some_iff.1 ho).1
    have hlt' : i < listed.size := by rw [I.size]; exact hlt
    rw [getT hlt'] at h1
    have he' : ∀ e ∈ o.after.toList, Region.binds .any e = true → listed.getD e.on false = true := fun e hee hb => he e (by simpa using hee) hb
    obtain ⟨c, hc, rfl, rfl, hcl⟩ := Drawn.pick D I ho h1 he'
    refine Inv.op hcx hcall D I hc h1 he' hcl fun s' μ' a' w' I' => ih _ s' μ' a' w' I' ?_
    rw [Array.toList_setIfInBounds, List.countP_set (by simpa using hlt')]
    have hb : listed.toList[c.r.j]'(by simpa using hlt') = false := by
      have : listed.getD c.r.j false = listed[c.r.j] := by simp [Array.getD, hlt']
      rw [h1] at this
      simpa using this.symm
    rw [hb, hcount]
    simp
end
section
variable {P : Program} {cx : Cx} (hcx : CxOK P cx) {base : Nat → Prop} {w0 : World} {call : Caller} (hcall : CallerOK P cx base w0 call)
include hcx hcall
theorem aDraw_sound {nn : Nat} {ops : Array Oper} {id : Nat} {r : Option Nat} {n : Nat} {Q : Exit → Act → World → Prop} {μ : Inj} {fr fr' : Fr} {H H' : Heap} {a : Act} {w : World}
    (h : aDraw cx call nn ops.toList fr H = some (fr', H')) (hf : RelF μ fr.get a.tmps) (hs : a.tmps.size = nn) (hw : RelW (szOf cx) base w0 μ H w)
    (hq : ∀ a' w', RunOK cx base w0 nn μ H a.defers fr' H' a' w' → Q .normal a' w') : (Code.region id ops true).wpIn (FF r) n P Q a w := by
  unfold aDraw at h
  replace h := ob_eq h; obtain ⟨p, hp, h⟩ := h
  replace h := ob_eq h; obtain ⟨y, hy, h⟩ := h
  split at h
  · rename_i hok
    injection h with h; injection h with h1 h2; subst h1; subst h2
    unfold mkPlan at hp
    replace hp := ob_eq hp; obtain ⟨rows, hrows, hp⟩ := hp
    simp only at hp
    split at hp
    · rename_i hc
      obtain ⟨_, hch, hft⟩ := hc
      injection hp with hp; subst hp
      simp only at hy hok
      obtain ⟨bs, hbs, hrok⟩ := rowsOf_ok hrows
      have hrun := drawRun_srun _ _ _ _ hy
      have hrowmem : ∀ r ∈ planOf rows (louds rows) 0, r ∈ rows := by
        intro r hr
        rw [planOf_mem] at hr
        rcases hr with h | h
        · exact (louds_mem.1 h).1
        · exact h.1
      have hkinds : ∀ r ∈ planOf rows (louds rows) 0, r.k = kindOf cx r.o.op := by
        intro r hr
        obtain ⟨j, hj⟩ := List.getElem?_of_mem (hrowmem r hr)
        exact (hrok.get j r hj).2.2.1
      have D : Drawn cx call nn ops fr H bs rows (planOf rows (louds rows) 0) y.1 y.2.1 y.2.2 := by
        refine ⟨hbs, hrok, rfl, hrun, hch, hft, fun c hc hwt s K hlo hhi hK => ?_⟩
        rw [Bool.or_eq_true] at hok
        rcases hok with hok | hok
        · have hq' : ∀ r ∈ planOf rows (louds rows) 0, r.k = .quiet := by
            intro r hr
            have := List.all_eq_true.1 hok r (hrowmem r hr)
            split at this
            · assumption
            · cases this
          obtain ⟨h1, h2⟩ := hrun.quiets hkinds hq'
          have hck : c.r.k = .quiet := hq' c.r (by rw [← hrun.map]; exact List.mem_map_of_mem hc)
          rw [h1] at hK
          have : K = H := by
            cases s with
            | zero => simpa using hK.symm
            | succ s => simp at hK
          subst this
          exact ⟨fun _ => h2 c hc hwt, fun e => by rw [hck] at e; cases e⟩
        · have := List.all_eq_true.1 hok c hc
          unfold recHolds at this
          rw [if_pos hwt] at this
          have hmem : K ∈ (y.2.1.take (c.r.hi + 1)).drop c.r.lo := by
            refine List.mem_of_getElem? (i := s - c.r.lo) ?_
            rw [List.getElem?_drop, List.getElem?_take, if_pos (by omega), ← hK]
            congr 1; omega
          constructor
          · intro hck
            rw [hck] at this
            have := List.all_eq_true.1 this K hmem
            split at this
            · rename_i v hv; rw [hv, AV.beq_eq _ _ this]
            · cases this
          · intro hck
            rw [hck] at this
            have := List.all_eq_true.1 this K hmem
            split at this
            · rename_i m hm
              rw [Bool.and_eq_true, nble] at this
              exact ⟨m, hm, of_decide_eq_true this.1, Blk.same_eq this.2⟩
            · cases this
      obtain ⟨K0, hK0, hnews⟩ := hrun.head hkinds
      refine wpIn_region_any hcx.order ?_
      have hfalse : ∀ j, (Array.replicate ops.size false).getD j false = false := fun j => by
        simp [Array.getD]
      refine Drawn.any hcx hcall D (μ0 := μ) (ds := a.defers) hq ops.size _ 0 μ a _ ⟨by simp, fun j o _ hl => (by rw [hfalse] at hl; cases hl), ⟨Nat.zero_le _, fun k r _ => (by rw [hfalse]; simp)⟩,
        ⟨K0, hK0, hnews.relW (hw.drew _)⟩, fun c hc _ _ => ?_, fun t => .inr ⟨fun c _ _ => hfalse _, hf t⟩, hs, rfl, Grow.refl _ _⟩ (by simp [List.countP_replicate])
      cases hx : μ c.id with
      | none => rfl
      | some i => have := hw.fresh _ _ hx; have := hrun.nexts.2 c hc; omega
    · cases hp
  · cases h
end
end Go.Ab
end
end

section
section
namespace Go.Ab
open Go.RowKit
inductive RelD (μ : Inj) : List Nat → List Deferred → Prop
  | nil : RelD μ [] []
  | cons {d : Nat} {i : BI} {ds : List Nat} {es : List Deferred} : μ d = some i → RelD μ ds es → RelD μ (d :: ds) ({ target := .collected i.blk, args := #[] } :: es)
theorem RelD.mono {μ μ' : Inj} {ds : List Nat} {es : List Deferred} (h : RelD μ ds es) (e : Ext μ μ') : RelD μ' ds es := by
  induction h with
  | nil => exact .nil
  | cons a _ ih => exact .cons (e _ _ a) ih
def exOf : AX → Exit
  | .normal => .normal
  | .exit id => .exit id
  | .ret => .ret
structure EndOK (cx : Cx) (base : Nat → Prop) (w0 : World) (nn : Nat) (μ : Inj) (H : Heap) (s' : St) (a' : Act) (w' : World) : Prop where
  next : H.next ≤ s'.H.next
  ex : ∃ μ', Grow H.next μ μ' ∧ RelF μ' s'.fr.get a'.tmps ∧ RelD μ' s'.ds a'.defers ∧ RelW (szOf cx) base w0 μ' s'.H w'
  size : a'.tmps.size = nn
def Round (μ : Inj) (around : Option Nat) (r : Option Nat) : Prop :=
  match around, r with
  | none, none => True
  | some l, some b => ∃ i, μ l = some i ∧ i.blk = b
  | _, _ => False
theorem Round.mono {μ μ' : Inj} {around r : Option Nat} (h : Round μ around r) (e : Ext μ μ') : Round μ' around r := by
  unfold Round at h ⊢
  split at h
  · trivial
  · obtain ⟨i, h1, h2⟩ := h; exact ⟨i, e _ _ h1, h2⟩
  · exact h.elim
section
variable {P : Program} {cx : Cx} (hcx : CxOK P cx) {base : Nat → Prop} {w0 : World}
theorem RelW.newBlk {μ : Inj} {H : Heap} {w : World} (hw : RelW (szOf cx) base w0 μ H w) (x : Blk) (o : Obj) (i : BI) (hi : i.blk = w.heap.size) (hr : RelB (szOf cx) base (μ.set H.next i) i (w.alloc o) x) :
    RelW (szOf cx) base w0 (μ.set H.next i) (H.new x) (w.alloc o) := by
  refine RelW.bind (hw.addDead x) hw.unmapped (by simp) o i hi ?_
  rw [Heap.get_new, if_pos rfl]; exact hr
theorem RelW.loop {μ : Inj} {H : Heap} {w : World} (hw : RelW (szOf cx) base w0 μ H w) {l : Nat} {i : BI} (hl : μ l = some i) {fn n : Nat} {fr : Fr} {ps : List Tmp} {asg body : Code} {d : Nat} {st : LS}
    (hg : H.get l = .loop fn n fr ps asg body d st) : ¬ base i.blk ∧ ∃ (tmps : Array Value) (di : BI) (ls : LoopState) (pe : Option Code) (fn' : FuncId),
      w.heap[i.blk]? = some (.loop { state := ls, pending := pe, fn := fn', tmps := tmps, params := ps.toArray, assign := asg, body := body, defers := di.blk }) ∧ μ d = some di ∧ tmps.size = n ∧ RelF μ fr.get tmps ∧ st.fit ls pe := by
  have := hw.blk l i hl
  rw [hg] at this
  exact this
theorem RelW.turn {μ : Inj} {H : Heap} {w : World} (hw : RelW (szOf cx) base w0 μ H w) {l : Nat} {i : BI} (hl : μ l = some i) {fn n : Nat} {fr : Fr} {ps : List Tmp} {asg body : Code} {d : Nat} {st : LS}
    (hg : H.get l = .loop fn n fr ps asg body d st) (st' : LS) (ls' : LoopState) (pe' : Option Code) (hfit : st'.fit ls' pe') {r : Loop} (hr : w.heap[i.blk]? = some (.loop r)) :
    RelW (szOf cx) base w0 μ (H.put l (Blk.setLS st' (H.get l))) (w.putObj i.blk (.loop { r with state := ls', pending := pe' })) := by
  obtain ⟨hb, tmps, di, ls, pe, fn', h1, h2, h3, h4, h5⟩ := hw.loop hl hg
  rw [h1] at hr
  injection hr with hr; injection hr with hr; subst hr
  have hlt := (Array.getElem?_eq_some_iff.1 h1).1
  refine RelW.write hw hl (by rw [hg]; rfl) rfl rfl rfl World.putObj_size (fun k hk => World.putObj_heap_other hk) (.inl (by rw [hg]; rfl)) ?_
  rw [hg]
  exact ⟨hb, tmps, di, ls', pe', fn', World.putObj_heap_same hlt, h2, h3, h4, hfit⟩
theorem RelW.gone {μ : Inj} {H : Heap} {w : World} (hw : RelW (szOf cx) base w0 μ H w) {l : Nat} {i : BI} (hl : μ l = some i) (hwr : (H.get l).writes = true) (o : Obj) :
    RelW (szOf cx) base w0 μ (H.put l .dead) (w.putObj i.blk o) :=
  RelW.write hw hl hwr rfl rfl rfl World.putObj_size (fun k hk => World.putObj_heap_other hk) (.inr rfl) trivial
theorem putAll_sound {μ : Inj} {nn : Nat} : ∀ (ps : List Tmp) (vs : List AV) (fr fr' : Fr) (tmps : Array Value) (xs : List Value), putAll nn ps vs fr = some fr' → RelF μ fr.get tmps → tmps.size = nn → RelL μ vs xs →
    xs.length = ps.length ∧ RelF μ fr'.get ((ps.zip xs).foldl (fun tmps (x : Tmp × Value) => tmps.setIfInBounds x.1 x.2) tmps) ∧ ((ps.zip xs).foldl (fun tmps (x : Tmp × Value) => tmps.setIfInBounds x.1 x.2) tmps).size = nn := by
  intro ps
  induction ps with
  | nil =>
    intro vs fr fr' tmps xs h hf hs hr
    cases vs with
    | nil =>
      cases hr
      simp only [putAll] at h; injection h with h; subst h
      exact ⟨rfl, hf, hs⟩
    | cons v vs => simp [putAll] at h
  | cons t ps ih =>
    intro vs fr fr' tmps xs h hf hs hr
    cases vs with
    | nil => simp [putAll] at h
    | cons v vs =>
      cases hr with
      | cons a b =>
        rename_i x xs
        simp only [putAll] at h
        replace h := ob_eq h; obtain ⟨fr1, h1, h⟩ := h
        have hf1 := put_sound (a := ⟨tmps, []⟩) hf hs h1 (Ext.refl μ) a
        obtain ⟨h2, h3, h4⟩ := ih vs fr1 fr' (tmps.setIfInBounds t x) xs h hf1 (by simpa using hs) b
        exact ⟨by simp [h2], by simpa using h3, by simpa using h4⟩
variable {call : Caller} (hcall : CallerOK P cx base w0 call)
theorem EndOK.trans {nn : Nat} {μ μ1 : Inj} {H H1 : Heap} {s' : St} {a' : Act} {w' : World} (hg : Grow H.next μ μ1) (hn : H.next ≤ H1.next) (h : EndOK cx base w0 nn μ1 H1 s' a' w') : EndOK cx base w0 nn μ H s' a' w' := by
  obtain ⟨h1, ⟨μ2, h2, h3⟩, h4⟩ := h
  exact ⟨Nat.le_trans hn h1, ⟨μ2, hg.trans h2 hn, h3⟩, h4⟩
include hcx hcall in
theorem cRange_sound {fn : FuncId} {around : Option Nat} {nn : Nat} {x : Operand} {ps : List Tmp} {asg body : Code} {s s' : St} {X : AX} (h : cRange call fn around nn x ps asg body s = some (X, s'))
    {μ : Inj} {a : Act} {w : World} {r : Option Nat} {n : Nat} {Q : Exit → Act → World → Prop} (hf : RelF μ s.fr.get a.tmps) (hs : a.tmps.size = nn) (hd : RelD μ s.ds a.defers) (hw : RelW (szOf cx) base w0 μ s.H w) (hr : Round μ around r)
    (hq : ∀ a' w', EndOK cx base w0 nn μ s.H s' a' w' → Q (exOf X) a' w') : (Code.rangeFunc x ps.toArray asg body).wpIn (FF r) n P Q a w := by
  unfold cRange at h
  replace h := ob_eq h; obtain ⟨v, hv, h⟩ := h
  have rv := ev_sound hf hv
  split at h
  · rename_i g first captured
    replace h := ob_eq h; obtain ⟨⟨d, ds', H1⟩, hq1, h⟩ := h
    replace h := ob_eq h; obtain ⟨⟨v2, H3⟩, hc, h⟩ := h
    simp only at hc h
    generalize hX : a.eval x = F at rv
    cases rv with
    | func r1 r2 =>
      rename_i xs ys
      refine wpIn_rangeFunc fun fn' _ => ?_
      have lay : ∃ (mark : List Deferred) (w1 : World) (i : BI) (μ1 : Inj), (Instr.enterLoop fn' a.tmps ps.toArray asg body r).run P w = .ok (i.blk, mark) w1 ∧
          Grow s.H.next μ μ1 ∧ s.H.next ≤ H1.next ∧ μ1 H1.next = some i ∧ RelD μ1 ds' (mark ++ a.defers) ∧ RelW (szOf cx) base w0 μ1 (H1.new (.loop fn nn s.fr ps asg body d .ready)) w1 := by
        unfold cDefers at hq1
        cases around with
        | none =>
          cases r with
          | some b => exact hr.elim
          | none =>
            simp only at hq1
            injection hq1 with hq1; injection hq1 with e1 e2; injection e2 with e2 e3; subst e1; subst e2; subst e3
            have hwA := hw.newBlk .dfr (.deferred (some [])) ⟨w.heap.size, 0, 0, 0⟩ rfl ⟨hw.newOK, World.alloc_heap_new w _⟩
            have extA := ext_set (⟨w.heap.size, 0, 0, 0⟩ : BI) hw.unmapped
            have hm : (μ.set s.H.next ⟨w.heap.size, 0, 0, 0⟩) s.H.next = some ⟨w.heap.size, 0, 0, 0⟩ := Inj.set_same _ _ _
            have extB := ext_set (⟨w.heap.size + 1, 0, 0, 0⟩ : BI) hwA.unmapped
            have hwB := hwA.newBlk (.loop fn nn s.fr ps asg body s.H.next .ready) (.loop { state := .ready, pending := none, fn := fn', tmps := a.tmps, params := ps.toArray, assign := asg, body := body, defers := w.heap.size }) ⟨w.heap.size + 1, 0, 0, 0⟩ (by simp)
              ⟨by have := hwA.newOK; simpa using this, a.tmps, ⟨w.heap.size, 0, 0, 0⟩, .ready, none, fn', by have := World.alloc_heap_new (w.alloc (.deferred (some []))) (.loop { state := .ready, pending := none, fn := fn', tmps := a.tmps, params := ps.toArray, assign := asg, body := body, defers := w.heap.size }); rwa [World.size_alloc] at this,
                extB _ _ hm, hs, (hf.mono extA).mono extB, trivial⟩
            refine ⟨_, _, ⟨w.heap.size + 1, 0, 0, 0⟩, _, run_enterLoop_outer fn' a.tmps ps.toArray asg body, ?_, by simp, Inj.set_same _ _ _, .cons (i := ⟨w.heap.size, 0, 0, 0⟩) (extB _ _ hm) ((hd.mono extA).mono extB), hwB⟩
            exact (grow_set _ _ _).trans (grow_set _ _ _) (by simp)
        | some lo =>
          cases r with
          | none => exact hr.elim
          | some b =>
            obtain ⟨i0, hi0, hib⟩ := hr
            simp only at hq1
            split at hq1
            · rename_i d0 st0 hg0
              injection hq1 with hq1; injection hq1 with e1 e2; injection e2 with e2 e3; subst e1; subst e2; subst e3
              obtain ⟨hb0, tmps0, di0, ls0, pe0, fn0, g1, g2, g3, g4, g5⟩ := hw.loop hi0 hg0
              rw [hib] at g1
              have extB := ext_set (⟨w.heap.size, 0, 0, 0⟩ : BI) hw.unmapped
              have hwB := hw.newBlk (.loop fn nn s.fr ps asg body d0 .ready) (.loop { state := .ready, pending := none, fn := fn', tmps := a.tmps, params := ps.toArray, assign := asg, body := body, defers := di0.blk }) ⟨w.heap.size, 0, 0, 0⟩ rfl
                ⟨hw.newOK, a.tmps, di0, .ready, none, fn', World.alloc_heap_new w _, extB _ _ g2, hs, hf.mono extB, trivial⟩
              exact ⟨_, _, ⟨w.heap.size, 0, 0, 0⟩, _, run_enterLoop_inner g1 fn' a.tmps ps.toArray asg body, grow_set _ _ _, Nat.le_refl _, Inj.set_same _ _ _, hd.mono extB, hwB⟩
            · cases hq1
      obtain ⟨mark, w1, i, μ1, hrun, hg1, hn1, hi, hd1, hw1⟩ := lay
      have ext1 := hw.ext hg1
      have hargs : RelL μ1 (first ++ [AV.yield H1.next] ++ captured) (xs ++ [Value.func (.yield i.blk) #[] #[]] ++ ys) :=
        (((r1.mono ext1).append (.cons (.yield hi) .nil)).append (r2.mono ext1))
      obtain ⟨hc1, hc2⟩ := hcall.fn hc hw1 hargs
      refine ⟨i.blk, mark, w1, { target := .fn (.func g) ys.toArray, args := xs.toArray ++ #[.func (.yield i.blk) #[] #[]] }, w1, g, _, w1, hrun, ?_, fun _ _ => trivial, ?_, fun e => (by cases e), (hc2 r (n - 1)).mono ?_⟩
      · have e1 : (#[Operand.const (.func (.yield i.blk) #[] #[])] : Array Operand).map a.eval = #[Value.func (.yield i.blk) #[] #[]] := by simp [Act.eval]
        simp only [resolve, rangeCall, hX, Deferred.ofValue, e1, Sem.run_pure]
      · rw [← hc1]; simp [invoke]
      · rintro e w3 ⟨Z, rfl, hn2, μ2, hg2, hZ, hw3⟩
        have ext2 := hw1.ext hg2
        have hi2 := ext2 _ _ hi
        have hH1 : H1.next + 1 ≤ H3.next := by simpa using hn2
        have done : ∀ (st : LS) (fn2 n2 : Nat) (fr2 : Fr) (ps2 : List Tmp) (asg2 body2 : Code) (d2 : Nat), H3.get H1.next = .loop fn2 n2 fr2 ps2 asg2 body2 d2 st → st ≠ .busy → s' = ⟨s.fr, ds', H3.put H1.next .dead⟩ →
            ∃ ls pe w4, (Instr.endLoop i.blk).run P w3 = .ok pe w4 ∧ st.fit ls pe ∧ EndOK cx base w0 nn μ s.H s' { a with defers := mark ++ a.defers } w4 := by
          intro st fn2 n2 fr2 ps2 asg2 body2 d2 hgL hnb hs'
          obtain ⟨hb, tmps, di, ls, pe, fn3, g1, g2, g3, g4, g5⟩ := hw3.loop hi2 hgL
          have hls : ls ≠ .busy := by
            intro e; subst e
            cases st <;> first | exact g5.elim | exact hnb rfl | (cases pe <;> exact g5.elim)
          refine ⟨ls, pe, _, run_endLoop g1 hls, g5, ?_⟩
          subst hs'
          refine ⟨by simp; omega, ⟨μ2, hg1.trans hg2 (by simp; omega), (hf.mono ext1).mono ext2, hd1.mono ext2, ?_⟩, hs⟩
          exact RelW.gone hw3 hi2 (by rw [hgL]; rfl) _
        unfold cEnd at h
        split at h
        · rename_i fn2 n2 fr2 ps2 asg2 body2 d2 st hgL
          split at h
          · injection h with h; injection h with h1 h2
            subst h1
            obtain ⟨ls, pe, w4, h3, h4, h5⟩ := done .ready _ _ _ _ _ _ _ hgL (by simp) h2.symm
            refine ⟨pe, w4, h3, ?_⟩
            have hpe : pe = none := by
              cases ls <;> cases pe <;> first | rfl | exact h4.elim
            subst hpe
            exact hq _ _ h5
          · rename_i j
            replace h := ob_eq h; obtain ⟨X', hX', h⟩ := h
            injection h with h; injection h with h1 h2
            subst h1
            obtain ⟨ls, pe, w4, h3, h4, h5⟩ := done (.done j) _ _ _ _ _ _ _ hgL (by simp) h2.symm
            refine ⟨pe, w4, h3, ?_⟩
            have hpe : pe = some j := by
              cases ls <;> cases pe <;> first | exact h4.elim | (simp only [LS.fit] at h4; rw [h4])
            subst hpe
            unfold axOf at hX'
            split at hX'
            · injection hX' with hX'; subst hX'; exact wpIn_exit (hq _ _ h5)
            · injection hX' with hX'; subst hX'; exact wpIn_ret (hq _ _ h5)
            · cases hX'
          · cases h
        · cases h
  · cases h
def noRange : Code → Bool
  | .seq a b => noRange a && noRange b
  | .cond _ a b => noRange a && noRange b
  | .block _ b => noRange b
  | .loop b => noRange b
  | .rangeFunc _ _ _ _ => false
  | _ => true
def LoopsOK (P : Program) (cx : Cx) (base : Nat → Prop) (w0 : World) : Prop :=
  ∀ {fn : FuncId} {id : Nat} {L : LSum}, cx.loop fn id = some L → ∀ {nn : Nat} {r : Option Nat} {n : Nat} {s s' : St} {X : AX} {μ : Inj} {a : Act} {w : World} {Q : Exit → Act → World → Prop},
    L.run nn s = some (X, s') → RelF μ s.fr.get a.tmps → a.tmps.size = nn → RelD μ s.ds a.defers → RelW (szOf cx) base w0 μ s.H w →
    (∀ a' w', EndOK cx base w0 nn μ s.H s' a' w' → Q (exOf X) a' w') → (Code.block id L.code).wpIn (FF r) n P Q a w
variable (hloop : LoopsOK P cx base w0)
include hcx hcall hloop in
theorem aCode_sound {fn : FuncId} {around : Option Nat} {nn : Nat} {r : Option Nat} {n : Nat} : ∀ (f : Nat) (c : Code) (s s' : St) (X : AX) (μ : Inj) (a : Act) (w : World) (Q : Exit → Act → World → Prop),
    aCode cx call fn around nn f c s = some (X, s') → RelF μ s.fr.get a.tmps → a.tmps.size = nn → RelD μ s.ds a.defers → RelW (szOf cx) base w0 μ s.H w → (noRange c = true ∨ Round μ around r) →
    (∀ a' w', EndOK cx base w0 nn μ s.H s' a' w' → Q (exOf X) a' w') → c.wpIn (FF r) n P Q a w := by
  intro f
  induction f using Nat.strongRecOn with
  | ind f IH =>
    cases f with
    | zero => intro c s s' X μ a w Q h; simp at h
    | succ f =>
      intro c s s' X μ a w Q h hf hs hd hw hr hq
      have chain : ∀ {nr : Bool} {μ : Inj} {s : St} {y : AX × St} {run : St → Option (AX × St)} {K : Act → World → Prop} {Q : Exit → Act → World → Prop} (hw : RelW (szOf cx) base w0 μ s.H w) (hr : nr = true ∨ Round μ around r), cThen run y = some (X, s') →
          (∀ a' w', EndOK cx base w0 nn μ s.H s' a' w' → Q (exOf X) a' w') →
          (∀ μ1 a1 w1, run y.2 = some (X, s') → RelF μ1 y.2.fr.get a1.tmps → a1.tmps.size = nn → RelD μ1 y.2.ds a1.defers → RelW (szOf cx) base w0 μ1 y.2.H w1 → (nr = true ∨ Round μ1 around r) → (∀ a' w', EndOK cx base w0 nn μ1 y.2.H s' a' w' → Q (exOf X) a' w') → K a1 w1) →
          ∀ a1 w1, EndOK cx base w0 nn μ s.H y.2 a1 w1 → Exit.then K Q (exOf y.1) a1 w1 := by
        intro nr μ s y run K Q hw hr hc hq hk a1 w1 he
        obtain ⟨y1, y2⟩ := y
        obtain ⟨h1, ⟨μ1, h2, h3, h4, h5⟩, h6⟩ := he
        cases y1 with
        | normal =>
          simp only [cThen] at hc
          exact hk μ1 a1 w1 hc h3 h6 h4 h5 (hr.imp id fun h => h.mono (hw.ext h2)) fun a' w' hx => hq a' w' (EndOK.trans h2 h1 hx)
        | exit id =>
          simp only [cThen] at hc
          injection hc with hc; injection hc with e1 e2; subst e1; subst e2
          exact hq a1 w1 ⟨h1, ⟨μ1, h2, h3, h4, h5⟩, h6⟩
        | ret =>
          simp only [cThen] at hc
          injection hc with hc; injection hc with e1 e2; subst e1; subst e2
          exact hq a1 w1 ⟨h1, ⟨μ1, h2, h3, h4, h5⟩, h6⟩
      rw [aCode_succ] at h
      unfold aCode1 at h
      split at h
      · -- skip
        injection h with h; injection h with h1 h2; subst h1; subst h2
        exact wpIn_skip (hq a w ⟨Nat.le_refl _, ⟨μ, Grow.refl _ _, hf, hd, hw⟩, hs⟩)
      · -- a region
        rename_i id ops draw
        unfold cRegion at h
        replace h := ob_eq h; obtain ⟨⟨fr', H'⟩, h1, h⟩ := h
        injection h with h; injection h with e1 e2; subst e1; subst e2
        have hq' : ∀ a' w', RunOK cx base w0 nn μ s.H a.defers fr' H' a' w' → Q .normal a' w' := by
          rintro a' w' ⟨h2, ⟨μ', h3, h4, h5⟩, h6, h7⟩
          exact hq a' w' ⟨h2, ⟨μ', h3, h4, by rw [h7]; exact hd.mono (hw.ext h3), h5⟩, h6⟩
        cases draw with
        | true => rw [cb_true] at h1; exact aDraw_sound hcx hcall h1 hf hs hw hq'
        | false =>
          rw [cb_false] at h1
          refine wpIn_region ?_
          have := aOps_sound hcx hcall (r := r) (n := n) (Q := Q) ops.toList 0 μ s.fr s.H a w fr' H' (by simp) h1 hf hs hw hq'
          rw [List.range_eq_range']
          simpa using this
      · -- one behind the other
        rename_i x y
        replace h := ob_eq h; obtain ⟨z, hz, h⟩ := h
        refine wpIn_seq (IH f (by omega) x s z.2 z.1 μ a w _ hz hf hs hd hw (hr.imp (fun h => by simp only [noRange, Bool.and_eq_true] at h; exact h.1) id) ?_)
        exact chain (nr := noRange y) hw (hr.imp (fun h => by simp only [noRange, Bool.and_eq_true] at h; exact h.2) id) h hq fun μ1 a1 w1 h1 h2 h3 h4 h5 h6 h7 => IH f (by omega) y z.2 s' X μ1 a1 w1 Q h1 h2 h3 h4 h5 h6 h7
      · -- a branch
        rename_i x y z
        unfold cCond at h
        replace h := ob_eq h; obtain ⟨v, hv, h⟩ := h
        replace h := ob_eq h; obtain ⟨t, ht, h⟩ := h
        have rv := ev_sound hf hv
        cases bool?_eq ht
        have e := rel_bool rv
        refine wpIn_cond e ?_
        cases t with
        | true => exact IH f (by omega) y s s' X μ a w Q h hf hs hd hw (hr.imp (fun h => by simp only [noRange, Bool.and_eq_true] at h; exact h.1) id) hq
        | false => exact IH f (by omega) z s s' X μ a w Q h hf hs hd hw (hr.imp (fun h => by simp only [noRange, Bool.and_eq_true] at h; exact h.2) id) hq
      · -- a block
        rename_i id b
        have hh : (((aCode cx call fn around nn f b s).ob (cBlock id)) = some (X, s')) ∨ ∃ L, cx.loop fn id = some L ∧ b = L.code ∧ L.run nn s = some (X, s') := by
          unfold hook at h
          split at h
          · exact .inl h
          · rename_i L hL
            split at h
            · rename_i hb
              split at h
              · rename_i q hq'
                injection h with h; subst h
                exact .inr ⟨L, hL, hb, hq'⟩
              · exact .inl h
            · exact .inl h
        clear h
        rcases hh with h | ⟨L, hL, rfl, h⟩
        rotate_left
        · exact hloop hL h hf hs hd hw hq
        replace h := ob_eq h; obtain ⟨z, hz, h⟩ := h
        obtain ⟨z1, z2⟩ := z
        refine wpIn_block (IH f (by omega) b s z2 z1 μ a w _ hz hf hs hd hw hr fun a' w' he => ?_)
        unfold cBlock at h
        cases z1 with
        | normal => simp only at h; injection h with h; injection h with e1 e2; subst e1; subst e2; exact hq a' w' he
        | ret => simp only at h; injection h with h; injection h with e1 e2; subst e1; subst e2; exact hq a' w' he
        | exit id' =>
          simp only at h
          simp only [exOf, Exit.inBlock]
          split at h
          · rename_i hid
            injection h with h; injection h with e1 e2; subst e1; subst e2
            rw [if_pos hid]; exact hq a' w' he
          · rename_i hid
            injection h with h; injection h with e1 e2; subst e1; subst e2
            rw [if_neg hid]; exact hq a' w' he
      · -- a loop
        rename_i b
        have rounds : ∀ (g : Nat), g ≤ f + 1 → ∀ (s : St) (μ : Inj) (a : Act) (w : World), aCode cx call fn around nn g (.loop b) s = some (X, s') → RelF μ s.fr.get a.tmps → a.tmps.size = nn → RelD μ s.ds a.defers → RelW (szOf cx) base w0 μ s.H w → (noRange b = true ∨ Round μ around r) →
            (∀ a' w', EndOK cx base w0 nn μ s.H s' a' w' → Q (exOf X) a' w') → Code.roundsIn (FF r) n P b Q g a w := by
          intro g
          induction g with
          | zero => intro _ s μ a w h; simp at h
          | succ g ihg =>
            intro hle s μ a w h hf hs hd hw hr hq
            rw [aCode_succ] at h
            simp only [aCode1] at h
            replace h := ob_eq h; obtain ⟨z, hz, h⟩ := h
            rw [roundsIn_succ]
            refine IH g (by omega) b s z.2 z.1 μ a w _ hz hf hs hd hw hr ?_
            obtain ⟨z1, z2⟩ := z
            intro a1 w1 he
            obtain ⟨h1, ⟨μ1, h2, h3, h4, h5⟩, h6⟩ := he
            cases z1 with
            | normal =>
              simp only [cThen] at h
              exact ihg (by omega) z2 μ1 a1 w1 h h3 h6 h4 h5 (hr.imp id fun h => h.mono (hw.ext h2)) fun a' w' hx => hq a' w' (EndOK.trans h2 h1 hx)
            | exit id =>
              simp only [cThen] at h
              injection h with h; injection h with e1 e2; subst e1; subst e2
              exact hq a1 w1 ⟨h1, ⟨μ1, h2, h3, h4, h5⟩, h6⟩
            | ret =>
              simp only [cThen] at h
              injection h with h; injection h with e1 e2; subst e1; subst e2
              exact hq a1 w1 ⟨h1, ⟨μ1, h2, h3, h4, h5⟩, h6⟩
        exact wpIn_loop_rounds (f + 1) (rounds (f + 1) (Nat.le_refl _) s μ a w (by rw [aCode_succ]; exact h) hf hs hd hw hr hq)
      · -- ways out
        injection h with h; injection h with h1 h2; subst h1; subst h2
        exact wpIn_exit (hq a w ⟨Nat.le_refl _, ⟨μ, Grow.refl _ _, hf, hd, hw⟩, hs⟩)
      · injection h with h; injection h with h1 h2; subst h1; subst h2
        exact wpIn_ret (hq a w ⟨Nat.le_refl _, ⟨μ, Grow.refl _ _, hf, hd, hw⟩, hs⟩)
      · -- a loop over a function
        rename_i x ps asg body
        have := cRange_sound hcx hcall h (r := r) (n := n) (Q := Q) hf hs hd hw (hr.resolve_left (by simp [noRange])) hq
        rwa [Array.toArray_toList] at this
      · cases h
end
end Go.Ab
end
end

section
section
namespace Go.Ab
open Go.RowKit
theorem ofList_get : ∀ (l : List AV) (i : Nat) (fr : Fr) (t : Nat), (ofList i l fr).get t = if i ≤ t ∧ t < i + l.length then (l[t - i]?).getD .undef else fr.get t := by
  intro l
  induction l with
  | nil => intro i fr t; rw [if_neg (by simp)]; rfl
  | cons v l ih =>
    intro i fr t
    show (ofList (i + 1) l (T.set .undef fr i v)).get t = _
    rw [ih]
    have hg : ∀ t, Fr.get (T.set .undef fr i v) t = if t = i then v else fr.get t := fun t => T.get_set _ _ _ _ _
    by_cases h : t = i
    · subst h
      rw [if_neg (by omega), hg, if_pos rfl, if_pos (by simp)]
      simp
    · by_cases h2 : i ≤ t ∧ t < i + (v :: l).length
      · simp only [List.length_cons] at h2
        rw [if_pos (by omega), if_pos (by simp only [List.length_cons]; omega)]
        obtain ⟨q, hq⟩ : ∃ q, t - i = q + 1 := ⟨t - i - 1, by omega⟩
        rw [hq, List.getElem?_cons_succ, show t - (i + 1) = q from by omega]
      · simp only [List.length_cons] at h2
        rw [if_neg (by omega), if_neg (by simp only [List.length_cons]; omega), hg, if_neg h]
theorem start_sound {μ : Inj} {args : List AV} {xs : List Value} (h : RelL μ args xs) (n : Nat) (hn : args.length ≤ n) :
    RelF μ (ofList 0 args .nil).get (xs.toArray ++ Array.replicate (n - xs.toArray.size) undef) ∧ (xs.toArray ++ Array.replicate (n - xs.toArray.size) undef).size = n := by
  have hl := h.length
  refine ⟨fun (t : Nat) => ?_, by simp; omega⟩
  rw [ofList_get, Array.getD_eq_getD_getElem?, Array.getElem?_append]
  by_cases ht : t < args.length
  · have c1 : 0 ≤ t ∧ t < 0 + args.length := by omega
    have c2 : t < xs.toArray.size := by simp; omega
    rw [if_pos c1, if_pos c2]
    obtain ⟨x, hx, hr⟩ := h.get t _ (List.getElem?_eq_getElem ht)
    simp only [Nat.sub_zero, List.getElem?_toArray, hx, List.getElem?_eq_getElem ht, Option.getD_some]
    exact hr
  · have c1 : ¬ (0 ≤ t ∧ t < 0 + args.length) := by omega
    have c2 : ¬ t < xs.toArray.size := by simp; omega
    rw [if_neg c1, if_neg c2]
    have e : (Array.replicate (n - xs.toArray.size) undef)[t - xs.toArray.size]?.getD undef = undef := by
      rw [Array.getElem?_replicate]; split <;> rfl
    rw [e]; exact .undef
section
variable {P : Program} {cx : Cx} (hcx : CxOK P cx) {base : Nat → Prop} {w0 : World}
def rvRun (tmps : Array Value) : ResultVar → Sem Value
  | .tmp t => pure (tmps.getD t undef)
  | .cell a t => do loadVar t (← asAddr (tmps.getD a undef))
include hcx in
theorem result_sound {μ : Inj} {fr : Fr} {H : Heap} {tmps : Array Value} {w : World} (hf : RelF μ fr.get tmps) (hw : RelW (szOf cx) base w0 μ H w) {rv : ResultVar} {v : AV} (h : aResult cx fr H rv = some v) :
    ∃ z, (rvRun tmps rv).run P w = .ok z w ∧ RelV μ v z := by
  cases rv with
  | tmp t => exact ⟨_, rfl, known_sound (a := { tmps := tmps, defers := [] }) hf h⟩
  | cell a t =>
    simp only [aResult] at h
    obtain ⟨z, h1, h2⟩ := aLoad_sound hcx hw h (hf a)
    have hra := hf a
    have hp : ∃ ad, tmps.getD a undef = .pointer (some ad) := by
      unfold aLoad at h
      split at h
      · rename_i cs hg
        rw [hg] at hra
        cases hx : tmps.getD a undef <;> rw [hx] at hra <;> cases hra
        exact ⟨_, rfl⟩
      · rename_i hno
        unfold aLoad0 at h
        split at h
        · rename_i ty p _ hg
          rw [hg] at hra
          obtain ⟨i, _, e⟩ := rel_ptr hra
          exact ⟨_, e⟩
        · cases h
    obtain ⟨ad, e⟩ := hp
    refine ⟨z, ?_, h2⟩
    show (do loadVar t (← asAddr (tmps.getD a undef)) : Sem Value).run P w = _
    rw [e] at h1 ⊢
    simp only [asAddr, pure_bind]
    simpa [Instr.loadAt, Instr.sureAddr] using h1
include hcx in
theorem results_sound {μ : Inj} {fr : Fr} {H : Heap} {tmps : Array Value} {w : World} (hf : RelF μ fr.get tmps) (hw : RelW (szOf cx) base w0 μ H w) :
    ∀ {rs : List ResultVar} {vs : List AV}, aResults cx fr H rs = some vs → ∃ zs, (rs.mapM (rvRun tmps)).run P w = .ok zs w ∧ RelL μ vs zs := by
  intro rs
  induction rs with
  | nil => intro vs h; simp only [aResults] at h; injection h with h; subst h; exact ⟨[], by simp, .nil⟩
  | cons r rs ih =>
    intro vs h
    simp only [aResults] at h
    replace h := ob_eq h; obtain ⟨v, hv, h⟩ := h
    replace h := ob_eq h; obtain ⟨us, hus, h⟩ := h
    injection h with h; subst h
    obtain ⟨z, h1, h2⟩ := result_sound (P := P) hcx hf hw hv
    obtain ⟨zs, h3, h4⟩ := ih hus
    refine ⟨z :: zs, ?_, .cons h2 h4⟩
    rw [List.mapM_cons]
    simp [h1, h3]
include hcx in
theorem ends_sound {μ : Inj} {fr : Fr} {H : Heap} {tmps : Array Value} {w : World} (hf : RelF μ fr.get tmps) (hw : RelW (szOf cx) base w0 μ H w) {fn : Func} {vs : List AV} (h : aResults cx fr H fn.results.toList = some vs) :
    ∃ z, (results fn tmps).run P w = .ok z w ∧ RelV μ (single vs) z := by
  obtain ⟨zs, h1, h2⟩ := results_sound (P := P) hcx hf hw h
  have hl := h2.length
  have hrun : (results fn tmps).run P w = .ok (if h : zs.toArray.size = 1 then zs.toArray[0] else .tuple zs.toArray) w := by
    have e : results fn tmps = (do let vs ← fn.results.mapM (rvRun tmps); pure (if h : vs.size = 1 then vs[0] else .tuple vs)) := rfl
    rw [e, ← Array.toArray_toList (xs := fn.results), List.mapM_toArray]
    simp [h1]
  refine ⟨_, hrun, ?_⟩
  unfold single
  split
  · cases h2 with
    | cons a b => cases b; simpa using a
  · rename_i hne
    rw [dif_neg (by
      intro e
      simp at e
      rw [hl] at e
      match vs, e, hne with
      | [v], _, hne => exact hne v rfl)]
    exact .tuple h2
theorem shut_sound {fn : Func} {tmps : Array Value} {R : Ending → World → Prop} {F : Fence} {n : Nat} : ∀ (ds : List Nat) (H H' : Heap) (μ : Inj) (es : List Deferred) (w : World), shut ds H = some H' → RelD μ ds es → RelW (szOf cx) base w0 μ H w →
    H'.next = H.next ∧ ((∀ w', RelW (szOf cx) base w0 μ H' w' → LeavesIn F n P fn tmps R [] .returning w') → LeavesInM F n P fn tmps R es .returning w) := by
  intro ds
  induction ds with
  | nil => intro H H' μ es w h hd hw; cases hd; simp only [shut] at h; injection h with h; subst h; exact ⟨rfl, fun hk => hk w hw⟩
  | cons d ds ih =>
    intro H H' μ es w h hd hw
    cases hd with
    | cons hi hd =>
      rename_i i es
      simp only [shut] at h
      split at h
      · rename_i hg
        have hb := hw.blk d i hi
        rw [hg] at hb
        have hw' := RelW.gone hw hi (by rw [hg]; rfl) (.deferred none)
        obtain ⟨h1, h2⟩ := ih _ H' μ es _ h hd hw'
        refine ⟨h1, fun hk => ?_⟩
        exact ⟨by simp, .inl ⟨i.blk, _, rfl, run_takeDeferred hb.2, h2 hk⟩⟩
      · cases h
def SumOK (P : Program) (cx : Cx) (base : Nat → Prop) (w0 : World) : Prop :=
  ∀ {g : FuncId} {args : List AV} {H H' : Heap} {v : AV} {μ : Inj} {w : World} {xs : List Value}, cx.sum g args H = some (v, H') → RelW (szOf cx) base w0 μ H w → RelL μ args xs →
    ∀ r n, CallsIn (FF r) n P g xs.toArray w (CallPost cx base w0 μ H v H')
variable (hsum : SumOK P cx base w0) (hloop : LoopsOK P cx base w0)
include hcx in
theorem callFunc_run {g : FuncId} {fn : Func} (h : cx.fn g = some fn) (w : World) (args : Array Value) : (callFunc g args).run P w = .ok (.enter g args) w := by
  obtain ⟨h1, h2, h3⟩ := hcx.fn g fn h
  have h2' : ¬ fn.name = "runtime.NumGoroutine" := by simpa using h2
  have h3' : ¬ fn.body = none := by
    intro e; rw [e] at h3; cases h3
  simp [callFunc, h1, h2', h3']
include hcx hsum hloop in
theorem aCall_sound : ∀ f, CallerOK P cx base w0 (aCall cx f) := by
  intro f
  induction f with
  | zero => exact ⟨fun h => by simp at h, fun h => by simp at h⟩
  | succ f ih =>
    refine ⟨?_, ?_⟩
    · intro g args H H' v μ w xs h hw hr
      rw [aCall_succ] at h
      simp only [aCall1, callFn] at h
      replace h := ob_eq h; obtain ⟨fn, hfn, h⟩ := h
      refine ⟨callFunc_run hcx hfn w _, fun r n => ?_⟩
      split at h
      · rename_i q hq
        injection h with h; subst h
        exact hsum hq hw hr r n
      · unfold callBody at h
        replace h := ob_eq h; obtain ⟨body, hbody, h⟩ := h
        split at h
        · rename_i hle
          replace h := ob_eq h; obtain ⟨⟨X, s'⟩, hrun, h⟩ := h
          obtain ⟨h1, h2, h3⟩ := hcx.fn g fn hfn
          obtain ⟨hf0, hs0⟩ := start_sound hr fn.ntmps hle
          have hwp := aCode_sound hcx ih hloop (r := none) (n := n) f body ⟨ofList 0 args .nil, [], H⟩ s' X μ { tmps := xs.toArray ++ Array.replicate (fn.ntmps - xs.toArray.size) undef, defers := [] } w
            (bodyPostM (FF none) n P fn (CallPost cx base w0 μ H v H')) hrun hf0 hs0 .nil hw (.inr trivial) ?_
          · exact callsIn_of_wp_marks (F := FF none) h1 hbody trivial hwp
          · rintro a' w' ⟨e1, ⟨μ', e2, e3, e4, e5⟩, e6⟩
            unfold callEnd at h
            have fin : (shut s'.ds s'.H).ob (fun H' => (aResults cx s'.fr H' fn.results.toList).ob fun vs => some (single vs, H')) = some (v, H') → LeavesInM (FF none) n P fn a'.tmps (CallPost cx base w0 μ H v H') a'.defers .returning w' := by
              intro h
              replace h := ob_eq h; obtain ⟨H2, hH2, h⟩ := h
              replace h := ob_eq h; obtain ⟨vs, hvs, h⟩ := h
              injection h with h; injection h with e7 e8; subst e7; subst e8
              obtain ⟨e9, e10⟩ := shut_sound (P := P) (fn := fn) (tmps := a'.tmps) (R := CallPost cx base w0 μ H (single vs) H2) (F := FF none) (n := n) _ _ _ _ _ _ hH2 e4 e5
              refine e10 fun w2 hw2 => ?_
              obtain ⟨z, hz, hrz⟩ := ends_sound (P := P) hcx e3 hw2 hvs
              exact ⟨z, hz, z, rfl, by rw [e9]; exact e1, μ', e2, hrz, hw2⟩
            cases X with
            | normal => exact fin h
            | ret => exact fin h
            | exit id => cases h
        · cases h
    · intro l args H H' v μ w xs i h hw hr hi
      rw [aCall_succ] at h
      simp only [aCall1, callYield] at h
      split at h
      · rename_i fn n fr ps asg body d hg
        replace h := ob_eq h; obtain ⟨fr', hput, h⟩ := h
        replace h := ob_eq h; obtain ⟨⟨X, s1⟩, hrun1, h⟩ := h
        obtain ⟨hb, tmps, di, ls, pe, fn', g1, g2, g3, g4, g5⟩ := hw.loop hi hg
        obtain ⟨p1, p2, p3⟩ := putAll_sound ps args fr fr' tmps xs hput g4 g3 hr
        refine ⟨_, _, _, _, run_yield g1 (by simpa using p1), fun r m => ?_⟩
        have hfold : (ps.toArray.zip xs.toArray).foldl (fun tmps (x : Tmp × Value) => tmps.setIfInBounds x.1 x.2) tmps = (ps.zip xs).foldl (fun tmps (x : Tmp × Value) => tmps.setIfInBounds x.1 x.2) tmps := by
          simp
        refine roundIn_of_wpIn (F := FF r) trivial ?_
        show asg.wpIn (FF (some i.blk)) m P _ _ w
        unfold roundBody at h
        rw [cb_eq] at h
        split at h
        · rename_i hcond
          rw [Bool.and_eq_true] at hcond
          replace h := ob_eq h; obtain ⟨⟨Y, s2⟩, hrun2, h⟩ := h
          simp only at hrun2 h hcond
          cases X <;> simp only [AX.isNormal, Bool.false_eq_true, false_and] at hcond
          have hcond := hcond.2
          refine aCode_sound hcx ih hloop (r := some i.blk) (n := m) f asg ⟨fr', [], H⟩ s1 .normal μ _ w _ hrun1 (by simp only; exact hfold ▸ p2) (by simp only; exact hfold ▸ p3) .nil hw (.inr ⟨i, hi, rfl⟩) ?_
          rintro a1 w1 ⟨e1, ⟨μ1, e2, e3, e4, e5⟩, e6⟩
          have hi1 := hw.ext e2 _ _ hi
          unfold isReady at hcond
          split at hcond
          · rename_i fn2 n2 fr2 ps2 asg2 body2 d2 hg2
            obtain ⟨hb2, tmps2, di2, ls2, pe2, fn2', q1, q2, q3, q4, q5⟩ := e5.loop hi1 hg2
            have hls2 : ls2 = .ready := by cases ls2 <;> cases pe2 <;> first | rfl | exact q5.elim
            refine ⟨_, run_beginRound q1 hls2, ?_⟩
            have hw2 := RelW.turn e5 hi1 hg2 .busy .busy pe2 trivial q1
            refine aCode_sound hcx ih hloop (r := some i.blk) (n := m) f body ⟨s1.fr, s1.ds, s1.H.put l (Blk.setLS .busy (s1.H.get l))⟩ s2 Y μ1 a1 _ _ hrun2 e3 e6 e4 hw2 (.inr ⟨i, hi1, rfl⟩) ?_
            rintro a2 w2 ⟨f1, ⟨μ2, f2, f3, f4, f5⟩, f6⟩
            simp only [Heap.next_put] at f1 f2
            have hi2 := (e5.ext f2) _ _ hi1
            unfold roundEnd at h
            rw [cb_eq] at h
            split at h
            · rename_i hbusy
              injection h with h; injection h with h7 h8; subst h7; subst h8
              unfold isBusy at hbusy
              split at hbusy
              · rename_i fn3 n3 fr3 ps3 asg3 body3 d3 hg3
                simp only at hg3
                obtain ⟨hb3, tmps3, di3, ls3, pe3, fn3', t1, t2, t3, t4, t5⟩ := f5.loop hi2 hg3
                have fin : ∀ (j : Option Code), j = jumpOf Y → ∃ v w', (Instr.endRound i.blk j).run P w2 = .ok v w' ∧ CallPost cx base w0 μ H (.bool (jumpOf Y).isNone) (s2.H.put l (Blk.setLS (lsOf Y) (s2.H.get l))) (.returned v) w' := by
                  rintro j rfl
                  refine ⟨_, _, run_endRound (jumpOf Y) t1, _, rfl, ?_, μ2, e2.trans f2 e1, .bool _, ?_⟩
                  · simp only [Heap.next_put] at f1 e1 ⊢; omega
                  · refine RelW.turn f5 hi2 hg3 (lsOf Y) _ _ ?_ t1
                    cases Y <;> simp [lsOf, jumpOf, LS.fit]
                cases Y with
                | normal => exact fin none rfl
                | exit id => exact fin (some (.exit id)) rfl
                | ret => exact fin (some .ret) rfl
              · cases hbusy
            · cases h
          · cases hcond
        · cases h
      · cases h
end
end Go.Ab
end
end

section
section
namespace Go.Ab
open Go.RowKit
def T.allB {α : Type} (f : Nat → α → Bool) : T (Option α) → (Nat → Nat) → Bool
  | .nil, _ => true
  | .node v l r, φ => (match v with | some x => f (φ 0) x | none => true) && T.allB f l (fun n => φ (2 * n + 1)) && T.allB f r (fun n => φ (2 * n + 2))
theorem T.allB_get {α : Type} (f : Nat → α → Bool) : ∀ (t : T (Option α)) (φ : Nat → Nat), T.allB f t φ = true → ∀ n x, T.get none t n = some x → f (φ n) x = true := by
  intro t
  induction t with
  | nil => intro φ _ n x h; rw [T.get_nil] at h; cases h
  | node v l r ihl ihr =>
    intro φ h n x hx
    simp only [T.allB, Bool.and_eq_true] at h
    rw [T.get_node] at hx
    split at hx
    · rename_i h0
      subst h0
      rw [hx] at h
      exact h.1.1
    · split at hx
      · rename_i h0 h1
        have := ihl _ h.1.2 _ _ hx
        rwa [show 2 * (n / 2) + 1 = n from by omega] at this
      · rename_i h0 h1
        have := ihr _ h.2 _ _ hx
        rwa [show 2 * (n / 2 - 1) + 2 = n from by omega] at this
def T.All {α : Type} (p : Nat → α → Prop) : T (Option α) → (Nat → Nat) → Prop
  | .nil, _ => True
  | .node v l r, φ => (∀ x, v = some x → p (φ 0) x) ∧ T.All p l (fun n => φ (2 * n + 1)) ∧ T.All p r (fun n => φ (2 * n + 2))
theorem T.all_get {α : Type} (p : Nat → α → Prop) : ∀ (t : T (Option α)) (φ : Nat → Nat), T.All p t φ → ∀ n x, T.get none t n = some x → p (φ n) x := by
  intro t
  induction t with
  | nil => intro φ _ n x h; rw [T.get_nil] at h; cases h
  | node v l r ihl ihr =>
    intro φ h n x hx
    rw [T.get_node] at hx
    split at hx
    · rename_i h0; subst h0; exact h.1 x hx
    · split at hx
      · rename_i h0 h1
        have := ihl _ h.2.1 _ _ hx
        rwa [show 2 * (n / 2) + 1 = n from by omega] at this
      · rename_i h0 h1
        have := ihr _ h.2.2 _ _ hx
        rwa [show 2 * (n / 2 - 1) + 2 = n from by omega] at this
theorem T.All.some {α : Type} {p : Nat → α → Prop} {y : α} {k : Nat} (h : p k y) : ∀ x, Option.some y = Option.some x → p k x := fun x e => by injection e with e; subst e; exact h
theorem T.All.none {α : Type} {p : Nat → α → Prop} {k : Nat} : ∀ x, (Option.none : Option α) = Option.some x → p k x := fun x e => by cases e
def capZero (c : Option Nat) : Bool :=
  match c with
  | some x => Nat.beq x 0
  | none => false
mutual
def zeroB : AV → Value → Bool
  | .int k n, .int j m => decide (k = j) && ieqB n m
  | .bool a, .bool b => a == b
  | .str s, .string t => s.isEmpty && t.data.isEmpty
  | .ptr p, .pointer q => p.isNone && q.isNone
  | .slice p l c, .slice q m d => p.isNone && q.isNone && Nat.beq l 0 && Nat.beq m 0 && Nat.beq d 0 && capZero c
  | .map p, .map q => p.isNone && q.isNone
  | .nilFunc, .nilFunc => true
  | .nilIface, .nilIface => true
  | .agg xs, .agg ys => zeroBL xs ys.toList
  | .tuple xs, .tuple ys => zeroBL xs ys.toList
  | _, _ => false
def zeroBL : List AV → List Value → Bool
  | [], [] => true
  | x :: xs, y :: ys => zeroB x y && zeroBL xs ys
  | _, _ => false
end
mutual
theorem zeroB_rel {μ : Inj} : ∀ (a : AV) (v : Value), zeroB a v = true → RelV μ a v
  | .undef, v, h => by cases v <;> simp only [zeroB] at h <;> cases h
  | .int k n, v, h => by
    cases v <;> simp only [zeroB] at h <;> first | (cases h; done) | skip
    simp only [Bool.and_eq_true, decide_eq_true_eq] at h
    obtain ⟨rfl, h⟩ := h
    rw [ieqB_eq] at h
    rw [eq_of_beq h]; exact .int _ _
  | .bool b, v, h => by
    cases v <;> simp only [zeroB] at h <;> first | (cases h; done) | skip
    rw [eq_of_beq h]; exact .bool _
  | .str s, v, h => by
    cases v <;> simp only [zeroB] at h <;> first | (cases h; done) | skip
    rename_i t
    obtain ⟨d⟩ := t
    simp at h
    obtain ⟨rfl, rfl⟩ := h
    exact .str []
  | .ptr p, v, h => by
    cases v <;> simp only [zeroB] at h <;> first | (cases h; done) | skip
    simp at h
    obtain ⟨rfl, rfl⟩ := h
    exact .ptrN
  | .slice p l c, v, h => by
    cases v <;> simp only [zeroB] at h <;> first | (cases h; done) | skip
    simp only [Bool.and_eq_true, nbeq, decide_eq_true_eq, Option.isNone_iff_eq_none] at h
    obtain ⟨⟨⟨⟨⟨rfl, rfl⟩, rfl⟩, rfl⟩, rfl⟩, h⟩ := h
    unfold capZero at h
    split at h
    · rw [nbeq] at h
      have := of_decide_eq_true h
      subst this
      exact .sliceN
    · cases h
  | .map r, v, h => by
    cases v <;> simp only [zeroB] at h <;> first | (cases h; done) | skip
    simp at h
    obtain ⟨rfl, rfl⟩ := h
    exact .mapN
  | .func f x y, v, h => by cases v <;> simp only [zeroB] at h <;> cases h
  | .yield l, v, h => by cases v <;> simp only [zeroB] at h <;> cases h
  | .nilFunc, v, h => by
    cases v <;> simp only [zeroB] at h <;> first | (cases h; done) | skip
    exact .nilFunc
  | .iface t x, v, h => by cases v <;> simp only [zeroB] at h <;> cases h
  | .fsl _ _ _, v, h => by cases v <;> simp only [zeroB] at h <;> cases h
  | .fptr _, v, h => by cases v <;> simp only [zeroB] at h <;> cases h
  | .any, v, h => by cases v <;> simp only [zeroB] at h <;> cases h
  | .nilIface, v, h => by
    cases v <;> simp only [zeroB] at h <;> first | (cases h; done) | skip
    exact .nilIface
  | .agg xs, v, h => by
    cases v <;> simp only [zeroB] at h <;> first | (cases h; done) | skip
    rename_i ys
    have := RelV.agg (zeroBL_rel (μ := μ) xs ys.toList h)
    rwa [Array.toArray_toList] at this
  | .tuple xs, v, h => by
    cases v <;> simp only [zeroB] at h <;> first | (cases h; done) | skip
    rename_i ys
    have := RelV.tuple (zeroBL_rel (μ := μ) xs ys.toList h)
    rwa [Array.toArray_toList] at this
theorem zeroBL_rel {μ : Inj} : ∀ (a : List AV) (v : List Value), zeroBL a v = true → RelL μ a v
  | [], v, h => by
    cases v with
    | nil => exact .nil
    | cons y ys => simp only [zeroBL] at h; cases h
  | x :: xs, v, h => by
    cases v with
    | nil => simp only [zeroBL] at h; cases h
    | cons y ys =>
      simp only [zeroBL, Bool.and_eq_true] at h
      exact .cons (zeroB_rel x _ h.1) (zeroBL_rel xs _ h.2)
end
def fieldsB : List (Nat × TypeId) → List Field → Bool
  | [], [] => true
  | f :: fs, g :: gs => Nat.beq f.1 g.offset && Nat.beq f.2 g.type && decide (g.name ≠ "_") && fieldsB fs gs
  | _, _ => false
theorem fieldsB_eq : ∀ (fs : List (Nat × TypeId)) (gs : List Field), fieldsB fs gs = true → fs = gs.map (fun f => (f.offset, f.type)) ∧ ∀ f ∈ gs, f.name ≠ "_" := by
  intro fs
  induction fs with
  | nil => intro gs h; cases gs <;> simp [fieldsB] at h; exact ⟨rfl, fun f hf => by cases hf⟩
  | cons f fs ih =>
    intro gs h
    cases gs with
    | nil => simp [fieldsB] at h
    | cons g gs =>
      simp only [fieldsB, Bool.and_eq_true, nbeq, decide_eq_true_eq] at h
      obtain ⟨⟨⟨h1, h2⟩, h3⟩, h4⟩ := h
      obtain ⟨h5, h6⟩ := ih gs h4
      refine ⟨by rw [List.map_cons, ← h5, ← h1, ← h2], fun x hx => ?_⟩
      rcases List.mem_cons.1 hx with rfl | hx
      · exact h3
      · exact h6 x hx
def descB : AD → TypeDesc → Bool
  | .bool, .bool => true
  | .int k, .int k' => decide (k = k')
  | .string, .string => true
  | .ptr e, .pointer e' => Nat.beq e e'
  | .slice e, .slice e' => Nat.beq e e'
  | .array n e, .array n' e' => Nat.beq n n' && Nat.beq e e'
  | .map k e, .map k' e' => Nat.beq k k' && Nat.beq e e'
  | .struct fs, .struct gs => fieldsB fs gs.toList
  | .func, .func _ _ _ => true
  | .iface _, .interface _ => true
  | _, _ => false
theorem descB_ok {a : AD} {d : TypeDesc} (h : descB a d = true) : DescOK a d := by
  cases a <;> cases d <;> simp [descB, DescOK, nbeq] at h ⊢ <;> first | exact h | exact trivial | skip
  rename_i fs gs
  have := fieldsB_eq fs gs.toList h
  exact ⟨this.1, fun f hf => this.2 f (by simpa using hf)⟩
def tyB (P : Program) (t : TypeId) (ty : ATy) : Bool :=
  (match P.underlying t with | some d => descB ty.desc d | none => false) &&
  (match P.info? t with | some i => Nat.beq i.size ty.size && Nat.beq i.bytes ty.bytes && (match i.zero with | some z => zeroB ty.zero z | none => false) | none => false) &&
  Nat.beq ty.zero.cells.length ty.size && !(isAny ty.zero) &&
  (match P.underlying t with | some (.struct gs) => gs.toList.all fun f => (P.info? f.type).isSome | _ => true) &&
  (!ty.eqs || (!P.stoodInHeld t && !P.eqGuardType P.depth t))
theorem tyB_ok {P : Program} {t : TypeId} {ty : ATy} (h : tyB P t ty = true) : TyOK P t ty := by
  unfold tyB at h
  simp only [Bool.and_eq_true, nbeq] at h
  obtain ⟨⟨⟨⟨⟨h1, h2⟩, h3⟩, h3b⟩, h4⟩, h5⟩ := h
  refine ⟨?_, ?_, of_decide_eq_true h3, fun e => (by rw [e] at h3b; cases h3b), fun gs hg f hf => ?_, fun he => ?_⟩
  · split at h1
    · rename_i d hd; exact ⟨d, hd, descB_ok h1⟩
    · cases h1
  · split at h2
    · rename_i i hi
      simp only [Bool.and_eq_true, decide_eq_true_eq] at h2
      obtain ⟨⟨h6, h7⟩, h8⟩ := h2
      split at h8
      · rename_i z hz; exact ⟨i, z, hi, h6, h7, hz, zeroB_rel _ _ h8⟩
      · cases h8
    · cases h2
  · rw [hg] at h4
    simp only at h4
    have := List.all_eq_true.1 h4 f hf
    exact Option.isSome_iff_exists.1 this
  · rw [he] at h5
    simpa using h5
def FnRow (P : Program) (k : Nat) (fn : Func) : Prop := P.funcs[k]? = some fn ∧ (fn.name == "runtime.NumGoroutine") = false ∧ fn.body.isNone = false
theorem cx_ok {P : Program} {tys : T (Option ATy)} {fns : T (Option Func)} {sum : FuncId → List AV → Heap → Option (AV × Heap)} {loop : FuncId → Nat → Option LSum} (ht : T.allB (tyB P) tys (fun n => n) = true) (hf : T.All (FnRow P) fns (fun n => n)) (ho : P.follows .mixedOrders = true) :
    CxOK P { ty := T.get none tys, fn := T.get none fns, sum := sum, loop := loop } :=
  ⟨fun t ty h => tyB_ok (T.allB_get _ tys _ ht t ty h), fun f fn h => T.all_get _ fns _ hf f fn h, ho⟩
theorem calls_of_aCall {P : Program} {cx : Cx} (hcx : CxOK P cx) {w : World} (hsum : SumOK P cx (Old w) w) (hloop : LoopsOK P cx (Old w) w) {f : Nat} {g : FuncId} {args : List AV} {H H' : Heap} {v : AV} {μ : Inj} {xs : List Value}
    (h : aCall cx f (.fn g) args H = some (v, H')) (hw : RelW (szOf cx) (Old w) w μ H w) (hr : RelL μ args xs) :
    Calls P g xs.toArray w fun e w' => ∃ Z μ', e = .returned Z ∧ RelV μ' v Z ∧ Below w.heap.size w w' := by
  have h1 := ((aCall_sound hcx hsum hloop f).fn h hw hr).2 none 0
  refine (callsIn_wide.1 h1).mono ?_
  rintro e w' ⟨Z, rfl, _, μ', _, hv, hw'⟩
  exact ⟨Z, μ', rfl, hv, hw'.below.below⟩
def H0 : Heap := { next := 0, m := .nil }
end Go.Ab
end
end

section
noncomputable section
namespace Go.Ab
inductive Cnd where
  | tst (b o : Bool)
  | same (a b : AV)
  | code (a b : Code)
inductive Ans where
  | s
  | c (q : Ans)
  | y (q : Ans)
  | z (q : Ans)
  | b (q r : Ans)
def Cnd.ok : Cnd → Prop
  | .tst b o => b = o
  | .same a b => a = b
  | .code a b => a = b
def Sm (a : AV) : Prop := a = a
def Sc (a : Code) : Prop := a = a
abbrev S (α : Type) := Ans → (α → Ans → Prop) → Prop
def S.pure {α : Type} (a : α) : S α := fun q P => P a q
def S.bind {α β : Type} (m : S α) (k : α → S β) : S β := fun q P => m q fun a q' => k a q' P
def S.fail {α : Type} : S α := fun _ _ => False
def S.lift {α : Type} (o : Option α) : S α := fun q P => Option.rec (motive := fun _ => Prop) False (fun a => P a q) o
def S.note {α : Type} (c : Cnd) (k : S α) : S α := fun q P => c.ok ∧ k q P
def S.ask {α : Type} (c y z : S α) : S α := fun q P => Ans.rec (motive := fun _ => Prop) False (fun r _ => c r P) (fun r _ => y r P) (fun r _ => z r P) (fun _ _ _ _ => False) q
def S.must {α : Type} (b : Bool) (k : S α) : S α := S.ask (cb b k S.fail) (S.note (.tst b true) k) S.fail
def S.test {α : Type} (b : Bool) (y n : S α) : S α := fun q P => Ans.rec (motive := fun _ => Prop) False (fun r _ => cb b y n r P) (fun r _ => b = true ∧ y r P) (fun r _ => b = false ∧ n r P) (fun r1 r2 _ _ => (b = true → y r1 P) ∧ (b = false → n r2 P)) q
def Snd {α : Type} (m : S α) (o : Option α) : Prop := ∀ q P, m q P → ∃ r q', o = some r ∧ P r q'
section snd
variable {α β : Type}
theorem Snd.pure (a : α) : Snd (S.pure a) (some a) := fun q P h => ⟨a, q, rfl, h⟩
theorem Snd.fail (o : Option α) : Snd (S.fail : S α) o := fun q P h => h.elim
theorem Snd.lift (o : Option α) : Snd (S.lift o) o := fun q P h => by
  cases o with
  | none => exact h.elim
  | some a => exact ⟨a, q, rfl, h⟩
theorem Snd.bind {m : S α} {o : Option α} {k : α → S β} {f : α → Option β} (hm : Snd m o) (hk : ∀ a, o = some a → Snd (k a) (f a)) : Snd (S.bind m k) (o.ob f) := fun q P h => by
  obtain ⟨a, q1, e, h1⟩ := hm q _ h
  rw [e]
  exact hk a e q1 P h1
theorem Snd.note {c : Cnd} {k : S α} {o : Option α} (h : c.ok → Snd k o) : Snd (S.note c k) o := fun q P hm => h hm.1 q P hm.2
theorem Snd.ask {c y z : S α} {o : Option α} (hc : Snd c o) (hy : Snd y o) (hz : Snd z o) : Snd (S.ask c y z) o := fun q P h => by
  cases q with
  | s => exact h.elim
  | c r => exact hc r P h
  | y r => exact hy r P h
  | z r => exact hz r P h
  | b r t => exact h.elim
theorem Snd.must {b : Bool} {k : S α} {o : Option α} (h : b = true → Snd k o) : Snd (S.must b k) o := by
  refine Snd.ask ?_ (Snd.note h) (Snd.fail _)
  cases b with
  | true => exact h rfl
  | false => exact Snd.fail _
theorem Snd.test {b : Bool} {y n : S α} {o : Option α} (hy : b = true → Snd y o) (hn : b = false → Snd n o) : Snd (S.test b y n) o := fun q P h => by
  cases q with
  | s => exact h.elim
  | c r =>
    cases b with
    | true => exact hy rfl r P h
    | false => exact hn rfl r P h
  | y r => exact hy h.1 r P h.2
  | z r => exact hn h.1 r P h.2
  | b r t =>
    cases hb : b with
    | true => exact hy hb r P (h.1 hb)
    | false => exact hn hb t P (h.2 hb)
theorem Snd.cb_must {b : Bool} {k : S α} {o : Option α} (h : b = true → Snd k o) : Snd (S.must b k) (cb b o none) := Snd.must fun hb => by rw [hb]; exact h hb
theorem Snd.cb_test {b : Bool} {y n : S α} {o p : Option α} (hy : b = true → Snd y o) (hn : b = false → Snd n p) : Snd (S.test b y n) (cb b o p) :=
  Snd.test (fun hb => by rw [hb]; exact hy hb) (fun hb => by rw [hb]; exact hn hb)
theorem Snd.of_eq {m : S α} {o o' : Option α} (h : Snd m o) (e : o = o') : Snd m o' := e ▸ h
theorem Snd.cb_bool {b : Bool} {y n : S α} {o p : Option α} (hy : Snd y o) (hn : Snd n p) : Snd (cb b y n) (cb b o p) := by
  cases b
  · exact hn
  · exact hy
end snd
def AV.isInt (k : IntKind) : AV → Bool
  | .int j _ => decide (j = k)
  | _ => false
def AV.intOf : AV → Int
  | .int _ n => n
  | _ => 0
def AV.isBool : AV → Bool
  | .bool _ => true
  | _ => false
def AV.boolOf : AV → Bool
  | .bool b => b
  | _ => false
def AV.isStr : AV → Bool
  | .str _ => true
  | _ => false
def AV.strOf : AV → List UInt8
  | .str s => s
  | _ => []
def AV.isRow : AV → Bool
  | .slice _ _ _ => true
  | .fsl _ _ _ => true
  | _ => false
def AV.isFsl : AV → Bool
  | .fsl _ _ _ => true
  | _ => false
def AV.fslNil : AV → Bool
  | .fsl n _ _ => n
  | _ => false
def AV.fslLen : AV → Nat
  | .fsl _ n _ => n
  | _ => 0
def AV.fslCells : AV → List AV
  | .fsl _ _ cs => cs
  | _ => []
def castRow (v : AV) : S AV := S.ask (cb v.isRow (S.pure v) S.fail) (S.note (.tst v.isFsl true) (S.pure (.fsl v.fslNil v.fslLen v.fslCells))) (S.pure v)
theorem castRow_snd (v : AV) : Snd (castRow v) (some v) := by
  refine Snd.ask ?_ (Snd.note fun h => ?_) (Snd.pure _)
  · cases v.isRow
    · exact Snd.fail _
    · exact Snd.pure _
  · cases v <;> simp [Cnd.ok, AV.isFsl] at h
    exact Snd.pure _
def cA (cs : List AV) (i : Nat) : AV := (listAt cs i).getD .undef
def castS (d : AD) (v : AV) : S AV :=
  match d with
  | .int k => S.must (v.isInt k) (S.pure (.int k v.intOf))
  | .bool => S.must v.isBool (S.pure (.bool v.boolOf))
  | .string => S.must v.isStr (S.pure (.str v.strOf))
  | .slice _ => castRow v
  | _ => S.pure v
theorem castS_snd (d : AD) (v : AV) : Snd (castS d v) (some v) := by
  unfold castS
  split
  · refine Snd.must fun h => ?_
    cases v <;> simp [AV.isInt] at h
    subst h; exact Snd.pure _
  · refine Snd.must fun h => ?_
    cases v <;> simp [AV.isBool] at h
    exact Snd.pure _
  · refine Snd.must fun h => ?_
    cases v <;> simp [AV.isStr] at h
    exact Snd.pure _
  · exact castRow_snd v
  · exact Snd.pure v
def atS (d : AD) (cs : List AV) (n : Nat) : S AV := S.must (Nat.ble (Nat.succ n) cs.length) (castS d ((listAt cs n).getD .undef))
theorem atS_snd (d : AD) (cs : List AV) (n : Nat) : Snd (atS d cs n) (listAt cs n) := by
  refine Snd.must fun h => ?_
  have hlt : n < cs.length := by
    have := Nat.le_of_ble_eq_true h; omega
  rw [listAt_eq, List.getElem?_eq_getElem hlt]
  exact castS_snd d _
def adsOf (ty : TypeId → Option ATy) (f : Nat) : TypeId → Option (List AD) :=
  Nat.rec (motive := fun _ => TypeId → Option (List AD)) (fun _ => none) (fun _ go t => (ty t).ob fun a => match a.desc with
    | .struct fs => List.rec (motive := fun _ => Option (List AD)) (some []) (fun x _ r => (go x.2).ob fun l => r.ob fun m => some (l ++ m)) fs
    | .array n e => cb (Nat.ble n 8) ((go e).ob fun l => some (reps n l)) none
    | d => some [d]) f
def eachS (cs : List AV) (ds : List AD) : Nat → S (List AV) :=
  List.rec (motive := fun _ => Nat → S (List AV)) (fun _ => S.pure []) (fun d _ r off => S.bind (atS d cs off) fun v => S.bind (r (off + 1)) fun l => S.pure (v :: l)) ds
theorem Snd.some {α : Type} {m : S α} {o o' : Option α} (h : Snd m o) (e : ∀ r, o = some r → o' = some r) : Snd m o' := fun q P hm => by
  obtain ⟨r, q', h1, h2⟩ := h q P hm
  exact ⟨r, q', e r h1, h2⟩
theorem eachS_snd (cs : List AV) : ∀ (ds : List AD) (off : Nat), Snd (eachS cs ds off) (some (rowCut cs off ds.length)) := by
  intro ds
  induction ds with
  | nil => intro off; show Snd (S.pure []) _; simp only [List.length_nil, rowCut, List.take_zero]; exact Snd.pure _
  | cons d ds ih =>
    intro off
    refine Snd.some (m := S.bind (atS d cs off) fun v => S.bind (eachS cs ds (off + 1)) fun l => S.pure (v :: l)) (Snd.bind (atS_snd d cs off) fun v _ => Snd.bind (ih (off + 1)) fun l _ => Snd.pure (v :: l)) fun r hr => ?_
    rw [listAt_eq] at hr
    cases hx : cs[off]? with
    | none => rw [hx] at hr; cases hr
    | some v =>
      rw [hx] at hr
      simp only [ob_some] at hr
      injection hr with hr
      rw [← hr]
      obtain ⟨hlt, hv⟩ := List.getElem?_eq_some_iff.1 hx
      unfold rowCut
      rw [List.drop_eq_getElem_cons hlt, hv]
      rfl
def aggS (cx : Cx) (t : TypeId) (cs : List AV) (off n : Nat) : S AV :=
  cb cx.exp (match adsOf cx.ty 20 t with
    | some ds => cb (Nat.beq ds.length n && Nat.ble 1 n && Nat.ble n 24) (S.bind (eachS cs ds off) fun l => S.pure (.agg l)) (S.pure (.agg (rowCut cs off n)))
    | none => S.pure (.agg (rowCut cs off n))) (S.pure (.agg (rowCut cs off n)))
theorem aggS_snd (cx : Cx) (t : TypeId) (cs : List AV) (off n : Nat) : Snd (aggS cx t cs off n) (some (.agg (rowCut cs off n))) := by
  unfold aggS
  cases cx.exp with
  | false => exact Snd.pure _
  | true =>
    rw [cb_true]
    split
    · rename_i ds _
      cases hb : (Nat.beq ds.length n && Nat.ble 1 n && Nat.ble n 24) with
      | false => exact Snd.pure _
      | true =>
        rw [cb_true]
        simp only [Bool.and_eq_true] at hb
        have := Nat.eq_of_beq_eq_true hb.1.1
        subst this
        exact Snd.bind (eachS_snd cs ds off) fun l _ => Snd.pure _
    · exact Snd.pure _
def cellsS (H : Heap) (p : Nat × Nat) (n : Nat) : S (List AV) :=
  match H.get p.1 with
  | .cells _ _ len cs => S.must (Nat.ble (p.2 + n) len) (S.pure (rowCut cs p.2 n))
  | _ => S.fail
theorem cellsS_snd (H : Heap) (p : Nat × Nat) (n : Nat) : Snd (cellsS H p n) (cellsAt H p n) := by
  unfold cellsS cellsAt
  cases hg : H.get p.1 <;> (try simp only)
  case cells own e len cs =>
    refine Snd.must fun h => ?_
    rw [if_pos (Nat.le_of_ble_eq_true h)]; exact Snd.pure _
  all_goals exact Snd.fail _
def storeS (H : Heap) (p : Nat × Nat) (vs : List AV) : S Heap :=
  match H.get p.1 with
  | .cells true e len cs => S.must (vs.all AV.isCell) (S.must (Nat.ble (p.2 + vs.length) len) (S.pure (H.put p.1 (.cells true e len (rowSet cs p.2 vs)))))
  | _ => S.fail
theorem storeS_snd (H : Heap) (p : Nat × Nat) (vs : List AV) : Snd (storeS H p vs) (storeAt H p vs) := by
  unfold storeS storeAt
  cases hg : H.get p.1 <;> (try simp only)
  case cells own e len cs =>
    cases own
    · exact Snd.fail _
    · try simp only
      refine Snd.must fun h1 => Snd.must fun h2 => ?_
      rw [if_pos ⟨h1, Nat.le_of_ble_eq_true h2⟩]; exact Snd.pure _
  all_goals first | exact Snd.fail _ | skip
def loadS0 (cx : Cx) (t : TypeId) (H : Heap) (x : AV) : S AV :=
  match cx.ty t, x with
  | some ty, .ptr (some p) =>
    cb (isAggB ty.desc) (match H.get p.1 with
      | .cells _ _ len cs => S.must (Nat.ble (p.2 + ty.size) len) (aggS cx t cs p.2 ty.size)
      | _ => S.fail)
      (match H.get p.1 with
      | .cells _ _ len cs => S.must (Nat.ble (Nat.succ p.2) len) (atS ty.desc cs p.2)
      | _ => S.fail)
  | _, _ => S.fail
theorem loadS0_snd (cx : Cx) (t : TypeId) (H : Heap) (x : AV) : Snd (loadS0 cx t H x) (aLoad0 cx t H x) := by
  unfold loadS0 aLoad0
  cases ht : cx.ty t <;> (try simp only)
  · exact Snd.fail _
  rename_i ty
  cases x <;> try exact Snd.fail _
  rename_i p
  cases p
  · exact Snd.fail _
  rename_i p
  try simp only
  cases h : isAggB ty.desc with
  | true =>
    rw [if_pos rfl]
    unfold cellsAt
    cases hg : H.get p.1 <;> (try simp only)
    case cells own e len cs =>
      simp only [cb_true]
      refine Snd.must fun h => ?_
      rw [if_pos (Nat.le_of_ble_eq_true h)]; exact aggS_snd _ _ _ _ _
    all_goals exact Snd.fail _
  | false =>
    rw [if_neg (by simp)]
    simp only [cb_false]
    cases hg : H.get p.1 <;> (try simp only)
    case cells own e len cs =>
      refine Snd.must fun h => ?_
      have h' : p.2 < len := Nat.le_of_ble_eq_true h
      rw [if_pos h']; exact atS_snd _ _ _
    all_goals exact Snd.fail _
def fLoadS (cx : Cx) (t : TypeId) (cs : List AV) : S AV :=
  S.bind (S.lift (cx.ty t)) fun ty => cb (isAggB ty.desc) (S.must (Nat.ble ty.size cs.length) (aggS cx t cs 0 ty.size)) (atS ty.desc cs 0)
theorem fLoadS_snd (cx : Cx) (t : TypeId) (cs : List AV) : Snd (fLoadS cx t cs) (fLoad cx t cs) :=
  Snd.bind (Snd.lift _) fun ty _ => Snd.cb_bool (Snd.cb_must fun _ => aggS_snd _ _ _ _ _) (atS_snd _ _ _)
def loadS (cx : Cx) (t : TypeId) (H : Heap) (x : AV) : S AV :=
  match x with
  | .fptr cs => fLoadS cx t cs
  | x => loadS0 cx t H x
theorem loadS_snd (cx : Cx) (t : TypeId) (H : Heap) (x : AV) : Snd (loadS cx t H x) (aLoad cx t H x) := by
  by_cases h : ∃ cs, x = .fptr cs
  · obtain ⟨cs, rfl⟩ := h; exact fLoadS_snd cx t cs
  · have e1 : loadS cx t H x = loadS0 cx t H x := by cases x <;> first | rfl | exact absurd ⟨_, rfl⟩ h
    have e2 : aLoad cx t H x = aLoad0 cx t H x := by cases x <;> first | rfl | exact absurd ⟨_, rfl⟩ h
    rw [e1, e2]; exact loadS0_snd cx t H x
def aStoreS (cx : Cx) (t : TypeId) (H : Heap) (x v : AV) : S Heap :=
  match cx.ty t, x with
  | some ty, .ptr (some p) => S.must (Nat.beq v.cells.length ty.size) (storeS H p v.cells)
  | _, _ => S.fail
theorem aStoreS_snd (cx : Cx) (t : TypeId) (H : Heap) (x v : AV) : Snd (aStoreS cx t H x v) (aStore cx t H x v) := by
  unfold aStoreS aStore
  cases ht : cx.ty t <;> (try simp only)
  · exact Snd.fail _
  cases x <;> try exact Snd.fail _
  rename_i p
  cases p
  · exact Snd.fail _
  try simp only
  refine Snd.must fun h => ?_
  rw [if_pos (Nat.eq_of_beq_eq_true h)]; exact storeS_snd _ _ _
def partS (cx : Cx) (t : TypeId) (cs : List AV) (off : Nat) : S AV :=
  match cx.ty t with
  | some ty => cb (isAggB ty.desc) (S.must (Nat.ble (off + ty.size) cs.length) (aggS cx t cs off ty.size)) (atS ty.desc cs off)
  | none => S.fail
theorem partS_snd (cx : Cx) (t : TypeId) (cs : List AV) (off : Nat) : Snd (partS cx t cs off) (aPart cx t cs off) := by
  unfold partS aPart
  cases ht : cx.ty t <;> (try simp only)
  · exact Snd.fail _
  rename_i ty
  cases h : isAggB ty.desc with
  | true =>
    rw [if_pos rfl]
    refine Snd.must fun h => ?_
    rw [if_pos (Nat.le_of_ble_eq_true h)]; exact aggS_snd _ _ _ _ _
  | false => rw [if_neg (by simp)]; exact atS_snd _ _ _
def fillS (place : Nat → Option (Nat × Nat)) (cells : List AV) : List (Nat × AV) → S (List AV)
  | [] => S.pure cells
  | (i, v) :: rest => S.bind (S.lift (place i)) fun q => S.must (Nat.beq v.cells.length q.2) (S.must (Nat.ble (q.1 + q.2) cells.length) (fillS place (rowSet cells q.1 v.cells) rest))
theorem fillS_snd (place : Nat → Option (Nat × Nat)) : ∀ (ps : List (Nat × AV)) (cells : List AV), Snd (fillS place cells ps) (fillParts place cells ps) := by
  intro ps
  induction ps with
  | nil => intro cells; exact Snd.pure _
  | cons p ps ih =>
    intro cells
    obtain ⟨i, v⟩ := p
    have : fillParts place cells ((i, v) :: ps) = (place i).ob fun q => if v.cells.length = q.2 ∧ q.1 + q.2 ≤ cells.length then fillParts place (rowSet cells q.1 v.cells) ps else none := by
      simp only [fillParts]
      cases place i <;> rfl
    rw [this]
    refine Snd.bind (Snd.lift _) fun q _ => Snd.must fun h1 => Snd.must fun h2 => ?_
    rw [if_pos ⟨Nat.eq_of_beq_eq_true h1, Nat.le_of_ble_eq_true h2⟩]
    exact ih _
def buildS (cx : Cx) (t : TypeId) (parts : List (Nat × AV)) : S AV :=
  match cx.ty t with
  | some ty =>
    match ty.desc with
    | .struct fs => S.bind (fillS (fun i => (listAt fs i).ob fun f => (cx.ty f.2).ob fun ft => some (f.1, ft.size)) ty.zero.cells parts) fun cs => S.pure (.agg cs)
    | .array _ e => match cx.ty e with
      | some et => S.bind (fillS (fun i => some (i * et.size, et.size)) ty.zero.cells parts) fun cs => S.pure (.agg cs)
      | none => S.fail
    | _ => S.fail
  | none => S.fail
theorem buildS_snd (cx : Cx) (t : TypeId) (parts : List (Nat × AV)) : Snd (buildS cx t parts) (aBuild cx t parts) := by
  unfold buildS aBuild
  cases ht : cx.ty t <;> (try simp only)
  · exact Snd.fail _
  rename_i ty
  cases hd : ty.desc <;> (try simp only) <;> try exact Snd.fail _
  · rename_i n e
    cases he : cx.ty e <;> (try simp only)
    · exact Snd.fail _
    · exact Snd.bind (fillS_snd _ _ _) fun cs _ => Snd.pure _
  · exact Snd.bind (fillS_snd _ _ _) fun cs _ => Snd.pure _
def buildSliceS (cx : Cx) (t : TypeId) (len : Nat) (parts : List (Nat × AV)) : S Made :=
  match cx.ty t with
  | some { desc := .slice e, .. } =>
    match cx.ty e with
    | some et => S.must (Nat.ble (len * et.size) 16777216) (S.bind (fillS (fun i => some (i * et.size, et.size)) (reps len et.zero.cells) parts) fun cs =>
          S.pure (fun b => .slice (some (b, 0)) len (some len), mkCells true e cs))
    | none => S.fail
  | _ => S.fail
theorem buildSliceS_snd (cx : Cx) (t : TypeId) (len : Nat) (parts : List (Nat × AV)) : Snd (buildSliceS cx t len parts) (aBuildSlice cx t len parts) := by
  unfold buildSliceS aBuildSlice
  cases ht : cx.ty t <;> (try simp only)
  · exact Snd.fail _
  rename_i ty
  obtain ⟨desc, size, bytes, zero, eqs⟩ := ty
  cases desc <;> try exact Snd.fail _
  rename_i e
  try simp only
  cases he : cx.ty e <;> (try simp only)
  · exact Snd.fail _
  refine Snd.must fun h => ?_
  rw [if_pos (Nat.le_of_ble_eq_true h)]
  exact Snd.bind (fillS_snd _ _ _) fun cs _ => Snd.pure _
def makeSliceS (cx : Cx) (t : TypeId) (l c : AV) : S Made :=
  match cx.ty t, l, c with
  | some { desc := .slice e, .. }, .int _ len, .int _ cap =>
    match cx.ty e with
    | some et => S.must (ileB 0 len) (S.must (ileB len cap) (S.must (iltB cap 9223372036854775808) (S.must (ileB (et.bytes * cap) 281474976710656)
        (S.pure (fun b => .slice (some (b, 0)) len.toNat (some cap.toNat), mkCells true e (reps cap.toNat (frzL et.zero.cells)))))))
    | none => S.fail
  | _, _, _ => S.fail
theorem makeSliceS_snd (cx : Cx) (t : TypeId) (l c : AV) : Snd (makeSliceS cx t l c) (aMakeSlice cx t l c) := by
  unfold makeSliceS aMakeSlice
  cases ht : cx.ty t <;> (try simp only)
  · exact Snd.fail _
  rename_i ty
  obtain ⟨desc, size, bytes, zero, eqs⟩ := ty
  cases desc <;> try exact Snd.fail _
  cases l <;> try exact Snd.fail _
  cases c <;> try exact Snd.fail _
  rename_i e _ _ _ _
  try simp only
  cases he : cx.ty e <;> (try simp only)
  · exact Snd.fail _
  refine Snd.must fun h1 => Snd.must fun h2 => Snd.must fun h3 => Snd.must fun h4 => ?_
  rw [ileB_eq] at h1 h2 h4
  rw [iltB_eq] at h3
  rw [if_pos ⟨of_decide_eq_true h1, of_decide_eq_true h2, of_decide_eq_true h3, of_decide_eq_true h4⟩]
  exact Snd.pure _
def intS (op : BinOp) (k : IntKind) (a b : Int) : S AV :=
  match op with
  | .quo => S.must (!(ieqB b 0)) (S.pure (.int k (wrapA k (a.tdiv b))))
  | .rem => S.must (!(ieqB b 0)) (S.pure (.int k (a.tmod b)))
  | op => S.lift (aInt op k a b)
theorem intS_snd (op : BinOp) (k : IntKind) (a b : Int) : Snd (intS op k a b) (aInt op k a b) := by
  unfold intS
  split
  · refine Snd.must fun h => ?_
    simp only [Bool.not_eq_true'] at h
    simp only [aInt, iQuo, h, cb_false]; exact Snd.pure _
  · refine Snd.must fun h => ?_
    simp only [Bool.not_eq_true'] at h
    simp only [aInt, iRem, h, cb_false]; exact Snd.pure _
  · exact Snd.lift _
def binIntS (op : BinOp) (k : IntKind) (a : Int) (k' : IntKind) (b : Int) : S AV :=
  match op with
  | .shl => S.must (!(iltB b 0)) (S.pure (.int k (shlN k a (shN k b.toNat))))
  | .shr => S.must (!(iltB b 0)) (S.pure (.int k (shrN a (shN k b.toNat))))
  | op => cb (decide (k = k')) (intS op k a b) S.fail
theorem binIntS_snd (op : BinOp) (k : IntKind) (a : Int) (k' : IntKind) (b : Int) : Snd (binIntS op k a k' b) (binInt op k a k' b) := by
  unfold binIntS
  split
  · refine Snd.must fun h => ?_
    simp only [Bool.not_eq_true'] at h
    simp only [binInt, shl, h, cb_false]; exact Snd.pure _
  · refine Snd.must fun h => ?_
    simp only [Bool.not_eq_true'] at h
    simp only [binInt, shr, h, cb_false]; exact Snd.pure _
  · rename_i h1 h2
    have e : binInt op k a k' b = if k = k' then aInt op k a b else none := by
      cases op <;> first | rfl | exact absurd rfl h1 | exact absurd rfl h2
    rw [e]
    by_cases hk : k = k'
    · rw [if_pos hk, decide_eq_true hk]; exact intS_snd op k a b
    · rw [if_neg hk, decide_eq_false hk]; exact Snd.fail _
def strS (op : BinOp) (a b : List UInt8) : S AV :=
  match op with
  | .add => S.must (Nat.ble (a.length + b.length) 9223372036854775807) (S.pure (.str (a ++ b)))
  | op => S.lift (aStr op a b)
theorem strS_snd (op : BinOp) (a b : List UInt8) : Snd (strS op a b) (aStr op a b) := by
  unfold strS
  split
  · refine Snd.must fun h => ?_
    simp only [aStr, sAdd]
    rw [if_pos (Nat.le_of_ble_eq_true h)]; exact Snd.pure _
  · exact Snd.lift _
abbrev EqS := TypeId → AV → AV → S Bool
def eqFieldsS (cx : Cx) (eq : EqS) (xs ys : List AV) : List (Nat × TypeId) → S Bool
  | [] => S.pure true
  | f :: fs => S.bind (partS cx f.2 xs f.1) fun x => S.bind (partS cx f.2 ys f.1) fun y => S.bind (eq f.2 x y) fun b => S.bind (eqFieldsS cx eq xs ys fs) fun c => S.pure (b && c)
def eqElemsS (cx : Cx) (eq : EqS) (e : TypeId) (sz : Nat) (xs ys : List AV) : Nat → Nat → S Bool
  | 0, _ => S.pure true
  | n + 1, i => S.bind (partS cx e xs (i * sz)) fun x => S.bind (partS cx e ys (i * sz)) fun y => S.bind (eq e x y) fun b => S.bind (eqElemsS cx eq e sz xs ys n (i + 1)) fun c => S.pure (b && c)
theorem andS_snd {m : S Bool} {o : Option Bool} (h : Snd m o) (b : Bool) : Snd (S.bind m fun c => S.pure (b && c)) (cb b o (some false)) := by
  cases b with
  | true =>
    intro q P hm
    obtain ⟨r, q', e, hp⟩ := Snd.bind h (k := fun c => S.pure (true && c)) (f := fun c => some (true && c)) (fun a _ => Snd.pure _) q P hm
    refine ⟨r, q', ?_, hp⟩
    cases o with
    | none => cases e
    | some d => simpa using e
  | false =>
    intro q P hm
    obtain ⟨r, q', e, hp⟩ := Snd.bind h (k := fun c => S.pure (false && c)) (f := fun c => some (false && c)) (fun a _ => Snd.pure _) q P hm
    refine ⟨r, q', ?_, hp⟩
    cases o with
    | none => cases e
    | some d => simpa using e
theorem eqFieldsS_snd (cx : Cx) {eqs : EqS} {eq : EqF} (h : ∀ t x y, Snd (eqs t x y) (eq t x y)) (xs ys : List AV) : ∀ fs, Snd (eqFieldsS cx eqs xs ys fs) (eqFields cx eq xs ys fs) := by
  intro fs
  induction fs with
  | nil => exact Snd.pure _
  | cons f fs ih => exact Snd.bind (partS_snd _ _ _ _) fun x _ => Snd.bind (partS_snd _ _ _ _) fun y _ => Snd.bind (h _ _ _) fun b _ => andS_snd ih b
theorem eqElemsS_snd (cx : Cx) {eqs : EqS} {eq : EqF} (h : ∀ t x y, Snd (eqs t x y) (eq t x y)) (e : TypeId) (sz : Nat) (xs ys : List AV) : ∀ n i, Snd (eqElemsS cx eqs e sz xs ys n i) (eqElems cx eq e sz xs ys n i) := by
  intro n
  induction n with
  | zero => intro i; exact Snd.pure _
  | succ n ih => intro i; exact Snd.bind (partS_snd _ _ _ _) fun x _ => Snd.bind (partS_snd _ _ _ _) fun y _ => Snd.bind (h _ _ _) fun b _ => andS_snd (ih _) b
def eqAtS (cx : Cx) (eqs : EqS) (eq : EqF) (ty : ATy) (x y : AV) : S Bool :=
  match ty.desc with
  | .struct fs => cb ty.eqs (S.bind (S.lift x.agg?) fun xs => S.bind (S.lift y.agg?) fun ys => eqFieldsS cx eqs xs ys fs) S.fail
  | .array n e => cb ty.eqs (S.bind (S.lift x.agg?) fun xs => S.bind (S.lift y.agg?) fun ys => S.bind (S.lift (cx.ty e)) fun et => eqElemsS cx eqs e et.size xs ys n 0) S.fail
  | _ => S.lift (eqAt cx eq ty x y)
theorem eqAtS_snd (cx : Cx) {eqs : EqS} {eq : EqF} (h : ∀ t x y, Snd (eqs t x y) (eq t x y)) (ty : ATy) (x y : AV) : Snd (eqAtS cx eqs eq ty x y) (eqAt cx eq ty x y) := by
  unfold eqAtS
  split
  · rename_i fs hd
    simp only [eqAt, hd, eqAgg]
    exact Snd.cb_bool (Snd.bind (Snd.lift _) fun xs _ => Snd.bind (Snd.lift _) fun ys _ => eqFieldsS_snd cx h xs ys fs) (Snd.fail _)
  · rename_i n e hd
    simp only [eqAt, hd, eqAgg]
    exact Snd.cb_bool (Snd.bind (Snd.lift _) fun xs _ => Snd.bind (Snd.lift _) fun ys _ => Snd.bind (Snd.lift _) fun et _ => eqElemsS_snd cx h e et.size xs ys n 0) (Snd.fail _)
  · exact Snd.lift _
def eqS (cx : Cx) : Nat → EqS
  | 0, _, _, _ => S.fail
  | d + 1, t, x, y => S.bind (S.lift (cx.ty t)) fun ty => eqAtS cx (eqS cx d) (aEq cx d) ty x y
theorem eqS_snd (cx : Cx) : ∀ d t x y, Snd (eqS cx d t x y) (aEq cx d t x y) := by
  intro d
  induction d with
  | zero => intro t x y; exact Snd.fail _
  | succ d ih => intro t x y; exact Snd.bind (Snd.lift _) fun ty _ => eqAtS_snd cx ih ty x y
def binOtherS0 (cx : Cx) (op : BinOp) (t : TypeId) (x y : AV) : S AV :=
  match op with
  | .eql => S.bind (eqS cx 100 t x y) fun b => S.pure (.bool b)
  | .neq => S.bind (eqS cx 100 t x y) fun b => S.pure (.bool !b)
  | _ => S.fail
def binOtherS (cx : Cx) (op : BinOp) (t : TypeId) (x y : AV) : S AV :=
  match x with
  | .fsl nl _ _ => cb y.isNil (S.lift (fNil cx op t nl)) S.fail
  | x => match y with
    | .fsl nl _ _ => cb x.isNil (S.lift (fNil cx op t nl)) S.fail
    | y => binOtherS0 cx op t x y
theorem binOtherS0_snd (cx : Cx) (op : BinOp) (t : TypeId) (x y : AV) : Snd (binOtherS0 cx op t x y) (binOther0 cx op t x y) := by
  unfold binOtherS0 binOther0
  split
  · exact Snd.bind (eqS_snd cx 100 t x y) fun b _ => Snd.pure _
  · exact Snd.bind (eqS_snd cx 100 t x y) fun b _ => Snd.pure _
  · exact Snd.fail _
theorem binOtherS_snd (cx : Cx) (op : BinOp) (t : TypeId) (x y : AV) : Snd (binOtherS cx op t x y) (binOther cx op t x y) := by
  by_cases h : ∃ a b cs, x = .fsl a b cs
  · obtain ⟨a, b, cs, rfl⟩ := h; exact Snd.cb_bool (Snd.lift _) (Snd.fail _)
  · by_cases h2 : ∃ a b cs, y = .fsl a b cs
    · obtain ⟨a, b, cs, rfl⟩ := h2
      have e1 : binOtherS cx op t x (.fsl a b cs) = cb x.isNil (S.lift (fNil cx op t a)) S.fail := by cases x <;> first | rfl | exact absurd ⟨_, _, _, rfl⟩ h
      have e2 : binOther cx op t x (.fsl a b cs) = cb x.isNil (fNil cx op t a) none := by cases x <;> first | rfl | exact absurd ⟨_, _, _, rfl⟩ h
      rw [e1, e2]; exact Snd.cb_bool (Snd.lift _) (Snd.fail _)
    · have e1 : binOtherS cx op t x y = binOtherS0 cx op t x y := by cases x <;> first | exact absurd ⟨_, _, _, rfl⟩ h | (cases y <;> first | rfl | exact absurd ⟨_, _, _, rfl⟩ h2)
      have e2 : binOther cx op t x y = binOther0 cx op t x y := by cases x <;> first | exact absurd ⟨_, _, _, rfl⟩ h | (cases y <;> first | rfl | exact absurd ⟨_, _, _, rfl⟩ h2)
      rw [e1, e2]; exact binOtherS0_snd _ _ _ _ _
def binS (cx : Cx) (op : BinOp) (t : TypeId) (x y : AV) : S AV :=
  match x with
  | .int k a => S.bind (S.lift y.int?) fun b => binIntS op k a b.1 b.2
  | .str a => S.bind (S.lift y.str?) fun b => strS op a b
  | .any => S.fail
  | x => binOtherS cx op t x y
theorem binS_snd (cx : Cx) (op : BinOp) (t : TypeId) (x y : AV) : Snd (binS cx op t x y) (aBin cx op t x y) := by
  by_cases h1 : ∃ k a, x = .int k a
  · obtain ⟨k, a, rfl⟩ := h1; exact Snd.bind (Snd.lift _) fun b _ => binIntS_snd _ _ _ _ _
  by_cases h2 : ∃ a, x = .str a
  · obtain ⟨a, rfl⟩ := h2; exact Snd.bind (Snd.lift _) fun b _ => strS_snd _ _ _
  by_cases h3 : x = .any
  · subst h3; exact Snd.fail _
  have e1 : binS cx op t x y = binOtherS cx op t x y := by cases x <;> first | rfl | exact absurd ⟨_, _, rfl⟩ h1 | exact absurd ⟨_, rfl⟩ h2 | exact absurd rfl h3
  have e2 : aBin cx op t x y = binOther cx op t x y := by cases x <;> first | rfl | exact absurd ⟨_, _, rfl⟩ h1 | exact absurd ⟨_, rfl⟩ h2 | exact absurd rfl h3
  rw [e1, e2]; exact binOtherS_snd _ _ _ _ _
end Go.Ab
end
end

section
noncomputable section
namespace Go.Ab
def sliceStrS (cx : Cx) (e : TypeId) (x : AV) (H : Heap) : S AV :=
  S.bind (S.lift x.slice?) fun a => cb (isU8 cx e) (match a.1 with
    | none => S.pure (.str [])
    | some p => S.bind (cellsS H p a.2.1) fun cs => S.must (bytesOf cs).isSome (S.pure (.str ((bytesOf cs).getD [])))) S.fail
theorem sliceStrS_snd (cx : Cx) (e : TypeId) (x : AV) (H : Heap) : Snd (sliceStrS cx e x H) (sliceStr cx e x H) := by
  refine Snd.bind (Snd.lift _) fun a _ => Snd.cb_bool ?_ (Snd.fail _)
  cases a.1 with
  | none => exact Snd.pure _
  | some p =>
    refine Snd.bind (cellsS_snd H p _) fun cs _ => Snd.must fun h => ?_
    obtain ⟨l, hl⟩ := Option.isSome_iff_exists.1 h
    rw [hl]; exact Snd.pure _
def convStrS (cx : Cx) (s : ATy) (x : AV) (H : Heap) : S AV :=
  match s.desc with
  | .slice e => sliceStrS cx e x H
  | _ => S.lift (convStr cx s x H)
theorem convStrS_snd (cx : Cx) (s : ATy) (x : AV) (H : Heap) : Snd (convStrS cx s x H) (convStr cx s x H) := by
  unfold convStrS
  split
  · rename_i e h; simp only [convStr, h]; exact sliceStrS_snd _ _ _ _
  · exact Snd.lift _
def convSliceS (cx : Cx) (same : Bool) (s : ATy) (e : TypeId) (x : AV) (H : Heap) : S AV :=
  match s.desc with
  | .slice _ => S.bind (S.lift x.slice?) fun a => S.must (same && isU8 cx e && isOwn H a.1 && Nat.ble 1 a.2.1) (S.pure (.slice a.1 a.2.1 a.2.2))
  | _ => S.fail
theorem convSliceS_snd (cx : Cx) (same : Bool) (s : ATy) (e : TypeId) (x : AV) (H : Heap) : Snd (convSliceS cx same s e x H) (convSlice cx same s e x H) := by
  unfold convSliceS convSlice
  cases s.desc <;> (try simp only) <;> try exact Snd.fail _
  exact Snd.bind (Snd.lift _) fun a _ => Snd.cb_must fun _ => Snd.pure _
def convS0 (cx : Cx) (src dst : TypeId) (x : AV) (H : Heap) : S AV :=
  S.bind (S.lift (cx.ty src)) fun s => S.bind (S.lift (cx.ty dst)) fun d =>
    match d.desc with
    | .int k => S.lift (convInt k x)
    | .string => convStrS cx s x H
    | .slice e => convSliceS cx (decide (src = dst)) s e x H
    | _ => S.fail
theorem convS0_snd (cx : Cx) (src dst : TypeId) (x : AV) (H : Heap) : Snd (convS0 cx src dst x H) (aConv0 cx src dst x H) := by
  refine Snd.bind (Snd.lift _) fun s _ => Snd.bind (Snd.lift _) fun d _ => ?_
  cases d.desc <;> (try simp only) <;> try exact Snd.fail _
  · exact Snd.lift _
  · exact convStrS_snd _ _ _ _
  · exact convSliceS_snd _ _ _ _ _ _
def fStrS (cx : Cx) (src dst : TypeId) (nl : Bool) (len : Nat) (cs : List AV) : S AV :=
  S.bind (S.lift (cx.ty src)) fun s => S.bind (S.lift (cx.ty dst)) fun d =>
    match d.desc with
    | .string => match s.desc with
      | .slice e => cb (isU8 cx e) (S.must (Nat.beq cs.length len) (S.must (bytesOf cs).isSome (S.pure (.str ((bytesOf cs).getD []))))) S.fail
      | _ => S.fail
    | _ => S.fail
theorem fStrS_snd (cx : Cx) (src dst : TypeId) (nl : Bool) (len : Nat) (cs : List AV) : Snd (fStrS cx src dst nl len cs) (fStr cx src dst nl len cs) := by
  refine Snd.bind (Snd.lift _) fun s _ => Snd.bind (Snd.lift _) fun d _ => ?_
  cases d.desc <;> (try simp only) <;> try exact Snd.fail _
  cases s.desc <;> (try simp only) <;> try exact Snd.fail _
  rename_i e
  cases isU8 cx e with
  | false => exact Snd.fail _
  | true =>
    refine Snd.must fun h1 => Snd.must fun h2 => ?_
    obtain ⟨l, hl⟩ := Option.isSome_iff_exists.1 h2
    rw [h1, hl]; exact Snd.pure _
def convS (cx : Cx) (src dst : TypeId) (x : AV) (H : Heap) : S AV :=
  match x with
  | .fsl nl len cs => fStrS cx src dst nl len cs
  | x => convS0 cx src dst x H
theorem convS_snd (cx : Cx) (src dst : TypeId) (x : AV) (H : Heap) : Snd (convS cx src dst x H) (aConv cx src dst x H) := by
  by_cases h : ∃ a b cs, x = .fsl a b cs
  · obtain ⟨a, b, cs, rfl⟩ := h; exact fStrS_snd cx src dst a b cs
  · have e1 : convS cx src dst x H = convS0 cx src dst x H := by cases x <;> first | rfl | exact absurd ⟨_, _, _, rfl⟩ h
    have e2 : aConv cx src dst x H = aConv0 cx src dst x H := by cases x <;> first | rfl | exact absurd ⟨_, _, _, rfl⟩ h
    rw [e1, e2]; exact convS0_snd _ _ _ _ _
def boundIntS (i : Int) (most : Nat) : S Nat := S.must (ileB 0 i) (S.must (Nat.ble i.toNat most) (S.pure i.toNat))
theorem boundIntS_snd (i : Int) (most : Nat) : Snd (boundIntS i most) (boundInt i most) := by
  refine Snd.must fun h1 => Snd.must fun h2 => ?_
  cases i with
  | ofNat n => simp only [boundInt]; rw [show Nat.ble n most = true from h2, cb_true]; exact Snd.pure _
  | negSucc n => simp [ileB, iltB] at h1
def boundOfS (x : Option AV) (d most : Nat) : S Nat :=
  match x with
  | none => S.pure d
  | some v => S.bind (S.lift v.int?) fun a => boundIntS a.2 most
theorem boundOfS_snd (x : Option AV) (d most : Nat) : Snd (boundOfS x d most) (boundOf x d most) := by
  cases x with
  | none => exact Snd.pure _
  | some v => exact Snd.bind (Snd.lift _) fun a _ => boundIntS_snd _ _
def sliceStrAtS (s : List UInt8) (lo hi mx : Option AV) : S AV :=
  cb mx.isSome S.fail (S.bind (boundOfS hi s.length s.length) fun h => S.bind (boundOfS lo 0 h) fun l => S.pure (.str (List.take (h - l) (List.drop l s))))
def sliceRowS (size : Nat) (p : Option (Nat × Nat)) (len cap : Nat) (lo hi mx : Option AV) : S AV :=
  cb (mx.isSome && hi.isNone) S.fail (S.bind (boundOfS mx cap cap) fun m => S.bind (boundOfS hi len m) fun h => S.bind (boundOfS lo 0 h) fun l =>
    S.pure (.slice (p.map fun a => place a (l * size)) (h - l) (some (m - l))))
def sliceOpenS (size : Nat) (a : Nat × Nat) (len : Nat) (lo hi : Option AV) : S AV :=
  S.bind (boundOfS hi len len) fun h => S.bind (boundOfS lo 0 h) fun l => S.pure (.slice (some (place a (l * size))) (h - l) none)
def sliceSliceS (size : Nat) (x : Option (Nat × Nat) × Nat × Option Nat) (lo hi mx : Option AV) : S AV :=
  match x.2.2 with
  | some cap => sliceRowS size x.1 x.2.1 cap lo hi mx
  | none => match x.1 with
    | none => S.fail
    | some a => cb mx.isSome (sliceRowS size (some a) x.2.1 x.2.1 lo hi mx) (sliceOpenS size a x.2.1 lo hi)
theorem sliceStrAtS_snd (s : List UInt8) (lo hi mx : Option AV) : Snd (sliceStrAtS s lo hi mx) (sliceStrAt s lo hi mx) :=
  Snd.cb_bool (Snd.fail _) (Snd.bind (boundOfS_snd _ _ _) fun h _ => Snd.bind (boundOfS_snd _ _ _) fun l _ => Snd.pure _)
theorem sliceRowS_snd (size : Nat) (p : Option (Nat × Nat)) (len cap : Nat) (lo hi mx : Option AV) : Snd (sliceRowS size p len cap lo hi mx) (sliceRow size p len cap lo hi mx) :=
  Snd.cb_bool (Snd.fail _) (Snd.bind (boundOfS_snd _ _ _) fun m _ => Snd.bind (boundOfS_snd _ _ _) fun h _ => Snd.bind (boundOfS_snd _ _ _) fun l _ => Snd.pure _)
theorem sliceSliceS_snd (size : Nat) (x : Option (Nat × Nat) × Nat × Option Nat) (lo hi mx : Option AV) : Snd (sliceSliceS size x lo hi mx) (sliceSlice size x lo hi mx) := by
  obtain ⟨p, l, c⟩ := x
  cases c with
  | some c => exact sliceRowS_snd _ _ _ _ _ _ _
  | none => cases p with
    | none => exact Snd.fail _
    | some a => exact Snd.cb_bool (sliceRowS_snd _ _ _ _ _ _ _) (Snd.bind (boundOfS_snd _ _ _) fun h _ => Snd.bind (boundOfS_snd _ _ _) fun l _ => Snd.pure _)
def sliceS0 (cx : Cx) (t : TypeId) (x : AV) (lo hi mx : Option AV) : S AV :=
  S.bind (S.lift (cx.ty t)) fun ty =>
    match ty.desc with
    | .string => S.bind (S.lift x.str?) fun s => sliceStrAtS s lo hi mx
    | .slice e => S.bind (S.lift (cx.ty e)) fun et => S.bind (S.lift x.slice?) fun s => sliceSliceS et.size s lo hi mx
    | .array n e => S.bind (S.lift (cx.ty e)) fun et => S.bind (S.lift x.ptr?) fun p => cb p.isSome (sliceRowS et.size p n n lo hi mx) S.fail
    | _ => S.fail
theorem sliceS0_snd (cx : Cx) (t : TypeId) (x : AV) (lo hi mx : Option AV) : Snd (sliceS0 cx t x lo hi mx) (aSlice0 cx t x lo hi mx) := by
  refine Snd.bind (Snd.lift _) fun ty _ => ?_
  cases ty.desc <;> (try simp only) <;> try exact Snd.fail _
  · exact Snd.bind (Snd.lift _) fun s _ => sliceStrAtS_snd _ _ _ _
  · exact Snd.bind (Snd.lift _) fun et _ => Snd.bind (Snd.lift _) fun s _ => sliceSliceS_snd _ _ _ _ _
  · exact Snd.bind (Snd.lift _) fun et _ => Snd.bind (Snd.lift _) fun p _ => Snd.cb_bool (sliceRowS_snd _ _ _ _ _ _ _) (Snd.fail _)
def fCutS (size : Nat) (nl : Bool) (len : Nat) (cs : List AV) (lo hi mx : Option AV) : S AV :=
  cb mx.isSome S.fail (S.must (Nat.beq cs.length (Nat.mul len size)) (S.bind (boundOfS hi len len) fun h => S.bind (boundOfS lo 0 h) fun l => S.pure (.fsl nl (h - l) (rowCut cs (l * size) ((h - l) * size)))))
theorem fCutS_snd (size : Nat) (nl : Bool) (len : Nat) (cs : List AV) (lo hi mx : Option AV) : Snd (fCutS size nl len cs lo hi mx) (fCut size nl len cs lo hi mx) := by
  unfold fCutS fCut
  cases mx.isSome with
  | true => exact Snd.fail _
  | false =>
    refine Snd.must fun h => ?_
    rw [h]
    exact Snd.bind (boundOfS_snd _ _ _) fun h _ => Snd.bind (boundOfS_snd _ _ _) fun l _ => Snd.pure _
def fSliceS (cx : Cx) (t : TypeId) (nl : Bool) (len : Nat) (cs : List AV) (lo hi mx : Option AV) : S AV :=
  S.bind (S.lift (cx.ty t)) fun ty =>
    match ty.desc with
    | .slice e => S.bind (S.lift (cx.ty e)) fun et => fCutS et.size nl len cs lo hi mx
    | _ => S.fail
theorem fSliceS_snd (cx : Cx) (t : TypeId) (nl : Bool) (len : Nat) (cs : List AV) (lo hi mx : Option AV) : Snd (fSliceS cx t nl len cs lo hi mx) (fSlice cx t nl len cs lo hi mx) := by
  refine Snd.bind (Snd.lift _) fun ty _ => ?_
  cases ty.desc <;> (try simp only) <;> try exact Snd.fail _
  exact Snd.bind (Snd.lift _) fun et _ => fCutS_snd _ _ _ _ _ _ _
def sliceS (cx : Cx) (t : TypeId) (x : AV) (lo hi mx : Option AV) : S AV :=
  match x with
  | .fsl nl len cs => fSliceS cx t nl len cs lo hi mx
  | x => sliceS0 cx t x lo hi mx
theorem sliceS_snd (cx : Cx) (t : TypeId) (x : AV) (lo hi mx : Option AV) : Snd (sliceS cx t x lo hi mx) (aSlice cx t x lo hi mx) := by
  by_cases h : ∃ a b cs, x = .fsl a b cs
  · obtain ⟨a, b, cs, rfl⟩ := h; exact fSliceS_snd cx t a b cs lo hi mx
  · have e1 : sliceS cx t x lo hi mx = sliceS0 cx t x lo hi mx := by cases x <;> first | rfl | exact absurd ⟨_, _, _, rfl⟩ h
    have e2 : aSlice cx t x lo hi mx = aSlice0 cx t x lo hi mx := by cases x <;> first | rfl | exact absurd ⟨_, _, _, rfl⟩ h
    rw [e1, e2]; exact sliceS0_snd _ _ _ _ _ _
def addrS (cx : Cx) (e : TypeId) (p : Option (Nat × Nat)) (i : Int) (n : Nat) : S AV :=
  S.must (ileB 0 i) (S.must (Nat.ble (Nat.succ i.toNat) n) (S.bind (S.lift (cx.ty e)) fun et => S.bind (S.lift p) fun a => S.pure (.ptr (some (place a (i.toNat * et.size))))))
theorem inRange_of {i : Int} {n : Nat} (h1 : ileB 0 i = true) (h2 : Nat.ble (Nat.succ i.toNat) n = true) : inRange i n = true := by
  cases i with
  | ofNat m => exact h2
  | negSucc m => simp [ileB, iltB] at h1
theorem addrS_snd (cx : Cx) (e : TypeId) (p : Option (Nat × Nat)) (i : Int) (n : Nat) : Snd (addrS cx e p i n) (addrAt cx e p i n) := by
  refine Snd.must fun h1 => Snd.must fun h2 => ?_
  unfold addrAt
  rw [inRange_of h1 h2, cb_true]
  exact Snd.bind (Snd.lift _) fun et _ => Snd.bind (Snd.lift _) fun a _ => Snd.pure _
def indexAddrS0 (cx : Cx) (t : TypeId) (x i : AV) : S AV :=
  S.bind (S.lift i.int?) fun i => S.bind (S.lift (cx.ty t)) fun ty =>
    match ty.desc with
    | .slice e => S.bind (S.lift x.slice?) fun s => addrS cx e s.1 i.2 s.2.1
    | .array n e => S.bind (S.lift x.ptr?) fun p => addrS cx e p i.2 n
    | _ => S.fail
theorem indexAddrS0_snd (cx : Cx) (t : TypeId) (x i : AV) : Snd (indexAddrS0 cx t x i) (aIndexAddr0 cx t x i) := by
  refine Snd.bind (Snd.lift _) fun i _ => Snd.bind (Snd.lift _) fun ty _ => ?_
  cases ty.desc <;> (try simp only) <;> try exact Snd.fail _
  · exact Snd.bind (Snd.lift _) fun s _ => addrS_snd _ _ _ _ _
  · exact Snd.bind (Snd.lift _) fun s _ => addrS_snd _ _ _ _ _
def fIndexS (cx : Cx) (t : TypeId) (len : Nat) (cs : List AV) (i : AV) : S AV :=
  S.bind (S.lift i.int?) fun i => S.bind (S.lift (cx.ty t)) fun ty =>
    match ty.desc with
    | .slice e => S.bind (S.lift (cx.ty e)) fun et => S.must (ileB 0 i.2) (S.must (Nat.ble (Nat.succ i.2.toNat) len) (S.must (Nat.beq cs.length (Nat.mul len et.size)) (S.pure (.fptr (List.drop (i.2.toNat * et.size) cs)))))
    | _ => S.fail
theorem fIndexS_snd (cx : Cx) (t : TypeId) (len : Nat) (cs : List AV) (i : AV) : Snd (fIndexS cx t len cs i) (fIndex cx t len cs i) := by
  refine Snd.bind (Snd.lift _) fun i _ => Snd.bind (Snd.lift _) fun ty _ => ?_
  cases ty.desc <;> (try simp only) <;> try exact Snd.fail _
  refine Snd.bind (Snd.lift _) fun et _ => Snd.must fun h1 => Snd.must fun h2 => Snd.must fun h3 => ?_
  rw [inRange_of h1 h2, h3]; exact Snd.pure _
def indexAddrS (cx : Cx) (t : TypeId) (x i : AV) : S AV :=
  match x with
  | .fsl _ len cs => fIndexS cx t len cs i
  | x => indexAddrS0 cx t x i
theorem indexAddrS_snd (cx : Cx) (t : TypeId) (x i : AV) : Snd (indexAddrS cx t x i) (aIndexAddr cx t x i) := by
  by_cases h : ∃ a b cs, x = .fsl a b cs
  · obtain ⟨a, b, cs, rfl⟩ := h; exact fIndexS_snd cx t b cs i
  · have e1 : indexAddrS cx t x i = indexAddrS0 cx t x i := by cases x <;> first | rfl | exact absurd ⟨_, _, _, rfl⟩ h
    have e2 : aIndexAddr cx t x i = aIndexAddr0 cx t x i := by cases x <;> first | rfl | exact absurd ⟨_, _, _, rfl⟩ h
    rw [e1, e2]; exact indexAddrS0_snd _ _ _ _
def fFieldS (cx : Cx) (t : TypeId) (cs : List AV) (f : Nat) : S AV :=
  S.bind (S.lift (fieldsOf cx t)) fun fs => S.bind (S.lift (listAt fs f)) fun g => S.bind (S.lift (cx.ty g.2)) fun ft => S.must (Nat.ble 1 ft.size && Nat.ble (g.1 + ft.size) cs.length) (S.pure (.fptr (List.drop g.1 cs)))
theorem fFieldS_snd (cx : Cx) (t : TypeId) (cs : List AV) (f : Nat) : Snd (fFieldS cx t cs f) (fField cx t cs f) :=
  Snd.bind (Snd.lift _) fun fs _ => Snd.bind (Snd.lift _) fun g _ => Snd.bind (Snd.lift _) fun ft _ => Snd.cb_must fun _ => Snd.pure _
def fieldAddrS (cx : Cx) (t : TypeId) (x : AV) (f : Nat) : S AV :=
  match x with
  | .fptr cs => fFieldS cx t cs f
  | x => S.lift (aFieldAddr cx t x f)
theorem fieldAddrS_snd (cx : Cx) (t : TypeId) (x : AV) (f : Nat) : Snd (fieldAddrS cx t x f) (aFieldAddr cx t x f) := by
  by_cases h : ∃ cs, x = .fptr cs
  · obtain ⟨cs, rfl⟩ := h; exact fFieldS_snd cx t cs f
  · have e1 : fieldAddrS cx t x f = S.lift (aFieldAddr cx t x f) := by cases x <;> first | rfl | exact absurd ⟨_, rfl⟩ h
    rw [e1]; exact Snd.lift _
def strAtS (s : List UInt8) (i : Int) : S AV := S.must (ileB 0 i) (S.must (Nat.ble (Nat.succ i.toNat) s.length) (S.pure (.int .u8 ((listAt s i.toNat).getD 0).toNat)))
theorem strAtS_snd (s : List UInt8) (i : Int) : Snd (strAtS s i) (strAt s i) := by
  refine Snd.must fun h1 => Snd.must fun h2 => ?_
  unfold strAt
  have hlt : i.toNat < s.length := Nat.le_of_ble_eq_true h2
  rw [h1, cb_true, listAt_eq, List.getElem?_eq_getElem hlt]
  exact Snd.pure _
def indexS (cx : Cx) (t : TypeId) (x i : AV) : S AV :=
  S.bind (S.lift i.int?) fun i => S.bind (S.lift (cx.ty t)) fun ty =>
    match ty.desc with
    | .array n e => S.bind (S.lift x.agg?) fun cs => S.must (ileB 0 i.2) (S.must (Nat.ble (Nat.succ i.2.toNat) n) (S.bind (S.lift (cx.ty e)) fun et => partS cx e cs (i.2.toNat * et.size)))
    | .string => S.bind (S.lift x.str?) fun s => strAtS s i.2
    | _ => S.fail
theorem indexS_snd (cx : Cx) (t : TypeId) (x i : AV) : Snd (indexS cx t x i) (aIndex cx t x i) := by
  refine Snd.bind (Snd.lift _) fun i _ => Snd.bind (Snd.lift _) fun ty _ => ?_
  cases ty.desc <;> (try simp only) <;> try exact Snd.fail _
  · exact Snd.bind (Snd.lift _) fun s _ => strAtS_snd _ _
  · refine Snd.bind (Snd.lift _) fun cs _ => Snd.must fun h1 => Snd.must fun h2 => ?_
    rw [inRange_of h1 h2, cb_true]
    exact Snd.bind (Snd.lift _) fun et _ => partS_snd _ _ _ _
def fieldS (cx : Cx) (t : TypeId) (x : AV) (f : Nat) : S AV :=
  S.bind (S.lift (fieldsOf cx t)) fun fs => S.bind (S.lift (listAt fs f)) fun g => S.bind (S.lift x.agg?) fun cs => partS cx g.2 cs g.1
theorem fieldS_snd (cx : Cx) (t : TypeId) (x : AV) (f : Nat) : Snd (fieldS cx t x f) (aField cx t x f) :=
  Snd.bind (Snd.lift _) fun fs _ => Snd.bind (Snd.lift _) fun g _ => Snd.bind (Snd.lift _) fun cs _ => partS_snd _ _ _ _
def srcS (size : Nat) (H : Heap) (x : AV) : S (Nat × List AV) :=
  match x with
  | .slice (some p) l _ => S.bind (cellsS H p (l * size)) fun cs => S.pure (l, cs)
  | .fsl _ len cs => S.must (Nat.beq cs.length (Nat.mul len size)) (S.pure (len, cs))
  | x => S.lift (srcCells size H x)
theorem srcS_snd (size : Nat) (H : Heap) (x : AV) : Snd (srcS size H x) (srcCells size H x) := by
  unfold srcS
  split
  · exact Snd.bind (cellsS_snd _ _ _) fun cs _ => Snd.pure _
  · exact Snd.cb_must fun _ => Snd.pure _
  · exact Snd.lift _
def zeroS (et : ATy) (x : AV) : S (Nat × List AV) :=
  S.bind (S.lift x.int?) fun a => S.must (ileB 0 a.2) (S.must (iltB a.2 9223372036854775808) (S.must (ileB (a.2 * et.bytes) 281474976710656) (S.pure (a.2.toNat, reps a.2.toNat et.zero.cells))))
theorem zeroS_snd (et : ATy) (x : AV) : Snd (zeroS et x) (zeroCells et x) := by
  refine Snd.bind (Snd.lift _) fun a _ => Snd.must fun h1 => Snd.must fun h2 => Snd.must fun h3 => ?_
  rw [ileB_eq] at h1 h3
  rw [iltB_eq] at h2
  rw [if_pos ⟨of_decide_eq_true h1, of_decide_eq_true h2, of_decide_eq_true h3⟩]
  exact Snd.pure _
def appOwnS (e : TypeId) (size : Nat) (a : Nat × Nat) (len : Nat) (nc : Nat × List AV) (H : Heap) : S (AV × Heap) :=
  match H.get a.1 with
  | .cells true e' n cs => cb (Nat.beq a.2 0 && Nat.beq e' e) (S.must (Nat.beq n (len * size)) (S.must (nc.2.all AV.isCell) (S.pure (appNew e (len + nc.1) (cs ++ nc.2) (H.put a.1 .dead))))) S.fail
  | _ => S.fail
theorem appOwnS_snd (e : TypeId) (size : Nat) (a : Nat × Nat) (len : Nat) (nc : Nat × List AV) (H : Heap) : Snd (appOwnS e size a len nc H) (appOwn e size a len nc H) := by
  unfold appOwnS appOwn
  cases hg : H.get a.1 <;> (try simp only) <;> try exact Snd.fail _
  rename_i own e' n cs
  cases own
  · exact Snd.fail _
  · try simp only
    cases hc : (Nat.beq a.2 0 && Nat.beq e' e) with
    | false => exact Snd.fail _
    | true =>
      rw [cb_true]
      rw [Bool.and_eq_true] at hc
      refine Snd.must fun h1 => Snd.must fun h2 => ?_
      rw [if_pos ⟨Nat.eq_of_beq_eq_true hc.1, Nat.eq_of_beq_eq_true hc.2, Nat.eq_of_beq_eq_true h1, h2⟩]
      exact Snd.pure _
def appToS (e : TypeId) (size : Nat) (s : Option (Nat × Nat) × Nat × Option Nat) (nc : Nat × List AV) (H : Heap) : S (AV × Heap) :=
  match s.1 with
  | none => S.lift (appTo e size s nc H)
  | some a => match s.2.2 with
    | none => appOwnS e size a s.2.1 nc H
    | some c => S.test (Nat.ble (Nat.succ c) (s.2.1 + nc.1)) (S.bind (cellsS H a (s.2.1 * size)) fun old => S.pure (appNew e (s.2.1 + nc.1) (old ++ nc.2) H))
        (S.bind (storeS H (place a (s.2.1 * size)) nc.2) fun H' => S.pure (.slice (some a) (s.2.1 + nc.1) (some c), H'))
theorem appToS_snd (e : TypeId) (size : Nat) (s : Option (Nat × Nat) × Nat × Option Nat) (nc : Nat × List AV) (H : Heap) : Snd (appToS e size s nc H) (appTo e size s nc H) := by
  obtain ⟨p, l, c⟩ := s
  cases p with
  | none => exact Snd.lift _
  | some a =>
    cases c with
    | none => exact appOwnS_snd _ _ _ _ _ _
    | some c =>
      refine Snd.test (fun h => ?_) (fun h => ?_)
      · have h' : c < l + nc.1 := Nat.le_of_ble_eq_true h
        simp only [appTo]
        rw [if_pos h']
        exact Snd.bind (cellsS_snd _ _ _) fun old _ => Snd.pure _
      · have h' : ¬ c < l + nc.1 := by
          intro hh
          have : Nat.ble (Nat.succ c) (l + nc.1) = true := Nat.ble_eq_true_of_le hh
          simp only at h
          rw [this] at h; cases h
        simp only [appTo]
        rw [if_neg h']
        exact Snd.bind (storeS_snd _ _ _) fun H' _ => Snd.pure _
def appendS (cx : Cx) (t u : TypeId) (s x : AV) (H : Heap) : S (AV × Heap) :=
  S.bind (S.lift (isSliceT cx t)) fun e => S.bind (S.lift (cx.ty e)) fun et => S.bind (S.lift s.slice?) fun s => S.bind (S.lift (isIntT cx u)) fun z => S.bind (cb z (zeroS et x) (srcS et.size H x)) fun nc =>
    S.test (Nat.beq nc.1 0) (S.pure (.slice s.1 s.2.1 s.2.2, H)) (cb (Nat.beq et.size 0) S.fail (S.must (appRoom et.bytes s.2.1 nc.1) (appToS e et.size s nc H)))
theorem appendS_snd (cx : Cx) (t u : TypeId) (s x : AV) (H : Heap) : Snd (appendS cx t u s x H) (aAppend cx t u s x H) := by
  refine Snd.bind (Snd.lift _) fun e _ => Snd.bind (Snd.lift _) fun et _ => Snd.bind (Snd.lift _) fun s _ => Snd.bind (Snd.lift _) fun z _ =>
    Snd.bind (Snd.cb_bool (zeroS_snd _ _) (srcS_snd _ _ _)) fun nc _ => Snd.test (fun h => ?_) (fun h => ?_)
  · rw [if_pos (Nat.eq_of_beq_eq_true h)]; exact Snd.pure _
  · rw [if_neg (fun e => by rw [nbeq, decide_eq_true e] at h; cases h)]
    cases hs : Nat.beq et.size 0 with
    | true => exact Snd.fail _
    | false =>
      rw [cb_false, if_neg (fun e => by rw [nbeq, decide_eq_true e] at hs; cases hs)]
      exact Snd.cb_must fun _ => appToS_snd _ _ _ _ _
def copyToS (p : Option (Nat × Nat)) (n : Nat) (cs : List AV) (H : Heap) : S (AV × Heap) := S.bind (S.lift p) fun a => S.bind (storeS H a cs) fun H' => S.pure (.int .i64 n, H')
theorem copyToS_snd (p : Option (Nat × Nat)) (n : Nat) (cs : List AV) (H : Heap) : Snd (copyToS p n cs H) (copyTo p n cs H) :=
  Snd.bind (Snd.lift _) fun a _ => Snd.bind (storeS_snd _ _ _) fun H' _ => Snd.pure _
def copyS (cx : Cx) (t : TypeId) (d s : AV) (H : Heap) : S (AV × Heap) :=
  S.bind (S.lift (isSliceT cx t)) fun e => S.bind (S.lift (cx.ty e)) fun et => S.bind (S.lift d.slice?) fun d =>
    match s with
    | .slice q m _ => S.test (Nat.beq (min m d.2.1) 0) (S.pure (.int .i64 0, H)) (S.bind (S.lift q) fun b => S.bind (cellsS H b (min m d.2.1 * et.size)) fun cs => copyToS d.1 (min m d.2.1) cs H)
    | .str l => cb (Nat.beq et.size 1) (S.test (Nat.beq (min l.length d.2.1) 0) (S.pure (.int .i64 0, H)) (copyToS d.1 (min l.length d.2.1) (ofBytes (l.take (min l.length d.2.1))) H)) S.fail
    | .fsl _ m cs => S.test (Nat.beq (min m d.2.1) 0) (S.pure (.int .i64 0, H)) (S.must (Nat.beq cs.length (Nat.mul m et.size)) (copyToS d.1 (min m d.2.1) (rowCut cs 0 (min m d.2.1 * et.size)) H))
    | _ => S.fail
theorem copyS_snd (cx : Cx) (t : TypeId) (d s : AV) (H : Heap) : Snd (copyS cx t d s H) (aCopy cx t d s H) := by
  refine Snd.bind (Snd.lift _) fun e _ => Snd.bind (Snd.lift _) fun et _ => Snd.bind (Snd.lift _) fun d _ => ?_
  cases s <;> (try simp only) <;> try exact Snd.fail _
  · rename_i l
    unfold copyStr
    cases hs : Nat.beq et.size 1 with
    | false => exact Snd.fail _
    | true =>
      rw [cb_true, if_pos (Nat.eq_of_beq_eq_true hs)]
      refine Snd.test (fun h => ?_) (fun h => ?_)
      · rw [if_pos (Nat.eq_of_beq_eq_true h)]; exact Snd.pure _
      · rw [if_neg (fun e => by rw [nbeq, decide_eq_true e] at h; cases h)]; exact copyToS_snd _ _ _ _
  · rename_i q m c
    unfold copySlice
    refine Snd.test (fun h => ?_) (fun h => ?_)
    · simp only
      rw [if_pos (Nat.eq_of_beq_eq_true h)]; exact Snd.pure _
    · simp only
      rw [if_neg (fun e => by rw [nbeq, decide_eq_true e] at h; cases h)]
      exact Snd.bind (Snd.lift _) fun b _ => Snd.bind (cellsS_snd _ _ _) fun cs _ => copyToS_snd _ _ _ _
  · rename_i nl m cs
    unfold copyFsl
    refine Snd.test (fun h => ?_) (fun h => ?_)
    · simp only
      rw [if_pos (Nat.eq_of_beq_eq_true h)]; exact Snd.pure _
    · simp only
      rw [if_neg (fun e => by rw [nbeq, decide_eq_true e] at h; cases h)]
      exact Snd.cb_must fun _ => copyToS_snd _ _ _ _
def findS (cx : Cx) (t : TypeId) (k : AV) : List (AV × AV) → S (Option AV)
  | [] => S.pure none
  | e :: es => S.bind (S.lift (sameKey cx t k e.1)) fun b => S.test b (S.pure (some e.2)) (findS cx t k es)
def putS (cx : Cx) (t : TypeId) (k v : AV) : List (AV × AV) → S (List (AV × AV))
  | [] => S.pure [(k, v)]
  | e :: es => S.bind (S.lift (sameKey cx t k e.1)) fun b => S.test b (S.pure ((k, v) :: es)) (S.bind (putS cx t k v es) fun r => S.pure (e :: r))
def dropS (cx : Cx) (t : TypeId) (k : AV) : List (AV × AV) → S (List (AV × AV))
  | [] => S.pure []
  | e :: es => S.bind (S.lift (sameKey cx t k e.1)) fun b => S.test b (S.pure es) (S.bind (dropS cx t k es) fun r => S.pure (e :: r))
theorem findS_snd (cx : Cx) (t : TypeId) (k : AV) : ∀ es, Snd (findS cx t k es) (findKey cx t k es) := by
  intro es
  induction es with
  | nil => exact Snd.pure _
  | cons e es ih => exact Snd.bind (Snd.lift _) fun b _ => Snd.test (fun h => by rw [if_pos h]; exact Snd.pure _) (fun h => by rw [if_neg (by rw [h]; simp)]; exact ih)
theorem putS_snd (cx : Cx) (t : TypeId) (k v : AV) : ∀ es, Snd (putS cx t k v es) (putKey cx t k v es) := by
  intro es
  induction es with
  | nil => exact Snd.pure _
  | cons e es ih => exact Snd.bind (Snd.lift _) fun b _ => Snd.test (fun h => by rw [if_pos h]; exact Snd.pure _) (fun h => by rw [if_neg (by rw [h]; simp)]; exact Snd.bind ih fun r _ => Snd.pure _)
theorem dropS_snd (cx : Cx) (t : TypeId) (k : AV) : ∀ es, Snd (dropS cx t k es) (dropKey cx t k es) := by
  intro es
  induction es with
  | nil => exact Snd.pure _
  | cons e es ih => exact Snd.bind (Snd.lift _) fun b _ => Snd.test (fun h => by rw [if_pos h]; exact Snd.pure _) (fun h => by rw [if_neg (by rw [h]; simp)]; exact Snd.bind ih fun r _ => Snd.pure _)
def lookupS (cx : Cx) (t : TypeId) (x k : AV) (ok : Bool) (H : Heap) : S AV :=
  S.bind (S.lift (mapT cx t)) fun m => cb (isKeyT cx m.1 k) (S.bind (S.lift x.map?) fun r => S.bind (S.lift (entriesAt H r)) fun es => S.bind (findS cx m.1 k es) fun f => S.bind (S.lift (cx.ty m.2)) fun e =>
    S.pure (cb ok (.tuple [f.getD e.zero, .bool f.isSome]) (f.getD e.zero))) S.fail
theorem lookupS_snd (cx : Cx) (t : TypeId) (x k : AV) (ok : Bool) (H : Heap) : Snd (lookupS cx t x k ok H) (aLookup cx t x k ok H) :=
  Snd.bind (Snd.lift _) fun m _ => Snd.cb_bool (Snd.bind (Snd.lift _) fun r _ => Snd.bind (Snd.lift _) fun es _ => Snd.bind (findS_snd _ _ _ _) fun f _ => Snd.bind (Snd.lift _) fun e _ => Snd.pure _) (Snd.fail _)
def mapPutS (cx : Cx) (t : TypeId) (x k v : AV) (H : Heap) : S Heap :=
  S.bind (S.lift (mapT cx t)) fun m => cb (isKeyT cx m.1 k) (S.bind (S.lift x.map?) fun r => S.bind (S.lift r) fun r => S.bind (S.lift (entriesOf H r)) fun es => S.bind (putS cx m.1 k v es) fun es' => S.pure (H.put r (.entries es'))) S.fail
theorem mapPutS_snd (cx : Cx) (t : TypeId) (x k v : AV) (H : Heap) : Snd (mapPutS cx t x k v H) (aMapPut cx t x k v H) :=
  Snd.bind (Snd.lift _) fun m _ => Snd.cb_bool (Snd.bind (Snd.lift _) fun r _ => Snd.bind (Snd.lift _) fun r _ => Snd.bind (Snd.lift _) fun es _ => Snd.bind (putS_snd _ _ _ _ _) fun es' _ => Snd.pure _) (Snd.fail _)
def dropInS (cx : Cx) (t : TypeId) (k : AV) (H : Heap) (r : Option Nat) : S Heap :=
  match r with
  | none => S.pure H
  | some r => S.bind (S.lift (entriesOf H r)) fun es => S.bind (dropS cx t k es) fun es' => S.pure (H.put r (.entries es'))
def deleteS (cx : Cx) (t : TypeId) (x k : AV) (H : Heap) : S Heap :=
  S.bind (S.lift (mapT cx t)) fun m => cb (isKeyT cx m.1 k) (S.bind (S.lift x.map?) fun r => dropInS cx m.1 k H r) S.fail
theorem deleteS_snd (cx : Cx) (t : TypeId) (x k : AV) (H : Heap) : Snd (deleteS cx t x k H) (aDelete cx t x k H) :=
  Snd.bind (Snd.lift _) fun m _ => Snd.cb_bool (Snd.bind (Snd.lift _) fun r _ => by
    cases r with
    | none => exact Snd.pure _
    | some r =>
      show Snd (S.bind (S.lift (entriesOf H r)) fun es => S.bind (dropS cx m.1 k es) fun es' => S.pure (H.put r (.entries es'))) ((entriesOf H r).ob fun es => (dropKey cx m.1 k es).ob fun es' => some (H.put r (.entries es')))
      exact Snd.bind (Snd.lift _) fun es _ => Snd.bind (dropS_snd _ _ _ _) fun es' _ => Snd.pure _) (Snd.fail _)
abbrev CallerS := Tgt → List AV → Heap → S (AV × Heap)
def madeS (cx : Cx) (o : Op) (g : Env) : S Made :=
  match o with
  | .buildSlice t n ps => S.bind (S.lift (evParts g ps.toList)) fun ps => buildSliceS cx t n ps
  | .makeSlice t l c => S.bind (S.lift (ev g l)) fun l => S.bind (S.lift (ev g c)) fun c => makeSliceS cx t l c
  | o => S.lift (aMade cx o g)
theorem madeS_snd (cx : Cx) (o : Op) (g : Env) : Snd (madeS cx o g) (aMade cx o g) := by
  unfold madeS
  split
  · exact Snd.bind (Snd.lift _) fun ps _ => buildSliceS_snd _ _ _ _
  · exact Snd.bind (Snd.lift _) fun l _ => Snd.bind (Snd.lift _) fun c _ => makeSliceS_snd _ _ _ _
  · exact Snd.lift _
def pickS (c a b : AV) : S AV := S.bind (S.lift c.bool?) fun c => S.test c (S.pure a) (S.pure b)
def ev2S {α : Type} (g : Env) (x y : Operand) (f : AV → AV → S α) : S α := S.bind (S.lift (ev g x)) fun x => S.bind (S.lift (ev g y)) fun y => f x y
theorem ev2S_snd {α : Type} {g : Env} {x y : Operand} {f : AV → AV → S α} {f' : AV → AV → Option α} (h : ∀ a b, Snd (f a b) (f' a b)) : Snd (ev2S g x y f) (ev2 g x y f') :=
  Snd.bind (Snd.lift _) fun a _ => Snd.bind (Snd.lift _) fun b _ => h a b
def quietS (cx : Cx) (o : Op) (g : Env) (H : Heap) : S AV :=
  match o with
  | .pick c a b => S.bind (S.lift (ev g c)) fun c => ev2S g a b (pickS c)
  | .build t ps => S.bind (S.lift (evParts g ps.toList)) (buildS cx t)
  | .load t a => S.bind (S.lift (ev g a)) (loadS cx t H)
  | .binOp op t x y _ => ev2S g x y (binS cx op t)
  | .convert s d x => S.bind (S.lift (ev g x)) fun x => convS cx s d x H
  | .slice t x lo hi mx => S.bind (S.lift (ev g x)) fun x => S.bind (S.lift (evO g lo)) fun lo => S.bind (S.lift (evO g hi)) fun hi => S.bind (S.lift (evO g mx)) fun mx => sliceS cx t x lo hi mx
  | .field t x f => S.bind (S.lift (ev g x)) fun x => fieldS cx t x f
  | .fieldAddr t x f => S.bind (S.lift (ev g x)) fun x => fieldAddrS cx t x f
  | .indexAddr t x i => ev2S g x i (indexAddrS cx t)
  | .index t x i => ev2S g x i (indexS cx t)
  | .lookup t x i ok => ev2S g x i fun x i => lookupS cx t x i ok H
  | o => S.lift (aQuiet cx o g H)
theorem quietS_snd (cx : Cx) (o : Op) (g : Env) (H : Heap) : Snd (quietS cx o g H) (aQuiet cx o g H) := by
  unfold quietS
  split
  · exact Snd.bind (Snd.lift _) fun c _ => ev2S_snd fun a b => Snd.bind (Snd.lift _) fun t _ => Snd.test (fun h => by rw [h]; exact Snd.pure _) (fun h => by rw [h]; exact Snd.pure _)
  · exact Snd.bind (Snd.lift _) fun ps _ => buildS_snd _ _ _
  · exact Snd.bind (Snd.lift _) fun x _ => loadS_snd _ _ _ _
  · exact ev2S_snd fun a b => binS_snd _ _ _ _ _
  · exact Snd.bind (Snd.lift _) fun x _ => convS_snd _ _ _ _ _
  · exact Snd.bind (Snd.lift _) fun x _ => Snd.bind (Snd.lift _) fun lo _ => Snd.bind (Snd.lift _) fun hi _ => Snd.bind (Snd.lift _) fun mx _ => sliceS_snd _ _ _ _ _ _
  · exact Snd.bind (Snd.lift _) fun x _ => fieldS_snd _ _ _ _
  · exact Snd.bind (Snd.lift _) fun x _ => fieldAddrS_snd _ _ _ _
  · exact ev2S_snd fun a b => indexAddrS_snd _ _ _ _
  · exact ev2S_snd fun a b => indexS_snd _ _ _ _
  · exact ev2S_snd fun a b => lookupS_snd _ _ _ _ _ _
  · exact Snd.lift _
def callVS (call : CallerS) (f : AV) (args : List AV) (H : Heap) : S (AV × Heap) :=
  match f with
  | .func g first captured => call (.fn g) (first ++ args ++ captured) H
  | .yield l => call (.yield l) args H
  | _ => S.fail
def lBuiltinS (cx : Cx) (b : Builtin) (ts : List TypeId) (l : List AV) (H : Heap) : S (AV × Heap) :=
  match b with
  | .append => match ts, l with
    | [t, u], [s, x] => appendS cx t u s x H
    | _, _ => S.fail
  | .copy => match ts, l with
    | [t, _], [d, s] => copyS cx t d s H
    | _, _ => S.fail
  | .delete => match ts, l with
    | [t, _], [m, k] => S.bind (deleteS cx t m k H) fun H' => S.pure (.tuple [], H')
    | _, _ => S.fail
  | _ => S.fail
theorem lBuiltinS_snd (cx : Cx) (b : Builtin) (ts : List TypeId) (l : List AV) (H : Heap) : Snd (lBuiltinS cx b ts l H) (lBuiltin cx b ts l H) := by
  unfold lBuiltinS
  split
  · split
    · exact appendS_snd _ _ _ _ _ _
    · exact Snd.fail _
  · split
    · exact copyS_snd _ _ _ _ _
    · exact Snd.fail _
  · split
    · exact Snd.bind (deleteS_snd _ _ _ _ _) fun H' _ => Snd.pure _
    · exact Snd.fail _
  · exact Snd.fail _
def lCallS (cx : Cx) (call : CallerS) (c : Call) (g : Env) (H : Heap) : S (AV × Heap) :=
  match c.callee with
  | .builtin b => S.bind (S.lift (evs g c.args.toList)) fun l => lBuiltinS cx b c.argTypes.toList l H
  | .value f => S.bind (S.lift (ev g f)) fun f => S.bind (S.lift (evs g c.args.toList)) fun l => callVS call f l H
  | .invoke _ _ => S.fail
def SndC (cs : CallerS) (c : Caller) : Prop := ∀ t args H, Snd (cs t args H) (c t args H)
theorem lCallS_snd (cx : Cx) {cs : CallerS} {call : Caller} (h : SndC cs call) (c : Call) (g : Env) (H : Heap) : Snd (lCallS cx cs c g H) (lCall cx call c g H) := by
  unfold lCallS lCall
  cases c.callee <;> (try simp only)
  · exact Snd.bind (Snd.lift _) fun f _ => Snd.bind (Snd.lift _) fun l _ => by
      cases f <;> first | exact h _ _ _ | exact Snd.fail _
  · exact Snd.fail _
  · exact Snd.bind (Snd.lift _) fun l _ => lBuiltinS_snd _ _ _ _ _
def loudS (cx : Cx) (call : CallerS) (o : Op) (g : Env) (H : Heap) : S (AV × Heap) :=
  match o with
  | .store t a x => ev2S g a x fun a x => S.bind (aStoreS cx t H a x) fun H' => S.pure (.undef, H')
  | .mapUpdate t m k x => S.bind (S.lift (ev g m)) fun m => ev2S g k x fun k x => S.bind (mapPutS cx t m k x H) fun H' => S.pure (.undef, H')
  | .insert t m k x => S.bind (S.lift (ev g m)) fun m => ev2S g k x fun k x => S.bind (mapPutS cx t m k x H) fun H' => S.pure (.undef, H')
  | .call c => lCallS cx call c g H
  | _ => S.fail
theorem loudS_snd (cx : Cx) {cs : CallerS} {call : Caller} (h : SndC cs call) (o : Op) (g : Env) (H : Heap) : Snd (loudS cx cs o g H) (aLoud cx call o g H) := by
  unfold loudS
  split
  · exact ev2S_snd fun a x => Snd.bind (aStoreS_snd _ _ _ _ _) fun H' _ => Snd.pure _
  · exact Snd.bind (Snd.lift _) fun m _ => ev2S_snd fun k x => Snd.bind (mapPutS_snd _ _ _ _ _ _) fun H' _ => Snd.pure _
  · exact Snd.bind (Snd.lift _) fun m _ => ev2S_snd fun k x => Snd.bind (mapPutS_snd _ _ _ _ _ _) fun H' _ => Snd.pure _
  · exact lCallS_snd cx h _ _ _
  · exact Snd.fail _
def opS (cx : Cx) (call : CallerS) (o : Op) (g : Env) (H : Heap) : S (AV × Heap) :=
  match kindOf cx o with
  | .made => S.bind (madeS cx o g) fun r => S.pure (r.1 H.next, H.new r.2)
  | .quiet => S.bind (quietS cx o g H) fun v => S.pure (v, H)
  | .loud => loudS cx call o g H
theorem opS_snd (cx : Cx) {cs : CallerS} {call : Caller} (h : SndC cs call) (o : Op) (g : Env) (H : Heap) : Snd (opS cx cs o g H) (aOp cx call o g H) := by
  rw [aOp_eq]
  unfold opS aOpK
  cases kindOf cx o <;> (try simp only)
  · exact Snd.bind (madeS_snd _ _ _) fun r _ => Snd.pure _
  · exact Snd.bind (quietS_snd _ _ _ _) fun r _ => Snd.pure _
  · exact loudS_snd cx h _ _ _
def wantS {α : Type} (all : List Oper) (g : Env) (o : Oper) (y n : S α) : S α :=
  match o.guard with
  | none => y
  | some q => match (listAt all q.1).ob (·.dst) with
    | some t => match g t with
      | .bool b => S.test b (cb q.2 y n) (cb q.2 n y)
      | .any => S.fail
      | _ => n
    | none => n
theorem wantS_snd {α : Type} {all : List Oper} {g : Env} {o : Oper} {y n : S α} {p q : Option α} (hy : Snd y p) (hn : Snd n q) : Snd (wantS all g o y n) (cb (gknown all g o) (cb (aWanted all g o) p q) none) := by
  unfold wantS aWanted gknown
  cases o.guard with
  | none => exact hy
  | some r =>
    simp only [aGuard]
    cases (listAt all r.1).ob (·.dst) with
    | none => exact hn
    | some t =>
      simp only [guardHolds]
      cases g t <;> (try simp only [isAny]) <;> first | exact hn | exact Snd.fail _ | skip
      rename_i b
      show Snd _ (cb (b == r.2) p q)
      refine Snd.test (fun h => ?_) (fun h => ?_)
      · rw [h]
        cases r.2
        · exact hn
        · exact hy
      · rw [h]
        cases r.2
        · exact hy
        · exact hn
theorem wantS_snd' {α : Type} {all : List Oper} {g : Env} {o : Oper} {y n : S α} {p q : Option α} (hy : aWanted all g o = true → Snd y p) (hn : aWanted all g o = false → Snd n q) : Snd (wantS all g o y n) (cb (gknown all g o) (cb (aWanted all g o) p q) none) := by
  unfold wantS gknown
  unfold aWanted at *
  cases hg : o.guard with
  | none => rw [hg] at hy; exact hy rfl
  | some r =>
    rw [hg] at hy hn
    simp only [aGuard] at *
    cases hl : (listAt all r.1).ob (·.dst) with
    | none => rw [hl] at hn; exact hn rfl
    | some t =>
      rw [hl] at hy hn
      simp only [guardHolds] at *
      cases ht : g t <;> rw [ht] at hy hn <;> (try simp only [isAny]) <;> first | exact hn rfl | exact Snd.fail _ | skip
      rename_i b
      simp only at hy hn
      show Snd _ (cb (b == r.2) p q)
      refine Snd.test (fun h => ?_) (fun h => ?_)
      · subst h
        cases hr : r.2 <;> rw [hr] at hy hn
        · exact hn rfl
        · exact hy rfl
      · subst h
        cases hr : r.2 <;> rw [hr] at hy hn
        · exact hy rfl
        · exact hn rfl
def stepS (cx : Cx) (call : CallerS) (all : List Oper) (o : Oper) (g : Env) (H : Heap) : S (AV × Heap) := wantS all g o (opS cx call o.op g H) (S.pure (.undef, H))
theorem stepS_snd (cx : Cx) {cs : CallerS} {call : Caller} (h : SndC cs call) (all : List Oper) (o : Oper) (g : Env) (H : Heap) : Snd (stepS cx cs all o g H) (aStep cx call all o g H) :=
  wantS_snd (opS_snd cx h _ _ _) (Snd.pure _)
theorem T.put_same {α : Type} (d : α) (t : T α) : ∀ (n f : Nat), T.get d t n ≠ d → T.put d (T.get d t n) t f n = t := by
  induction t with
  | nil => intro n f h; exact absurd rfl h
  | node v l r ihl ihr =>
    intro n f h
    change cb (Nat.beq n 0) v (cb (Nat.beq (Nat.mod n 2) 1) (T.get d l (Nat.div n 2)) (T.get d r (Nat.pred (Nat.div n 2)))) ≠ d at h
    show cb (Nat.beq n 0) (T.node (cb (Nat.beq n 0) v (cb (Nat.beq (Nat.mod n 2) 1) (T.get d l (Nat.div n 2)) (T.get d r (Nat.pred (Nat.div n 2))))) l r) (cb (Nat.beq (Nat.mod n 2) 1)
      (T.node v (T.put d (cb (Nat.beq n 0) v (cb (Nat.beq (Nat.mod n 2) 1) (T.get d l (Nat.div n 2)) (T.get d r (Nat.pred (Nat.div n 2))))) l (Nat.pred f) (Nat.div n 2)) r)
      (T.node v l (T.put d (cb (Nat.beq n 0) v (cb (Nat.beq (Nat.mod n 2) 1) (T.get d l (Nat.div n 2)) (T.get d r (Nat.pred (Nat.div n 2))))) r (Nat.pred f) (Nat.pred (Nat.div n 2))))) = _
    cases h0 : Nat.beq n 0 with
    | true => rfl
    | false =>
      rw [h0, cb_false] at h
      simp only [cb_false]
      cases h1 : Nat.beq (Nat.mod n 2) 1 with
      | true => rw [h1, cb_true] at h; simp only [cb_true]; rw [ihl _ _ h]
      | false => rw [h1, cb_false] at h; simp only [cb_false]; rw [ihr _ _ h]
theorem set_same {fr : Fr} {t : Nat} {b : Bool} (h : fr.get t = .bool b) : T.set .undef fr t (.bool b) = fr := by
  have e := T.put_same AV.undef fr t (Nat.succ t) (by
    have h : T.get AV.undef fr t = .bool b := h
    rw [h]; exact AV.noConfusion)
  have h : T.get AV.undef fr t = .bool b := h
  rw [h] at e
  exact e
def narrowS {α : Type} (all : List Oper) (o : Oper) (fr : Fr) (k : Fr → S α) : S α :=
  match o.guard with
  | none => k fr
  | some q => match (listAt all q.1).ob (·.dst) with
    | some t => match fr.get t with
      | .bool b => S.test b (k (T.set .undef fr t (.bool true))) (k (T.set .undef fr t (.bool false)))
      | _ => k fr
    | none => k fr
theorem narrowS_snd {α : Type} (all : List Oper) (o : Oper) (fr : Fr) {k : Fr → S α} {p : Option α} (h : Snd (k fr) p) : Snd (narrowS all o fr k) p := by
  unfold narrowS
  cases o.guard with
  | none => exact h
  | some q =>
    simp only
    cases (listAt all q.1).ob (·.dst) with
    | none => exact h
    | some t =>
      simp only
      cases ht : fr.get t <;> try exact h
      rename_i b
      refine Snd.test (fun e => ?_) (fun e => ?_)
      · rw [set_same (by rw [ht, e])]; exact h
      · rw [set_same (by rw [ht, e])]; exact h
def opsS (cx : Cx) (call : CallerS) (n : Nat) (all l : List Oper) : Fr → Heap → S (Fr × Heap) :=
  List.rec (motive := fun _ => Fr → Heap → S (Fr × Heap)) (fun fr H => S.pure (fr, H))
    (fun o _ go fr H => narrowS all o fr fun fr => S.bind (stepS cx call all o fr.get H) fun r => S.bind (S.lift (fr.put n o.dst r.1)) fun fr' => go fr' r.2) l
theorem opsS_snd (cx : Cx) {cs : CallerS} {call : Caller} (h : SndC cs call) (n : Nat) (all : List Oper) : ∀ (l : List Oper) (fr : Fr) (H : Heap), Snd (opsS cx cs n all l fr H) (aOps cx call n all l fr H) := by
  intro l
  induction l with
  | nil => intro fr H; exact Snd.pure _
  | cons o l ih =>
    intro fr H
    rw [aOps_cons]
    show Snd (narrowS all o fr fun fr => S.bind (stepS cx cs all o fr.get H) fun r => S.bind (S.lift (fr.put n o.dst r.1)) fun fr' => opsS cx cs n all l fr' r.2) _
    exact narrowS_snd all o fr (Snd.bind (stepS_snd cx h _ _ _ _) fun r _ => Snd.bind (Snd.lift _) fun fr' _ => ih _ _)
def drawRunS (cx : Cx) (call : CallerS) (n : Nat) (all : List Oper) : List Row → Fr → Heap → S (List Rec × List Heap × Fr)
  | [], fr, H => S.pure ([], [H], fr)
  | r :: rest, fr, H => narrowS all r.o fr fun fr => S.bind (stepS cx call all r.o fr.get H) fun x => cb (Nat.ble H.next x.2.next) (S.bind (S.lift (fr.put n r.o.dst x.1)) fun fr' => S.bind (drawRunS cx call n all rest fr' x.2) fun y =>
      S.pure (⟨r, fr, x.1, H.next⟩ :: y.1, (if isLoudR r then H :: y.2.1 else y.2.1), y.2.2)) S.fail
theorem drawRunS_snd (cx : Cx) {cs : CallerS} {call : Caller} (h : SndC cs call) (n : Nat) (all : List Oper) : ∀ (l : List Row) (fr : Fr) (H : Heap), Snd (drawRunS cx cs n all l fr H) (drawRun cx call n all l fr H) := by
  intro l
  induction l with
  | nil => intro fr H; exact Snd.pure _
  | cons r l ih =>
    intro fr H
    exact narrowS_snd all r.o fr (Snd.bind (stepS_snd cx h _ _ _ _) fun x _ => Snd.cb_bool (Snd.bind (Snd.lift _) fun fr' _ => Snd.bind (ih _ _) fun y _ => Snd.pure _) (Snd.fail _))
def S.same {α : Type} (a b : AV) (k : S α) : S α := S.ask (cb (AV.beq a b) k S.fail) (S.note (.same a b) k) S.fail
theorem Snd.same {α : Type} {a b : AV} {k : S α} {o : Option α} (h : a = b → Snd k o) : Snd (S.same a b k) o := by
  refine Snd.ask ?_ (Snd.note h) (Snd.fail _)
  cases hb : AV.beq a b with
  | true => exact h (AV.beq_eq a b hb)
  | false => exact Snd.fail _
def sameBlkS (a b : Blk) : S Unit :=
  match a, b with
  | .cells o e n cs, .cells o' e' n' cs' => cb ((o == o') && decide (e = e')) (S.must (Nat.beq n n') (S.same (.agg cs) (.agg cs') (S.pure ()))) S.fail
  | .entries [], .entries [] => S.pure ()
  | _, _ => S.fail
def freeOp (o : Op) : Bool :=
  match o with
  | .move _ => true
  | .assign _ => true
  | .pick _ _ _ => true
  | .build _ _ => true
  | .nilCheck _ => true
  | .sliceToArrayPointer _ _ => true
  | .binOp _ _ _ _ _ => true
  | .unOp _ _ _ => true
  | .makeFunc _ _ _ => true
  | .slice _ _ _ _ _ => true
  | .fieldAddr _ _ _ => true
  | .field _ _ _ => true
  | .indexAddr _ _ _ => true
  | .index _ _ _ => true
  | .extract _ _ => true
  | _ => false
theorem freeOp_eq {cx : Cx} {o : Op} (h : freeOp o = true) (g : Env) (H H' : Heap) : aQuiet cx o g H = aQuiet cx o g H' := by
  cases o <;> first | rfl | (cases h; done)
def isQuietK (k : Kind) : Bool := match k with
  | .quiet => true
  | _ => false
def RecGood (cx : Cx) (all : List Oper) (c : Rec) : Prop := aWanted all c.g.get c.r.o = true → isQuietK (kindOf cx c.r.o.op) = true → ∃ H, aQuiet cx c.r.o.op c.g.get H = some c.v
theorem drawRun_good {cx : Cx} {call : Caller} {n : Nat} {all : List Oper} : ∀ {l : List Row} {fr : Fr} {H : Heap} {y : List Rec × List Heap × Fr}, drawRun cx call n all l fr H = some y → ∀ c ∈ y.1, RecGood cx all c := by
  intro l
  induction l with
  | nil => intro fr H y h c hc; injection h with h; subst h; cases hc
  | cons r l ih =>
    intro fr H y h c hc
    unfold drawRun at h
    replace h := ob_eq h; obtain ⟨x, hx, h⟩ := h
    cases hn : Nat.ble H.next x.2.next with
    | false => rw [hn] at h; cases h
    | true =>
      rw [hn, cb_true] at h
      replace h := ob_eq h; obtain ⟨fr', hf, h⟩ := h
      replace h := ob_eq h; obtain ⟨y', hy, h⟩ := h
      injection h with h
      subst h
      rcases List.mem_cons.1 hc with rfl | hc
      · intro hw hk
        obtain ⟨_, hx⟩ := aStep_eq hx
        unfold aStep0 at hx
        simp only at hw hk
        rw [hw, cb_true, aOp_eq] at hx
        unfold aOpK at hx
        cases hkk : kindOf cx r.o.op <;> rw [hkk] at hk hx <;> try (cases hk; done)
        simp only at hx
        replace hx := ob_eq hx; obtain ⟨v, hv, hx⟩ := hx
        injection hx with hx
        exact ⟨H, by rw [hv, ← hx]⟩
      · exact ih hy c hc
def oneHoldsS (cx : Cx) (c : Rec) (H : Heap) : S Unit :=
  match c.r.k with
  | .loud => S.pure ()
  | .quiet => cb (freeOp c.r.o.op && isQuietK (kindOf cx c.r.o.op)) (S.pure ()) (S.bind (quietS cx c.r.o.op c.g.get H) fun v => S.same v c.v (S.pure ()))
  | .made => S.bind (madeS cx c.r.o.op c.g.get) fun m => cb (Nat.ble (Nat.succ c.id) H.next) (sameBlkS (H.get c.id) m.2) S.fail
def allS {α : Type} (f : α → S Unit) : List α → S Unit
  | [] => S.pure ()
  | a :: l => S.bind (f a) fun _ => allS f l
def recHoldsS (cx : Cx) (all : List Oper) (Hs : List Heap) (c : Rec) : S Unit :=
  wantS all c.g.get c.r.o (match c.r.k with | .loud => S.pure () | _ => allS (oneHoldsS cx c) ((Hs.take (c.r.hi + 1)).drop c.r.lo)) (S.pure ())
mutual
theorem AV.beq_refl : ∀ (a : AV), AV.beq a a = true
  | .undef => rfl
  | .int k n => by simp [AV.beq]
  | .bool b => by simp [AV.beq]
  | .str s => by simp [AV.beq]
  | .ptr p => by simp [AV.beq]
  | .slice p l c => by simp [AV.beq]
  | .map r => by simp [AV.beq]
  | .func f x y => by simp [AV.beq, AV.beqL_refl x, AV.beqL_refl y]
  | .yield l => by simp [AV.beq]
  | .nilFunc => rfl
  | .iface t v => by simp [AV.beq, AV.beq_refl v]
  | .nilIface => rfl
  | .agg cs => by simp [AV.beq, AV.beqL_refl cs]
  | .tuple cs => by simp [AV.beq, AV.beqL_refl cs]
  | .fsl n l cs => by simp [AV.beq, AV.beqL_refl cs]
  | .fptr cs => by simp [AV.beq, AV.beqL_refl cs]
  | .any => rfl
theorem AV.beqL_refl : ∀ (a : List AV), AV.beqL a a = true
  | [] => rfl
  | x :: xs => by simp [AV.beqL, AV.beq_refl x, AV.beqL_refl xs]
end
def chk (b : Bool) : Option Unit := cb b (some ()) none
theorem sameBlkS_snd (a b : Blk) : Snd (sameBlkS a b) (chk (Blk.same a b)) := by
  unfold sameBlkS
  split
  · rename_i o e n cs o' e' n' cs'
    cases hc : ((o == o') && decide (e = e')) with
    | false => exact Snd.fail _
    | true =>
      refine Snd.must fun h => Snd.same fun h2 => ?_
      have h2 : AV.agg cs = AV.agg cs' := h2
      injection h2 with h2
      have h := Nat.eq_of_beq_eq_true h
      have : Blk.same (.cells o e n cs) (.cells o' e' n' cs') = true := by
        simp only [Blk.same, hc, h, h2, AV.beqL_refl, decide_true, Bool.and_true]
      rw [this]; exact Snd.pure _
  · exact Snd.pure _
  · exact Snd.fail _
theorem allS_snd {α : Type} {f : α → S Unit} {p : α → Bool} (h : ∀ a, Snd (f a) (chk (p a))) : ∀ l : List α, Snd (allS f l) (chk (l.all p)) := by
  intro l
  induction l with
  | nil => exact Snd.pure _
  | cons a l ih =>
    have e : chk ((a :: l).all p) = (chk (p a)).ob fun _ => chk (l.all p) := by
      simp only [List.all_cons, chk]
      cases p a <;> rfl
    rw [e]
    exact Snd.bind (h a) fun _ _ => ih
theorem allS_snd' {α : Type} {f : α → S Unit} {p : α → Bool} : ∀ {l : List α}, (∀ a ∈ l, Snd (f a) (chk (p a))) → Snd (allS f l) (chk (l.all p)) := by
  intro l
  induction l with
  | nil => intro h; exact Snd.pure _
  | cons a l ih =>
    intro h
    have e : chk ((a :: l).all p) = (chk (p a)).ob fun _ => chk (l.all p) := by
      simp only [List.all_cons, chk]
      cases p a <;> rfl
    rw [e]
    exact Snd.bind (h a (by simp)) fun _ _ => ih fun b hb => h b (by simp [hb])
theorem recHoldsS_snd (cx : Cx) (all : List Oper) (Hs : List Heap) (c : Rec) (hg : RecGood cx all c) : Snd (recHoldsS cx all Hs c) (chk (recHolds cx all Hs c)) := by
  have quiet : aWanted all c.g.get c.r.o = true → ∀ H : Heap, Snd (cb (freeOp c.r.o.op && isQuietK (kindOf cx c.r.o.op)) (S.pure ()) (S.bind (quietS cx c.r.o.op c.g.get H) fun v => S.same v c.v (S.pure ()))) (chk (match aQuiet cx c.r.o.op c.g.get H with | some v => AV.beq v c.v | none => false)) := by
    intro hw H
    cases hf : (freeOp c.r.o.op && isQuietK (kindOf cx c.r.o.op)) with
    | true =>
      rw [Bool.and_eq_true] at hf
      obtain ⟨H2, h2⟩ := hg hw hf.2
      rw [freeOp_eq hf.1 c.g.get H H2, h2]
      simp only [AV.beq_refl]
      exact Snd.pure _
    | false =>
    rw [cb_false]
    have e : chk (match aQuiet cx c.r.o.op c.g.get H with | some v => AV.beq v c.v | none => false) = (aQuiet cx c.r.o.op c.g.get H).ob fun v => chk (AV.beq v c.v) := by
      cases aQuiet cx c.r.o.op c.g.get H <;> rfl
    rw [e]
    refine Snd.bind (quietS_snd _ _ _ _) fun v _ => Snd.same fun h => ?_
    have h : v = c.v := h
    rw [h, AV.beq_refl]; exact Snd.pure _
  have made : ∀ H : Heap, Snd (S.bind (madeS cx c.r.o.op c.g.get) fun m => cb (Nat.ble (Nat.succ c.id) H.next) (sameBlkS (H.get c.id) m.2) S.fail) (chk (match aMade cx c.r.o.op c.g.get with | some m => Nat.ble (Nat.succ c.id) H.next && Blk.same (H.get c.id) m.2 | none => false)) := by
    intro H
    have e : chk (match aMade cx c.r.o.op c.g.get with | some m => Nat.ble (Nat.succ c.id) H.next && Blk.same (H.get c.id) m.2 | none => false) = (aMade cx c.r.o.op c.g.get).ob fun m => cb (Nat.ble (Nat.succ c.id) H.next) (chk (Blk.same (H.get c.id) m.2)) none := by
      cases aMade cx c.r.o.op c.g.get with
      | none => rfl
      | some m => simp only [ob_some]; cases Nat.ble (Nat.succ c.id) H.next <;> rfl
    rw [e]
    exact Snd.bind (madeS_snd _ _ _) fun m _ => Snd.cb_bool (sameBlkS_snd _ _) (Snd.fail _)
  unfold recHoldsS
  have e : chk (recHolds cx all Hs c) = cb (aWanted all c.g.get c.r.o) (chk (match c.r.k with
      | .loud => true
      | .quiet => ((Hs.take (c.r.hi + 1)).drop c.r.lo).all fun H => match aQuiet cx c.r.o.op c.g.get H with
        | some v => AV.beq v c.v
        | none => false
      | .made => ((Hs.take (c.r.hi + 1)).drop c.r.lo).all fun H => match aMade cx c.r.o.op c.g.get with
        | some m => Nat.ble (Nat.succ c.id) H.next && Blk.same (H.get c.id) m.2
        | none => false)) (some ()) := by
    unfold recHolds
    cases aWanted all c.g.get c.r.o with
    | true => rw [if_pos rfl]; rfl
    | false => rw [if_neg (by simp)]; rfl
  rw [e]
  have drop : ∀ {m : S Unit} {b : Bool} {o : Option Unit}, Snd m (cb b o none) → Snd m o := by
    intro m b o hm q P h1
    obtain ⟨r, q', e, h2⟩ := hm q P h1
    cases b with
    | true => exact ⟨r, q', e, h2⟩
    | false => cases e
  refine drop (wantS_snd' (fun hw => ?_) (fun _ => Snd.pure _))
  cases hk : c.r.k with
  | loud => exact Snd.pure _
  | quiet =>
    simp only
    refine allS_snd (fun H => ?_) _
    unfold oneHoldsS
    rw [hk]; exact quiet hw H
  | made =>
    simp only
    refine allS_snd (fun H => ?_) _
    unfold oneHoldsS
    rw [hk]; exact made H
def drawS (cx : Cx) (call : CallerS) (n : Nat) (ops : List Oper) (fr : Fr) (H : Heap) : S (Fr × Heap) :=
  S.bind (S.lift (mkPlan cx ops)) fun p => S.bind (drawRunS cx call n ops p.plan fr H) fun y =>
    cb (allQuiet p.rows) (S.pure (y.2.2, y.2.1.getLastD H)) (S.bind (allS (recHoldsS cx ops y.2.1) y.1) fun _ => S.pure (y.2.2, y.2.1.getLastD H))
theorem drawS_snd (cx : Cx) {cs : CallerS} {call : Caller} (h : SndC cs call) (n : Nat) (ops : List Oper) (fr : Fr) (H : Heap) : Snd (drawS cx cs n ops fr H) (aDraw cx call n ops fr H) := by
  refine Snd.bind (Snd.lift _) fun p _ => Snd.bind (drawRunS_snd cx h _ _ _ _ _) fun y hy => ?_
  cases hq : allQuiet p.rows with
  | true => rw [if_pos (by simp)]; exact Snd.pure _
  | false =>
    have e : (if (false || y.1.all (recHolds cx ops y.2.1)) = true then some (y.2.2, y.2.1.getLastD H) else none) = (chk (y.1.all (recHolds cx ops y.2.1))).ob fun _ => some (y.2.2, y.2.1.getLastD H) := by
      cases y.1.all (recHolds cx ops y.2.1) <;> rfl
    rw [e]
    exact Snd.bind (allS_snd' (fun c hc => recHoldsS_snd cx ops y.2.1 c (drawRun_good hy c hc))) fun _ _ => Snd.pure _
abbrev RunS := Code → St → S (AX × St)
def regionS (cx : Cx) (call : CallerS) (n : Nat) (ops : List Oper) (draw : Bool) (s : St) : S (AX × St) :=
  S.bind (cb draw (drawS cx call n ops s.fr s.H) (opsS cx call n ops ops s.fr s.H)) fun r => S.pure (.normal, ⟨r.1, s.ds, r.2⟩)
def thenS (run : St → S (AX × St)) (r : AX × St) : S (AX × St) :=
  match r.1 with
  | .normal => run r.2
  | x => S.pure (x, r.2)
def St.knows (x : Operand) (o : Bool) (s : St) : St :=
  match x with
  | .tmp t => { s with fr := T.set .undef s.fr t (.bool o) }
  | _ => s
theorem St.knows_eq {x : Operand} {o : Bool} {s : St} {v : AV} (h1 : ev s.fr.get x = some v) (h2 : v.bool? = some o) : s.knows x o = s := by
  cases x with
  | tmp t =>
    have hv : v = .bool o := by cases v <;> first | (cases h2; done) | (injection h2 with h2; rw [h2])
    subst hv
    have hg : s.fr.get t = .bool o := by
      have h1 : known (s.fr.get t) = some (.bool o) := h1
      cases hx : s.fr.get t <;> rw [hx] at h1 <;> first | (cases h1; done) | (injection h1 with h1)
    unfold St.knows
    simp only
    rw [set_same hg]
  | _ => rfl
def condS (run : RunS) (x : Operand) (a b : Code) (s : St) : S (AX × St) :=
  S.bind (S.lift (ev s.fr.get x)) fun v => S.bind (S.lift v.bool?) fun t => S.test t (run a (s.knows x true)) (run b (s.knows x false))
def rangeS (call : CallerS) (fn : FuncId) (around : Option Nat) (n : Nat) (x : Operand) (ps : List Tmp) (asg body : Code) (s : St) : S (AX × St) :=
  S.bind (S.lift (ev s.fr.get x)) fun v =>
    match v with
    | .func g first captured => S.bind (S.lift (cDefers around s)) fun q =>
        S.bind (call (.fn g) (first ++ [AV.yield q.2.2.next] ++ captured) (q.2.2.new (.loop fn n s.fr ps asg body q.1 .ready))) fun r => S.lift (cEnd s.fr q.2.1 q.2.2.next r.2)
    | _ => S.fail
abbrev LoopS := FuncId → Nat → Option (Code × (Nat → St → S (AX × St)))
def code1S (cx : Cx) (sl : LoopS) (call : CallerS) (fn : FuncId) (around : Option Nat) (n : Nat) (run : RunS) : RunS := fun c s =>
  match c with
  | .skip => S.pure (.normal, s)
  | .region _ ops draw => regionS cx call n ops.toList draw s
  | .seq a b => S.bind (run a s) (thenS (run b))
  | .cond x a b => condS run x a b s
  | .block id b => match sl fn id with
    | none => S.bind (run b s) fun r => S.lift (cBlock id r)
    | some m => S.note (.code b m.1) (m.2 n s)
  | .loop b => S.bind (run b s) (thenS (run (.loop b)))
  | .exit id => S.pure (.exit id, s)
  | .ret => S.pure (.ret, s)
  | .rangeFunc x ps asg body => rangeS call fn around n x ps.toList asg body s
  | _ => S.fail
def codeS (cx : Cx) (sl : LoopS) (call : CallerS) (fn : FuncId) (around : Option Nat) (n f : Nat) : RunS :=
  Nat.rec (motive := fun _ => RunS) (fun _ _ => S.fail) (fun _ run => code1S cx sl call fn around n run) f
theorem thenS_snd {run : St → S (AX × St)} {run' : St → Option (AX × St)} (h : ∀ s, Snd (run s) (run' s)) (r : AX × St) : Snd (thenS run r) (cThen run' r) := by
  unfold thenS cThen
  cases r.1 <;> first | exact h _ | exact Snd.pure _
structure LoopsSOK (cx : Cx) (sl : LoopS) : Prop where
  yes : ∀ fn id m, sl fn id = some m → ∃ L, cx.loop fn id = some L ∧ L.code = m.1 ∧ ∀ n s, Snd (m.2 n s) (L.run n s)
  no : ∀ fn id, sl fn id = none → cx.loop fn id = none
theorem codeS_snd (cx : Cx) {sl : LoopS} (hl : LoopsSOK cx sl) {cs : CallerS} {call : Caller} (h : SndC cs call) (fn : FuncId) (around : Option Nat) (n : Nat) : ∀ (f : Nat) (c : Code) (s : St), Snd (codeS cx sl cs fn around n f c s) (aCode cx call fn around n f c s) := by
  intro f
  induction f with
  | zero => intro c s; exact Snd.fail _
  | succ f ih =>
    intro c s
    rw [aCode_succ]
    show Snd (code1S cx sl cs fn around n (codeS cx sl cs fn around n f) c s) _
    unfold code1S aCode1
    cases c <;> (try simp only) <;> try exact Snd.fail _
    case skip => exact Snd.pure _
    case region id ops draw => exact Snd.bind (Snd.cb_bool (drawS_snd cx h _ _ _ _) (opsS_snd cx h _ _ _ _ _)) fun r _ => Snd.pure _
    case seq a b => exact Snd.bind (ih _ _) fun r _ => thenS_snd (fun s => ih _ _) r
    case cond x a b =>
      refine Snd.bind (Snd.lift _) fun v h1 => Snd.bind (Snd.lift _) fun t h2 => Snd.test (fun e => ?_) (fun e => ?_)
      · rw [e] at h2 ⊢; rw [St.knows_eq h1 h2]; exact ih _ _
      · rw [e] at h2 ⊢; rw [St.knows_eq h1 h2]; exact ih _ _
    case block id b =>
      cases hm : sl fn id with
      | none =>
        rw [hl.no fn id hm]
        exact Snd.bind (ih _ _) fun r _ => Snd.lift _
      | some m =>
        obtain ⟨L, h1, h2, h3⟩ := hl.yes fn id m hm
        rw [h1]
        refine Snd.note fun hb => ?_
        have hb : b = L.code := by rw [h2]; exact hb
        simp only [hook]
        rw [if_pos hb]
        intro q P hr
        obtain ⟨r, q', e, hp⟩ := h3 n s q P hr
        rw [e]
        exact ⟨r, q', rfl, hp⟩
    case loop b => exact Snd.bind (ih _ _) fun r _ => thenS_snd (fun s => ih _ _) r
    case exit id => exact Snd.pure _
    case ret => exact Snd.pure _
    case rangeFunc x ps asg body =>
      refine Snd.bind (Snd.lift _) fun v _ => ?_
      cases v <;> (try simp only) <;> try exact Snd.fail _
      exact Snd.bind (Snd.lift _) fun q _ => Snd.bind (h _ _ _) fun r _ => Snd.lift _
def resultS (cx : Cx) (fr : Fr) (H : Heap) : ResultVar → S AV
  | .tmp t => S.lift (known (fr.get t))
  | .cell a t => loadS cx t H (fr.get a)
def resultsS (cx : Cx) (fr : Fr) (H : Heap) : List ResultVar → S (List AV)
  | [] => S.pure []
  | r :: rs => S.bind (resultS cx fr H r) fun v => S.bind (resultsS cx fr H rs) fun vs => S.pure (v :: vs)
theorem resultsS_snd (cx : Cx) (fr : Fr) (H : Heap) : ∀ rs, Snd (resultsS cx fr H rs) (aResults cx fr H rs) := by
  intro rs
  induction rs with
  | nil => exact Snd.pure _
  | cons r rs ih =>
    refine Snd.bind ?_ fun v _ => Snd.bind ih fun vs _ => Snd.pure _
    cases r
    · exact Snd.lift _
    · exact loadS_snd _ _ _ _
def endS (cx : Cx) (fn : Func) (r : AX × St) : S (AV × Heap) :=
  match r.1 with
  | .exit _ => S.fail
  | _ => S.bind (S.lift (shut r.2.ds r.2.H)) fun H' => S.bind (resultsS cx r.2.fr H' fn.results.toList) fun vs => S.pure (single vs, H')
theorem endS_snd (cx : Cx) (fn : Func) (r : AX × St) : Snd (endS cx fn r) (callEnd cx fn r) := by
  unfold endS callEnd
  cases r.1
  · exact Snd.bind (Snd.lift _) fun H' _ => Snd.bind (resultsS_snd _ _ _ _) fun vs _ => Snd.pure _
  · exact Snd.fail _
  · exact Snd.bind (Snd.lift _) fun H' _ => Snd.bind (resultsS_snd _ _ _ _) fun vs _ => Snd.pure _
def bodyS (cx : Cx) (sl : LoopS) (call : CallerS) (f : Nat) (g : FuncId) (fn : Func) (args : List AV) (H : Heap) : S (AV × Heap) :=
  S.bind (S.lift fn.body) fun body => cb (Nat.ble args.length fn.ntmps) (S.bind (codeS cx sl call g none fn.ntmps f body ⟨ofList 0 args .nil, [], H⟩) (endS cx fn)) S.fail
theorem bodyS_snd (cx : Cx) {sl : LoopS} (hl : LoopsSOK cx sl) {cs : CallerS} {call : Caller} (h : SndC cs call) (f : Nat) (g : FuncId) (fn : Func) (args : List AV) (H : Heap) : Snd (bodyS cx sl cs f g fn args H) (callBody cx call f g fn args H) := by
  refine Snd.bind (Snd.lift _) fun body _ => ?_
  cases hb : Nat.ble args.length fn.ntmps with
  | false => exact Snd.fail _
  | true =>
    rw [if_pos (Nat.le_of_ble_eq_true hb)]
    exact Snd.bind (codeS_snd cx hl h _ _ _ _ _ _) fun r _ => endS_snd cx fn r
structure SumS where
  fn : FuncId → Option (List AV → Heap → S (AV × Heap))
  loop : LoopS := fun _ _ => none
def callFnS (cx : Cx) (sums : SumS) (call : CallerS) (f : Nat) (g : FuncId) (args : List AV) (H : Heap) : S (AV × Heap) :=
  S.bind (S.lift (cx.fn g)) fun fn => match sums.fn g with
    | some m => m args H
    | none => bodyS cx sums.loop call f g fn args H
structure SumsOK (cx : Cx) (sums : SumS) : Prop where
  yes : ∀ g m args H, sums.fn g = some m → Snd (m args H) (cx.sum g args H)
  no : ∀ g args H, sums.fn g = none → cx.sum g args H = none
  loops : LoopsSOK cx sums.loop
def roundEndS (l : Nat) (q : AX × St) : S (AV × Heap) := S.lift (roundEnd l q)
def roundBodyS (cx : Cx) (sl : LoopS) (call : CallerS) (f : Nat) (l fn n : Nat) (body : Code) (r : AX × St) : S (AV × Heap) :=
  cb (r.1.isNormal && isReady r.2.H l) (S.bind (codeS cx sl call fn (some l) n f body ⟨r.2.fr, r.2.ds, r.2.H.put l (Blk.setLS .busy (r.2.H.get l))⟩) (roundEndS l)) S.fail
def yieldS (cx : Cx) (sl : LoopS) (call : CallerS) (f : Nat) (l : Nat) (args : List AV) (H : Heap) : S (AV × Heap) :=
  match H.get l with
  | .loop fn n fr ps asg body d .ready => S.bind (S.lift (putAll n ps args fr)) fun fr' =>
      S.bind (codeS cx sl call fn (some l) n f asg ⟨fr', [], H⟩) (roundBodyS cx sl call f l fn n body)
  | _ => S.fail
theorem yieldS_snd (cx : Cx) {sl : LoopS} (hl : LoopsSOK cx sl) {cs : CallerS} {call : Caller} (h : SndC cs call) (f : Nat) (l : Nat) (args : List AV) (H : Heap) : Snd (yieldS cx sl cs f l args H) (callYield cx call f l args H) := by
  unfold yieldS callYield
  cases H.get l <;> (try simp only) <;> try exact Snd.fail _
  rename_i fn n fr ps asg body d st
  cases st <;> (try simp only) <;> try exact Snd.fail _
  refine Snd.bind (Snd.lift _) fun fr' _ => Snd.bind (codeS_snd cx hl h _ _ _ _ _ _) fun r _ => Snd.cb_bool (Snd.bind (codeS_snd cx hl h _ _ _ _ _ _) fun q _ => Snd.lift _) (Snd.fail _)
def call1S (cx : Cx) (sums : SumS) (call : CallerS) (f : Nat) (t : Tgt) (args : List AV) (H : Heap) : S (AV × Heap) :=
  match t with
  | .fn g => callFnS cx sums call f g args H
  | .yield l => yieldS cx sums.loop call f l args H
def callS (cx : Cx) (sums : SumS) (f : Nat) : CallerS :=
  Nat.rec (motive := fun _ => CallerS) (fun _ _ _ => S.fail) (fun f call => call1S cx sums call f) f
theorem callS_snd (cx : Cx) {sums : SumS} (hs : SumsOK cx sums) : ∀ f, SndC (callS cx sums f) (aCall cx f) := by
  intro f
  induction f with
  | zero => intro t args H; exact Snd.fail _
  | succ f ih =>
    intro t args H
    rw [aCall_succ]
    show Snd (call1S cx sums (callS cx sums f) f t args H) (aCall1 cx (aCall cx f) f t args H)
    cases t with
    | fn g =>
      show Snd (callFnS cx sums (callS cx sums f) f g args H) (callFn cx (aCall cx f) f g args H)
      unfold callFnS callFn
      refine Snd.bind (Snd.lift _) fun fn _ => ?_
      cases hg : sums.fn g with
      | none => rw [hs.no g args H hg]; exact bodyS_snd cx hs.loops ih _ _ _ _ _
      | some m =>
        have := hs.yes g m args H hg
        intro q P h1
        obtain ⟨r, q', e, hp⟩ := this q P h1
        rw [e]
        exact ⟨r, q', rfl, hp⟩
    | yield l => exact yieldS_snd cx hs.loops ih _ _ _ _
end Go.Ab
end
end

section
section
namespace Go.Ab
open Go.RowKit
mutual
def AV.plain : AV → Bool
  | .undef | .int _ _ | .bool _ | .str _ | .nilFunc | .nilIface => true
  | .ptr p => p.isNone
  | .slice p _ _ => p.isNone
  | .map r => r.isNone
  | .func _ x y => AV.plainL x && AV.plainL y
  | .yield _ => false
  | .iface _ v => v.plain
  | .agg cs => AV.plainL cs
  | .tuple cs => AV.plainL cs
  | .fsl _ _ cs => AV.plainL cs
  | .fptr cs => AV.plainL cs
  | .any => true
def AV.plainL : List AV → Bool
  | [] => true
  | v :: vs => v.plain && AV.plainL vs
end
mutual
theorem RelV.move {μ μ' : Inj} (hz : ∀ k arr, μ.fz k = some arr → μ'.fz k = some arr) : ∀ {v : AV} {x : Value}, v.plain = true → RelV μ v x → RelV μ' v x
  | _, _, _, .undef => .undef
  | _, _, _, .any => .any
  | _, _, _, .int k n => .int k n
  | _, _, _, .bool b => .bool b
  | _, _, _, .str s => .str s
  | _, _, _, .ptrN => .ptrN
  | _, _, h, .ptr _ => by simp [AV.plain] at h
  | _, _, _, .sliceN => .sliceN
  | _, _, h, .slice _ _ _ => by simp [AV.plain] at h
  | _, _, h, .sliceU _ _ _ _ => by simp [AV.plain] at h
  | _, _, _, .mapN => .mapN
  | _, _, h, .map _ => by simp [AV.plain] at h
  | _, _, h, .func a b => by
    simp only [AV.plain, Bool.and_eq_true] at h
    exact .func (RelL.move hz h.1 a) (RelL.move hz h.2 b)
  | _, _, h, .yield _ => by simp [AV.plain] at h
  | _, _, _, .nilFunc => .nilFunc
  | _, _, _, .nilIface => .nilIface
  | _, _, h, .iface a => by
    simp only [AV.plain] at h
    exact .iface (RelV.move hz h a)
  | _, _, h, .agg a => by
    simp only [AV.plain] at h
    exact .agg (RelL.move hz h a)
  | _, _, h, .tuple a => by
    simp only [AV.plain] at h
    exact .tuple (RelL.move hz h a)
  | _, _, _, .fslN => .fslN
  | _, _, h, .fsl a b c d => by
    simp only [AV.plain] at h
    exact .fsl (fun hn => ⟨(a hn).1, hz _ _ (a hn).2⟩) (RelL.move hz h b) c d
  | _, _, h, .fptr a b c => by
    simp only [AV.plain] at h
    exact .fptr (fun hn => ⟨(a hn).1, hz _ _ (a hn).2⟩) (RelL.move hz h b) c
theorem RelL.move {μ μ' : Inj} (hz : ∀ k arr, μ.fz k = some arr → μ'.fz k = some arr) : ∀ {v : List AV} {x : List Value}, AV.plainL v = true → RelL μ v x → RelL μ' v x
  | _, _, _, .nil => .nil
  | _, _, h, .cons a b => by
    simp only [AV.plainL, Bool.and_eq_true] at h
    exact .cons (RelV.move hz h.1 a) (RelL.move hz h.2 b)
end
structure SumAll (P : Program) (cx : Cx) : Prop where
  sum : ∀ base w0, SumOK P cx base w0
  loop : ∀ base w0, LoopsOK P cx base w0
def Inj.frozen (μ : Inj) (lo : Nat) : Inj := ⟨fun _ => none, μ.fz, lo⟩
theorem RelW.frozen {sz : TypeId → Nat} {base : Nat → Prop} {w0 w : World} {μ : Inj} {H : Heap} (h : RelW sz base w0 μ H w) : RelW sz (Old w) w (μ.frozen w.heap.size) H0 w :=
  ⟨Keep.refl _ _, fun _ h => h, fun _ _ e => (by cases e), fun _ _ e => (by cases e), fun _ _ _ _ e => (by cases e), h.froz, fun _ _ _ _ e => (by cases e), Nat.le_refl _⟩
end Go.Ab
end
end

section
noncomputable section
namespace Go.Ab
open Go.RowKit
mutual
def AV.ren (ρ : Nat → Nat) : AV → AV
  | .ptr p => .ptr (p.map fun a => (ρ a.1, a.2))
  | .slice p l c => .slice (p.map fun a => (ρ a.1, a.2)) l c
  | .map r => .map (r.map ρ)
  | .func f x y => .func f (AV.renL ρ x) (AV.renL ρ y)
  | .yield l => .yield (ρ l)
  | .iface t v => .iface t (v.ren ρ)
  | .agg cs => .agg (AV.renL ρ cs)
  | .tuple cs => .tuple (AV.renL ρ cs)
  | .fsl n l cs => .fsl n l (AV.renL ρ cs)
  | .fptr cs => .fptr (AV.renL ρ cs)
  | v => v
def AV.renL (ρ : Nat → Nat) : List AV → List AV
  | [] => []
  | v :: vs => v.ren ρ :: AV.renL ρ vs
end
theorem AV.renL_length (ρ : Nat → Nat) (l : List AV) : (AV.renL ρ l).length = l.length := by
  induction l with
  | nil => rfl
  | cons v vs ih => simp [AV.renL, ih]
theorem AV.renL_map (ρ : Nat → Nat) (l : List AV) : AV.renL ρ l = l.map (AV.ren ρ) := by
  induction l with
  | nil => rfl
  | cons v vs ih => simp [AV.renL, ih]
mutual
def AV.ok (nf : Bool) (p : Nat → Bool) : AV → Bool
  | .ptr a => match a with | none => true | some a => p a.1
  | .slice a _ _ => match a with | none => true | some a => p a.1
  | .map r => match r with | none => true | some r => p r
  | .func _ x y => AV.okL nf p x && AV.okL nf p y
  | .yield l => p l
  | .iface _ v => v.ok nf p
  | .agg cs => AV.okL nf p cs
  | .tuple cs => AV.okL nf p cs
  | .fsl _ _ cs => !nf && AV.okL nf p cs
  | .fptr cs => !nf && AV.okL nf p cs
  | _ => true
def AV.okL (nf : Bool) (p : Nat → Bool) : List AV → Bool
  | [] => true
  | v :: vs => v.ok nf p && AV.okL nf p vs
end
mutual
theorem RelV.ren {nf : Bool} {p : Nat → Bool} {ρ : Nat → Nat} {μ μ' : Inj} (hm : ∀ b i, p b = true → μ b = some i → μ' (ρ b) = some i) (hz : nf = false → ∀ k arr, μ.fz k = some arr → μ'.fz k = some arr) :
    ∀ {v : AV} {x : Value}, v.ok nf p = true → RelV μ v x → RelV μ' (v.ren ρ) x
  | _, _, _, .undef => .undef
  | _, _, _, .any => .any
  | _, _, _, .int k n => .int k n
  | _, _, _, .bool b => .bool b
  | _, _, _, .str s => .str s
  | _, _, _, .ptrN => .ptrN
  | _, _, h, .ptr e => .ptr (hm _ _ (by simpa [AV.ok] using h) e)
  | _, _, _, .sliceN => .sliceN
  | _, _, h, .slice e a b => .slice (hm _ _ (by simpa [AV.ok] using h) e) a b
  | _, _, h, .sliceU e a b c => .sliceU (hm _ _ (by simpa [AV.ok] using h) e) a b c
  | _, _, _, .mapN => .mapN
  | _, _, h, .map e => .map (hm _ _ (by simpa [AV.ok] using h) e)
  | _, _, h, .func a b => by
    simp only [AV.ok, Bool.and_eq_true] at h
    exact .func (RelL.ren hm hz h.1 a) (RelL.ren hm hz h.2 b)
  | _, _, h, .yield e => .yield (hm _ _ (by simpa [AV.ok] using h) e)
  | _, _, _, .nilFunc => .nilFunc
  | _, _, _, .nilIface => .nilIface
  | _, _, h, .iface a => .iface (RelV.ren hm hz (by simpa [AV.ok] using h) a)
  | _, _, h, .agg a => .agg (RelL.ren hm hz (by simpa [AV.ok] using h) a)
  | _, _, h, .tuple a => .tuple (RelL.ren hm hz (by simpa [AV.ok] using h) a)
  | _, _, _, .fslN => .fslN
  | .fsl _ _ cs, _, h, .fsl a b c d => by
    simp only [AV.ok, Bool.and_eq_true, Bool.not_eq_true'] at h
    refine .fsl (fun hn => ⟨(a fun e => hn (by rw [e]; rfl)).1, hz h.1 _ _ (a fun e => hn (by rw [e]; rfl)).2⟩) (RelL.ren hm hz h.2 b) c d
  | .fptr cs, _, h, .fptr a b c => by
    simp only [AV.ok, Bool.and_eq_true, Bool.not_eq_true'] at h
    refine .fptr (fun hn => ⟨(a fun e => hn (by rw [e]; rfl)).1, hz h.1 _ _ (a fun e => hn (by rw [e]; rfl)).2⟩) (RelL.ren hm hz h.2 b) c
theorem RelL.ren {nf : Bool} {p : Nat → Bool} {ρ : Nat → Nat} {μ μ' : Inj} (hm : ∀ b i, p b = true → μ b = some i → μ' (ρ b) = some i) (hz : nf = false → ∀ k arr, μ.fz k = some arr → μ'.fz k = some arr) :
    ∀ {v : List AV} {x : List Value}, AV.okL nf p v = true → RelL μ v x → RelL μ' (AV.renL ρ v) x
  | _, _, _, .nil => .nil
  | _, _, h, .cons a b => by
    simp only [AV.okL, Bool.and_eq_true] at h
    exact .cons (RelV.ren hm hz h.1 a) (RelL.ren hm hz h.2 b)
end
theorem AV.okL_get {nf : Bool} {p : Nat → Bool} : ∀ {cs : List AV} {k : Nat} {u : AV}, AV.okL nf p cs = true → cs[k]? = some u → u.ok nf p = true := by
  intro cs
  induction cs with
  | nil => intro k u _ h; cases h
  | cons c cs ih =>
    intro k u hc hx
    simp only [AV.okL, Bool.and_eq_true] at hc
    cases k with
    | zero => simp at hx; subst hx; exact hc.1
    | succ k => exact ih hc.2 (by simpa using hx)
def Blk.ren (ρ : Nat → Nat) : Blk → Blk
  | .cells o e n cs => .cells o e n (AV.renL ρ cs)
  | _ => .dead
def Blk.ok (nf : Bool) (p : Nat → Bool) : Blk → Bool
  | .cells o _ _ cs => o && AV.okL nf p cs
  | _ => false
theorem RelB.ren {sz : TypeId → Nat} {base base' : Nat → Prop} {nf : Bool} {p : Nat → Bool} {ρ : Nat → Nat} {μ μ' : Inj} (hm : ∀ b i, p b = true → μ b = some i → μ' (ρ b) = some i) (hz : nf = false → ∀ k arr, μ.fz k = some arr → μ'.fz k = some arr)
    {i : BI} {w : World} {b : Blk} (hb : b.ok nf p = true) (hbase : base' i.blk → base i.blk) (h : RelB sz base μ i w b) : RelB sz base' μ' i w (b.ren ρ) := by
  cases b <;> simp only [Blk.ok] at hb <;> try (cases hb; done)
  rename_i o e n cs
  simp only [Bool.and_eq_true] at hb
  obtain ⟨ho, hc⟩ := hb
  obtain ⟨hl, arr, e', fr, ha, hcs, hown⟩ := h
  refine ⟨by rw [AV.renL_length]; exact hl, arr, e', fr, ha, fun k v hv => ?_, fun h => ?_⟩
  · rw [AV.renL_map, List.getElem?_map] at hv
    cases hx : cs[k]? with
    | none => rw [hx] at hv; cases hv
    | some u =>
      rw [hx] at hv
      injection hv with hv; subst hv
      obtain ⟨x, h1, h2⟩ := hcs k u hx
      exact ⟨x, h1, RelV.ren hm hz (AV.okL_get hc hx) h2⟩
  · obtain ⟨h1, h2⟩ := hown h
    exact ⟨fun hh => h1 (hbase hh), h2⟩
section
variable {sz : TypeId → Nat} {prot prot' : Nat → Prop} {w0 w w' : World} {μ μs : Inj} {H Hs : Heap}
def Inj.join (μ μs : Inj) (n : Nat) (sel : List Nat) (fz : Nat → Option (Array Value)) : Inj :=
  ⟨fun c => if c < n then μ c else (sel[c - n]?).bind fun j => μs j, fz, μ.lo⟩
set_option maxHeartbeats 1000000 in
theorem rebuild (hw : RelW sz prot w0 μ H w) (hs : RelW sz prot' w μs Hs w') (nf : Bool) (keep : Nat → Bool) (ρ : Nat → Nat) (sel : List Nat) (per : Nat → Option Nat) (fz : Nat → Option (Array Value)) (H' : Heap)
    (hpp : ∀ k, prot k → prot' k)
    (hfz : ∀ k arr, μ.fz k = some arr → fz k = some arr) (hfz2 : ∀ k arr, fz k = some arr → μs.fz k = some arr) (hfz3 : ∀ k arr, fz k = some arr → μ.fz k = some arr ∨ w.heap.size ≤ k) (hnf : nf = false → ∀ k arr, μs.fz k = some arr → fz k = some arr)
    (hnext : H'.next = H.next + sel.length) (hnd : ∀ (l l' j : Nat), sel[l]? = some j → sel[l']? = some j → l = l')
    (hkeep : ∀ j, keep j = true → (∃ l, sel[l]? = some j ∧ ρ j = H.next + l) ∨ (ρ j < H.next ∧ μs j = μ (ρ j)))
    (hold : ∀ c, c < H.next → H'.get c = .dead ∨ (per c = none ∧ H'.get c = H.get c ∧ ∀ i, μ c = some i → (H.get c).live = true → prot' i.blk) ∨
      ∃ j, per c = some j ∧ μs j = μ c ∧ H'.get c = (Hs.get j).ren ρ ∧ (Hs.get j).ok nf keep = true ∧ j ∉ sel)
    (hper : ∀ c c' j, per c = some j → per c' = some j → c = c')
    (hnew : ∀ (l j : Nat), sel[l]? = some j → H'.get (H.next + l) = (Hs.get j).ren ρ ∧ (Hs.get j).ok nf keep = true) :
    RelW sz prot w0 (Inj.join μ μs H.next sel fz) H' w' ∧ (∀ b i, keep b = true → μs b = some i → Inj.join μ μs H.next sel fz (ρ b) = some i) ∧ Grow H.next μ (Inj.join μ μs H.next sel fz) := by
  have hlo : ∀ k arr, fz k = some arr → μ.fz k = some arr ∨ μ.lo ≤ k := fun k arr e => (hfz3 k arr e).imp id fun h => Nat.le_trans hw.lo h
  have hold_lt : ∀ c, c < H.next → Inj.join μ μs H.next sel fz c = μ c := fun c hc => by show (if _ then _ else _) = _; rw [if_pos hc]
  have hnew_at : ∀ l, Inj.join μ μs H.next sel fz (H.next + l) = (sel[l]?).bind fun j => μs j := fun l => by
    show (if _ then _ else _) = _
    rw [if_neg (by omega)]; congr 2; omega
  have hm : ∀ b i, keep b = true → μs b = some i → Inj.join μ μs H.next sel fz (ρ b) = some i := by
    intro b i hk hb
    rcases hkeep b hk with ⟨l, hl, he⟩ | ⟨h1, h2⟩
    · rw [he, hnew_at, hl]; exact hb
    · rw [hold_lt _ h1, ← h2]; exact hb
  have hext : Ext μ (Inj.join μ μs H.next sel fz) := ⟨fun b i e => by rw [hold_lt b (hw.fresh b i e)]; exact e, hfz⟩
  have kinds : ∀ c i, Inj.join μ μs H.next sel fz c = some i → (H'.get c).live = true → (c < H.next ∧ μ c = some i ∧ H'.get c = H.get c ∧ prot' i.blk) ∨
      ∃ j, μs j = some i ∧ H'.get c = (Hs.get j).ren ρ ∧ (Hs.get j).ok nf keep = true ∧ (per c = some j ∧ c < H.next ∧ j ∉ sel ∨ ∃ l, c = H.next + l ∧ sel[l]? = some j) := by
    intro c i hc hl
    by_cases hlt : c < H.next
    · rw [hold_lt c hlt] at hc
      rcases hold c hlt with h | ⟨h0, h1, h2⟩ | ⟨j, h1, h2, h3, h4, h5⟩
      · rw [h] at hl; cases hl
      · exact .inl ⟨hlt, hc, h1, h2 i hc (by rw [← h1]; exact hl)⟩
      · exact .inr ⟨j, by rw [h2]; exact hc, h3, h4, .inl ⟨h1, hlt, h5⟩⟩
    · obtain ⟨l, rfl⟩ : ∃ l, c = H.next + l := ⟨c - H.next, by omega⟩
      rw [hnew_at] at hc
      cases hs' : sel[l]? with
      | none => rw [hs'] at hc; cases hc
      | some j =>
        rw [hs'] at hc
        obtain ⟨h1, h2⟩ := hnew l j hs'
        exact .inr ⟨j, hc, h1, h2, .inr ⟨l, rfl, hs'⟩⟩
  have okw : ∀ j, (Hs.get j).ok nf keep = true → (Hs.get j).writes = true ∧ (Hs.get j).live = true := by
    intro j h
    cases hx : Hs.get j <;> rw [hx] at h <;> simp only [Blk.ok] at h <;> try (cases h; done)
    simp only [Bool.and_eq_true] at h
    exact ⟨h.1, rfl⟩
  have live_of : ∀ b : Blk, b.writes = true → b.live = true := by intro b h; cases b <;> simp_all [Blk.writes, Blk.live]
  have smalls : ∀ c j, (per c = some j ∧ c < H.next ∧ j ∉ sel ∨ ∃ l, c = H.next + l ∧ sel[l]? = some j) → ∀ c', (per c' = some j ∧ c' < H.next ∧ j ∉ sel ∨ ∃ l, c' = H.next + l ∧ sel[l]? = some j) → c = c' := by
    rintro c j (⟨h1, h2, h3⟩ | ⟨l, rfl, h1⟩) c' (⟨h1', h2', h3'⟩ | ⟨l', rfl, h1'⟩)
    · exact hper c c' j h1 h1'
    · exact absurd (List.mem_of_getElem? h1') h3
    · exact absurd (List.mem_of_getElem? h1) h3'
    · rw [hnd l l' j h1 h1']
  refine ⟨⟨hw.below.trans (hs.below.mono hpp), fun k hk => Nat.lt_of_lt_of_le (hw.baseLe k hk) hs.below.size, fun c i hc => ?_, fun c i hc => ?_, fun c c' i i' hc hc' hne hcw hcl => ?_, fun k arr e => hs.froz k arr (hfz2 k arr e), fun c i k arr hc hcw e => ?_, Nat.le_trans hw.lo hs.below.size⟩, hm,
    ⟨fun b hb => hold_lt b hb, hfz, rfl, hlo⟩⟩
  · rw [hnext]
    by_cases hlt : c < H.next
    · omega
    · obtain ⟨l, rfl⟩ : ∃ l, c = H.next + l := ⟨c - H.next, by omega⟩
      rw [hnew_at] at hc
      cases hs' : sel[l]? with
      | none => rw [hs'] at hc; cases hc
      | some j => have := (List.getElem?_eq_some_iff.1 hs').1; omega
  · by_cases hl : (H'.get c).live = true
    · rcases kinds c i hc hl with ⟨h1, h2, h3, h4⟩ | ⟨j, h1, h2, h3, _⟩
      · rw [h3]
        exact ((hw.blk c i h2).mono hext).same fun _ => hs.below.block _ h4
      · rw [h2]
        exact RelB.ren hm hnf h3 (fun h => hpp _ h) (hs.blk j i h1)
    · have : H'.get c = .dead := by cases hx : H'.get c <;> rw [hx] at hl <;> simp [Blk.live] at hl
      rw [this]; trivial
  · have hcl0 := live_of _ hcw
    rcases kinds c i hc hcl0 with ⟨h1, h2, h3, h4⟩ | ⟨j, h1, h2, h3, h5⟩ <;> rcases kinds c' i' hc' hcl with ⟨h1', h2', h3', h4'⟩ | ⟨j', h1', h2', h3', h5'⟩
    · rw [h3] at hcw; rw [h3'] at hcl
      exact hw.apart c c' i i' h2 h2' hne hcw hcl
    · have := (hs.blk j' i' h1').base (okw j' h3').1
      intro e; rw [e] at h4; exact this h4
    · have := (hs.blk j i h1).base (okw j h3).1
      intro e; rw [← e] at h4'; exact this h4'
    · have hjj : j ≠ j' := by
        intro e; subst e
        exact hne (smalls c j h5 c' h5')
      exact hs.apart j j' i i' h1 h1' hjj (okw j h3).1 (okw j' h3').2
  · have hcl0 := live_of _ hcw
    rcases kinds c i hc hcl0 with ⟨h1, h2, h3, h4⟩ | ⟨j, h1, h2, h3, h5⟩
    · rw [h3] at hcw
      rcases hfz3 k arr e with e | e
      · exact hw.frozApart c i k arr h2 hcw e
      · have := (hw.blk c i h2).lt (live_of _ hcw)
        omega
    · exact hs.frozApart j i k arr h1 (okw j h3).1 (hfz2 k arr e)
end
end Go.Ab
end
end

section
noncomputable section
namespace Go.Ab
open Go.RowKit
def anys (n : Nat) : Fr := ofList 0 (List.replicate n .any) .nil
def frameOf (n : Nat) (l : List (Nat × AV)) : Fr := List.rec (motive := fun _ => Fr) (anys n) (fun p _ r => T.set .undef r p.1 p.2) l
theorem frameOf_get (n : Nat) (l : List (Nat × AV)) (t : Nat) : (frameOf n l).get t = (((l.find? fun p => p.1 == t).map (·.2)).getD (if t < n then .any else .undef)) := by
  induction l with
  | nil =>
    show (ofList 0 (List.replicate n .any) .nil).get t = _
    rw [ofList_get]
    by_cases h : t < n
    · rw [if_pos ⟨Nat.zero_le _, by simpa using h⟩, if_pos h]; simp [h]
    · rw [if_neg (by simp; omega), if_neg h]; rfl
  | cons p l ih =>
    show T.get .undef (T.set .undef (frameOf n l) p.1 p.2) t = _
    rw [T.get_set]
    by_cases h : t = p.1
    · rw [if_pos h]; simp [h]
    · rw [if_neg h]
      have : (p.1 == t) = false := by simpa using Ne.symm h
      rw [List.find?_cons, this]
      exact ih
theorem relF_frameOf {μ : Inj} {fr : Fr} {tmps : Array Value} {n : Nat} (hf : RelF μ fr.get tmps) (hs : tmps.size = n) (l : List (Nat × AV)) (h : ∀ q ∈ l, q.2 = .any ∨ fr.get q.1 = q.2) : RelF μ (frameOf n l).get tmps := by
  intro t
  rw [frameOf_get]
  cases hx : l.find? fun p => p.1 == t with
  | some q =>
    have hm := List.mem_of_find?_eq_some hx
    have he := List.find?_some hx
    simp only [Option.map_some, Option.getD_some]
    rcases h q hm with h | h
    · rw [h]; exact .any
    · rw [← h, eq_of_beq he]; exact hf t
  | none =>
    simp only [Option.map_none, Option.getD_none]
    split
    · exact .any
    · rename_i ht
      rw [Array.getD_eq_getD_getElem?, Array.getElem?_eq_none (by omega)]
      exact .undef
structure CodeOK (P : Program) (cx : Cx) (nn n0 : Nat) (c : Code) (s : St) (X : AX) (s' : St) : Prop where
  ok : ∀ {base : Nat → Prop} {w0 : World} {r : Option Nat} {n : Nat} {μ : Inj} {a : Act} {w : World} {Q : Exit → Act → World → Prop},
    RelF μ s.fr.get a.tmps → a.tmps.size = nn → RelD μ s.ds a.defers → RelW (szOf cx) base w0 μ s.H w →
    (∀ a' w', (∃ μ', Grow n0 μ μ' ∧ RelF μ' s'.fr.get a'.tmps ∧ RelD μ' s'.ds a'.defers ∧ RelW (szOf cx) base w0 μ' s'.H w') → a'.tmps.size = nn → Q (exOf X) a' w') → c.wpIn (FF r) n P Q a w
structure Weak (P : Program) (cx : Cx) (nn n0 : Nat) (s s' : St) : Prop where
  ok : ∀ {base : Nat → Prop} {w0 w : World} {μ : Inj} {tmps : Array Value} {es : List Deferred}, RelF μ s.fr.get tmps → tmps.size = nn → RelD μ s.ds es → RelW (szOf cx) base w0 μ s.H w →
    ∃ μ', Grow n0 μ μ' ∧ RelF μ' s'.fr.get tmps ∧ RelD μ' s'.ds es ∧ RelW (szOf cx) base w0 μ' s'.H w
theorem Weak.refl {P : Program} {cx : Cx} {nn n0 : Nat} (s : St) : Weak P cx nn n0 s s := ⟨fun h1 _ h3 h4 => ⟨_, Grow.refl _ _, h1, h3, h4⟩⟩
theorem Weak.trans {P : Program} {cx : Cx} {nn n0 : Nat} {a b c : St} (h : Weak P cx nn n0 a b) (k : Weak P cx nn n0 b c) : Weak P cx nn n0 a c := ⟨fun h1 h2 h3 h4 => by
  obtain ⟨μ1, g1, f1, d1, w1⟩ := h.ok h1 h2 h3 h4
  obtain ⟨μ2, g2, f2, d2, w2⟩ := k.ok f1 h2 d1 w1
  exact ⟨μ2, g1.trans g2 (Nat.le_refl _), f2, d2, w2⟩⟩
mutual
theorem RelV.back {μ μ' : Inj} (ext : ∀ b i, μ b = some i → μ' b = some i) : ∀ {v : AV} {x y : Value}, RelV μ v x → RelV μ' v y → RelV ⟨μ.map, μ'.fz, μ.lo⟩ v y
  | .undef, _, _, _, .undef => .undef
  | .any, _, _, _, .any => .any
  | .int _ _, _, _, _, .int k n => .int k n
  | .bool _, _, _, _, .bool b => .bool b
  | .str _, _, _, _, .str s => .str s
  | .ptr none, _, _, _, .ptrN => .ptrN
  | .ptr (some (b, o)), _, _, .ptr e, .ptr e' => by
    rw [ext _ _ e] at e'; cases e'; exact .ptr e
  | .slice none _ _, _, _, _, .sliceN => .sliceN
  | .slice (some (b, o)) _ (some _), _, _, .slice e _ _, .slice e' h1 h2 => by
    rw [ext _ _ e] at e'; cases e'; exact .slice e h1 h2
  | .slice (some (b, o)) _ none, _, _, .sliceU e _ _ _, .sliceU e' h1 h2 h3 => by
    rw [ext _ _ e] at e'; cases e'; exact .sliceU e h1 h2 h3
  | .map none, _, _, _, .mapN => .mapN
  | .map (some r), _, _, .map e, .map e' => by
    rw [ext _ _ e] at e'; cases e'; exact .map e
  | .func _ _ _, _, _, .func a b, .func a' b' => .func (RelL.back ext a a') (RelL.back ext b b')
  | .yield _, _, _, .yield e, .yield e' => by
    rw [ext _ _ e] at e'; cases e'; exact .yield e
  | .nilFunc, _, _, _, .nilFunc => .nilFunc
  | .nilIface, _, _, _, .nilIface => .nilIface
  | .iface _ _, _, _, .iface a, .iface a' => .iface (RelV.back ext a a')
  | .agg _, _, _, .agg a, .agg a' => .agg (RelL.back ext a a')
  | .tuple _, _, _, .tuple a, .tuple a' => .tuple (RelL.back ext a a')
  | .fsl true _ _, _, _, _, .fslN => .fslN
  | .fsl false _ cs, _, _, .fsl _ a _ _, .fsl h1 a' h2 h3 => .fsl h1 (RelL.back ext a a') h2 h3
  | .fptr cs, _, _, .fptr _ a _, .fptr h1 a' h2 => .fptr h1 (RelL.back ext a a') h2
theorem RelL.back {μ μ' : Inj} (ext : ∀ b i, μ b = some i → μ' b = some i) : ∀ {v : List AV} {x y : List Value}, RelL μ v x → RelL μ' v y → RelL ⟨μ.map, μ'.fz, μ.lo⟩ v y
  | [], _, _, _, .nil => .nil
  | _ :: _, _, _, .cons a b, .cons a' b' => .cons (RelV.back ext a a') (RelL.back ext b b')
end
theorem RelE.back {μ μ' : Inj} (ext : ∀ b i, μ b = some i → μ' b = some i) : ∀ {es : List (AV × AV)} {x y : List MapEntry}, RelE μ es x → RelE μ' es y → RelE ⟨μ.map, μ'.fz, μ.lo⟩ es y := by
  intro es
  induction es with
  | nil => intro x y _ h; cases h; exact .nil
  | cons e es ih =>
    intro x y h h'
    cases h with
    | cons a b c => cases h' with
      | cons a' b' c' => exact .cons (a.back ext a') (b.back ext b') (ih c c')
theorem roundsIn_more {F : Fence} {n : Nat} {P : Program} {c : Code} {Q : Exit → Act → World → Prop} : ∀ {m m' : Nat} {a : Act} {w : World}, Code.roundsIn F n P c Q m a w → m ≤ m' → Code.roundsIn F n P c Q m' a w := by
  intro m
  induction m with
  | zero => intro m' a w h; exact h.elim
  | succ m ih =>
    intro m' a w h hm
    obtain ⟨k, rfl⟩ : ∃ k, m' = k + 1 := ⟨m' - 1, by omega⟩
    rw [roundsIn_succ] at h ⊢
    refine Code.wpIn_mono (fun e a w he => ?_) h
    cases e <;> first | exact he | exact ih he (by omega)
section
variable {P : Program} {cx : Cx} {nn n0 : Nat}
theorem Grow.mono {n m : Nat} {μ μ' : Inj} (h : Grow n μ μ') (hm : m ≤ n) : Grow m μ μ' := ⟨fun b hb => h.same b (by omega), h.fz, h.lo, h.fzn⟩
theorem EndOK.code {base : Nat → Prop} {w0 : World} {μ : Inj} {H : Heap} {s' : St} {a' : Act} {w' : World} (h : EndOK cx base w0 nn μ H s' a' w') (hn : n0 ≤ H.next) : ∃ μ', Grow n0 μ μ' ∧ RelF μ' s'.fr.get a'.tmps ∧ RelD μ' s'.ds a'.defers ∧ RelW (szOf cx) base w0 μ' s'.H w' := by
  obtain ⟨e1, ⟨μ', e2, e3, e4, e5⟩, e6⟩ := h
  exact ⟨μ', e2.mono hn, e3, e4, e5⟩
theorem CodeOK.run (hcx : CxOK P cx) (hs : SumAll P cx) {g f : Nat} {fn : FuncId} {c : Code} {s s' : St} {X : AX} (h : aCode cx (aCall cx g) fn none nn f c s = some (X, s')) (hn : n0 ≤ s.H.next) (hr : noRange c = true) : CodeOK P cx nn n0 c s X s' := by
  refine ⟨fun {base w0 r n μ a w Q} h1 h2 h3 h4 hq => ?_⟩
  exact aCode_sound hcx (aCall_sound hcx (hs.sum base w0) (hs.loop base w0) g) (hs.loop base w0) f c s s' X μ a w Q h h1 h2 h3 h4 (.inl hr) fun a' w' e => hq a' w' (e.code hn) e.size
theorem CodeOK.weak {c : Code} {s s1 s2 : St} {X : AX} (h : CodeOK P cx nn n0 c s X s1) (hw : Weak P cx nn n0 s1 s2) : CodeOK P cx nn n0 c s X s2 := by
  refine ⟨fun {base w0 r n μ a w Q} h1 h2 h3 h4 hq => ?_⟩
  refine h.ok h1 h2 h3 h4 fun a' w' ⟨μ1, g1, f1, d1, w1⟩ hs => ?_
  obtain ⟨μ2, g2, f2, d2, w2⟩ := hw.ok f1 hs d1 w1
  exact hq a' w' ⟨μ2, g1.trans g2 (Nat.le_refl _), f2, d2, w2⟩ hs
theorem CodeOK.loop {α : Type} {b : Code} (S : α → St) (F : α → AX × St) (m : α → Nat)
    (step : ∀ p, (∃ p', CodeOK P cx nn n0 b (S p) .normal (S p') ∧ F p' = F p ∧ m p' < m p) ∨ (CodeOK P cx nn n0 b (S p) (F p).1 (F p).2 ∧ (F p).1 ≠ .normal)) : ∀ p, CodeOK P cx nn n0 (.loop b) (S p) (F p).1 (F p).2 := by
  intro p
  obtain ⟨k, hk⟩ : ∃ k, k = m p := ⟨_, rfl⟩
  refine ⟨fun {base w0 r n μ a w Q} h1 h2 h3 h4 hq => ?_⟩
  refine wpIn_loop_rounds (k + 1) ?_
  revert p μ a w
  induction k using Nat.strongRecOn with
  | ind k ih =>
    intro p hk μ a w h1 h2 h3 h4 hq
    rw [roundsIn_succ]
    rcases step p with ⟨p', hc, hF, hm⟩ | ⟨hc, hX⟩
    · refine hc.ok h1 h2 h3 h4 fun a' w' ⟨μ1, g1, f1, d1, w1⟩ hs => ?_
      have := ih (m p') (by omega) p' rfl f1 hs d1 w1 (by
        rw [hF]
        intro a2 w2 ⟨μ2, g2, f2, d2, w2'⟩ hs2
        exact hq a2 w2 ⟨μ2, g1.trans g2 (Nat.le_refl _), f2, d2, w2'⟩ hs2)
      exact roundsIn_more this (by omega)
    · refine hc.ok h1 h2 h3 h4 fun a' w' he hs => ?_
      have := hq a' w' he hs
      cases hx : (F p).1 with
      | normal => exact absurd hx hX
      | exit id => rw [hx] at this; exact this
      | ret => rw [hx] at this; exact this
def AX.inBlock (id : Nat) (X : AX) : AX :=
  match X with
  | .exit id' => if id' = id then .normal else .exit id'
  | x => x
theorem CodeOK.block {b : Code} {s s' : St} {X : AX} (id : Nat) (h : CodeOK P cx nn n0 b s X s') : CodeOK P cx nn n0 (.block id b) s (AX.inBlock id X) s' := by
  refine ⟨fun {base w0 r n μ a w Q} h1 h2 h3 h4 hq => ?_⟩
  refine wpIn_block (h.ok h1 h2 h3 h4 fun a' w' he hs => ?_)
  have := hq a' w' he hs
  unfold AX.inBlock at this
  cases X with
  | normal => exact this
  | ret => exact this
  | exit id' =>
    simp only at this
    simp only [exOf, Exit.inBlock]
    split at this
    · rename_i h; rw [if_pos h]; exact this
    · rename_i h; rw [if_neg h]; exact this
theorem RelW.cut {sz : TypeId → Nat} {base : Nat → Prop} {w0 w w' : World} {μ μ' : Inj} {H H1 : Heap} (hw : RelW sz base w0 μ H w) (hw' : RelW sz base w0 μ' H1 w') (hg : Grow H.next μ μ') (hsame : ∀ b, b < H.next → H1.get b = H.get b) :
    RelW sz base w0 ⟨μ.map, μ'.fz, μ.lo⟩ H w' := by
  have ext : ∀ b i, μ b = some i → μ' b = some i := fun b i e => (hg.same b (hw.fresh b i e)).trans e
  refine ⟨hw'.below, hw'.baseLe, hw.fresh, fun b i e => ?_, fun b b' i i' e e' => ?_, hw'.froz, fun b i k arr e hwr hz => ?_, by have := hw'.lo; rw [hg.lo] at this; exact this⟩
  · have h1 := hw'.blk b i (ext b i e)
    have h0 := hw.blk b i e
    rw [hsame b (hw.fresh b i e)] at h1
    cases hb : H.get b <;> rw [hb] at h0 h1 <;> first | trivial | skip
    · obtain ⟨hl, arr, e', fr, ha, hc, ho⟩ := h1
      obtain ⟨_, _, _, _, _, hc0, _⟩ := h0
      refine ⟨hl, arr, e', fr, ha, fun k v hv => ?_, ho⟩
      obtain ⟨x, hx, hr⟩ := hc k v hv
      obtain ⟨x0, _, hr0⟩ := hc0 k v hv
      exact ⟨x, hx, RelV.back ext hr0 hr⟩
    · obtain ⟨hb1, fs, clock, hh, hr⟩ := h1
      obtain ⟨_, fs0, _, _, hr0⟩ := h0
      exact ⟨hb1, fs, clock, hh, RelE.back ext hr0 hr⟩
    · obtain ⟨hb1, tmps, di, ls, pe, fn', hh, hd, hn, hf, hst⟩ := h1
      obtain ⟨_, tmps0, di0, _, _, _, _, hd0, _, hf0, _⟩ := h0
      have : di = di0 := by have := ext _ _ hd0; rw [hd] at this; injection this
      subst this
      exact ⟨hb1, tmps, di, ls, pe, fn', hh, hd0, hn, fun t => RelV.back ext (hf0 t) (hf t), hst⟩
  · intro hne hcw hcl
    exact hw'.apart b b' i i' (ext b i e) (ext b' i' e') hne (by rw [hsame b (hw.fresh b i e)]; exact hcw) (by rw [hsame b' (hw.fresh b' i' e')]; exact hcl)
  · exact hw'.frozApart b i k arr (ext b i e) (by rw [hsame b (hw.fresh b i e)]; exact hwr) hz
theorem RelD.back {μ μ' : Inj} (ext : ∀ b i, μ b = some i → μ' b = some i) {ds : List Nat} {es es' : List Deferred} (h : RelD μ ds es) (h' : RelD μ' ds es') : RelD ⟨μ.map, μ'.fz, μ.lo⟩ ds es' := by
  induction h generalizing es' with
  | nil => cases h'; exact .nil
  | cons a _ ih => cases h' with
    | cons a' b' =>
      rw [ext _ _ a] at a'; cases a'
      exact .cons a (ih b')
theorem CodeOK.pure (hcx : CxOK P cx) (hs : SumAll P cx) {g f : Nat} {fn : FuncId} {c : Code} {s s1 : St} {X : AX} (h : aCode cx (aCall cx g) fn none nn f c s = some (X, s1)) (hr : noRange c = true) (hds : s1.ds = s.ds) (hsame : ∀ b, b < s.H.next → s1.H.get b = s.H.get b)
    (l : List (Nat × AV)) (hl : ∀ q ∈ l, q.2 = .any ∨ (s1.fr.get q.1 = q.2 ∧ (q.2.plain = true ∨ ∃ t, s.fr.get t = q.2))) : CodeOK P cx nn s.H.next c s X ⟨frameOf nn l, s.ds, s.H⟩ := by
  refine ⟨fun {base w0 r n μ a w Q} h1 h2 h3 h4 hq => ?_⟩
  refine aCode_sound hcx (aCall_sound hcx (hs.sum base w0) (hs.loop base w0) g) (hs.loop base w0) f c s s1 X μ a w Q h h1 h2 h3 h4 (.inl hr) fun a' w' e => ?_
  obtain ⟨e1, ⟨μ', e2, e3, e4, e5⟩, e6⟩ := e
  have ext : ∀ b i, μ b = some i → μ' b = some i := fun b i e => (e2.same b (h4.fresh b i e)).trans e
  refine hq a' w' ⟨⟨μ.map, μ'.fz, μ.lo⟩, ⟨fun _ _ => rfl, e2.fz, rfl, e2.fzn⟩, ?_, ?_, RelW.cut h4 e5 e2 hsame⟩ e6
  · intro t
    rw [frameOf_get]
    cases hx : l.find? fun p => p.1 == t with
    | some q =>
      have hm := List.mem_of_find?_eq_some hx
      have he := List.find?_some hx
      simp only [beq_iff_eq] at he
      simp only [Option.map_some, Option.getD_some]
      rcases hl q hm with h | ⟨h, h'⟩
      · rw [h]; exact .any
      · have hv := e3 t
        rw [← he, h] at hv
        rw [← he]
        rcases h' with h' | ⟨t', h'⟩
        · exact RelV.move (μ := μ') (μ' := ⟨μ.map, μ'.fz, μ.lo⟩) (fun _ _ e => e) h' hv
        · have h0 := h1 t'
          rw [h'] at h0
          exact RelV.back ext h0 hv
    | none =>
      simp only [Option.map_none, Option.getD_none]
      split
      · exact .any
      · rename_i ht
        rw [Array.getD_eq_getD_getElem?, Array.getElem?_eq_none (by omega)]
        exact .undef
  · rw [hds] at e4
    exact RelD.back ext h3 e4
theorem Weak.slots (s : St) (l : List (Nat × AV)) (h : ∀ q ∈ l, q.2 = .any ∨ s.fr.get q.1 = q.2) : Weak P cx nn n0 s ⟨frameOf nn l, s.ds, s.H⟩ := ⟨fun h1 h2 h3 h4 => ⟨_, Grow.refl _ _, relF_frameOf h1 h2 l h, h3, h4⟩⟩
end
def allTrue (l : List Bool) : Bool := List.rec (motive := fun _ => Bool) true (fun b _ r => cb b r false) l
def musts {α : Type} (l : List Bool) (k : S α) : S α := List.rec (motive := fun _ => S α) k (fun b _ r => S.must b r) l
theorem musts_snd {α : Type} {k : S α} {o : Option α} (h : Snd k o) : ∀ l : List Bool, Snd (musts l k) (cb (allTrue l) o none) := by
  intro l
  induction l with
  | nil => exact h
  | cons b l ih =>
    show Snd (S.must b (musts l k)) (cb (cb b (allTrue l) false) o none)
    exact Snd.must fun hb => by rw [hb]; exact ih
theorem allTrue_cons {b : Bool} {l : List Bool} : allTrue (b :: l) = true ↔ b = true ∧ allTrue l = true := by
  show cb b (allTrue l) false = true ↔ _
  cases b <;> simp
structure PLoop where
  nn : Nat
  code : Code
  slots : List Nat
  m : List AV → Option (List Bool × AX × List AV)
def PLoop.lsum (L : PLoop) : LSum where
  code := L.code
  run nn s := cb (Nat.beq nn L.nn) ((L.m (L.slots.map s.fr.get)).ob fun r => cb (allTrue r.1) (some (r.2.1, ⟨frameOf L.nn (L.slots.zip r.2.2), s.ds, s.H⟩)) none) none
def PLoop.lsumS (L : PLoop) : Code × (Nat → St → S (AX × St)) :=
  (L.code, fun nn s => cb (Nat.beq nn L.nn) (S.bind (S.lift (L.m (L.slots.map s.fr.get))) fun r => musts r.1 (S.pure (r.2.1, ⟨frameOf L.nn (L.slots.zip r.2.2), s.ds, s.H⟩))) S.fail)
theorem PLoop.snd (L : PLoop) (nn : Nat) (s : St) : Snd (L.lsumS.2 nn s) (L.lsum.run nn s) := Snd.cb_bool (Snd.bind (Snd.lift _) fun r _ => musts_snd (Snd.pure _) _) (Snd.fail _)
def PLoop.OK (P : Program) (cx : Cx) (id : Nat) (L : PLoop) : Prop :=
  ∀ vs conds X vs', L.m vs = some (conds, X, vs') → allTrue conds = true → vs.length = L.slots.length → ∀ ds H, CodeOK P cx L.nn H.next (.block id L.code) ⟨frameOf L.nn (L.slots.zip vs), ds, H⟩ X ⟨frameOf L.nn (L.slots.zip vs'), ds, H⟩
abbrev LTab := List ((FuncId × Nat) × PLoop)
def ltFind (l : LTab) (fn : FuncId) (id : Nat) : Option PLoop := List.rec (motive := fun _ => Option PLoop) none (fun p _ r => cb (Nat.beq fn p.1.1 && Nat.beq id p.1.2) (some p.2) r) l
theorem ltFind_mem {l : LTab} {fn : FuncId} {id : Nat} {L : PLoop} (h : ltFind l fn id = some L) : ((fn, id), L) ∈ l := by
  induction l with
  | nil => cases h
  | cons p l ih =>
    change cb (Nat.beq fn p.1.1 && Nat.beq id p.1.2) (some p.2) (ltFind l fn id) = some L at h
    cases hb : (Nat.beq fn p.1.1 && Nat.beq id p.1.2) with
    | true =>
      rw [hb, cb_true] at h
      injection h with h
      rw [Bool.and_eq_true] at hb
      have h1 := Nat.eq_of_beq_eq_true hb.1
      have h2 := Nat.eq_of_beq_eq_true hb.2
      subst h1; subst h2; subst h
      obtain ⟨⟨a, b⟩, c⟩ := p
      simp
    | false =>
      rw [hb, cb_false] at h
      simp [ih h]
def ltLoop (l : LTab) : FuncId → Nat → Option LSum := fun fn id => (ltFind l fn id).ob fun L => some L.lsum
def ltLoopS (l : LTab) : LoopS := fun fn id => (ltFind l fn id).ob fun L => some L.lsumS
theorem ltLoops_snd {cx : Cx} {l : LTab} (h : cx.loop = ltLoop l) : LoopsSOK cx (ltLoopS l) := by
  refine ⟨fun fn id m hm => ?_, fun fn id hm => ?_⟩
  · unfold ltLoopS at hm
    replace hm := ob_eq hm; obtain ⟨L, hL, hm⟩ := hm
    injection hm with hm; subst hm
    exact ⟨L.lsum, by rw [h, ltLoop, hL]; rfl, rfl, fun n s => L.snd n s⟩
  · unfold ltLoopS at hm
    rw [h, ltLoop]
    cases hL : ltFind l fn id with
    | none => rfl
    | some L => rw [hL] at hm; cases hm
theorem ltLoops_ok {P : Program} {cx : Cx} {l : LTab} (h : cx.loop = ltLoop l) (hl : ∀ p ∈ l, p.2.OK P cx p.1.2) (base : Nat → Prop) (w0 : World) : LoopsOK P cx base w0 := by
  intro fn id L hL nn r n s s' X μ a w Q hrun h1 h2 h3 h4 hq
  rw [h, ltLoop] at hL
  replace hL := ob_eq hL; obtain ⟨L0, hL0, hL⟩ := hL
  injection hL with hL; subst hL
  have hok := hl _ (ltFind_mem hL0)
  simp only [PLoop.lsum] at hrun
  cases hnn : Nat.beq nn L0.nn with
  | false => rw [hnn] at hrun; cases hrun
  | true =>
    rw [hnn, cb_true] at hrun
    have hnn := Nat.eq_of_beq_eq_true hnn
    subst hnn
    replace hrun := ob_eq hrun; obtain ⟨⟨conds, X0, vs'⟩, hm, hrun⟩ := hrun
    simp only at hrun
    cases hc : allTrue conds with
    | false => rw [hc] at hrun; cases hrun
    | true =>
      rw [hc, cb_true] at hrun
      injection hrun with hrun; injection hrun with e1 e2
      subst e1; subst e2
      have hk : CodeOK P cx L0.nn s.H.next (.block id L0.code) ⟨frameOf L0.nn (L0.slots.zip (L0.slots.map s.fr.get)), s.ds, s.H⟩ X0 ⟨frameOf L0.nn (L0.slots.zip vs'), s.ds, s.H⟩ := hok _ _ _ _ hm hc (by simp) s.ds s.H
      refine hk.ok (Q := Q) (relF_frameOf h1 h2 _ fun q hq => ?_) h2 h3 h4 fun a' w' ⟨μ', g, f, d, w1⟩ hs => hq a' w' ⟨Nat.le_refl _, ⟨μ', g, f, d, w1⟩, hs⟩
      right
      obtain ⟨i, hi⟩ := List.getElem?_of_mem hq
      rw [List.getElem?_zip_eq_some] at hi
      obtain ⟨i1, i2⟩ := hi
      rw [List.getElem?_map, i1] at i2
      simpa using i2
end Go.Ab
end
end

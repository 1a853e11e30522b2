/- Texts of the abstract machine and of the laws, merged. -/
import Derived.Test.YtecncappdnhbaaaG1
import Derived.OrdersIn
import Derived.RangeFuncLeaves
import Derived.LoopNIn
import Derived.RangeFuncNested
/- Append, copy, maps that are written: all operations that change the heap, but calls. -/
section
section
set_option autoImplicit false
set_option linter.unusedVariables false
set_option linter.unusedSimpArgs false
set_option linter.unusedSectionVars false
namespace Go.Ab
open Go.RowKit Go.MapKept

/-- What a step that changes the heap comes to. -/
def LoudOK (cx : Cx) (base : Nat → Prop) (w0 : World) (μ : Inj) (H : Heap) (v : AV) (H' : Heap) (Z : Value) (w' : World) : Prop :=
  H.next ≤ H'.next ∧ ∃ μ', Grow H.next μ μ' ∧ RelV μ' v Z ∧ RelW (szOf cx) base w0 μ' H' w'

section
variable {P : Program} {cx : Cx} (hcx : CxOK P cx) {μ : Inj} {base : Nat → Prop} {w0 w : World} {H : Heap} (hw : RelW (szOf cx) base w0 μ H w) {g : Env} {a : Act} (hf : RelF μ g a.tmps)

theorem LoudOK.same {v : AV} {H' : Heap} {Z : Value} {w' : World} (hn : H'.next = H.next) (hv : RelV μ v Z) (hw' : RelW (szOf cx) base w0 μ H' w') : LoudOK cx base w0 μ H v H' Z w' :=
  ⟨Nat.le_of_eq hn.symm, μ, Grow.refl _ _, hv, hw'⟩

include hw in
/-- A new row with room behind it. -/
theorem appNew_sound {e : TypeId} {et : ATy} (he : cx.ty e = some et) {n cap : Nat} {cs : List AV} {xs rest : List Value} (hr : RelL μ cs xs) (hn : n ≤ cap) (hlen : (xs ++ rest).length = cap * et.size) {v : AV} {H' : Heap} (h : appNew e n cs H = (v, H')) :
    LoudOK cx base w0 μ H v H' (.slice (some ⟨w.heap.size, 0, none⟩) n cap) (w.drew.alloc (.cells (xs ++ rest).toArray e)) := by
  unfold appNew at h
  injection h with h1 h2
  subst h1; subst h2
  have hw1 := hw.drew (w.drawn + 1)
  refine ⟨by simp, _, grow_set μ H.next ⟨w.heap.size, 0, (xs ++ rest).length, szOf cx e⟩, ?_, RelW.made (w := w.drew) hw1 hr rfl⟩
  exact .sliceU (Inj.set_same _ _ _) hn (fun _ => rfl) (fun _ => by rw [szOf_eq he, hlen]; exact Nat.le_refl _)

include hcx hw in
theorem aAppend_sound {t u ty : TypeId} {s x v : AV} {S X : Value} {H' : Heap} (h : aAppend cx t u s x H = some (v, H')) (hs : RelV μ s S) (hx : RelV μ x X) :
    ∃ Z w', (Builtin.append_ #[t, u] ty #[S, X]).run P w = .ok Z w' ∧ LoudOK cx base w0 μ H v H' Z w' := by
  unfold aAppend at h
  replace h := ob_eq h; obtain ⟨e, he, h⟩ := h
  replace h := ob_eq h; obtain ⟨et, het, h⟩ := h
  replace h := ob_eq h; obtain ⟨r, hr, h⟩ := h
  replace h := ob_eq h; obtain ⟨zf, hzf, h⟩ := h
  replace h := ob_eq h; obtain ⟨nc, hnc, h⟩ := h
  cases slice?_eq hr
  have ht : P.underlying t = some (.slice e) := by
    unfold isSliceT at he
    split at he
    · rename_i hd
      injection he with he; subst he
      obtain ⟨d, hud, hdd⟩ := (hcx.ty t _ hd).und
      cases d <;> simp only [DescOK] at hdd
      rw [hud, hdd]
    · cases he
  have hety := hcx.ty e et het
  obtain ⟨inf, z, hi, hsz, hby, hz, hrz⟩ := hety.info
  have hzl := hety.zero
  have hrz' := hrz.mono (ext_empty μ)
  obtain ⟨new, hrn, hnl, hsrc⟩ := src_sound hcx hw (e := e) hrz' hety.nz hzl hzf hnc hx
  rw [← hsz, ← hby] at hsrc
  rw [← hsz] at hnl
  have hzs : z.cells.size = inf.size := by have := (hrz.cells hety.nz).length; simp at this; omega
  obtain ⟨p, sl, sc⟩ := r
  split at h
  · -- nothing to add
    rename_i h0
    injection h with h; injection h with h1 h2; subst h1; subst h2
    rw [h0] at hsrc hnl
    cases p with
    | none =>
      obtain ⟨rfl, rfl, rfl⟩ := rel_slice_none hs
      exact ⟨_, w, append_none ht hi hz hsrc (by simpa using hnl), LoudOK.same rfl hs hw⟩
    | some p =>
      obtain ⟨i, ad, k, hpi, rfl, hle, had, hc, hm⟩ := rel_slice hs
      have hnil : new = [] := List.eq_nil_of_length_eq_zero (by simpa using hnl)
      subst hnil
      refine ⟨_, w, by rw [append_in ht hi hz hsrc hnl ad sl k (by simpa using hle)]; simp [storeCells], LoudOK.same rfl hs hw⟩
  · rename_i h0
    split at h
    · cases h
    · rename_i hs0
      rw [cb_eq] at h
      split at h
      · rename_i hroom
        have hroom' : (sl + nc.1) * (2 * inf.bytes + 1) ≤ 140737488355328 := by rw [hby]; exact of_decide_eq_true hroom
        unfold appTo at h
        simp only at h
        cases p with
        | none =>
          simp only at h
          split at h
          · injection h with h
            obtain ⟨rfl, rfl, _⟩ := rel_slice_none hs
            obtain ⟨cap, rest, hcap, hrl, hrun⟩ := append_out ht hi hz hsrc hnl hzs none 0 0 (by omega) hroom' [] (fun w' _ => by simp [Builtin.firstCells])
            refine ⟨_, _, hrun, ?_⟩
            simp only [Nat.zero_add, List.nil_append] at h hcap hrl ⊢
            refine appNew_sound hw het hrn hcap ?_ h
            rw [List.length_append, hnl, hrl, ← hsz, ← Nat.add_mul]; congr 1; omega
          · cases h
        | some p =>
          obtain ⟨i, ad, k, hpi, rfl, hle, had, hc, hm⟩ := rel_slice hs
          simp only at h
          cases sc with
          | some c =>
            have := hc c rfl
            subst this
            simp only at h
            split at h
            · -- grown from another row
              rename_i hlt
              unfold appGrow at h
              replace h := ob_eq h; obtain ⟨old, hold, h⟩ := h
              injection h with h
              obtain ⟨xs, hrx, hxl, hrun1⟩ := first_run (P := P) hw hold hs
              rw [← hsz] at hxl
              obtain ⟨cap, rest, hcap, hrl, hrun⟩ := append_out (u := u) (ty := ty) ht hi hz hsrc hnl hzs (some ad) sl k hlt hroom' xs (fun w' hw' => by rw [hsz]; exact hrun1 w' hw')
              refine ⟨_, _, hrun, appNew_sound hw het (hrx.append hrn) hcap ?_ h⟩
              rw [List.length_append, List.length_append, hxl, hnl, hrl, ← hsz, ← Nat.add_mul, ← Nat.add_mul]; congr 1; omega
            · rename_i hge
              unfold appIn at h
              replace h := ob_eq h; obtain ⟨H1, hst, h⟩ := h
              injection h with h; injection h with h1 h2; subst h1; subst h2
              have hpl : μ (place p (sl * et.size)).1 = some i := hpi
              obtain ⟨w', r1, r2, r3⟩ := storeAt_sound (P := P) hw hst hrn hpl
              have hadk := had (by omega)
              refine ⟨.slice (some ad) (sl + nc.1) k, w', ?_, LoudOK.same r3 ?_ r2⟩
              · rw [append_in ht hi hz hsrc hnl ad sl k (by omega), hadk, addr_add, hsz]
                have e1 : i.off + p.2 + sl * et.size = i.off + (place p (sl * et.size)).2 := by simp [place]; omega
                rw [e1, r1]; rfl
              · exact .slice hpi (by omega) had
          | none =>
            simp only at h
            unfold appOwn at h
            split at h
            · rename_i e' n cs hg
              split at h
              · rename_i hcond
                obtain ⟨hp0, hee, hnn, hall⟩ := hcond
                subst hee
                injection h with h
                obtain ⟨hl, arr, e2, fr, harr, hcc, hown⟩ := hw.row hpi hg
                obtain ⟨o1, o2, o3, o4, o5, o6⟩ := hown rfl
                have hki := hm rfl hp0
                rw [o5, szOf_eq het] at hki
                by_cases hfit : sl + nc.1 ≤ k
                · injection h with h1 h2; subst h1; subst h2
                  have hk0 : k ≠ 0 := by omega
                  have hadk := had hk0
                  have hcl : cs.length = sl * et.size := by omega
                  have hncl : nc.2.length = nc.1 * et.size := by have := hrn.length; rw [hnl, hsz] at this; exact this.symm
                  have hfits : sl * et.size + nc.2.length ≤ i.m := by
                    rw [hncl, ← Nat.add_mul]
                    exact Nat.le_trans (Nat.mul_le_mul_right _ hfit) hki
                  obtain ⟨w', r1, r2⟩ := row_write (P := P) hw (p := (p.1, sl * et.size)) hpi hg hrn hall (cs ++ nc.2) hfits (fun k v hv => by
                    simp only
                    rw [List.getElem?_append] at hv
                    split at hv
                    · exact .inr ⟨by omega, hv⟩
                    · refine .inl ⟨by omega, ?_, by rw [← hcl]; exact hv⟩
                      have := (List.getElem?_eq_some_iff.1 hv).1
                      omega)
                  have hmap : (μ.set H.next i) H.next = some i := Inj.set_same _ _ _
                  refine ⟨.slice (some ad) (sl + nc.1) k, w', ?_, by simp [appNew], μ.set H.next i, grow_set _ _ _, .sliceU hmap hfit (fun _ => by rw [hadk, hp0]) (fun _ => by rw [o5, szOf_eq het]; exact hki), ?_⟩
                  · rw [append_in ht hi hz hsrc hnl ad sl k hfit, hadk, addr_add, hsz, hp0]
                    rw [show i.off + 0 + sl * et.size = i.off + (p.1, sl * et.size).2 from by simp, r1]; rfl
                  · refine RelW.rename r2 hpi (by rw [Heap.get_put, if_pos rfl]; rfl) _ (by simp [appNew]) (fun c => ?_)
                    simp only [appNew, Heap.get_new, Heap.get_put, Heap.next_put, if_pos, mkCells]
                    split
                    · rfl
                    · split <;> rfl
                · have hold : cellsAt H p (sl * et.size) = some cs := by
                    unfold cellsAt
                    rw [hg]
                    simp only [hp0]
                    rw [if_pos (by omega), rowCut, List.drop_zero, List.take_of_length_le (by omega)]
                  obtain ⟨xs, hrx, hxl, hrun1⟩ := first_run (P := P) hw hold hs
                  rw [← hsz] at hxl
                  obtain ⟨cap, rest, hcap, hrl, hrun⟩ := append_out (u := u) (ty := ty) ht hi hz hsrc hnl hzs (some ad) sl k (by omega) hroom' xs (fun w' hw' => by rw [hsz]; exact hrun1 w' hw')
                  have hk := hw.kill p.1
                  refine ⟨_, _, hrun, appNew_sound hk het (hrx.append hrn) hcap ?_ h⟩
                  rw [List.length_append, List.length_append, hxl, hnl, hrl, ← hsz, ← Nat.add_mul, ← Nat.add_mul]; congr 1; omega
              · cases h
            · cases h
      · cases h

/-! ### Copy -/
include hw in
theorem first_run' {p : Nat × Nat} {l n size : Nat} {c : Option Nat} {X : Value} {cs : List AV} (h : cellsAt H p (n * size) = some cs) (hx : RelV μ (.slice (some p) l c) X) (hn : n ≤ l) :
    ∃ xs, RelL μ cs xs ∧ xs.length = n * size ∧ (Builtin.firstCells size n X).run P w = .ok xs.toArray w := by
  obtain ⟨i, ad, k, hi, rfl, hle, had, hc, _⟩ := rel_slice hx
  obtain ⟨xs, hr, hl, hcell⟩ := cells_read hw h hi
  refine ⟨xs, hr, hl, ?_⟩
  refine run_firstCells_some (P := P) w size n ad l k xs hl fun j v hv => ?_
  have hk : k ≠ 0 := by
    intro e
    have : j < xs.length := (List.getElem?_eq_some_iff.1 hv).1
    have h0 : n = 0 := by omega
    rw [hl, h0] at this
    omega
  rw [had hk, addr_add]
  exact hcell j v hv

theorem isSliceT_eq (hcx : CxOK P cx) {t e : TypeId} (he : isSliceT cx t = some e) : P.underlying t = some (.slice e) := by
  unfold isSliceT at he
  split at he
  · rename_i hd
    injection he with he; subst he
    obtain ⟨d, hud, hdd⟩ := (hcx.ty t _ hd).und
    cases d <;> simp only [DescOK] at hdd
    rw [hud, hdd]
  · cases he

include hw in
theorem copyTo_sound {p : Option (Nat × Nat)} {l n : Nat} {c : Option Nat} {cs : List AV} {xs : List Value} {D : Value} {v : AV} {H' : Heap} (h : copyTo p n cs H = some (v, H')) (hd : RelV μ (.slice p l c) D) (hn0 : n ≠ 0) (hn : n ≤ l) (hr : RelL μ cs xs) :
    ∃ base' k w', D = .slice (some base') l k ∧ (storeCells base' xs).run P w = .ok () w' ∧ LoudOK cx base w0 μ H v H' (goInt n) w' := by
  unfold copyTo at h
  replace h := ob_eq h; obtain ⟨a, ha, h⟩ := h
  subst ha
  replace h := ob_eq h; obtain ⟨H1, hst, h⟩ := h
  injection h with h; injection h with h1 h2; subst h1; subst h2
  obtain ⟨i, ad, k, hi, rfl, hle, had, hc, _⟩ := rel_slice hd
  obtain ⟨w', r1, r2, r3⟩ := storeAt_sound (P := P) hw hst hr hi
  refine ⟨ad, k, w', rfl, ?_, LoudOK.same r3 (.int _ _) r2⟩
  rw [had (by omega)]; exact r1

include hcx hw in
theorem aCopy_sound {t u ty : TypeId} {d s v : AV} {D S : Value} {H' : Heap} (h : aCopy cx t d s H = some (v, H')) (hd : RelV μ d D) (hs : RelV μ s S) :
    ∃ Z w', (Builtin.copy_ #[t, u] ty #[D, S]).run P w = .ok Z w' ∧ LoudOK cx base w0 μ H v H' Z w' := by
  unfold aCopy at h
  replace h := ob_eq h; obtain ⟨e, he, h⟩ := h
  replace h := ob_eq h; obtain ⟨et, het, h⟩ := h
  replace h := ob_eq h; obtain ⟨r, hr, h⟩ := h
  cases slice?_eq hr
  have ht := isSliceT_eq hcx he
  have hsz := (hcx.ty e et het).run_size w
  obtain ⟨p, l, c⟩ := r
  simp only at hd
  -- the destination is a slice
  obtain ⟨ob, k, rfl⟩ : ∃ ob k, D = .slice ob l k := by
    cases p with
    | none => obtain ⟨rfl, rfl, _⟩ := rel_slice_none hd; exact ⟨none, 0, rfl⟩
    | some p => obtain ⟨i, ad, k, _, rfl, _⟩ := rel_slice hd; exact ⟨some ad, k, rfl⟩
  split at h
  · rename_i q m c'
    unfold copySlice at h
    simp only at h
    split at h
    · rename_i hn
      injection h with h; injection h with h1 h2; subst h1; subst h2
      refine ⟨.int .i64 0, w, ?_, LoudOK.same rfl (.int _ _) hw⟩
      have hn' : Nat.min m l = 0 := hn
      cases q with
      | none =>
        obtain ⟨rfl, rfl, _⟩ := rel_slice_none hs
        cases ob <;> simp [Builtin.copy_, run_underlying ht, Builtin.lenOf, hsz, hn', Builtin.firstCells, storeCells, goInt]
      | some q =>
        obtain ⟨i, ad, k', _, rfl, _⟩ := rel_slice hs
        cases ob <;> simp [Builtin.copy_, run_underlying ht, Builtin.lenOf, hsz, hn', Builtin.firstCells, storeCells, goInt, loadCells, loadCellsFrom]
    · rename_i hn
      replace h := ob_eq h; obtain ⟨b, hb, h⟩ := h
      subst hb
      replace h := ob_eq h; obtain ⟨cs, hcs, h⟩ := h
      obtain ⟨xs, hrx, hxl, hrun⟩ := first_run' (P := P) hw hcs hs (Nat.min_le_left _ _)
      obtain ⟨b', k', w', hD, hst, hl⟩ := copyTo_sound (P := P) hw h hd hn (Nat.min_le_right _ _) hrx
      obtain ⟨i, ad, k2, _, rfl, _⟩ := rel_slice hs
      injection hD with hD1 _ hD3
      subst hD1; subst hD3
      refine ⟨_, w', ?_, hl⟩
      have hrun' : (Builtin.firstCells et.size (Nat.min m l) (.slice (some ad) m k2)).run P w = .ok xs.toArray w := hrun
      show (Builtin.copy_ #[t, u] ty #[.slice (some b') l k, .slice (some ad) m k2]).run P w = .ok (goInt (Nat.min m l : Nat)) w'
      simp [Builtin.copy_, run_underlying ht, Builtin.lenOf, hsz, hrun', hst]
  · rename_i l'
    unfold copyStr at h
    simp only at h
    have := rel_str hs
    subst this
    have hbl : (ByteArray.mk l'.toArray).size = l'.length := by simp [ByteArray.size]
    split at h
    · rename_i h1
      split at h
      · rename_i hn
        injection h with h; injection h with h1 h2; subst h1; subst h2
        refine ⟨.int .i64 0, w, ?_, LoudOK.same rfl (.int _ _) hw⟩
        have hn' : Nat.min l'.length l = 0 := hn
        cases ob <;> simp [Builtin.copy_, run_underlying ht, Builtin.lenOf, hsz, hbl, hn', Builtin.firstCells, storeCells, goInt]
      · rename_i hn
        obtain ⟨b', k', w', hD, hst, hl⟩ := copyTo_sound (P := P) hw h hd hn (Nat.min_le_right _ _) (ofBytes_rel (l'.take (min l'.length l)))
        injection hD with hD1 _ hD3
        subst hD1; subst hD3
        refine ⟨_, w', ?_, hl⟩
        have hcut : ((ByteArray.mk l'.toArray).extract 0 (min l'.length l)).data.map (fun b => Value.int .u8 b.toNat) = (valBytes (l'.take (min l'.length l))).toArray := by
          apply Array.ext'; simp [valBytes]
        have hrun' : (Builtin.firstCells et.size (Nat.min l'.length l) (.string ⟨l'.toArray⟩)).run P w = .ok (valBytes (l'.take (min l'.length l))).toArray w := by
          rw [← hcut]; rfl
        show (Builtin.copy_ #[t, u] ty #[.slice (some b') l k, .string ⟨l'.toArray⟩]).run P w = .ok (goInt (Nat.min l'.length l : Nat)) w'
        simp [Builtin.copy_, run_underlying ht, Builtin.lenOf, hsz, hbl, hrun', hst]
    · cases h
  · rename_i nl m cs
    unfold copyFsl at h
    simp only at h
    split at h
    · rename_i hn
      injection h with h; injection h with h1 h2; subst h1; subst h2
      refine ⟨.int .i64 0, w, ?_, LoudOK.same rfl (.int _ _) hw⟩
      have hn' : Nat.min m l = 0 := hn
      cases hs with
      | fslN => cases ob <;> simp [Builtin.copy_, run_underlying ht, Builtin.lenOf, hsz, hn', Builtin.firstCells, storeCells, goInt]
      | fsl hz hr hv hlc => cases ob <;> simp [Builtin.copy_, run_underlying ht, Builtin.lenOf, hsz, hn', Builtin.firstCells, storeCells, goInt, loadCells, loadCellsFrom]
    · rename_i hn
      rw [cb_eq] at h
      split at h
      · rename_i hcl
        rw [nbeq] at hcl
        have hcl : cs.length = m * et.size := of_decide_eq_true hcl
        cases hs with
        | fslN => exact absurd (Nat.zero_min l) hn
        | fsl hz hr hv hlc =>
          rename_i c2 a arr vs
          have hvl := hr.length
          have hle : min m l * et.size ≤ m * et.size := Nat.mul_le_mul_right _ (Nat.min_le_left _ _)
          have hcut : RelL μ (rowCut cs 0 (min m l * et.size)) (vs.take (min m l * et.size)) := by
            simp only [rowCut, List.drop_zero]; exact hr.take _
          obtain ⟨b', k', w', hD, hst, hl⟩ := copyTo_sound (P := P) hw h hd hn (Nat.min_le_right _ _) hcut
          injection hD with hD1 _ hD3
          subst hD1; subst hD3
          refine ⟨_, w', ?_, hl⟩
          have hrun' : (Builtin.firstCells et.size (Nat.min m l) (.slice (some a) m c2)).run P w = .ok (vs.take (min m l * et.size)).toArray w := by
            refine run_firstCells_some (P := P) w et.size (Nat.min m l) a m c2 (vs.take (min m l * et.size)) (by rw [List.length_take]; show _ = min m l * et.size; omega) fun j v hv' => ?_
            rw [List.getElem?_take] at hv'
            split at hv'
            · exact froz_read hw hz hr hv j v hv'
            · cases hv'
          show (Builtin.copy_ #[t, u] ty #[.slice (some b') l k, .slice (some a) m c2]).run P w = .ok (goInt (Nat.min m l : Nat)) w'
          simp [Builtin.copy_, run_underlying ht, Builtin.lenOf, hsz, hrun', hst]
      · cases h
  · cases h

/-! ### Maps -/
theorem putKey_sound {kt : TypeId} {k v : AV} {K V : Value} {R : Value → Bool → Prop} (hk : RelV μ k K) (hv : RelV μ v V) (hs : ∀ x X b, sameKey cx kt k x = some b → RelV μ x X → R X b ∧ (b = true → X = K)) :
    ∀ {es es' : List (AV × AV)} {fs : List MapEntry} (i : Nat), putKey cx kt k v es = some es' → RelE μ es fs →
      (Finds R fs i none ∧ ∀ born, RelE μ es' (fs ++ [{ key := K, val := V, born := born }])) ∨
      ∃ j e, Finds R fs i (some (i + j, e.val)) ∧ fs[j]? = some e ∧ e.key = K ∧ RelE μ es' (fs.modify j fun e => { e with key := K, val := V }) := by
  intro es
  induction es with
  | nil =>
    intro es' fs i h hr; cases hr; simp only [putKey] at h; cases h
    exact .inl ⟨.nil i, fun born => .cons hk hv .nil⟩
  | cons p es ih =>
    intro es' fs i h hr
    cases hr with
    | cons a b c =>
      rename_i kk vv e fs
      simp only [putKey] at h
      replace h := ob_eq h; obtain ⟨b', hb, h⟩ := h
      obtain ⟨h1, h2⟩ := hs _ _ _ hb a
      cases b' with
      | true =>
        simp only [if_true] at h
        injection h with h; subst h
        exact .inr ⟨0, e, .yes h1, rfl, h2 rfl, by simp; exact .cons hk hv c⟩
      | false =>
        simp only [Bool.false_eq_true, if_false] at h
        replace h := ob_eq h; obtain ⟨r, hr, h⟩ := h
        injection h with h; subst h
        rcases ih (i + 1) hr c with ⟨h3, h4⟩ | ⟨j, e', h3, h4, h5, h6⟩
        · exact .inl ⟨.no h1 h3, fun born => .cons a b (h4 born)⟩
        · exact .inr ⟨j + 1, e', .no h1 (by rw [show i + (j + 1) = i + 1 + j by omega]; exact h3), by simpa using h4, h5, by simp; exact .cons a b h6⟩

theorem dropKey_sound {kt : TypeId} {k : AV} {K : Value} {R : Value → Bool → Prop} (hs : ∀ x X b, sameKey cx kt k x = some b → RelV μ x X → R X b ∧ (b = true → X = K)) :
    ∀ {es es' : List (AV × AV)} {fs : List MapEntry} (i : Nat), dropKey cx kt k es = some es' → RelE μ es fs →
      (Finds R fs i none ∧ RelE μ es' fs) ∨
      ∃ j e, Finds R fs i (some (i + j, e.val)) ∧ fs[j]? = some e ∧ RelE μ es' (fs.eraseIdx j) := by
  intro es
  induction es with
  | nil => intro es' fs i h hr; cases hr; simp only [dropKey] at h; cases h; exact .inl ⟨.nil i, .nil⟩
  | cons p es ih =>
    intro es' fs i h hr
    cases hr with
    | cons a b c =>
      rename_i kk vv e fs
      simp only [dropKey] at h
      replace h := ob_eq h; obtain ⟨b', hb, h⟩ := h
      obtain ⟨h1, h2⟩ := hs _ _ _ hb a
      cases b' with
      | true =>
        simp only [if_true] at h
        injection h with h; subst h
        exact .inr ⟨0, e, .yes h1, rfl, by simpa using c⟩
      | false =>
        simp only [Bool.false_eq_true, if_false] at h
        replace h := ob_eq h; obtain ⟨r, hr, h⟩ := h
        injection h with h; subst h
        rcases ih (i + 1) hr c with ⟨h3, h4⟩ | ⟨j, e', h3, h4, h5⟩
        · exact .inl ⟨.no h1 h3, .cons a b h4⟩
        · exact .inr ⟨j + 1, e', .no h1 (by rw [show i + (j + 1) = i + 1 + j by omega]; exact h3), by simpa using h4, by simp; exact .cons a b h5⟩

include hw in
theorem entries_write {r : Nat} {es es' : List (AV × AV)} {i : BI} (hr : μ r = some i) (hg : H.get r = .entries es) (hb : ¬ base i.blk) {o : Obj} (ho : w.heap[i.blk]? = some o) (fs : Array MapEntry) (clock : Nat) (hrel : RelE μ es' fs.toList) :
    RelW (szOf cx) base w0 μ (H.put r (.entries es')) { w with heap := w.heap.setIfInBounds i.blk (.map fs clock) } := by
  obtain ⟨s1, s2⟩ := heap_set (w := w) (o' := .map fs clock) ho
  exact RelW.write hw hr (by rw [hg]; rfl) rfl rfl rfl (by simp) s2 (.inl rfl) ⟨hb, fs, clock, s1, hrel⟩

include hcx hw in
theorem aMapPut_sound {t : TypeId} {x k v : AV} {X K V : Value} {H' : Heap} (h : aMapPut cx t x k v H = some H') (hx : RelV μ x X) (hk : RelV μ k K) (hv : RelV μ v V) :
    ∃ w', (Instr.mapUpdate t X K V).run P w = .ok () w' ∧ RelW (szOf cx) base w0 μ H' w' ∧ H'.next = H.next := by
  unfold aMapPut at h
  replace h := ob_eq h; obtain ⟨m, hm, h⟩ := h
  rw [cb_eq] at h
  split at h
  · rename_i hkt
    replace h := ob_eq h; obtain ⟨r, hr, h⟩ := h
    replace h := ob_eq h; obtain ⟨r', hr', h⟩ := h
    subst hr'
    replace h := ob_eq h; obtain ⟨es, hes, h⟩ := h
    replace h := ob_eq h; obtain ⟨es', hes', h⟩ := h
    injection h with h; subst h
    have hu := mapT_sound hcx hm
    obtain ⟨R, KO⟩ := isKeyT_sound hkt hcx w hk
    cases map?_eq hr
    cases hx with
    | map hi =>
      obtain ⟨hg, hbs, fs, clock, hb, hrel⟩ := entries_sound hw hes hi
      have hc := KO.check
      rcases putKey_sound hk hv KO.same 0 hes' hrel with ⟨hnow, hre⟩ | ⟨j, e, hnow, hj, hek, hre⟩
      · refine ⟨_, ?_, entries_write hw hi hg hbs hb (fs.push { key := K, val := V, born := clock }) (clock + 1) (by simpa using hre clock), rfl⟩
        simp [Instr.mapUpdate, run_underlying hu, MapKept.run_getObj_map hb, hc, KO.find _ _ hnow, MapKept.run_setObj_map _ hb]
      · have hj' : fs[j]? = some e := by simpa using hj
        refine ⟨_, ?_, entries_write hw hi hg hbs hb (fs.modify j fun e => { e with key := K, val := V }) clock (by rw [Array.toList_modify]; exact hre), rfl⟩
        simp [Instr.mapUpdate, run_underlying hu, MapKept.run_getObj_map hb, hc, KO.find _ _ hnow, hj', hek, KO.stays, MapKept.run_setObj_map _ hb]
  · cases h

include hcx hw in
theorem aDelete_sound {t u ty : TypeId} {x k : AV} {X K : Value} {H' : Heap} (h : aDelete cx t x k H = some H') (hx : RelV μ x X) (hk : RelV μ k K) :
    ∃ w', (Builtin.delete_ #[t, u] ty #[X, K]).run P w = .ok (.tuple #[]) w' ∧ RelW (szOf cx) base w0 μ H' w' ∧ H'.next = H.next := by
  unfold aDelete at h
  replace h := ob_eq h; obtain ⟨m, hm, h⟩ := h
  rw [cb_eq] at h
  split at h
  · rename_i hkt
    replace h := ob_eq h; obtain ⟨r, hr, h⟩ := h
    have hu := mapT_sound hcx hm
    obtain ⟨R, KO⟩ := isKeyT_sound hkt hcx w hk
    have hc := KO.check
    cases map?_eq hr
    unfold dropIn at h
    split at h
    · injection h with h; subst h
      cases hx
      refine ⟨w, ?_, hw, rfl⟩
      simp [Builtin.delete_, run_underlying hu, hc]
    · rename_i r'
      replace h := ob_eq h; obtain ⟨es, hes, h⟩ := h
      replace h := ob_eq h; obtain ⟨es', hes', h⟩ := h
      injection h with h; subst h
      cases hx with
      | map hi =>
        obtain ⟨hg, hbs, fs, clock, hb, hrel⟩ := entries_sound hw hes hi
        rcases dropKey_sound KO.same 0 hes' hrel with ⟨hnow, hre⟩ | ⟨j, e, hnow, hj, hre⟩
        · refine ⟨_, ?_, entries_write hw hi hg hbs hb fs clock hre, rfl⟩
          simp [Builtin.delete_, run_underlying hu, MapKept.run_getObj_map hb, hc, KO.find _ _ hnow, MapKept.run_setObj_map _ hb]
        · have hlt : j < fs.size := by have := (List.getElem?_eq_some_iff.1 hj).1; simpa using this
          refine ⟨_, ?_, entries_write hw hi hg hbs hb (fs.eraseIdxIfInBounds j) clock (by simp [Array.eraseIdxIfInBounds, hlt]; exact hre), rfl⟩
          simp [Builtin.delete_, run_underlying hu, MapKept.run_getObj_map hb, hc, KO.find _ _ hnow, MapKept.run_setObj_map _ hb]
  · cases h
end
end Go.Ab
end
end

/- One operation within the calculus; the operations of a region in the order of the text. -/
section
section
set_option autoImplicit false
set_option linter.unusedVariables false
set_option linter.unusedSimpArgs false
set_option linter.unusedSectionVars false
namespace Go.Ab
open Go.RowKit Go.MapKept

/-- The wide fence, in a round or not. -/
abbrev FF (r : Option Nat) : Fence := { fn := fun _ => True, depth := none, alive := false, round := r }

/-- What a call comes to. -/
def CallPost (cx : Cx) (base : Nat → Prop) (w0 : World) (μ : Inj) (H : Heap) (v : AV) (H' : Heap) : Ending → World → Prop :=
  fun e w' => ∃ Z, e = .returned Z ∧ LoudOK cx base w0 μ H v H' Z w'

structure CallerOK (P : Program) (cx : Cx) (base : Nat → Prop) (w0 : World) (call : Caller) : Prop where
  fn : ∀ {f : FuncId} {args : List AV} {H H' : Heap} {v : AV} {μ : Inj} {w : World} {xs : List Value}, call (.fn f) args H = some (v, H') → RelW (szOf cx) base w0 μ H w → RelL μ args xs →
    (callFunc f xs.toArray).run P w = .ok (.enter f xs.toArray) w ∧ ∀ r n, CallsIn (FF r) n P f xs.toArray w (CallPost cx base w0 μ H v H')
  yield : ∀ {l : Nat} {args : List AV} {H H' : Heap} {v : AV} {μ : Inj} {w : World} {xs : List Value} {i : BI}, call (.yield l) args H = some (v, H') → RelW (szOf cx) base w0 μ H w → RelL μ args xs → μ l = some i →
    ∃ f tmps asg body, (Instr.yield i.blk xs.toArray).run P w = .ok (.round i.blk f tmps asg body) w ∧ ∀ r n, RoundIn (FF r) n P i.blk f tmps asg body w (CallPost cx base w0 μ H v H')

section
variable {P : Program} {cx : Cx} (hcx : CxOK P cx) {μ : Inj} {base : Nat → Prop} {w0 w : World} {H : Heap} (hw : RelW (szOf cx) base w0 μ H w) {g : Env} {a : Act} (hf : RelF μ g a.tmps)
  {call : Caller} (hcall : CallerOK P cx base w0 call)

/-- What an operation's run comes to, in the calculus. -/
theorem uponIn_value {r : Option Nat} {n : Nat} {o : Oper} {next : Act → World → Prop} {Q : Exit → Act → World → Prop} {Z : Value} {w' : World}
    (hd : ∀ c, o.op ≠ .defer c) (h : (execOp a.eval o).run P w = .ok (.value Z) w') (hn : next (a.put o.dst Z) w') : o.wpIn (FF r) n P a w next Q := by
  refine ⟨fun _ _ => trivial, ?_⟩
  rw [Oper.semAt_eq _ _ _ hd, h]
  exact hn
theorem uponIn_skip {r : Option Nat} {n : Nat} {o : Oper} {next : Act → World → Prop} {Q : Exit → Act → World → Prop} {w' : World}
    (hd : ∀ c, o.op ≠ .defer c) (h : (execOp a.eval o).run P w = .ok .skip w') (hn : next (a.put o.dst undef) w') : o.wpIn (FF r) n P a w next Q := by
  refine ⟨fun _ _ => trivial, ?_⟩
  rw [Oper.semAt_eq _ _ _ hd, h]
  exact hn

include hw in
/-- What an allocation leaves. -/
theorem made_loud {m : Made} {x : Value} {ob : Obj} {i : BI} {w1 : World} (h : MadeOK P (szOf cx) base μ m w i x ob w1) :
    LoudOK cx base w0 μ H (m.1 H.next) (H.new m.2) x (w1.alloc ob) := by
  have hu := hw.unmapped
  have hw1 : RelW (szOf cx) base w0 μ H w1 := by
    refine ⟨⟨h.os.trans hw.below.os, h.tape.trans hw.below.tape, h.out.trans hw.below.output, by rw [h.heap]; exact hw.below.size, fun k hk => by rw [h.heap]; exact hw.below.block k hk⟩, by rw [h.heap]; exact hw.baseLe, hw.fresh,
      fun b i e => (hw.blk b i e).same fun _ => by rw [h.heap], hw.apart, by rw [h.heap]; exact hw.froz, hw.frozApart, by rw [h.heap]; exact hw.lo⟩
  refine ⟨by simp, μ.set H.next i, grow_set _ _ _, h.val _ _ (ext_set i hu) (Inj.set_same _ _ _), ?_⟩
  refine RelW.bind (hw1.addDead m.2) hu (by simp) ob i (by rw [h.at_, h.heap]) ?_
  rw [Heap.get_new, if_pos rfl]
  exact h.blk _ (ext_set i hu) hw.newOK

include hcx hw hf hcall in
/-- **One operation.** -/
theorem aOp_sound {o : Oper} {v : AV} {H' : Heap} (h : aOp cx call o.op g H = some (v, H')) {r : Option Nat} {n : Nat} {next : Act → World → Prop} {Q : Exit → Act → World → Prop}
    (hn : ∀ Z w', LoudOK cx base w0 μ H v H' Z w' → next (a.put o.dst Z) w') : o.wpIn (FF r) n P a w next Q := by
  rw [aOp_eq] at h
  unfold aOpK at h
  split at h
  · rename_i hk
    replace h := ob_eq h; obtain ⟨m, hm, h⟩ := h
    injection h with h; injection h with h1 h2; subst h1; subst h2
    obtain ⟨x, ob, i, w1, hrun, hok⟩ := aMade_sound hcx hf hm hk w
    refine uponIn_value (fun c e => ?_) hrun (hn _ _ (made_loud hw hok))
    rw [e] at hk; simp [kindOf] at hk
  · rename_i hk
    replace h := ob_eq h; obtain ⟨u, hu, h⟩ := h
    injection h with h; injection h with h1 h2; subst h1; subst h2
    obtain ⟨x, w', hrun, hv, hw'⟩ := aQuiet_sound hcx hw hf hu
    refine uponIn_value (fun c e => ?_) hrun (hn _ _ (LoudOK.same rfl hv hw'))
    rw [e] at hu; simp [aQuiet] at hu
  · rename_i hk
    obtain ⟨dst, op, ty', pos, after, guard⟩ := o
    have store : ∀ {s : Sem Unit} {H2 : Heap}, (∃ w', s.run P w = .ok () w' ∧ RelW (szOf cx) base w0 μ H2 w' ∧ H2.next = H.next) → v = .undef → H2 = H' →
        ∃ w', (do s; pure Next.skip : Sem Next).run P w = .ok .skip w' ∧ next (a.put dst undef) w' := by
      rintro s H2 ⟨w', h1, h2, h3⟩ rfl rfl
      exact ⟨w', by simp [h1], hn _ _ (LoudOK.same h3 .undef h2)⟩
    cases op <;> simp only [aLoud] at h <;> try (cases h; done)
    case store t x y =>
      simp only [lStore, ev2] at h
      replace h := ob_eq h; obtain ⟨p, hp, h⟩ := h
      replace h := ob_eq h; obtain ⟨q, hq, h⟩ := h
      replace h := ob_eq h; obtain ⟨H2, h2, h⟩ := h
      injection h with h; injection h with h3 h4
      obtain ⟨w', h5, h6⟩ := store (s := Instr.storeAt t (a.eval x) (a.eval y)) (aStore_sound hcx hw h2 (ev_sound hf hp) (ev_sound hf hq)) h3.symm h4
      exact uponIn_skip (fun c e => by cases e) h5 h6
    case mapUpdate t m k x =>
      simp only [lPut, ev2] at h
      replace h := ob_eq h; obtain ⟨s, hs, h⟩ := h
      replace h := ob_eq h; obtain ⟨p, hp, h⟩ := h
      replace h := ob_eq h; obtain ⟨q, hq, h⟩ := h
      replace h := ob_eq h; obtain ⟨H2, h2, h⟩ := h
      injection h with h; injection h with h3 h4
      obtain ⟨w', h5, h6⟩ := store (s := Instr.mapUpdate t (a.eval m) (a.eval k) (a.eval x)) (aMapPut_sound hcx hw h2 (ev_sound hf hs) (ev_sound hf hp) (ev_sound hf hq)) h3.symm h4
      exact uponIn_skip (fun c e => by cases e) h5 h6
    case insert t m k x =>
      simp only [lPut, ev2] at h
      replace h := ob_eq h; obtain ⟨s, hs, h⟩ := h
      replace h := ob_eq h; obtain ⟨p, hp, h⟩ := h
      replace h := ob_eq h; obtain ⟨q, hq, h⟩ := h
      replace h := ob_eq h; obtain ⟨H2, h2, h⟩ := h
      injection h with h; injection h with h3 h4
      obtain ⟨w', h5, h6⟩ := store (s := Instr.mapUpdate t (a.eval m) (a.eval k) (a.eval x)) (aMapPut_sound hcx hw h2 (ev_sound hf hs) (ev_sound hf hp) (ev_sound hf hq)) h3.symm h4
      exact uponIn_skip (fun c e => by cases e) h5 h6
    case call c =>
      have e : c.args.map a.eval = (c.args.toList.map a.eval).toArray := by rw [← Array.toList_map, Array.toArray_toList]
      unfold lCall at h
      split at h
      · rename_i b hb
        replace h := ob_eq h; obtain ⟨l, hl, h⟩ := h
        have hr := evs_sound hf hl
        have two : ∀ {α : Type} {ts : List α} {β : Type} {f : α → α → Option β} {y : β}, two2 ts f = some y → ∃ p q, ts = [p, q] ∧ f p q = some y := by
          intro α ts β f y h
          unfold two2 at h
          split at h
          · exact ⟨_, _, rfl, h⟩
          · cases h
        have fin : ∀ Z w', (builtin b c.argTypes ty' (c.args.map fun | .const _ => true | _ => false) (c.args.toList.map a.eval).toArray).run P w = .ok (.value Z) w' → LoudOK cx base w0 μ H v H' Z w' →
            Oper.wpIn (FF r) n P ⟨dst, .call c, ty', pos, after, guard⟩ a w next Q := by
          intro Z w' h1 h2
          refine uponIn_value (fun c e => by cases e) ?_ (hn _ _ h2)
          simp only [execOp, resolve, hb, pure_bind, invoke, e]
          exact h1
        cases b <;> simp only [lBuiltin] at h <;> try (cases h; done)
        case append =>
          obtain ⟨t, u, ht, h⟩ := two h
          obtain ⟨s, x, rfl, h⟩ := two h
          cases hxs : c.args.toList.map a.eval with
          | nil => rw [hxs] at hr; cases hr
          | cons S xs =>
            rw [hxs] at hr
            cases hr with
            | cons rs rest =>
              cases rest with
              | cons rx rest =>
                cases rest
                obtain ⟨Z, w', h1, h2⟩ := aAppend_sound (ty := ty') hcx hw h rs rx
                refine fin Z w' ?_ h2
                have e2 : c.argTypes = #[t, u] := by rw [← Array.toArray_toList (xs := c.argTypes), ht]
                rw [hxs, e2]
                simp [builtin, h1]
        case copy =>
          obtain ⟨t, u, ht, h⟩ := two h
          obtain ⟨s, x, rfl, h⟩ := two h
          cases hxs : c.args.toList.map a.eval with
          | nil => rw [hxs] at hr; cases hr
          | cons S xs =>
            rw [hxs] at hr
            cases hr with
            | cons rs rest =>
              cases rest with
              | cons rx rest =>
                cases rest
                obtain ⟨Z, w', h1, h2⟩ := aCopy_sound (u := u) (ty := ty') hcx hw h rs rx
                refine fin Z w' ?_ h2
                have e2 : c.argTypes = #[t, u] := by rw [← Array.toArray_toList (xs := c.argTypes), ht]
                rw [hxs, e2]
                simp [builtin, h1]
        case delete =>
          obtain ⟨t, u, ht, h⟩ := two h
          obtain ⟨s, x, rfl, h⟩ := two h
          replace h := ob_eq h; obtain ⟨H2, h2, h⟩ := h
          injection h with h; injection h with h3 h4; subst h3; subst h4
          cases hxs : c.args.toList.map a.eval with
          | nil => rw [hxs] at hr; cases hr
          | cons S xs =>
            rw [hxs] at hr
            cases hr with
            | cons rs rest =>
              cases rest with
              | cons rx rest =>
                cases rest
                obtain ⟨w', h5, h6, h7⟩ := aDelete_sound (u := u) (ty := ty') hcx hw h2 rs rx
                refine fin (.tuple #[]) w' ?_ (LoudOK.same h7 (.tuple (xs := []) .nil) h6)
                have e2 : c.argTypes = #[t, u] := by rw [← Array.toArray_toList (xs := c.argTypes), ht]
                rw [hxs, e2]
                simp [builtin, h5]
      · rename_i fo hb
        replace h := ob_eq h; obtain ⟨fv, hfv, h⟩ := h
        replace h := ob_eq h; obtain ⟨l, hl, h⟩ := h
        have hr := evs_sound hf hl
        have rf := ev_sound hf hfv
        unfold aCallV at h
        split at h
        · rename_i gf first captured
          generalize hF : a.eval fo = F at rf
          cases rf with
          | func r1 r2 =>
            rename_i xs ys
            obtain ⟨h1, h2⟩ := hcall.fn h hw ((r1.append hr).append r2)
            refine ⟨fun _ _ => trivial, ?_⟩
            rw [Oper.semAt_eq _ _ _ (fun c e => by cases e)]
            have hrun : (execOp a.eval ⟨dst, .call c, ty', pos, after, guard⟩).run P w = .ok (.enter gf (xs ++ c.args.toList.map a.eval ++ ys).toArray) w := by
              simp only [execOp, resolve, hb, hF, Deferred.ofValue, pure_bind, invoke, e]
              rw [← h1]; simp
            rw [hrun]
            refine ⟨fun e => (by cases e), (h2 r (n - 1)).mono ?_⟩
            rintro e w' ⟨Z, rfl, hl⟩
            exact hn Z w' hl
        · rename_i l'
          generalize hF : a.eval fo = F at rf
          cases rf with
          | yield hi =>
            rename_i i
            obtain ⟨f', tmps, asg, body, h1, h2⟩ := hcall.yield h hw hr hi
            refine ⟨fun _ _ => trivial, ?_⟩
            rw [Oper.semAt_eq _ _ _ (fun c e => by cases e)]
            have hrun : (execOp a.eval ⟨dst, .call c, ty', pos, after, guard⟩).run P w = .ok (.round i.blk f' tmps asg body) w := by
              simp only [execOp, resolve, hb, hF, Deferred.ofValue, pure_bind, invoke, e]
              rw [← h1]; simp
            rw [hrun]
            refine ⟨fun e => (by cases e), (h2 r (n - 1)).mono ?_⟩
            rintro e w' ⟨Z, rfl, hl⟩
            exact hn Z w' hl
        · cases h
      · cases h

/-! ### Guards; the operations of a region -/
theorem guard_sound {tmps : Array Value} (hf : RelF μ g tmps) (ops : Array Oper) (j : Nat) (want : Bool) (hk : ∀ t, (listAt ops.toList j).ob (·.dst) = some t → g t ≠ .any) : (yielded ops tmps j == some want) = aGuard ops.toList g j want := by
  unfold yielded aGuard
  rw [listAt_eq, Array.getElem?_toList] at hk ⊢
  generalize ops[j]? = oo at hk ⊢
  cases oo with
  | none => simp
  | some o =>
    simp only [Option.bind_some, ob_some] at hk ⊢
    cases hod : o.dst with
    | none => simp
    | some t =>
      rw [hod] at hk
      have hk := hk t rfl
      simp only [Option.bind_some]
      have h := hf t
      rw [Array.getD_eq_getD_getElem?] at h
      generalize g t = u at h hk
      cases hv : tmps[t]? with
      | none =>
        rw [hv] at h
        cases u <;> first | rfl | (cases h; done) | exact absurd rfl hk
      | some x =>
        rw [hv] at h
        simp only [Option.getD_some] at h
        cases h <;> first | rfl | exact absurd rfl hk

theorem wanted_sound {tmps : Array Value} (hf : RelF μ g tmps) (ops : Array Oper) (o : Oper) (hk : gknown ops.toList g o = true) : Region.wanted o (yielded ops tmps) = aWanted ops.toList g o := by
  unfold Region.wanted aWanted
  unfold gknown at hk
  cases hg : o.guard with
  | none => rfl
  | some q =>
    rw [hg] at hk
    simp only at hk
    exact guard_sound hf ops q.1 q.2 fun t ht e => by
      rw [ht] at hk
      simp only [e, isAny] at hk
      cases hk

theorem put_size (a : Act) (dst : Option Tmp) (v : Value) : (a.put dst v).tmps.size = a.tmps.size := by
  cases dst <;> simp [Act.put]
theorem put_defers (a : Act) (dst : Option Tmp) (v : Value) : (a.put dst v).defers = a.defers := by
  cases dst <;> rfl

theorem put_sound {μ' : Inj} {fr fr' : Fr} {nn : Nat} {dst : Option Tmp} {v : AV} {Z : Value} {a : Act} (hf : RelF μ fr.get a.tmps) (hs : a.tmps.size = nn) (h : fr.put nn dst v = some fr') (he : Ext μ μ') (hv : RelV μ' v Z) :
    RelF μ' fr'.get (a.put dst Z).tmps := by
  unfold Fr.put at h
  cases dst with
  | none => simp only at h; injection h with h; subst h; exact hf.mono he
  | some d =>
    simp only [cb_eq, nble] at h
    split at h
    · rename_i hd
      have hd : d < a.tmps.size := by rw [hs]; exact of_decide_eq_true hd
      injection h with h; subst h
      intro t
      show RelV μ' (T.get .undef (T.set .undef fr d v) t) _
      rw [T.get_set]
      simp only [Act.put, Array.getD_eq_getD_getElem?, Array.getElem?_setIfInBounds]
      by_cases ht : t = d
      · subst ht; rw [if_pos rfl, if_pos rfl, if_pos hd]; exact hv
      · rw [if_neg ht, if_neg (Ne.symm ht), ← Array.getD_eq_getD_getElem?]; exact (hf t).mono he
    · cases h

/-- What operations come to. -/
structure RunOK (cx : Cx) (base : Nat → Prop) (w0 : World) (nn : Nat) (μ : Inj) (H : Heap) (ds : List Deferred) (fr' : Fr) (H' : Heap) (a' : Act) (w' : World) : Prop where
  next : H.next ≤ H'.next
  ex : ∃ μ', Grow H.next μ μ' ∧ RelF μ' fr'.get a'.tmps ∧ RelW (szOf cx) base w0 μ' H' w'
  size : a'.tmps.size = nn
  defers : a'.defers = ds

include hcx hcall in
theorem aOps_sound {nn : Nat} {ops : Array Oper} {r : Option Nat} {n : Nat} {Q : Exit → Act → World → Prop} : ∀ (l : List Oper) (k : Nat) (μ : Inj) (fr : Fr) (H : Heap) (a : Act) (w : World) (fr' : Fr) (H' : Heap),
    ops.toList.drop k = l → aOps cx call nn ops.toList l fr H = some (fr', H') → RelF μ fr.get a.tmps → a.tmps.size = nn → RelW (szOf cx) base w0 μ H w →
    (∀ a' w', RunOK cx base w0 nn μ H a.defers fr' H' a' w' → Q .normal a' w') → wpOpsIn (FF r) n P ops Q (List.range' k l.length) a w := by
  intro l
  induction l with
  | nil =>
    intro k μ fr H a w fr' H' hl h hf hs hw hq
    rw [aOps_nil] at h
    injection h with h; injection h with h1 h2; subst h1; subst h2
    exact hq a w ⟨Nat.le_refl _, ⟨μ, Grow.refl _ _, hf, hw⟩, hs, rfl⟩
  | cons o l ih =>
    intro k μ fr H a w fr' H' hl h hf hs hw hq
    rw [aOps_cons] at h
    replace h := ob_eq h; obtain ⟨⟨v, H1⟩, hstep, h⟩ := h
    replace h := ob_eq h; obtain ⟨fr1, hput, h⟩ := h
    simp only at hput h
    have hok : ops[k]? = some o := by
      have : (ops.toList.drop k)[0]? = some o := by rw [hl]; rfl
      rw [List.getElem?_drop] at this
      simpa using this
    have hl' : ops.toList.drop (k + 1) = l := by
      have := congrArg List.tail hl
      simpa using this
    rw [List.length_cons, List.range'_succ]
    unfold wpOpsIn
    simp only [hok]
    obtain ⟨hgk, hstep⟩ := aStep_eq hstep
    rw [wanted_sound hf ops o hgk]
    unfold aStep0 at hstep
    have goOn : ∀ Z w', LoudOK cx base w0 μ H v H1 Z w' → wpOpsIn (FF r) n P ops Q (List.range' (k + 1) l.length) (a.put o.dst Z) w' := by
      rintro Z w' ⟨hn1, μ1, hg1, hv1, hw1⟩
      refine ih (k + 1) μ1 fr1 H1 (a.put o.dst Z) w' fr' H' hl' h (put_sound hf hs hput (hw.ext hg1) hv1) (by rw [put_size]; exact hs) hw1 fun a' w'' hr => hq a' w'' ?_
      obtain ⟨h1, ⟨μ2, h2, h3, h4⟩, h5, h6⟩ := hr
      exact ⟨Nat.le_trans hn1 h1, ⟨μ2, hg1.trans h2 hn1, h3, h4⟩, h5, h6.trans (put_defers _ _ _)⟩
    rw [cb_eq] at hstep
    split at hstep
    · rename_i hwt
      rw [if_pos hwt]
      exact aOp_sound hcx hw hf hcall hstep goOn
    · rename_i hwt
      rw [if_neg hwt]
      injection hstep with hstep; injection hstep with h1 h2; subst h1; subst h2
      exact ⟨fun _ _ => trivial, goOn undef w (LoudOK.same rfl .undef hw)⟩
end
end Go.Ab
end
end

/- A region that draws its order: what the plan and its run say. -/
section
section
set_option autoImplicit false
set_option linter.unusedVariables false
set_option linter.unusedSimpArgs false
set_option linter.unusedSectionVars false
namespace Go.Ab
open Go.RowKit Go.MapKept

/-! ### Sameness that is reckoned -/
mutual
theorem AV.beq_eq : ∀ (a b : AV), AV.beq a b = true → a = b
  | .undef, b, h => by cases b <;> first | rfl | cases h
  | .int k n, b, h => by cases b <;> first | (simp [AV.beq] at h; obtain ⟨rfl, rfl⟩ := h; rfl) | cases h
  | .bool x, b, h => by cases b <;> first | (simp [AV.beq] at h; subst h; rfl) | cases h
  | .str x, b, h => by cases b <;> first | (simp [AV.beq] at h; subst h; rfl) | cases h
  | .ptr x, b, h => by cases b <;> first | (simp [AV.beq] at h; subst h; rfl) | cases h
  | .slice x l c, b, h => by cases b <;> first | (simp [AV.beq] at h; obtain ⟨⟨rfl, rfl⟩, rfl⟩ := h; rfl) | cases h
  | .map x, b, h => by cases b <;> first | (simp [AV.beq] at h; subst h; rfl) | cases h
  | .func f x y, b, h => by
    cases b <;> first
      | (simp [AV.beq] at h; obtain ⟨⟨rfl, h1⟩, h2⟩ := h; rw [AV.beqL_eq _ _ h1, AV.beqL_eq _ _ h2])
      | cases h
  | .yield x, b, h => by cases b <;> first | (simp [AV.beq] at h; subst h; rfl) | cases h
  | .nilFunc, b, h => by cases b <;> first | rfl | cases h
  | .iface t v, b, h => by
    cases b <;> first
      | (simp [AV.beq] at h; obtain ⟨rfl, h1⟩ := h; rw [AV.beq_eq _ _ h1])
      | cases h
  | .nilIface, b, h => by cases b <;> first | rfl | cases h
  | .agg x, b, h => by cases b <;> first | (simp only [AV.beq] at h; rw [AV.beqL_eq _ _ h]) | cases h
  | .tuple x, b, h => by cases b <;> first | (simp only [AV.beq] at h; rw [AV.beqL_eq _ _ h]) | cases h
  | .fsl n l x, b, h => by
    cases b <;> first
      | (simp only [AV.beq, Bool.and_eq_true, beq_iff_eq, decide_eq_true_eq] at h; obtain ⟨⟨rfl, rfl⟩, h2⟩ := h; rw [AV.beqL_eq _ _ h2])
      | cases h
  | .fptr x, b, h => by cases b <;> first | (simp only [AV.beq] at h; rw [AV.beqL_eq _ _ h]) | cases h
  | .any, b, h => by cases b <;> first | rfl | cases h
theorem AV.beqL_eq : ∀ (a b : List AV), AV.beqL a b = true → a = b
  | [], b, h => by cases b <;> first | rfl | cases h
  | x :: xs, b, h => by
    cases b with
    | nil => cases h
    | cons y ys =>
      simp only [AV.beqL, Bool.and_eq_true] at h
      rw [AV.beq_eq _ _ h.1, AV.beqL_eq _ _ h.2]
end

theorem Blk.same_eq {a b : Blk} (h : Blk.same a b = true) : a = b := by
  unfold Blk.same at h
  split at h
  · simp only [Bool.and_eq_true, beq_iff_eq, decide_eq_true_eq] at h
    obtain ⟨⟨⟨rfl, rfl⟩, rfl⟩, h⟩ := h
    rw [AV.beqL_eq _ _ h]
  · rfl
  · cases h

/-! ### An operation looks at its operands alone -/
section congr
variable {g g' : Env}
theorem ev_congr {x : Operand} (h : ∀ t, x = .tmp t → g t = g' t) : ev g x = ev g' x := by
  cases x <;> first | rfl | (simp only [ev]; rw [h _ rfl])
theorem evs_congr {l : List Operand} (h : ∀ x ∈ l, ev g x = ev g' x) : evs g l = evs g' l := by
  induction l with
  | nil => rfl
  | cons x l ih => rw [evs_cons, evs_cons, h x (by simp), ih fun y hy => h y (by simp [hy])]
theorem evParts_congr {l : List (Nat × Operand)} (h : ∀ x ∈ l.map (·.2), ev g x = ev g' x) : evParts g l = evParts g' l := by
  induction l with
  | nil => rfl
  | cons x l ih =>
    obtain ⟨i, x⟩ := x
    simp only [evParts]
    rw [h x (by simp), ih fun y hy => h y (by simp [hy])]
theorem evO_congr {x : Option Operand} (h : ∀ y, x = some y → ev g y = ev g' y) : evO g x = evO g' x := by
  cases x with
  | none => rfl
  | some y => simp only [evO]; rw [h y rfl]

theorem aMade_congr (cx : Cx) {o : Op} (h : ∀ x ∈ o.operands, ev g x = ev g' x) : aMade cx o g = aMade cx o g' := by
  cases o <;> simp only [aMade, mBox, mBuild, mMake, mMap] <;> try rfl
  case box t x => rw [h x (by simp [Op.operands])]
  case buildSlice t n ps => rw [evParts_congr fun x hx => h x (by simpa [Op.operands] using hx)]
  case makeSlice t l c => rw [h l (by simp [Op.operands]), h c (by simp [Op.operands])]
  case convert s d x => rw [h x (by simp [Op.operands])]

theorem call_congr {c : Call} (h : ∀ x ∈ (Op.call c).operands, ev g x = ev g' x) : evs g c.args.toList = evs g' c.args.toList ∧ ∀ f, c.callee = .value f → ev g f = ev g' f := by
  constructor
  · exact evs_congr fun x hx => h x (by simp [Op.operands, Call.operands]; right; simpa using hx)
  · intro f hf
    exact h f (by simp [Op.operands, Call.operands, hf])

theorem aQuiet_congr (cx : Cx) {o : Op} (H : Heap) (h : ∀ x ∈ o.operands, ev g x = ev g' x) : aQuiet cx o g H = aQuiet cx o g' H := by
  cases o <;> simp only [aQuiet, ev2] <;> try rfl
  case move x => rw [h x (by simp [Op.operands])]
  case assign x => rw [h x (by simp [Op.operands])]
  case pick c x y => rw [h c (by simp [Op.operands]), h x (by simp [Op.operands]), h y (by simp [Op.operands])]
  case build t ps => rw [evParts_congr fun x hx => h x (by simpa [Op.operands] using hx)]
  case load t x => rw [h x (by simp [Op.operands])]
  case nilCheck x => rw [h x (by simp [Op.operands])]
  case binOp op t x y z => rw [h x (by simp [Op.operands]), h y (by simp [Op.operands])]
  case unOp op t x => rw [h x (by simp [Op.operands])]
  case convert s d x => rw [h x (by simp [Op.operands])]
  case makeFunc fn first captured =>
    unfold qFunc
    rw [evs_congr (g := g) (l := first.toList) fun x hx => h x (by simp [Op.operands]; left; simpa using hx), evs_congr (g := g) (l := captured.toList) fun x hx => h x (by simp [Op.operands]; right; simpa using hx)]
  case slice t x lo hi mx =>
    unfold qSlice
    rw [h x (by simp [Op.operands]), evO_congr (x := lo) fun y hy => h y (by simp [Op.operands, hy]), evO_congr (x := hi) fun y hy => h y (by simp [Op.operands, hy]), evO_congr (x := mx) fun y hy => h y (by simp [Op.operands, hy])]
  case fieldAddr t x f => rw [h x (by simp [Op.operands])]
  case field t x f => rw [h x (by simp [Op.operands])]
  case indexAddr t x i => rw [h x (by simp [Op.operands]), h i (by simp [Op.operands])]
  case index t x i => rw [h x (by simp [Op.operands]), h i (by simp [Op.operands])]
  case lookup t x i ok => rw [h x (by simp [Op.operands]), h i (by simp [Op.operands])]
  case extract x i => rw [h x (by simp [Op.operands])]
  case call c =>
    unfold qCall
    rw [(call_congr h).1]

theorem aLoud_congr (cx : Cx) (call : Caller) {o : Op} (H : Heap) (h : ∀ x ∈ o.operands, ev g x = ev g' x) : aLoud cx call o g H = aLoud cx call o g' H := by
  cases o <;> simp only [aLoud, lStore, lPut, ev2] <;> try rfl
  case store t x y => rw [h x (by simp [Op.operands]), h y (by simp [Op.operands])]
  case mapUpdate t m k x => rw [h m (by simp [Op.operands]), h k (by simp [Op.operands]), h x (by simp [Op.operands])]
  case insert t m k x => rw [h m (by simp [Op.operands]), h k (by simp [Op.operands]), h x (by simp [Op.operands])]
  case call c =>
    obtain ⟨h1, h2⟩ := call_congr h
    unfold lCall
    split
    · rw [h1]
    · rename_i f hf; rw [h1, h2 f hf]
    · rfl

theorem aOp_congr (cx : Cx) (call : Caller) {o : Op} (H : Heap) (h : ∀ x ∈ o.operands, ev g x = ev g' x) : aOp cx call o g H = aOp cx call o g' H := by
  rw [aOp_eq, aOp_eq]
  unfold aOpK
  rw [aMade_congr cx h, aQuiet_congr cx H h, aLoud_congr cx call H h]

theorem aWanted_congr {ops : List Oper} {o : Oper} (h : ∀ q d, o.guard = some q → (listAt ops q.1).ob (·.dst) = some d → g d = g' d) : aWanted ops g o = aWanted ops g' o := by
  unfold aWanted
  split
  · rfl
  · rename_i q hq
    unfold aGuard
    split
    · rename_i t ht; rw [h q t hq ht]
    · rfl
theorem gknown_congr {ops : List Oper} {o : Oper} (h : ∀ q d, o.guard = some q → (listAt ops q.1).ob (·.dst) = some d → g d = g' d) : gknown ops g o = gknown ops g' o := by
  unfold gknown
  split
  · rfl
  · rename_i q hq
    split
    · rename_i t ht; rw [h q t hq ht]
    · rfl
end congr
end Go.Ab
end
end

/- The plan of a region that draws its order, and its run. -/
section
section
set_option autoImplicit false
set_option linter.unusedVariables false
set_option linter.unusedSimpArgs false
set_option linter.unusedSectionVars false
namespace Go.Ab
open Go.RowKit Go.MapKept

theorem fold_bits (x : Nat → Nat) (i : Nat) : ∀ (l : List Edge) (s : Nat), (l.foldl (fun s e => if Region.binds .any e then s ||| 2 ^ e.on ||| x e.on else s) s).testBit i = true →
    s.testBit i = true ∨ ∃ e ∈ l, Region.binds .any e = true ∧ (e.on = i ∨ (x e.on).testBit i = true) := by
  intro l
  induction l with
  | nil => intro s h; exact .inl h
  | cons e l ih =>
    intro s h
    rw [List.foldl_cons] at h
    rcases ih _ h with h | ⟨e', h1, h2, h3⟩
    · split at h
      · rename_i hb
        rw [Nat.testBit_or, Nat.testBit_or, Nat.testBit_two_pow] at h
        simp only [Bool.or_eq_true, decide_eq_true_eq] at h
        rcases h with (h | h) | h
        · exact .inl h
        · exact .inr ⟨e, by simp, hb, .inl h⟩
        · exact .inr ⟨e, by simp, hb, .inr h⟩
      · exact .inl h
    · exact .inr ⟨e', by simp [h1], h2, h3⟩

theorem befs_spec : ∀ (l : List Oper) (acc bs : List Nat), befs l acc = some bs → ∃ new, bs = acc.reverse ++ new ∧ new.length = l.length ∧ ∀ k o b, l[k]? = some o → new[k]? = some b →
    (∀ e ∈ o.after.toList, Region.binds .any e = true → e.on < acc.length + k) ∧ ∀ i, b.testBit i = true → ∃ e ∈ o.after.toList, Region.binds .any e = true ∧ (e.on = i ∨ (bs.getD e.on 0).testBit i = true) := by
  intro l
  induction l with
  | nil => intro acc bs h; simp only [befs] at h; injection h with h; subst h; exact ⟨[], by simp, rfl, fun k o b h => by simp at h⟩
  | cons o l ih =>
    intro acc bs h
    simp only [befs] at h
    split at h
    · rename_i hall
      obtain ⟨new, hbs, hlen, hspec⟩ := ih _ _ h
      refine ⟨_ :: new, by rw [hbs, List.reverse_cons, List.append_assoc]; rfl, by simp [hlen], fun k o' b hk hb => ?_⟩
      cases k with
      | zero =>
        simp at hk hb
        subst hk; subst hb
        have hlt : ∀ e ∈ o.after.toList, Region.binds .any e = true → e.on < acc.length := fun e he hb => by
          have := List.all_eq_true.1 hall e he
          simpa [hb] using this
        refine ⟨fun e he hb => by have := hlt e he hb; omega, fun i hi => ?_⟩
        rcases fold_bits (fun m => acc.getD (acc.length - 1 - m) 0) i o.after.toList 0 (by simpa using hi) with h | ⟨e, h1, h2, h3⟩
        · simp at h
        · refine ⟨e, h1, h2, h3.imp id fun h => ?_⟩
          have hel := hlt e h1 h2
          have e1 : bs.getD e.on 0 = acc.getD (acc.length - 1 - e.on) 0 := by
            rw [hbs, List.getD_eq_getElem?_getD, List.getD_eq_getElem?_getD, List.getElem?_append_left (by simp; omega), List.reverse_cons, List.getElem?_append_left (by simpa using hel), List.getElem?_reverse hel]
          rw [e1]; exact h
      | succ k =>
        simp at hk hb
        obtain ⟨h1, h2⟩ := hspec k o' b hk hb
        exact ⟨fun e he hbb => by have := h1 e he hbb; simp at this; omega, h2⟩
    · cases h

theorem bits_closed {ops : Array Oper} {bs : List Nat} (hb : befs ops.toList [] = some bs) {E : Nat → Prop} (dc : ∀ (j : Nat) (o : Oper), ops[j]? = some o → E j → ∀ e ∈ o.after.toList, Region.binds .any e = true → E e.on) :
    ∀ (j : Nat) (o : Oper) (b : Nat), ops[j]? = some o → bs[j]? = some b → (∀ e ∈ o.after.toList, Region.binds .any e = true → E e.on) → ∀ i, b.testBit i = true → E i := by
  obtain ⟨new, hbs, hlen, hspec⟩ := befs_spec _ _ _ hb
  simp at hbs
  subst hbs
  intro j
  induction j using Nat.strongRecOn with
  | ind j ih =>
    intro o b ho hbj hE i hi
    have hlt := (Array.getElem?_eq_some_iff.1 ho).1
    obtain ⟨h1, h2⟩ := hspec j o b (by simpa using ho) hbj
    obtain ⟨e, he, hbi, h3⟩ := h2 i hi
    rcases h3 with h3 | h3
    · subst h3; exact hE e he hbi
    · have hel := h1 e he hbi
      simp at hel
      have hlt2 : e.on < ops.size := by omega
      have hbe : bs[e.on]? = some (bs.getD e.on 0) := by
        rw [List.getD_eq_getElem?_getD]
        have : e.on < bs.length := by rw [hlen]; simpa using hlt2
        rw [List.getElem?_eq_getElem this]; rfl
      exact ih e.on hel _ _ (Array.getElem?_eq_getElem hlt2) hbe (dc e.on _ (Array.getElem?_eq_getElem hlt2) (hE e he hbi)) i h3

theorem edges_back {ops : Array Oper} {bs : List Nat} (hb : befs ops.toList [] = some bs) {j : Nat} {o : Oper} (ho : ops[j]? = some o) : ∀ e ∈ o.after.toList, Region.binds .any e = true → e.on < j := by
  obtain ⟨new, hbs, hlen, hspec⟩ := befs_spec _ _ _ hb
  have hlt := (Array.getElem?_eq_some_iff.1 ho).1
  have hn : j < new.length := by rw [hlen]; simpa using hlt
  intro e he hbb
  have := (hspec j o new[j] (by simpa using ho) (List.getElem?_eq_getElem hn)).1 e he hbb
  simpa using this

/-! ### Rows -/
theorem zip3_get : ∀ (os : List Oper) (bs : List Nat) (i k : Nat), os.length = bs.length → ∀ x, (zip3 i os bs)[k]? = some x → x.1 = i + k ∧ os[k]? = some x.2.1 ∧ bs[k]? = some x.2.2 := by
  intro os
  induction os with
  | nil => intro bs i k h x hx; simp [zip3] at hx
  | cons o os ih =>
    intro bs i k h x hx
    cases bs with
    | nil => simp at h
    | cons b bs =>
      simp only [zip3] at hx
      cases k with
      | zero => simp at hx; subst hx; exact ⟨rfl, rfl, rfl⟩
      | succ k =>
        simp at hx
        obtain ⟨h1, h2, h3⟩ := ih bs (i + 1) k (by simpa using h) x hx
        exact ⟨by omega, by simpa using h2, by simpa using h3⟩
theorem zip3_len : ∀ (os : List Oper) (bs : List Nat) (i : Nat), os.length = bs.length → (zip3 i os bs).length = os.length := by
  intro os
  induction os with
  | nil => intro bs i h; simp [zip3]
  | cons o os ih =>
    intro bs i h
    cases bs with
    | nil => simp at h
    | cons b bs => simp [zip3, ih bs (i + 1) (by simpa using h)]

structure RowsOK (cx : Cx) (ops : Array Oper) (bs : List Nat) (rows : List Row) : Prop where
  len : rows.length = ops.size
  get : ∀ (j : Nat) (r : Row), rows[j]? = some r → r.j = j ∧ ops[j]? = some r.o ∧ r.k = kindOf cx r.o.op ∧ bs[j]? = some r.b ∧
    r.lo = loOf r.b ((louds rows).map (·.j)) 0 0 ∧ r.hi = hiOf r.j ((louds rows).map fun r => (r.j, r.b)) 0

theorem rowsOf_ok {cx : Cx} {ops : Array Oper} {rows : List Row} (h : rowsOf cx ops.toList = some rows) : ∃ bs, befs ops.toList [] = some bs ∧ RowsOK cx ops bs rows := by
  unfold rowsOf at h
  replace h := ob_eq h; obtain ⟨bs, hbs, h⟩ := h
  simp only at h
  injection h with h
  obtain ⟨new, hn, hlen, hspec⟩ := befs_spec _ _ _ hbs
  simp at hn; subst hn
  refine ⟨bs, hbs, ?_⟩
  have hl : ops.toList.length = bs.length := hlen.symm
  have hlouds : (louds rows).map (fun r => (r.j, r.b)) = ((zip3 0 ops.toList bs).filter fun x => isLoud cx x.2.1).map fun x => (x.1, x.2.2) := by
    rw [← h]
    unfold louds
    rw [List.filter_map, List.map_map]
    rfl
  have hlouds2 : (louds rows).map (·.j) = (((zip3 0 ops.toList bs).filter fun x => isLoud cx x.2.1).map fun x => (x.1, x.2.2)).map (·.1) := by
    rw [← hlouds, List.map_map]; rfl
  refine ⟨by rw [← h, List.length_map, zip3_len _ _ _ hl]; simp, fun j r hr => ?_⟩
  rw [hlouds, hlouds2]
  rw [← h, List.getElem?_map] at hr
  cases hx : (zip3 0 ops.toList bs)[j]? with
  | none => rw [hx] at hr; cases hr
  | some x =>
    rw [hx] at hr
    simp only [Option.map_some] at hr
    injection hr with hr; subst hr
    obtain ⟨h1, h2, h3⟩ := zip3_get _ _ _ _ hl x hx
    refine ⟨by show x.1 = j; omega, by simpa using h2, rfl, h3, rfl, rfl⟩

theorem louds_mem {rows : List Row} {r : Row} : r ∈ louds rows ↔ r ∈ rows ∧ isLoudR r = true := by simp [louds]

theorem planOf_mem {rows : List Row} {r : Row} : ∀ (ls : List Row) (s : Nat), r ∈ planOf rows ls s ↔ (r ∈ ls ∨ (r ∈ rows ∧ isLoudR r = false ∧ s ≤ r.lo ∧ r.lo ≤ s + ls.length)) := by
  intro ls
  induction ls with
  | nil =>
    intro s
    simp [planOf]
    intro _ _
    constructor
    · rintro rfl; omega
    · intro h; omega
  | cons l ls ih =>
    intro s
    simp only [planOf, List.mem_append, List.mem_cons, ih, List.mem_filter, Bool.and_eq_true, Bool.not_eq_true', beq_iff_eq, List.length_cons]
    constructor
    · rintro (⟨h1, h2, h3⟩ | rfl | h | ⟨h1, h2, h3, h4⟩)
      · exact .inr ⟨h1, h2, by omega, by omega⟩
      · exact .inl (.inl rfl)
      · exact .inl (.inr h)
      · exact .inr ⟨h1, h2, by omega, by omega⟩
    · rintro ((rfl | h) | ⟨h1, h2, h3, h4⟩)
      · exact .inr (.inl rfl)
      · exact .inr (.inr (.inl h))
      · by_cases h5 : r.lo = s
        · exact .inl ⟨h1, h2, h5⟩
        · exact .inr (.inr (.inr ⟨h1, h2, by omega, by omega⟩))

theorem planOf_louds {rows : List Row} : ∀ (ls : List Row) (s : Nat), (∀ l ∈ ls, isLoudR l = true) → (planOf rows ls s).filter isLoudR = ls := by
  intro ls
  induction ls with
  | nil =>
    intro s _
    simp only [planOf, List.filter_filter]
    rw [List.filter_eq_nil_iff]
    intro r _ h
    simp only [Bool.and_eq_true, Bool.not_eq_true'] at h
    rw [h.2.1] at h; exact absurd h.1 (by simp)
  | cons l ls ih =>
    intro s hl
    simp only [planOf, List.filter_append]
    have h0 : ((rows.filter fun r => !isLoudR r && r.lo == s).filter isLoudR) = [] := by
      rw [List.filter_filter, List.filter_eq_nil_iff]
      intro r _ h
      simp only [Bool.and_eq_true, Bool.not_eq_true'] at h
      rw [h.2.1] at h; exact absurd h.1 (by simp)
    rw [h0, List.nil_append, List.filter_cons, if_pos (hl l (by simp)), ih _ fun x hx => hl x (by simp [hx])]

theorem loOf_le (b S : Nat) : ∀ (ls : List Nat) (s r : Nat), r ≤ S → (∀ (k : Nat) (l : Nat), ls[k]? = some l → b.testBit l = true → s + k + 1 ≤ S) → loOf b ls s r ≤ S := by
  intro ls
  induction ls with
  | nil => intro s r h _; exact h
  | cons l ls ih =>
    intro s r h hk
    simp only [loOf]
    refine ih _ _ ?_ fun k l' hl hb => by have := hk (k + 1) l' (by simpa using hl) hb; omega
    split
    · rename_i hb; exact hk 0 l rfl hb
    · exact h

theorem le_hiOf (j : Nat) : ∀ (ls : List (Nat × Nat)) (s m : Nat), m ≤ ls.length → (∀ (k : Nat) (l : Nat × Nat), k < m → ls[k]? = some l → l.2.testBit j = false) → s + m ≤ hiOf j ls s := by
  intro ls
  induction ls with
  | nil => intro s m h _; simp at h; subst h; exact Nat.le_refl _
  | cons l ls ih =>
    intro s m h hk
    simp only [hiOf]
    cases m with
    | zero =>
      split
      · exact Nat.le_refl _
      · have := ih (s + 1) 0 (by simp) (fun k l' hh => by omega); omega
    | succ m =>
      rw [hk 0 l (by omega) rfl]
      simp only [Bool.false_eq_true, if_false]
      have := ih (s + 1) m (by simpa using h) fun k l' hh hl => hk (k + 1) l' (by omega) (by simpa using hl)
      omega

theorem lo_top (b : Nat) (ls : List Nat) : loOf b ls 0 0 ≤ ls.length := loOf_le b ls.length ls 0 0 (Nat.zero_le _) fun k l hl _ => by
  have := (List.getElem?_eq_some_iff.1 hl).1; omega

theorem chained_get : ∀ (l : List Row), chained l = true → ∀ (k : Nat) (a b : Row), l[k]? = some a → l[k + 1]? = some b → b.b.testBit a.j = true := by
  intro l
  induction l with
  | nil => intro _ k a b h; simp at h
  | cons x l ih =>
    intro hc k a b ha hb
    cases l with
    | nil => simp at hb
    | cons y l =>
      simp only [chained, Bool.and_eq_true] at hc
      cases k with
      | zero => simp at ha hb; subst ha; subst hb; exact hc.1
      | succ k => exact ih hc.2 k a b (by simpa using ha) (by simpa using hb)

theorem fitsAll_split {ops : List Oper} : ∀ (pre : List Row) (a : Row) (post : List Row), fitsAll ops (pre ++ a :: post) = true → (∀ b ∈ pre, fits ops b a = true) ∧ ∀ b ∈ post, fits ops a b = true := by
  intro pre
  induction pre with
  | nil =>
    intro a post h
    simp only [List.nil_append, fitsAll, Bool.and_eq_true, List.all_eq_true] at h
    exact ⟨fun b hb => (by cases hb), h.1⟩
  | cons x pre ih =>
    intro a post h
    simp only [List.cons_append, fitsAll, Bool.and_eq_true, List.all_eq_true] at h
    obtain ⟨h1, h2⟩ := ih a post h.2
    refine ⟨fun b hb => ?_, h2⟩
    rcases List.mem_cons.1 hb with rfl | hb
    · exact h.1 a (by simp)
    · exact h1 b hb

theorem fits_dst {ops : List Oper} {a b : Row} (h : fits ops a b = true) {t : Tmp} (ha : a.o.dst = some t) : b.o.dst ≠ some t ∧ (t ∈ looksAt ops b.o → b.b.testBit a.j = true) := by
  simp only [fits, ha, Bool.and_eq_true, bne_iff_ne, ne_eq, Bool.or_eq_true, Bool.not_eq_true'] at h
  obtain ⟨⟨h1, h2⟩, h3⟩ := h
  refine ⟨h1, fun ht => ?_⟩
  rcases h2 with h2 | h2
  · simp at h2; exact absurd ht h2
  · exact h2
theorem fits_look {ops : List Oper} {a b : Row} (h : fits ops a b = true) {t : Tmp} (hb : b.o.dst = some t) (ht : t ∈ looksAt ops a.o) : b.b.testBit a.j = true := by
  simp only [fits, hb, Bool.and_eq_true, Bool.or_eq_true, Bool.not_eq_true'] at h
  rcases h.2 with h2 | h2
  · simp at h2; exact absurd ht h2
  · exact h2

/-! ### The run of the plan -/
inductive News : Heap → Heap → Prop
  | refl (H : Heap) : News H H
  | cons {H K : Heap} (x : Blk) : News (H.new x) K → News H K

theorem News.next {H K : Heap} (h : News H K) : H.next ≤ K.next := by
  induction h with
  | refl => exact Nat.le_refl _
  | cons x _ ih => simp at ih; omega
theorem News.relW {sz : TypeId → Nat} {base : Nat → Prop} {w0 w : World} {μ : Inj} {H K : Heap} (h : News H K) (hw : RelW sz base w0 μ H w) : RelW sz base w0 μ K w := by
  induction h with
  | refl => exact hw
  | cons x _ ih => exact ih (hw.addDead x)

inductive SRun (cx : Cx) (call : Caller) (n : Nat) (all : List Oper) : List Row → Fr → Heap → List Rec → List Heap → Fr → Prop
  | nil (fr : Fr) (H : Heap) : SRun cx call n all [] fr H [] [H] fr
  | cons {r : Row} {rest : List Row} {fr fr1 fr' : Fr} {H H1 : Heap} {v : AV} {recs : List Rec} {Hs : List Heap} : aStep cx call all r.o fr.get H = some (v, H1) → H.next ≤ H1.next → fr.put n r.o.dst v = some fr1 →
      SRun cx call n all rest fr1 H1 recs Hs fr' → SRun cx call n all (r :: rest) fr H (⟨r, fr, v, H.next⟩ :: recs) (if isLoudR r then H :: Hs else Hs) fr'

section
variable {cx : Cx} {call : Caller} {n : Nat} {all : List Oper}

theorem drawRun_srun : ∀ (l : List Row) (fr : Fr) (H : Heap) (y : List Rec × List Heap × Fr), drawRun cx call n all l fr H = some y → SRun cx call n all l fr H y.1 y.2.1 y.2.2 := by
  intro l
  induction l with
  | nil => intro fr H y h; simp only [drawRun] at h; injection h with h; subst h; exact .nil fr H
  | cons r l ih =>
    intro fr H y h
    simp only [drawRun] at h
    replace h := ob_eq h; obtain ⟨⟨v, H1⟩, hx, h⟩ := h
    simp only [cb_eq, nble] at h
    split at h
    · rename_i hle
      replace h := ob_eq h; obtain ⟨fr1, hf, h⟩ := h
      replace h := ob_eq h; obtain ⟨z, hz, h⟩ := h
      injection h with h; subst h
      exact .cons hx (of_decide_eq_true hle) hf (ih _ _ _ hz)
    · cases h

variable {plan : List Row} {fr fr' : Fr} {H : Heap} {recs : List Rec} {Hs : List Heap}

theorem SRun.map (h : SRun cx call n all plan fr H recs Hs fr') : recs.map (·.r) = plan := by
  induction h with
  | nil => rfl
  | cons _ _ _ _ ih => simp [ih]

theorem SRun.nexts (h : SRun cx call n all plan fr H recs Hs fr') : (∀ K ∈ Hs, H.next ≤ K.next) ∧ (∀ c ∈ recs, H.next ≤ c.id) := by
  induction h with
  | nil => exact ⟨fun K hK => by simp at hK; rw [hK]; exact Nat.le_refl _, fun c hc => by cases hc⟩
  | cons _ h1 _ _ ih =>
    rename_i r rest fr fr1 fr' H H1 v recs Hs _ _ _
    refine ⟨fun K hK => ?_, fun c hc => ?_⟩
    · split at hK
      · rcases List.mem_cons.1 hK with rfl | hK
        · exact Nat.le_refl _
        · exact Nat.le_trans h1 (ih.1 K hK)
      · exact Nat.le_trans h1 (ih.1 K hK)
    · rcases List.mem_cons.1 hc with rfl | hc
      · exact Nat.le_refl _
      · exact Nat.le_trans h1 (ih.2 c hc)

theorem put_get {fr fr1 : Fr} {dst : Option Tmp} {v : AV} (h : fr.put n dst v = some fr1) (t : Tmp) : (dst = some t ∧ fr1.get t = v) ∨ (dst ≠ some t ∧ fr1.get t = fr.get t) := by
  unfold Fr.put at h
  cases dst with
  | none => simp only at h; injection h with h; subst h; exact .inr ⟨by simp, rfl⟩
  | some d =>
    simp only [cb_eq] at h
    split at h
    · injection h with h; subst h
      by_cases htd : t = d
      · subst htd; exact .inl ⟨rfl, by show T.get .undef (T.set .undef fr t v) t = v; rw [T.get_set, if_pos rfl]⟩
      · refine .inr ⟨fun e => htd (by injection e with e; exact e.symm), ?_⟩
        show T.get .undef (T.set .undef fr d v) t = _
        rw [T.get_set, if_neg htd]; rfl
    · cases h
theorem put_lt {fr fr1 : Fr} {d : Tmp} {v : AV} (h : fr.put n (some d) v = some fr1) : d < n := by
  unfold Fr.put at h
  simp only [cb_eq, nble] at h
  split at h
  · rename_i hh; exact of_decide_eq_true hh
  · cases h

/-- A slot behind the run is what stood ahead of it, or what one of the records has left. -/
theorem SRun.frame (h : SRun cx call n all plan fr H recs Hs fr') (t : Tmp) : (fr'.get t = fr.get t ∧ ∀ c ∈ recs, c.r.o.dst ≠ some t) ∨ ∃ c ∈ recs, c.r.o.dst = some t ∧ fr'.get t = c.v := by
  induction h with
  | nil => exact .inl ⟨rfl, fun c hc => by cases hc⟩
  | cons _ _ hp _ ih =>
    rcases ih with ⟨h1, h2⟩ | ⟨c, h1, h2, h3⟩
    · rcases put_get hp t with ⟨h4, h5⟩ | ⟨h4, h5⟩
      · exact .inr ⟨_, List.mem_cons_self, h4, h1.trans h5⟩
      · refine .inl ⟨h1.trans h5, fun c hc => ?_⟩
        rcases List.mem_cons.1 hc with rfl | hc
        · exact h4
        · exact h2 c hc
    · exact .inr ⟨c, by simp [h1], h2, h3⟩

theorem SRun.at (h : SRun cx call n all plan fr H recs Hs fr') (t : Tmp) : ∀ (pre : List Rec) (c : Rec) (post : List Rec), recs = pre ++ c :: post →
    (c.g.get t = fr.get t ∧ ∀ c' ∈ pre, c'.r.o.dst ≠ some t) ∨ ∃ c' ∈ pre, c'.r.o.dst = some t ∧ c.g.get t = c'.v := by
  induction h with
  | nil => intro pre c post h; simp at h
  | cons _ _ hp _ ih =>
    intro pre c post h
    cases pre with
    | nil => simp at h; obtain ⟨rfl, _⟩ := h; exact .inl ⟨rfl, fun c hc => by cases hc⟩
    | cons x pre =>
      simp at h
      obtain ⟨rfl, h⟩ := h
      rcases ih pre c post h with ⟨h1, h2⟩ | ⟨c', h1, h2, h3⟩
      · rcases put_get hp t with ⟨h4, h5⟩ | ⟨h4, h5⟩
        · exact .inr ⟨_, List.mem_cons_self, h4, h1.trans h5⟩
        · refine .inl ⟨h1.trans h5, fun c hc => ?_⟩
          rcases List.mem_cons.1 hc with rfl | hc
          · exact h4
          · exact h2 c hc
      · exact .inr ⟨c', by simp [h1], h2, h3⟩

theorem SRun.lt (h : SRun cx call n all plan fr H recs Hs fr') : ∀ c ∈ recs, ∀ d, c.r.o.dst = some d → d < n := by
  induction h with
  | nil => intro c hc; cases hc
  | cons _ _ hp _ ih =>
    intro c hc d hd
    rcases List.mem_cons.1 hc with rfl | hc
    · simp only at hd; rw [hd] at hp; exact put_lt hp
    · exact ih c hc d hd

/-- A step that isn't loud. -/
theorem step_calm {o : Oper} {g : Env} {H H1 : Heap} {v : AV} (h : aStep cx call all o g H = some (v, H1)) (hk : kindOf cx o.op ≠ .loud) :
    (aWanted all g o = false ∧ v = .undef ∧ H1 = H) ∨
    (aWanted all g o = true ∧ kindOf cx o.op = .quiet ∧ aQuiet cx o.op g H = some v ∧ H1 = H) ∨
    (aWanted all g o = true ∧ kindOf cx o.op = .made ∧ ∃ m, aMade cx o.op g = some m ∧ v = m.1 H.next ∧ H1 = H.new m.2) := by
  obtain ⟨-, h⟩ := aStep_eq h
  unfold aStep0 at h
  rw [cb_eq] at h
  split at h
  · rename_i hw
    rw [aOp_eq] at h
    unfold aOpK at h
    split at h
    · rename_i hm
      replace h := ob_eq h; obtain ⟨m, hm', h⟩ := h
      injection h with h; injection h with h1 h2
      exact .inr (.inr ⟨hw, hm, m, hm', h1.symm, h2.symm⟩)
    · rename_i hq
      replace h := ob_eq h; obtain ⟨u, hu, h⟩ := h
      injection h with h; injection h with h1 h2
      subst h1
      exact .inr (.inl ⟨hw, hq, hu, h2.symm⟩)
    · rename_i hl; exact absurd hl hk
  · rename_i hw
    injection h with h; injection h with h1 h2
    exact .inl ⟨by simpa using hw, h1.symm, h2.symm⟩

theorem loudR_iff {r : Row} : isLoudR r = true ↔ r.k = .loud := by
  unfold isLoudR
  split
  · rename_i h; simp [h]
  · rename_i h; simp; exact h

def Rec.madeW (all : List Oper) (c : Rec) : Prop := c.r.k = .made ∧ aWanted all c.g.get c.r.o = true

theorem SRun.head (h : SRun cx call n all plan fr H recs Hs fr') (hk : ∀ r ∈ plan, r.k = kindOf cx r.o.op) : ∃ K, Hs[0]? = some K ∧ News H K := by
  induction h with
  | nil => exact ⟨_, rfl, .refl _⟩
  | cons hs _ _ _ ih =>
    rename_i r rest fr fr1 fr' H H1 v recs Hs _ _ _
    split
    · exact ⟨_, rfl, .refl _⟩
    · rename_i hl
      obtain ⟨K, h1, h2⟩ := ih fun r hr => hk r (by simp [hr])
      refine ⟨K, h1, ?_⟩
      have hkr := hk r (by simp)
      have hnl : kindOf cx r.o.op ≠ .loud := fun e => hl (loudR_iff.2 (hkr.trans e))
      rcases step_calm hs hnl with ⟨_, _, rfl⟩ | ⟨_, _, _, rfl⟩ | ⟨_, _, m, _, _, rfl⟩
      · exact h2
      · exact h2
      · exact .cons _ h2

theorem SRun.made (h : SRun cx call n all plan fr H recs Hs fr') (hk : ∀ r ∈ plan, r.k = kindOf cx r.o.op) : ∀ c ∈ recs, c.madeW all → ∃ m, aMade cx c.r.o.op c.g.get = some m ∧ c.v = m.1 c.id := by
  induction h with
  | nil => intro c hc; cases hc
  | cons hs _ _ _ ih =>
    intro c hc hm
    rcases List.mem_cons.1 hc with rfl | hc
    · have hkr := hk _ (List.mem_cons_self)
      have hnl : kindOf cx _ ≠ .loud := fun e => by have := hkr.trans e; rw [hm.1] at this; cases this
      rcases step_calm hs hnl with ⟨h1, _⟩ | ⟨_, h1, _⟩ | ⟨_, _, m, h1, h2, _⟩
      · rw [hm.2] at h1; cases h1
      · rw [← hkr, hm.1] at h1; cases h1
      · exact ⟨m, h1, h2⟩
    · exact ih (fun r hr => hk r (by simp [hr])) c hc hm

theorem SRun.known (h : SRun cx call n all plan fr H recs Hs fr') : ∀ c ∈ recs, gknown all c.g.get c.r.o = true := by
  induction h with
  | nil => intro c hc; cases hc
  | cons hs _ _ _ ih =>
    intro c hc
    rcases List.mem_cons.1 hc with rfl | hc
    · exact (aStep_eq hs).1
    · exact ih c hc

theorem SRun.unwanted (h : SRun cx call n all plan fr H recs Hs fr') : ∀ c ∈ recs, aWanted all c.g.get c.r.o = false → c.v = .undef := by
  induction h with
  | nil => intro c hc; cases hc
  | cons hs _ _ _ ih =>
    intro c hc hm
    rcases List.mem_cons.1 hc with rfl | hc
    · simp only at hm
      obtain ⟨-, hs⟩ := aStep_eq hs
      unfold aStep0 at hs
      rw [hm, cb_false] at hs
      injection hs with hs; injection hs with h1 h2; exact h1.symm
    · exact ih c hc hm

theorem SRun.quiets (h : SRun cx call n all plan fr H recs Hs fr') (hk : ∀ r ∈ plan, r.k = kindOf cx r.o.op) (hq : ∀ r ∈ plan, r.k = .quiet) : Hs = [H] ∧ ∀ c ∈ recs, aWanted all c.g.get c.r.o = true → aQuiet cx c.r.o.op c.g.get H = some c.v := by
  induction h with
  | nil => exact ⟨rfl, fun c hc => by cases hc⟩
  | cons hs _ _ _ ih =>
    rename_i r rest fr fr1 fr' H H1 v recs Hs _ _ _
    have hqr := hq r (by simp)
    have hkr := hk r (by simp)
    have hnl : kindOf cx r.o.op ≠ .loud := fun e => by rw [← hkr, hqr] at e; cases e
    have hl : ¬ isLoudR r = true := fun e => hnl (hkr.symm.trans (loudR_iff.1 e))
    rw [if_neg hl]
    obtain ⟨h1, h2⟩ := ih (fun r hr => hk r (by simp [hr])) (fun r hr => hq r (by simp [hr]))
    rcases step_calm hs hnl with ⟨hw, _, rfl⟩ | ⟨hw, _, hqq, rfl⟩ | ⟨_, hm, _⟩
    · refine ⟨h1, fun c hc hw' => ?_⟩
      rcases List.mem_cons.1 hc with rfl | hc
      · simp only at hw'; rw [hw] at hw'; cases hw'
      · exact h2 c hc hw'
    · refine ⟨h1, fun c hc hw' => ?_⟩
      rcases List.mem_cons.1 hc with rfl | hc
      · exact hqq
      · exact h2 c hc hw'
    · rw [← hkr, hqr] at hm; cases hm

theorem SRun.loud (h : SRun cx call n all plan fr H recs Hs fr') (hk : ∀ r ∈ plan, r.k = kindOf cx r.o.op) : ∀ (k : Nat) (c : Rec), (recs.filter fun c => isLoudR c.r)[k]? = some c →
    ∃ Hk Ha Hk1, Hs[k]? = some Hk ∧ aStep cx call all c.r.o c.g.get Hk = some (c.v, Ha) ∧ Hs[k + 1]? = some Hk1 ∧ News Ha Hk1 ∧ ∀ c' ∈ recs, c'.madeW all → c'.id < Hk.next ∨ Ha.next ≤ c'.id := by
  induction h with
  | nil => intro k c hc; simp at hc
  | cons hs hle _ hrest ih =>
    rename_i r rest fr fr1 fr' H H1 v recs Hs _
    intro k c hc
    have hk' : ∀ r ∈ rest, r.k = kindOf cx r.o.op := fun r hr => hk r (by simp [hr])
    have hkr := hk r (by simp)
    by_cases hl : isLoudR r = true
    · rw [if_pos hl]
      rw [List.filter_cons, if_pos (by exact hl)] at hc
      cases k with
      | zero =>
        simp at hc; subst hc
        obtain ⟨K, h1, h2⟩ := hrest.head hk'
        refine ⟨H, H1, K, rfl, hs, by simpa using h1, h2, fun c' hc' hm => ?_⟩
        rcases List.mem_cons.1 hc' with rfl | hc'
        · rw [loudR_iff] at hl; have := hm.1; simp only at this; rw [hl] at this; cases this
        · exact .inr (hrest.nexts.2 c' hc')
      | succ k =>
        obtain ⟨Hk, Ha, Hk1, h1, h2, h3, h4, h5⟩ := ih hk' k c (by simpa using hc)
        refine ⟨Hk, Ha, Hk1, by simpa using h1, h2, by simpa using h3, h4, fun c' hc' hm => ?_⟩
        rcases List.mem_cons.1 hc' with rfl | hc'
        · rw [loudR_iff] at hl; have := hm.1; simp only at this; rw [hl] at this; cases this
        · exact h5 c' hc' hm
    · rw [if_neg hl]
      rw [List.filter_cons, if_neg (by exact hl)] at hc
      obtain ⟨Hk, Ha, Hk1, h1, h2, h3, h4, h5⟩ := ih hk' k c hc
      refine ⟨Hk, Ha, Hk1, h1, h2, h3, h4, fun c' hc' hm => ?_⟩
      rcases List.mem_cons.1 hc' with rfl | hc'
      · left
        have hnl : kindOf cx r.o.op ≠ .loud := fun e => hl (loudR_iff.2 (hkr.trans e))
        have hn := hrest.nexts.1 Hk (List.mem_of_getElem? h1)
        rcases step_calm hs hnl with ⟨hw, _⟩ | ⟨_, hq, _⟩ | ⟨_, _, m, _, _, rfl⟩
        · have := hm.2; simp only at this; rw [hw] at this; cases this
        · have := hm.1; simp only at this; rw [hkr, hq] at this; cases this
        · simp at hn ⊢; omega
      · exact h5 c' hc' hm

theorem SRun.heaps (h : SRun cx call n all plan fr H recs Hs fr') : Hs.length = (plan.filter isLoudR).length + 1 := by
  induction h with
  | nil => rfl
  | cons _ _ _ _ ih =>
    rename_i r rest fr fr1 fr' H H1 v recs Hs _ _ _ _
    by_cases hl : isLoudR r = true
    · rw [if_pos hl, List.filter_cons, if_pos hl]; simp [ih]
    · rw [if_neg hl, List.filter_cons, if_neg hl]; exact ih

theorem SRun.idsUp (h : SRun cx call n all plan fr H recs Hs fr') (hk : ∀ r ∈ plan, r.k = kindOf cx r.o.op) : ∀ (pre : List Rec) (c : Rec) (post : List Rec), recs = pre ++ c :: post → c.madeW all → ∀ c' ∈ post, c.id < c'.id := by
  induction h with
  | nil => intro pre c post h; simp at h
  | cons hs hle _ hrest ih =>
    intro pre c post h hm c' hc'
    cases pre with
    | nil =>
      simp at h
      obtain ⟨rfl, rfl⟩ := h
      have hkr := hk _ (List.mem_cons_self)
      have hn := hrest.nexts.2 c' hc'
      have hnl : kindOf cx _ ≠ .loud := fun e => by have := hkr.trans e; rw [hm.1] at this; cases this
      rcases step_calm hs hnl with ⟨h1, _⟩ | ⟨_, h1, _⟩ | ⟨_, _, m, _, _, rfl⟩
      · rw [hm.2] at h1; cases h1
      · rw [← hkr, hm.1] at h1; cases h1
      · simp at hn ⊢; omega
    | cons x pre =>
      simp at h
      exact ih (fun r hr => hk r (by simp [hr])) pre c post h.2 hm c' hc'
end
end Go.Ab
end
end

/- A region that draws its order: every order comes to what the plan's run says. -/
section
section
set_option autoImplicit false
set_option linter.unusedVariables false
set_option linter.unusedSimpArgs false
set_option linter.unusedSectionVars false
namespace Go.Ab
open Go.RowKit Go.MapKept

theorem lset {listed : Array Bool} {i j : Nat} (hi : i < listed.size) : (listed.setIfInBounds i true).getD j false = if i = j then true else listed.getD j false := by
  rw [Array.getD_eq_getD_getElem?, Array.getElem?_setIfInBounds]
  by_cases h : i = j
  · subst h; simp [hi]
  · rw [if_neg h, if_neg h, Array.getD_eq_getD_getElem?]

/-- What the plan and its run have shown. -/
structure Drawn (cx : Cx) (call : Caller) (nn : Nat) (ops : Array Oper) (fr0 : Fr) (H0 : Heap) (bs : List Nat) (rows plan : List Row) (recs : List Rec) (Hs : List Heap) (fr1 : Fr) : Prop where
  hb : befs ops.toList [] = some bs
  rok : RowsOK cx ops bs rows
  hp : plan = planOf rows (louds rows) 0
  run : SRun cx call nn ops.toList plan fr0 H0 recs Hs fr1
  ch : chained (louds rows) = true
  ft : fitsAll ops.toList plan = true
  ok : ∀ c ∈ recs, aWanted ops.toList c.g.get c.r.o = true → ∀ (s : Nat) (K : Heap), c.r.lo ≤ s → s ≤ c.r.hi → Hs[s]? = some K →
    (c.r.k = .quiet → aQuiet cx c.r.o.op c.g.get K = some c.v) ∧ (c.r.k = .made → ∃ m, aMade cx c.r.o.op c.g.get = some m ∧ c.id < K.next ∧ K.get c.id = m.2)

structure Inv (cx : Cx) (base : Nat → Prop) (w0 : World) (nn : Nat) (ops : Array Oper) (fr0 : Fr) (H0 : Heap) (μ0 : Inj) (ds : List Deferred) (rows : List Row) (recs : List Rec) (Hs : List Heap)
    (listed : Array Bool) (s : Nat) (μ : Inj) (a : Act) (w : World) : Prop where
  size : listed.size = ops.size
  dc : ∀ (j : Nat) (o : Oper), ops[j]? = some o → listed.getD j false = true → ∀ e ∈ o.after.toList, Region.binds .any e = true → listed.getD e.on false = true
  st : s ≤ (louds rows).length ∧ ∀ (k : Nat) (r : Row), (louds rows)[k]? = some r → (listed.getD r.j false = true ↔ k < s)
  heap : ∃ K, Hs[s]? = some K ∧ RelW (szOf cx) base w0 μ K w
  ids : ∀ c ∈ recs, c.madeW ops.toList → listed.getD c.r.j false = false → μ c.id = none
  frame : ∀ t, (∃ c ∈ recs, c.r.o.dst = some t ∧ listed.getD c.r.j false = true ∧ RelV μ c.v (a.tmps.getD t undef)) ∨
    ((∀ c ∈ recs, c.r.o.dst = some t → listed.getD c.r.j false = false) ∧ RelV μ (fr0.get t) (a.tmps.getD t undef))
  tsize : a.tmps.size = nn
  defers : a.defers = ds
  grow : Grow H0.next μ0 μ

section
variable {P : Program} {cx : Cx} (hcx : CxOK P cx) {base : Nat → Prop} {w0 : World} {call : Caller} (hcall : CallerOK P cx base w0 call)
  {nn : Nat} {ops : Array Oper} {fr0 fr1 : Fr} {H0 : Heap} {bs : List Nat} {rows plan : List Row} {recs : List Rec} {Hs : List Heap} (D : Drawn cx call nn ops fr0 H0 bs rows plan recs Hs fr1)
  {μ0 : Inj} {ds : List Deferred}
include D

theorem Drawn.row {c : Rec} (hc : c ∈ recs) : ∃ j, rows[j]? = some c.r ∧ c.r.j = j ∧ ops[j]? = some c.r.o ∧ c.r.k = kindOf cx c.r.o.op ∧ bs[j]? = some c.r.b ∧
    c.r.lo = loOf c.r.b ((louds rows).map (·.j)) 0 0 ∧ c.r.hi = hiOf c.r.j ((louds rows).map fun r => (r.j, r.b)) 0 := by
  have h1 : c.r ∈ plan := by rw [← D.run.map]; exact List.mem_map_of_mem hc
  rw [D.hp, planOf_mem] at h1
  have h2 : c.r ∈ rows := by
    rcases h1 with h | h
    · exact (louds_mem.1 h).1
    · exact h.1
  obtain ⟨j, hj⟩ := List.getElem?_of_mem h2
  exact ⟨j, hj, D.rok.get j c.r hj⟩

theorem Drawn.kinds : ∀ r ∈ plan, r.k = kindOf cx r.o.op := by
  intro r hr
  rw [D.hp, planOf_mem] at hr
  have h2 : r ∈ rows := by
    rcases hr with h | h
    · exact (louds_mem.1 h).1
    · exact h.1
  obtain ⟨j, hj⟩ := List.getElem?_of_mem h2
  exact (D.rok.get j r hj).2.2.1

theorem Drawn.sameRow {r r' : Row} {j j' : Nat} (h : rows[j]? = some r) (h' : rows[j']? = some r') (e : r.j = r'.j) : r = r' := by
  have h1 := (D.rok.get j r h).1
  have h2 := (D.rok.get j' r' h').1
  have : j = j' := by omega
  subst this
  rw [h] at h'; injection h'

/-- of two records that write one slot: one. -/
theorem Drawn.one {c c' : Rec} {t : Tmp} (hc : c ∈ recs) (hc' : c' ∈ recs) (h : c.r.o.dst = some t) (h' : c'.r.o.dst = some t) : c = c' := by
  obtain ⟨pre, post, hs⟩ := List.append_of_mem hc
  have hm := D.run.map
  rw [hs, List.map_append, List.map_cons] at hm
  have hf := D.ft
  rw [← hm] at hf
  obtain ⟨f1, f2⟩ := fitsAll_split _ _ _ hf
  rw [hs] at hc'
  simp only [List.mem_append, List.mem_cons] at hc'
  rcases hc' with h3 | h3 | h3
  · exact absurd h (fits_dst (f1 c'.r (List.mem_map_of_mem h3)) h').1
  · exact h3.symm
  · exact absurd h' (fits_dst (f2 c'.r (List.mem_map_of_mem h3)) h).1

variable {listed : Array Bool} {s : Nat} {μ : Inj} {a : Act} {w : World} (I : Inv cx base w0 nn ops fr0 H0 μ0 ds rows recs Hs listed s μ a w)
include I

theorem Inv.closed {c : Rec} (hc : c ∈ recs) (he : ∀ e ∈ c.r.o.after.toList, Region.binds .any e = true → listed.getD e.on false = true) (i : Nat) (hb : c.r.b.testBit i = true) : listed.getD i false = true := by
  obtain ⟨j, _, hj, ho, _, hbs, _⟩ := D.row hc
  exact bits_closed D.hb (E := fun i => listed.getD i false = true) I.dc j c.r.o c.r.b ho hbs he i hb
theorem Inv.closed' {c : Rec} (hc : c ∈ recs) (hl : listed.getD c.r.j false = true) (i : Nat) (hb : c.r.b.testBit i = true) : listed.getD i false = true := by
  obtain ⟨j, _, hj, ho, _, hbs, _⟩ := D.row hc
  refine Inv.closed D I hc (fun e he hbb => ?_) i hb
  exact I.dc j c.r.o ho (by rw [← hj]; exact hl) e he hbb

/-- What an operation that is ready looks at, is there. -/
theorem Inv.looks {c : Rec} (hc : c ∈ recs) (hl : listed.getD c.r.j false = false) (he : ∀ e ∈ c.r.o.after.toList, Region.binds .any e = true → listed.getD e.on false = true)
    {t : Tmp} (ht : t ∈ looksAt ops.toList c.r.o) : RelV μ (c.g.get t) (a.tmps.getD t undef) := by
  obtain ⟨pre, post, hs⟩ := List.append_of_mem hc
  have hm := D.run.map
  rw [hs, List.map_append, List.map_cons] at hm
  have hf := D.ft
  rw [← hm] at hf
  obtain ⟨f1, f2⟩ := fitsAll_split _ _ _ hf
  rcases I.frame t with ⟨c', h1, h2, h3, h4⟩ | ⟨h1, h2⟩
  · have h1' := h1
    rw [hs] at h1'
    simp only [List.mem_append, List.mem_cons] at h1'
    rcases h1' with h5 | h5 | h5
    · rcases D.run.at t pre c post hs with ⟨_, h6⟩ | ⟨c'', h6, h7, h8⟩
      · exact absurd h2 (h6 c' h5)
      · have : c'' = c' := D.one (by rw [hs]; simp [h6]) h1 h7 h2
        rw [h8, this]; exact h4
    · subst h5; rw [hl] at h3; cases h3
    · have hb := fits_look (f2 c'.r (List.mem_map_of_mem h5)) h2 ht
      have := Inv.closed' D I h1 h3 _ hb
      rw [hl] at this; cases this
  · rcases D.run.at t pre c post hs with ⟨h6, _⟩ | ⟨c'', h6, h7, h8⟩
    · rw [h6]; exact h2
    · have hc'' : c'' ∈ recs := by rw [hs]; simp [h6]
      have hb := (fits_dst (f1 c''.r (List.mem_map_of_mem h6)) h7).2 ht
      have := Inv.closed D I hc he _ hb
      rw [h1 c'' hc'' h7] at this; cases this

/-- A frame that goes with the act, and agrees with the record's on what the operation looks at. -/
theorem Inv.env {c : Rec} (hc : c ∈ recs) (hl : listed.getD c.r.j false = false) (he : ∀ e ∈ c.r.o.after.toList, Region.binds .any e = true → listed.getD e.on false = true) :
    ∃ g : Env, RelF μ g a.tmps ∧ (∀ x ∈ c.r.o.op.operands, ev g x = ev c.g.get x) ∧ aWanted ops.toList g c.r.o = aWanted ops.toList c.g.get c.r.o ∧ gknown ops.toList g c.r.o = true := by
  have hex : ∀ t, ∃ v, RelV μ v (a.tmps.getD t undef) ∧ (t ∈ looksAt ops.toList c.r.o → v = c.g.get t) := by
    intro t
    by_cases ht : t ∈ looksAt ops.toList c.r.o
    · exact ⟨_, Inv.looks D I hc hl he ht, fun _ => rfl⟩
    · rcases I.frame t with ⟨c', _, _, _, h⟩ | ⟨_, h⟩
      · exact ⟨_, h, fun h => absurd h ht⟩
      · exact ⟨_, h, fun h => absurd h ht⟩
  have hgd : ∀ q d, c.r.o.guard = some q → (listAt ops.toList q.1).ob (·.dst) = some d → Classical.choose (hex d) = c.g.get d := fun q d hq hd => by
    refine (Classical.choose_spec (hex d)).2 ?_
    unfold looksAt
    rw [List.mem_append, hq]
    obtain ⟨q1, q2⟩ := q
    simp only at hd
    right
    simp only [hd]
    simp
  refine ⟨fun t => Classical.choose (hex t), fun t => (Classical.choose_spec (hex t)).1, fun x hx => ev_congr fun t e => ?_, aWanted_congr hgd, (gknown_congr hgd).trans (D.run.known c hc)⟩
  refine (Classical.choose_spec (hex t)).2 ?_
  subst e
  unfold looksAt
  rw [List.mem_append]
  exact .inl (List.mem_filterMap.2 ⟨.tmp t, by simpa using hx, rfl⟩)

theorem Inv.stage {c : Rec} (hc : c ∈ recs) (hl : listed.getD c.r.j false = false) (he : ∀ e ∈ c.r.o.after.toList, Region.binds .any e = true → listed.getD e.on false = true) : c.r.lo ≤ s ∧ s ≤ c.r.hi := by
  obtain ⟨j, hrj, hj, ho, hk, hbs, hlo, hhi⟩ := D.row hc
  constructor
  · rw [hlo]
    refine loOf_le _ _ _ _ _ (Nat.zero_le _) fun k l hkl hb => ?_
    rw [List.getElem?_map] at hkl
    cases hx : (louds rows)[k]? with
    | none => rw [hx] at hkl; cases hkl
    | some r =>
      rw [hx] at hkl
      simp only [Option.map_some] at hkl
      injection hkl with hkl; subst hkl
      have := Inv.closed D I hc he _ hb
      have := (I.st.2 k r hx).1 this
      omega
  · rw [hhi]
    have := le_hiOf c.r.j ((louds rows).map fun r => (r.j, r.b)) 0 s (by rw [List.length_map]; exact I.st.1) fun k l hks hkl => by
      rw [List.getElem?_map] at hkl
      cases hx : (louds rows)[k]? with
      | none => rw [hx] at hkl; cases hkl
      | some r =>
        rw [hx] at hkl
        simp only [Option.map_some] at hkl
        injection hkl with hkl; subst hkl
        simp only
        cases hb : r.b.testBit c.r.j with
        | false => rfl
        | true =>
          exfalso
          have hrl := (I.st.2 k r hx).2 hks
          have hrr : r ∈ rows := (louds_mem.1 (List.mem_of_getElem? hx)).1
          obtain ⟨j', hj'⟩ := List.getElem?_of_mem hrr
          obtain ⟨g1, g2, _, g4, _⟩ := D.rok.get j' r hj'
          have := bits_closed D.hb (E := fun i => listed.getD i false = true) I.dc j' r.o r.b g2 g4 (fun e hee hbb => I.dc j' r.o g2 (by rw [← g1]; exact hrl) e hee hbb) c.r.j hb
          rw [hl] at this; cases this
    omega

/-- The next state. -/
theorem Inv.step {c : Rec} (hc : c ∈ recs) (hl : listed.getD c.r.j false = false) (he : ∀ e ∈ c.r.o.after.toList, Region.binds .any e = true → listed.getD e.on false = true)
    {s' : Nat} {μ' : Inj} {K' : Heap} {w' : World} {Z : Value} (hext : Ext μ μ') (hK : Hs[s']? = some K') (hw' : RelW (szOf cx) base w0 μ' K' w')
    (hst : s' ≤ (louds rows).length ∧ ∀ (k : Nat) (r : Row), (louds rows)[k]? = some r → ((listed.setIfInBounds c.r.j true).getD r.j false = true ↔ k < s'))
    (hids : ∀ c' ∈ recs, c'.madeW ops.toList → (listed.setIfInBounds c.r.j true).getD c'.r.j false = false → μ' c'.id = none) (hZ : RelV μ' c.v Z) (hg : Grow H0.next μ0 μ') :
    Inv cx base w0 nn ops fr0 H0 μ0 ds rows recs Hs (listed.setIfInBounds c.r.j true) s' μ' (a.put c.r.o.dst Z) w' := by
  obtain ⟨j, hrj, hj, ho, hk, hbs, hlo, hhi⟩ := D.row hc
  have hlt : c.r.j < listed.size := by rw [I.size, hj]; exact (Array.getElem?_eq_some_iff.1 ho).1
  refine ⟨by simpa using I.size, fun j' o' ho' hl' e he' hb' => ?_, hst, ⟨K', hK, hw'⟩, hids, fun t => ?_, by rw [put_size]; exact I.tsize, by rw [put_defers]; exact I.defers, hg⟩
  · rw [lset hlt] at hl' ⊢
    split
    · rfl
    · split at hl'
      · rename_i h
        subst h
        rw [hj, ho] at ho'; injection ho' with ho'; subst ho'
        exact he e he' hb'
      · exact I.dc j' o' ho' hl' e he' hb'
  · by_cases ht : c.r.o.dst = some t
    · have htn : t < a.tmps.size := by rw [I.tsize]; exact D.run.lt c hc t ht
      refine .inl ⟨c, hc, ht, by rw [lset hlt, if_pos rfl], ?_⟩
      rw [ht]
      simp only [Act.put, Array.getD_eq_getD_getElem?, Array.getElem?_setIfInBounds, if_pos, htn]
      exact hZ
    · have e1 : (a.put c.r.o.dst Z).tmps.getD t undef = a.tmps.getD t undef := by
        cases hd : c.r.o.dst with
        | none => rfl
        | some d =>
          have : d ≠ t := fun e => ht (by rw [hd, e])
          simp only [Act.put, Array.getD_eq_getD_getElem?, Array.getElem?_setIfInBounds, if_neg this]
      rw [e1]
      rcases I.frame t with ⟨c', h1, h2, h3, h4⟩ | ⟨h1, h2⟩
      · exact .inl ⟨c', h1, h2, by rw [lset hlt]; split <;> first | rfl | exact h3, h4.mono hext⟩
      · refine .inr ⟨fun c' hc' hd' => ?_, h2.mono hext⟩
        rw [lset hlt]
        split
        · rename_i e
          exfalso
          obtain ⟨j2, hr2, _⟩ := D.row hc'
          have := D.sameRow hrj hr2 e
          rw [← this] at hd'
          exact ht hd'
        · exact h1 c' hc' hd'

theorem Inv.calm {c : Rec} (hc : c ∈ recs) (hnl : isLoudR c.r = false) : s ≤ (louds rows).length ∧ ∀ (k : Nat) (r : Row), (louds rows)[k]? = some r → ((listed.setIfInBounds c.r.j true).getD r.j false = true ↔ k < s) := by
  refine ⟨I.st.1, fun k r hk => ?_⟩
  obtain ⟨j, hrj, hj, ho, _⟩ := D.row hc
  have hlt : c.r.j < listed.size := by rw [I.size, hj]; exact (Array.getElem?_eq_some_iff.1 ho).1
  have hr := louds_mem.1 (List.mem_of_getElem? hk)
  obtain ⟨j', hj'⟩ := List.getElem?_of_mem hr.1
  have hne : c.r.j ≠ r.j := fun e => by
    have := D.sameRow hrj hj' e
    rw [this, hr.2] at hnl; cases hnl
  rw [lset hlt, if_neg hne]
  exact I.st.2 k r hk

theorem Inv.idsOf {c : Rec} (hc : c ∈ recs) {c' : Rec} (hc' : c' ∈ recs) (h : (listed.setIfInBounds c.r.j true).getD c'.r.j false = false) : c.r.j ≠ c'.r.j ∧ listed.getD c'.r.j false = false := by
  obtain ⟨j, hrj, hj, ho, _⟩ := D.row hc
  have hlt : c.r.j < listed.size := by rw [I.size, hj]; exact (Array.getElem?_eq_some_iff.1 ho).1
  rw [lset hlt] at h
  split at h
  · cases h
  · rename_i hne; exact ⟨hne, h⟩

include hcx hcall in
/-- **One operation that is ready, in whatever order.** -/
theorem Inv.op {c : Rec} (hc : c ∈ recs) (hl : listed.getD c.r.j false = false) (he : ∀ e ∈ c.r.o.after.toList, Region.binds .any e = true → listed.getD e.on false = true)
    (hcl : isLoudR c.r = true → (recs.filter fun c => isLoudR c.r)[s]? = some c ∧ (louds rows)[s]? = some c.r) {r : Option Nat} {n : Nat} {Q : Exit → Act → World → Prop} {Kp : Act → World → Prop}
    (hK : ∀ s' μ' a' w', Inv cx base w0 nn ops fr0 H0 μ0 ds rows recs Hs (listed.setIfInBounds c.r.j true) s' μ' a' w' → Kp a' w') : wpOpIn (FF r) n P ops Q c.r.j Kp a w := by
  obtain ⟨j, hrj, hj, ho, hkind, hbs, hlo, hhi⟩ := D.row hc
  obtain ⟨g, hf, hcg, hwg, hgk⟩ := Inv.env D I hc hl he
  obtain ⟨hs1, hs2⟩ := Inv.stage D I hc hl he
  obtain ⟨K, hKs, hw⟩ := I.heap
  have hlt : c.r.j < listed.size := by rw [I.size, hj]; exact (Array.getElem?_eq_some_iff.1 ho).1
  have hHK : H0.next ≤ K.next := D.run.nexts.1 K (List.mem_of_getElem? hKs)
  unfold wpOpIn
  rw [hj]
  simp only [ho]
  rw [wanted_sound hf ops c.r.o hgk, hwg]
  by_cases hloud : isLoudR c.r = true
  · obtain ⟨hlr, hls⟩ := hcl hloud
    obtain ⟨Hk, Ha, Hk1, h1, h2, h3, h4, h5⟩ := D.run.loud D.kinds s c hlr
    rw [hKs] at h1; injection h1 with h1; subst h1
    have hst : s + 1 ≤ (louds rows).length ∧ ∀ (k : Nat) (r : Row), (louds rows)[k]? = some r → ((listed.setIfInBounds c.r.j true).getD r.j false = true ↔ k < s + 1) := by
      refine ⟨(List.getElem?_eq_some_iff.1 hls).1, fun k r' hk => ?_⟩
      rw [lset hlt]
      by_cases hks : k = s
      · subst hks
        rw [hls] at hk; injection hk with hk; subst hk
        simp
      · have hne : c.r.j ≠ r'.j := by
          intro e
          have hr' := louds_mem.1 (List.mem_of_getElem? hk)
          obtain ⟨j', hj'⟩ := List.getElem?_of_mem hr'.1
          have hsame := D.sameRow hrj hj' e
          have hnl := I.st.2 k r' hk
          rw [← hsame, hl] at hnl
          have hge : ¬ k < s := fun h => by have := hnl.2 h; cases this
          obtain ⟨q, hq⟩ : ∃ q, k = q + 1 := ⟨k - 1, by omega⟩
          have hqlt : q < (louds rows).length := by have := (List.getElem?_eq_some_iff.1 hk).1; omega
          have hch := chained_get _ D.ch q _ r' (List.getElem?_eq_getElem hqlt) (by rw [← hq]; exact hk)
          rw [← hsame] at hch
          have hcl2 := Inv.closed D I hc he _ hch
          have := (I.st.2 q _ (List.getElem?_eq_getElem hqlt)).1 hcl2
          omega
        rw [if_neg hne]
        rw [I.st.2 k r' hk]; omega
    have goOn : ∀ Z w', LoudOK cx base w0 μ K c.v Ha Z w' → Kp (a.put c.r.o.dst Z) w' := by
      rintro Z w' ⟨hn1, μ', hg, hv, hw'⟩
      refine hK (s + 1) μ' _ w' (Inv.step D I hc hl he (hw.ext hg) h3 (h4.relW hw') hst (fun c' hc' hm hu => ?_) hv (I.grow.trans hg hHK))
      obtain ⟨_, hu2⟩ := Inv.idsOf D I hc hc' hu
      rcases h5 c' hc' hm with h6 | h6
      · rw [hg.same _ h6]; exact I.ids c' hc' hm hu2
      · cases hx : μ' c'.id with
        | none => rfl
        | some i => have := hw'.fresh _ _ hx; omega
    obtain ⟨-, h2⟩ := aStep_eq h2
    unfold aStep0 at h2
    rw [cb_eq] at h2
    split at h2
    · rename_i hwt
      rw [if_pos hwt]
      rw [← aOp_congr cx call K hcg] at h2
      exact aOp_sound hcx hw hf hcall h2 goOn
    · rename_i hwt
      rw [if_neg hwt]
      injection h2 with h2; injection h2 with h6 h7
      refine ⟨fun _ _ => trivial, goOn undef w ?_⟩
      rw [← h6, ← h7]; exact LoudOK.same rfl .undef hw
  · have hloud : isLoudR c.r = false := by simpa using hloud
    have hst := Inv.calm D I hc hloud
    have hids : ∀ c' ∈ recs, c'.madeW ops.toList → (listed.setIfInBounds c.r.j true).getD c'.r.j false = false → μ c'.id = none := fun c' hc' hm hu => I.ids c' hc' hm (Inv.idsOf D I hc hc' hu).2
    split
    · rename_i hwt
      obtain ⟨hq, hm⟩ := D.ok c hc hwt s K hs1 hs2 hKs
      have hnl : c.r.k ≠ .loud := fun e => by rw [loudR_iff.2 e] at hloud; cases hloud
      have hcase : c.r.k = .quiet ∨ c.r.k = .made := by
        cases hck : c.r.k with
        | made => exact .inr rfl
        | quiet => exact .inl rfl
        | loud => exact absurd hck hnl
      rcases hcase with hck | hck
      · have hqv := hq hck
        rw [← aQuiet_congr cx K hcg] at hqv
        obtain ⟨x, w', hrun, hv, hw'⟩ := aQuiet_sound hcx hw hf hqv
        refine uponIn_value (fun d e => ?_) hrun (hK s μ _ w' (Inv.step D I hc hl he (Ext.refl μ) hKs hw' hst hids hv I.grow))
        rw [e] at hqv; simp [aQuiet] at hqv
      · obtain ⟨m, hm1, hm2, hm3⟩ := hm hck
        obtain ⟨m', hm4, hm5⟩ := D.run.made D.kinds c hc ⟨hck, hwt⟩
        rw [hm1] at hm4; injection hm4 with hm4; subst hm4
        rw [← aMade_congr cx hcg] at hm1
        obtain ⟨x, ob, i, w1, hrun, hok⟩ := aMade_sound (base := base) hcx hf hm1 (by rw [← hkind]; exact hck) w
        have hnone := I.ids c hc ⟨hck, hwt⟩ hl
        have hext := ext_set i hnone
        have hw1 : RelW (szOf cx) base w0 μ K w1 := by
          refine ⟨⟨hok.os.trans hw.below.os, hok.tape.trans hw.below.tape, hok.out.trans hw.below.output, by rw [hok.heap]; exact hw.below.size, fun k hk => by rw [hok.heap]; exact hw.below.block k hk⟩, by rw [hok.heap]; exact hw.baseLe, hw.fresh,
            fun b i e => (hw.blk b i e).same fun _ => by rw [hok.heap], hw.apart, by rw [hok.heap]; exact hw.froz, hw.frozApart, by rw [hok.heap]; exact hw.lo⟩
        have hw' : RelW (szOf cx) base w0 (μ.set c.id i) K (w1.alloc ob) := by
          refine RelW.bind hw1 hnone hm2 ob i (by rw [hok.at_, hok.heap]) ?_
          rw [hm3]
          exact hok.blk _ hext hw.newOK
        have hge := D.run.nexts.2 c hc
        refine uponIn_value (fun d e => ?_) hrun (hK s (μ.set c.id i) _ _ (Inv.step D I hc hl he hext hKs hw' hst (fun c' hc' hm' hu => ?_) ?_ ?_))
        · rw [e] at hkind; simp [kindOf] at hkind; rw [hck] at hkind; cases hkind
        · obtain ⟨hne, hu2⟩ := Inv.idsOf D I hc hc' hu
          have hidne : c'.id ≠ c.id := by
            obtain ⟨pre, post, hsplit⟩ := List.append_of_mem hc
            have hc2 := hc'
            rw [hsplit] at hc2
            simp only [List.mem_append, List.mem_cons] at hc2
            rcases hc2 with h6 | h6 | h6
            · obtain ⟨pre2, post2, hsplit2⟩ := List.append_of_mem h6
              have := D.run.idsUp D.kinds pre2 c' (post2 ++ c :: post) (by rw [hsplit, hsplit2]; simp) hm' c (by simp)
              omega
            · subst h6; exact absurd rfl hne
            · have := D.run.idsUp D.kinds pre c post hsplit ⟨hck, hwt⟩ c' h6
              omega
          rw [Inj.set_ne _ _ hidne]
          exact I.ids c' hc' hm' hu2
        · rw [hm5]; exact hok.val _ _ hext (Inj.set_same _ _ _)
        · exact ⟨fun b hb => by rw [Inj.set_ne _ _ (by omega)]; exact I.grow.same b hb, I.grow.fz, I.grow.lo, I.grow.fzn⟩
    · rename_i hwt
      have hv := D.run.unwanted c hc (by simpa using hwt)
      refine ⟨fun _ _ => trivial, hK s μ _ w (Inv.step D I hc hl he (Ext.refl μ) hKs hw hst hids ?_ I.grow)⟩
      rw [hv]; exact .undef

/-- All are done. -/
theorem Inv.done (hall : ∀ j, j < ops.size → listed.getD j false = true) : RunOK cx base w0 nn μ0 H0 ds fr1 (Hs.getLastD H0) a w := by
  obtain ⟨K, hKs, hw⟩ := I.heap
  have hlen := D.run.heaps
  rw [D.hp, planOf_louds _ _ (fun l hl => (louds_mem.1 hl).2)] at hlen
  have hs : s = (louds rows).length := by
    rcases Nat.lt_or_ge s (louds rows).length with h | h
    · exfalso
      have hg := List.getElem?_eq_getElem h
      have hr := louds_mem.1 (List.mem_of_getElem? hg)
      obtain ⟨j', hj'⟩ := List.getElem?_of_mem hr.1
      obtain ⟨g1, g2, _⟩ := D.rok.get j' _ hj'
      have h1 := hall j' (Array.getElem?_eq_some_iff.1 g2).1
      rw [← g1] at h1
      have := (I.st.2 s _ hg).1 h1
      omega
    · have := I.st.1; omega
  have hlast : Hs.getLastD H0 = K := by
    rw [List.getLastD_eq_getLast?, List.getLast?_eq_getElem?, hlen]
    simp only [Nat.add_sub_cancel]
    rw [← hs, hKs]; rfl
  rw [hlast]
  refine ⟨D.run.nexts.1 K (List.mem_of_getElem? hKs), ⟨μ, I.grow, fun t => ?_, hw⟩, I.tsize, I.defers⟩
  rcases D.run.frame t with ⟨h1, h2⟩ | ⟨c, h1, h2, h3⟩
  · rw [h1]
    rcases I.frame t with ⟨c, h4, h5, _⟩ | ⟨_, h4⟩
    · exact absurd h5 (h2 c h4)
    · exact h4
  · rw [h3]
    rcases I.frame t with ⟨c', h4, h5, _, h6⟩ | ⟨h4, _⟩
    · rw [D.one h1 h4 h2 h5]; exact h6
    · exfalso
      have := h4 c h1 h2
      obtain ⟨j, _, hj, ho, _⟩ := D.row h1
      rw [hj, hall j (Array.getElem?_eq_some_iff.1 ho).1] at this
      cases this

omit I in
/-- the record of an operation that is ready. -/
theorem Drawn.pick (I : Inv cx base w0 nn ops fr0 H0 μ0 ds rows recs Hs listed s μ a w) {i : Nat} {o : Oper} (ho : ops[i]? = some o) (hl : listed.getD i false = false)
    (he : ∀ e ∈ o.after.toList, Region.binds .any e = true → listed.getD e.on false = true) :
    ∃ c ∈ recs, c.r.j = i ∧ c.r.o = o ∧ (isLoudR c.r = true → (recs.filter fun c => isLoudR c.r)[s]? = some c ∧ (louds rows)[s]? = some c.r) := by
  have hlt : i < rows.length := by rw [D.rok.len]; exact (Array.getElem?_eq_some_iff.1 ho).1
  obtain ⟨r, hr⟩ : ∃ r, rows[i]? = some r := ⟨_, List.getElem?_eq_getElem hlt⟩
  obtain ⟨g1, g2, g3, g4, g5, g6⟩ := D.rok.get i r hr
  have hro : r.o = o := by rw [g2] at ho; injection ho
  by_cases hloud : isLoudR r = true
  · have hrl : r ∈ louds rows := louds_mem.2 ⟨List.mem_of_getElem? hr, hloud⟩
    obtain ⟨k, hk⟩ := List.getElem?_of_mem hrl
    have hnk : ¬ k < s := fun h => by
      have := (I.st.2 k r hk).2 h
      rw [g1, hl] at this; cases this
    have hks : k = s := by
      rcases Nat.lt_or_ge s k with h | h
      · exfalso
        obtain ⟨q, hq⟩ : ∃ q, k = q + 1 := ⟨k - 1, by omega⟩
        have hqlt : q < (louds rows).length := by have := (List.getElem?_eq_some_iff.1 hk).1; omega
        have hch := chained_get _ D.ch q _ r (List.getElem?_eq_getElem hqlt) (by rw [← hq]; exact hk)
        have hcl2 := bits_closed D.hb (E := fun i => listed.getD i false = true) I.dc i r.o r.b g2 g4 (by rw [hro]; exact he) _ hch
        have := (I.st.2 q _ (List.getElem?_eq_getElem hqlt)).1 hcl2
        omega
      · omega
    subst hks
    have hmap : (recs.filter fun c => isLoudR c.r).map (·.r) = louds rows := by
      have h1 := D.run.map
      rw [← planOf_louds (rows := rows) (louds rows) 0 (fun l hl => (louds_mem.1 hl).2), ← D.hp, ← h1, List.filter_map]
      rfl
    have : ((recs.filter fun c => isLoudR c.r).map (·.r))[k]? = some r := by rw [hmap]; exact hk
    rw [List.getElem?_map] at this
    cases hx : (recs.filter fun c => isLoudR c.r)[k]? with
    | none => rw [hx] at this; cases this
    | some c =>
      rw [hx] at this
      simp only [Option.map_some] at this
      injection this with this
      have hcm := List.mem_of_getElem? hx
      exact ⟨c, (List.mem_filter.1 hcm).1, by rw [this]; exact g1, by rw [this]; exact hro, fun _ => ⟨rfl, by rw [this]; exact hk⟩⟩
  · have hnl : isLoudR r = false := by simpa using hloud
    have hrp : r ∈ plan := by
      rw [D.hp, planOf_mem]
      refine .inr ⟨List.mem_of_getElem? hr, hnl, Nat.zero_le _, ?_⟩
      rw [g5, Nat.zero_add]
      have := lo_top r.b ((louds rows).map (·.j))
      rwa [List.length_map] at this
    rw [← D.run.map] at hrp
    obtain ⟨c, hc, hcr⟩ := List.mem_map.1 hrp
    refine ⟨c, hc, by rw [hcr]; exact g1, by rw [hcr]; exact hro, fun h => ?_⟩
    rw [hcr, hnl] at h; cases h

omit I in
include hcx hcall in
/-- **Whatever order is drawn.** -/
theorem Drawn.any {r : Option Nat} {n : Nat} {Q : Exit → Act → World → Prop} (hq : ∀ a' w', RunOK cx base w0 nn μ0 H0 ds fr1 (Hs.getLastD H0) a' w' → Q .normal a' w') :
    ∀ (fuel : Nat) (listed : Array Bool) (s : Nat) (μ : Inj) (a : Act) (w : World), Inv cx base w0 nn ops fr0 H0 μ0 ds rows recs Hs listed s μ a w → listed.toList.countP (fun b => !b) = fuel →
      wpAnyIn (FF r) n P .any ops Q fuel listed a w := by
  have getT : ∀ {listed : Array Bool} {j : Nat}, j < listed.size → listed.getD j true = listed.getD j false := fun {listed j} h => by
    simp [Array.getD, h]
  have nilAll : ∀ (listed : Array Bool), listed.size = ops.size → Region.ready .any ops listed = [] → ∀ j, j < ops.size → listed.getD j false = true := by
    intro listed hsz hnil j
    induction j using Nat.strongRecOn with
    | ind j ih =>
      intro hj
      cases hl : listed.getD j false with
      | true => rfl
      | false =>
        exfalso
        have : j ∈ Region.ready .any ops listed := by
          rw [mem_ready]
          refine ⟨by rw [getT (by omega)]; exact hl, _, Array.getElem?_eq_getElem hj, fun e he hb => ?_⟩
          have hlt := edges_back D.hb (Array.getElem?_eq_getElem hj) e (by simpa using he) hb
          exact ih e.on hlt (by omega)
        rw [hnil] at this; cases this
  intro fuel
  induction fuel with
  | zero =>
    intro listed s μ a w I hcount
    have hall : ∀ j, j < ops.size → listed.getD j false = true := by
      intro j hj
      have hj' : j < listed.size := by rw [I.size]; exact hj
      rw [List.countP_eq_zero] at hcount
      have := hcount listed[j] (by simp)
      simp only [Array.getD, hj', dif_pos]
      simpa using this
    refine ⟨?_, hq a w (Inv.done D I hall)⟩
    cases hr : Region.ready .any ops listed with
    | nil => rfl
    | cons i is =>
      exfalso
      have hi : i ∈ Region.ready .any ops listed := by rw [hr]; simp
      obtain ⟨h1, o, ho, _⟩ := mem_ready.1 hi
      have hlt := (Array.getElem?_eq_some_iff.1 ho).1
      rw [getT (by rw [I.size]; exact hlt), hall i hlt] at h1
      cases h1
  | succ fuel ih =>
    intro listed s μ a w I hcount
    refine ⟨fun hnil => hq a w (Inv.done D I (nilAll listed I.size hnil)), fun i hi => ?_⟩
    obtain ⟨h1, o, ho, he⟩ := mem_ready.1 hi
    have hlt := (Array.getElem?_eq_some_iff.1 ho).1
    have hlt' : i < listed.size := by rw [I.size]; exact hlt
    rw [getT hlt'] at h1
    have he' : ∀ e ∈ o.after.toList, Region.binds .any e = true → listed.getD e.on false = true := fun e hee hb => he e (by simpa using hee) hb
    obtain ⟨c, hc, rfl, rfl, hcl⟩ := Drawn.pick D I ho h1 he'
    refine Inv.op hcx hcall D I hc h1 he' hcl fun s' μ' a' w' I' => ih _ s' μ' a' w' I' ?_
    rw [Array.toList_setIfInBounds, List.countP_set (by simpa using hlt')]
    have hb : listed.toList[c.r.j]'(by simpa using hlt') = false := by
      have : listed.getD c.r.j false = listed[c.r.j] := by simp [Array.getD, hlt']
      rw [h1] at this
      simpa using this.symm
    rw [hb, hcount]
    simp
end

section
variable {P : Program} {cx : Cx} (hcx : CxOK P cx) {base : Nat → Prop} {w0 : World} {call : Caller} (hcall : CallerOK P cx base w0 call)
include hcx hcall

theorem aDraw_sound {nn : Nat} {ops : Array Oper} {id : Nat} {r : Option Nat} {n : Nat} {Q : Exit → Act → World → Prop} {μ : Inj} {fr fr' : Fr} {H H' : Heap} {a : Act} {w : World}
    (h : aDraw cx call nn ops.toList fr H = some (fr', H')) (hf : RelF μ fr.get a.tmps) (hs : a.tmps.size = nn) (hw : RelW (szOf cx) base w0 μ H w)
    (hq : ∀ a' w', RunOK cx base w0 nn μ H a.defers fr' H' a' w' → Q .normal a' w') : (Code.region id ops true).wpIn (FF r) n P Q a w := by
  unfold aDraw at h
  replace h := ob_eq h; obtain ⟨p, hp, h⟩ := h
  replace h := ob_eq h; obtain ⟨y, hy, h⟩ := h
  split at h
  · rename_i hok
    injection h with h; injection h with h1 h2; subst h1; subst h2
    unfold mkPlan at hp
    replace hp := ob_eq hp; obtain ⟨rows, hrows, hp⟩ := hp
    simp only at hp
    split at hp
    · rename_i hc
      obtain ⟨_, hch, hft⟩ := hc
      injection hp with hp; subst hp
      simp only at hy hok
      obtain ⟨bs, hbs, hrok⟩ := rowsOf_ok hrows
      have hrun := drawRun_srun _ _ _ _ hy
      have hrowmem : ∀ r ∈ planOf rows (louds rows) 0, r ∈ rows := by
        intro r hr
        rw [planOf_mem] at hr
        rcases hr with h | h
        · exact (louds_mem.1 h).1
        · exact h.1
      have hkinds : ∀ r ∈ planOf rows (louds rows) 0, r.k = kindOf cx r.o.op := by
        intro r hr
        obtain ⟨j, hj⟩ := List.getElem?_of_mem (hrowmem r hr)
        exact (hrok.get j r hj).2.2.1
      have D : Drawn cx call nn ops fr H bs rows (planOf rows (louds rows) 0) y.1 y.2.1 y.2.2 := by
        refine ⟨hbs, hrok, rfl, hrun, hch, hft, fun c hc hwt s K hlo hhi hK => ?_⟩
        rw [Bool.or_eq_true] at hok
        rcases hok with hok | hok
        · have hq' : ∀ r ∈ planOf rows (louds rows) 0, r.k = .quiet := by
            intro r hr
            have := List.all_eq_true.1 hok r (hrowmem r hr)
            split at this
            · assumption
            · cases this
          obtain ⟨h1, h2⟩ := hrun.quiets hkinds hq'
          have hck : c.r.k = .quiet := hq' c.r (by rw [← hrun.map]; exact List.mem_map_of_mem hc)
          rw [h1] at hK
          have : K = H := by
            cases s with
            | zero => simpa using hK.symm
            | succ s => simp at hK
          subst this
          exact ⟨fun _ => h2 c hc hwt, fun e => by rw [hck] at e; cases e⟩
        · have := List.all_eq_true.1 hok c hc
          unfold recHolds at this
          rw [if_pos hwt] at this
          have hmem : K ∈ (y.2.1.take (c.r.hi + 1)).drop c.r.lo := by
            refine List.mem_of_getElem? (i := s - c.r.lo) ?_
            rw [List.getElem?_drop, List.getElem?_take, if_pos (by omega), ← hK]
            congr 1; omega
          constructor
          · intro hck
            rw [hck] at this
            have := List.all_eq_true.1 this K hmem
            split at this
            · rename_i v hv; rw [hv, AV.beq_eq _ _ this]
            · cases this
          · intro hck
            rw [hck] at this
            have := List.all_eq_true.1 this K hmem
            split at this
            · rename_i m hm
              rw [Bool.and_eq_true, nble] at this
              exact ⟨m, hm, of_decide_eq_true this.1, Blk.same_eq this.2⟩
            · cases this
      obtain ⟨K0, hK0, hnews⟩ := hrun.head hkinds
      refine wpIn_region_any hcx.order ?_
      have hfalse : ∀ j, (Array.replicate ops.size false).getD j false = false := fun j => by
        simp [Array.getD]
      refine Drawn.any hcx hcall D (μ0 := μ) (ds := a.defers) hq ops.size _ 0 μ a _ ⟨by simp, fun j o _ hl => (by rw [hfalse] at hl; cases hl), ⟨Nat.zero_le _, fun k r _ => (by rw [hfalse]; simp)⟩,
        ⟨K0, hK0, hnews.relW (hw.drew _)⟩, fun c hc _ _ => ?_, fun t => .inr ⟨fun c _ _ => hfalse _, hf t⟩, hs, rfl, Grow.refl _ _⟩ (by simp [List.countP_replicate])
      cases hx : μ c.id with
      | none => rfl
      | some i => have := hw.fresh _ _ hx; have := hrun.nexts.2 c hc; omega
    · cases hp
  · cases h
end
end Go.Ab
end
end

/- Code and calls. -/
section
section
set_option autoImplicit false
set_option linter.unusedVariables false
set_option linter.unusedSimpArgs false
set_option linter.unusedSectionVars false
namespace Go.Ab
open Go.RowKit

/-- The marks of loops among the deferred calls. -/
inductive RelD (μ : Inj) : List Nat → List Deferred → Prop
  | nil : RelD μ [] []
  | cons {d : Nat} {i : BI} {ds : List Nat} {es : List Deferred} : μ d = some i → RelD μ ds es → RelD μ (d :: ds) ({ target := .collected i.blk, args := #[] } :: es)
theorem RelD.mono {μ μ' : Inj} {ds : List Nat} {es : List Deferred} (h : RelD μ ds es) (e : Ext μ μ') : RelD μ' ds es := by
  induction h with
  | nil => exact .nil
  | cons a _ ih => exact .cons (e _ _ a) ih

def exOf : AX → Exit
  | .normal => .normal
  | .exit id => .exit id
  | .ret => .ret

/-- Where a run of code ends. -/
structure EndOK (cx : Cx) (base : Nat → Prop) (w0 : World) (nn : Nat) (μ : Inj) (H : Heap) (s' : St) (a' : Act) (w' : World) : Prop where
  next : H.next ≤ s'.H.next
  ex : ∃ μ', Grow H.next μ μ' ∧ RelF μ' s'.fr.get a'.tmps ∧ RelD μ' s'.ds a'.defers ∧ RelW (szOf cx) base w0 μ' s'.H w'
  size : a'.tmps.size = nn

/-- the fence's round is the loop around. -/
def Round (μ : Inj) (around : Option Nat) (r : Option Nat) : Prop :=
  match around, r with
  | none, none => True
  | some l, some b => ∃ i, μ l = some i ∧ i.blk = b
  | _, _ => False
theorem Round.mono {μ μ' : Inj} {around r : Option Nat} (h : Round μ around r) (e : Ext μ μ') : Round μ' around r := by
  unfold Round at h ⊢
  split at h
  · trivial
  · obtain ⟨i, h1, h2⟩ := h; exact ⟨i, e _ _ h1, h2⟩
  · exact h.elim

section
variable {P : Program} {cx : Cx} (hcx : CxOK P cx) {base : Nat → Prop} {w0 : World}

theorem RelW.newBlk {μ : Inj} {H : Heap} {w : World} (hw : RelW (szOf cx) base w0 μ H w) (x : Blk) (o : Obj) (i : BI) (hi : i.blk = w.heap.size) (hr : RelB (szOf cx) base (μ.set H.next i) i (w.alloc o) x) :
    RelW (szOf cx) base w0 (μ.set H.next i) (H.new x) (w.alloc o) := by
  refine RelW.bind (hw.addDead x) hw.unmapped (by simp) o i hi ?_
  rw [Heap.get_new, if_pos rfl]; exact hr

/-- a loop's record in the world. -/
theorem RelW.loop {μ : Inj} {H : Heap} {w : World} (hw : RelW (szOf cx) base w0 μ H w) {l : Nat} {i : BI} (hl : μ l = some i) {fn n : Nat} {fr : Fr} {ps : List Tmp} {asg body : Code} {d : Nat} {st : LS}
    (hg : H.get l = .loop fn n fr ps asg body d st) : ¬ base i.blk ∧ ∃ (tmps : Array Value) (di : BI) (ls : LoopState) (pe : Option Code) (fn' : FuncId),
      w.heap[i.blk]? = some (.loop { state := ls, pending := pe, fn := fn', tmps := tmps, params := ps.toArray, assign := asg, body := body, defers := di.blk }) ∧ μ d = some di ∧ tmps.size = n ∧ RelF μ fr.get tmps ∧ st.fit ls pe := by
  have := hw.blk l i hl
  rw [hg] at this
  exact this

/-- A loop's record is turned. -/
theorem RelW.turn {μ : Inj} {H : Heap} {w : World} (hw : RelW (szOf cx) base w0 μ H w) {l : Nat} {i : BI} (hl : μ l = some i) {fn n : Nat} {fr : Fr} {ps : List Tmp} {asg body : Code} {d : Nat} {st : LS}
    (hg : H.get l = .loop fn n fr ps asg body d st) (st' : LS) (ls' : LoopState) (pe' : Option Code) (hfit : st'.fit ls' pe') {r : Loop} (hr : w.heap[i.blk]? = some (.loop r)) :
    RelW (szOf cx) base w0 μ (H.put l (Blk.setLS st' (H.get l))) (w.putObj i.blk (.loop { r with state := ls', pending := pe' })) := by
  obtain ⟨hb, tmps, di, ls, pe, fn', h1, h2, h3, h4, h5⟩ := hw.loop hl hg
  rw [h1] at hr
  injection hr with hr; injection hr with hr; subst hr
  have hlt := (Array.getElem?_eq_some_iff.1 h1).1
  refine RelW.write hw hl (by rw [hg]; rfl) rfl rfl rfl World.putObj_size (fun k hk => World.putObj_heap_other hk) (.inl (by rw [hg]; rfl)) ?_
  rw [hg]
  exact ⟨hb, tmps, di, ls', pe', fn', World.putObj_heap_same hlt, h2, h3, h4, hfit⟩

theorem RelW.gone {μ : Inj} {H : Heap} {w : World} (hw : RelW (szOf cx) base w0 μ H w) {l : Nat} {i : BI} (hl : μ l = some i) (hwr : (H.get l).writes = true) (o : Obj) :
    RelW (szOf cx) base w0 μ (H.put l .dead) (w.putObj i.blk o) :=
  RelW.write hw hl hwr rfl rfl rfl World.putObj_size (fun k hk => World.putObj_heap_other hk) (.inr rfl) trivial

/-- unrolled. -/
theorem exit_then_normal {K : Act → World → Prop} {Q : Exit → Act → World → Prop} {x : AX} {a : Act} {w : World} (h : match x with | .normal => K a w | x => Q (exOf x) a w) : Exit.then K Q (exOf x) a w := by
  cases x <;> exact h

theorem putAll_sound {μ : Inj} {nn : Nat} : ∀ (ps : List Tmp) (vs : List AV) (fr fr' : Fr) (tmps : Array Value) (xs : List Value), putAll nn ps vs fr = some fr' → RelF μ fr.get tmps → tmps.size = nn → RelL μ vs xs →
    xs.length = ps.length ∧ RelF μ fr'.get ((ps.zip xs).foldl (fun tmps (x : Tmp × Value) => tmps.setIfInBounds x.1 x.2) tmps) ∧ ((ps.zip xs).foldl (fun tmps (x : Tmp × Value) => tmps.setIfInBounds x.1 x.2) tmps).size = nn := by
  intro ps
  induction ps with
  | nil =>
    intro vs fr fr' tmps xs h hf hs hr
    cases vs with
    | nil =>
      cases hr
      simp only [putAll] at h; injection h with h; subst h
      exact ⟨rfl, hf, hs⟩
    | cons v vs => simp [putAll] at h
  | cons t ps ih =>
    intro vs fr fr' tmps xs h hf hs hr
    cases vs with
    | nil => simp [putAll] at h
    | cons v vs =>
      cases hr with
      | cons a b =>
        rename_i x xs
        simp only [putAll] at h
        replace h := ob_eq h; obtain ⟨fr1, h1, h⟩ := h
        have hf1 := put_sound (a := ⟨tmps, []⟩) hf hs h1 (Ext.refl μ) a
        obtain ⟨h2, h3, h4⟩ := ih vs fr1 fr' (tmps.setIfInBounds t x) xs h hf1 (by simpa using hs) b
        exact ⟨by simp [h2], by simpa using h3, by simpa using h4⟩

variable {call : Caller} (hcall : CallerOK P cx base w0 call)

theorem EndOK.trans {nn : Nat} {μ μ1 : Inj} {H H1 : Heap} {s' : St} {a' : Act} {w' : World} (hg : Grow H.next μ μ1) (hn : H.next ≤ H1.next) (h : EndOK cx base w0 nn μ1 H1 s' a' w') : EndOK cx base w0 nn μ H s' a' w' := by
  obtain ⟨h1, ⟨μ2, h2, h3⟩, h4⟩ := h
  exact ⟨Nat.le_trans hn h1, ⟨μ2, hg.trans h2 hn, h3⟩, h4⟩

include hcx hcall in
theorem cRange_sound {fn : FuncId} {around : Option Nat} {nn : Nat} {x : Operand} {ps : List Tmp} {asg body : Code} {s s' : St} {X : AX} (h : cRange call fn around nn x ps asg body s = some (X, s'))
    {μ : Inj} {a : Act} {w : World} {r : Option Nat} {n : Nat} {Q : Exit → Act → World → Prop} (hf : RelF μ s.fr.get a.tmps) (hs : a.tmps.size = nn) (hd : RelD μ s.ds a.defers) (hw : RelW (szOf cx) base w0 μ s.H w) (hr : Round μ around r)
    (hq : ∀ a' w', EndOK cx base w0 nn μ s.H s' a' w' → Q (exOf X) a' w') : (Code.rangeFunc x ps.toArray asg body).wpIn (FF r) n P Q a w := by
  unfold cRange at h
  replace h := ob_eq h; obtain ⟨v, hv, h⟩ := h
  have rv := ev_sound hf hv
  split at h
  · rename_i g first captured
    replace h := ob_eq h; obtain ⟨⟨d, ds', H1⟩, hq1, h⟩ := h
    replace h := ob_eq h; obtain ⟨⟨v2, H3⟩, hc, h⟩ := h
    simp only at hc h
    generalize hX : a.eval x = F at rv
    cases rv with
    | func r1 r2 =>
      rename_i xs ys
      refine wpIn_rangeFunc fun fn' _ => ?_
      -- the record is laid
      have lay : ∃ (mark : List Deferred) (w1 : World) (i : BI) (μ1 : Inj), (Instr.enterLoop fn' a.tmps ps.toArray asg body r).run P w = .ok (i.blk, mark) w1 ∧
          Grow s.H.next μ μ1 ∧ s.H.next ≤ H1.next ∧ μ1 H1.next = some i ∧ RelD μ1 ds' (mark ++ a.defers) ∧ RelW (szOf cx) base w0 μ1 (H1.new (.loop fn nn s.fr ps asg body d .ready)) w1 := by
        unfold cDefers at hq1
        cases around with
        | none =>
          cases r with
          | some b => exact hr.elim
          | none =>
            simp only at hq1
            injection hq1 with hq1; injection hq1 with e1 e2; injection e2 with e2 e3; subst e1; subst e2; subst e3
            have hwA := hw.newBlk .dfr (.deferred (some [])) ⟨w.heap.size, 0, 0, 0⟩ rfl ⟨hw.newOK, World.alloc_heap_new w _⟩
            have extA := ext_set (⟨w.heap.size, 0, 0, 0⟩ : BI) hw.unmapped
            have hm : (μ.set s.H.next ⟨w.heap.size, 0, 0, 0⟩) s.H.next = some ⟨w.heap.size, 0, 0, 0⟩ := Inj.set_same _ _ _
            have extB := ext_set (⟨w.heap.size + 1, 0, 0, 0⟩ : BI) hwA.unmapped
            have hwB := hwA.newBlk (.loop fn nn s.fr ps asg body s.H.next .ready) (.loop { state := .ready, pending := none, fn := fn', tmps := a.tmps, params := ps.toArray, assign := asg, body := body, defers := w.heap.size }) ⟨w.heap.size + 1, 0, 0, 0⟩ (by simp)
              ⟨by have := hwA.newOK; simpa using this, a.tmps, ⟨w.heap.size, 0, 0, 0⟩, .ready, none, fn', by have := World.alloc_heap_new (w.alloc (.deferred (some []))) (.loop { state := .ready, pending := none, fn := fn', tmps := a.tmps, params := ps.toArray, assign := asg, body := body, defers := w.heap.size }); rwa [World.size_alloc] at this,
                extB _ _ hm, hs, (hf.mono extA).mono extB, trivial⟩
            refine ⟨_, _, ⟨w.heap.size + 1, 0, 0, 0⟩, _, run_enterLoop_outer fn' a.tmps ps.toArray asg body, ?_, by simp, Inj.set_same _ _ _, .cons (i := ⟨w.heap.size, 0, 0, 0⟩) (extB _ _ hm) ((hd.mono extA).mono extB), hwB⟩
            exact (grow_set _ _ _).trans (grow_set _ _ _) (by simp)
        | some lo =>
          cases r with
          | none => exact hr.elim
          | some b =>
            obtain ⟨i0, hi0, hib⟩ := hr
            simp only at hq1
            split at hq1
            · rename_i d0 st0 hg0
              injection hq1 with hq1; injection hq1 with e1 e2; injection e2 with e2 e3; subst e1; subst e2; subst e3
              obtain ⟨hb0, tmps0, di0, ls0, pe0, fn0, g1, g2, g3, g4, g5⟩ := hw.loop hi0 hg0
              rw [hib] at g1
              have extB := ext_set (⟨w.heap.size, 0, 0, 0⟩ : BI) hw.unmapped
              have hwB := hw.newBlk (.loop fn nn s.fr ps asg body d0 .ready) (.loop { state := .ready, pending := none, fn := fn', tmps := a.tmps, params := ps.toArray, assign := asg, body := body, defers := di0.blk }) ⟨w.heap.size, 0, 0, 0⟩ rfl
                ⟨hw.newOK, a.tmps, di0, .ready, none, fn', World.alloc_heap_new w _, extB _ _ g2, hs, hf.mono extB, trivial⟩
              exact ⟨_, _, ⟨w.heap.size, 0, 0, 0⟩, _, run_enterLoop_inner g1 fn' a.tmps ps.toArray asg body, grow_set _ _ _, Nat.le_refl _, Inj.set_same _ _ _, hd.mono extB, hwB⟩
            · cases hq1
      obtain ⟨mark, w1, i, μ1, hrun, hg1, hn1, hi, hd1, hw1⟩ := lay
      have ext1 := hw.ext hg1
      have hargs : RelL μ1 (first ++ [AV.yield H1.next] ++ captured) (xs ++ [Value.func (.yield i.blk) #[] #[]] ++ ys) :=
        (((r1.mono ext1).append (.cons (.yield hi) .nil)).append (r2.mono ext1))
      obtain ⟨hc1, hc2⟩ := hcall.fn hc hw1 hargs
      refine ⟨i.blk, mark, w1, { target := .fn (.func g) ys.toArray, args := xs.toArray ++ #[.func (.yield i.blk) #[] #[]] }, w1, g, _, w1, hrun, ?_, fun _ _ => trivial, ?_, fun e => (by cases e), (hc2 r (n - 1)).mono ?_⟩
      · have e1 : (#[Operand.const (.func (.yield i.blk) #[] #[])] : Array Operand).map a.eval = #[Value.func (.yield i.blk) #[] #[]] := by simp [Act.eval]
        simp only [resolve, rangeCall, hX, Deferred.ofValue, e1, Sem.run_pure]
      · rw [← hc1]; simp [invoke]
      · rintro e w3 ⟨Z, rfl, hn2, μ2, hg2, hZ, hw3⟩
        have ext2 := hw1.ext hg2
        have hi2 := ext2 _ _ hi
        have hH1 : H1.next + 1 ≤ H3.next := by simpa using hn2
        -- the loop's end
        have done : ∀ (st : LS) (fn2 n2 : Nat) (fr2 : Fr) (ps2 : List Tmp) (asg2 body2 : Code) (d2 : Nat), H3.get H1.next = .loop fn2 n2 fr2 ps2 asg2 body2 d2 st → st ≠ .busy → s' = ⟨s.fr, ds', H3.put H1.next .dead⟩ →
            ∃ ls pe w4, (Instr.endLoop i.blk).run P w3 = .ok pe w4 ∧ st.fit ls pe ∧ EndOK cx base w0 nn μ s.H s' { a with defers := mark ++ a.defers } w4 := by
          intro st fn2 n2 fr2 ps2 asg2 body2 d2 hgL hnb hs'
          obtain ⟨hb, tmps, di, ls, pe, fn3, g1, g2, g3, g4, g5⟩ := hw3.loop hi2 hgL
          have hls : ls ≠ .busy := by
            intro e; subst e
            cases st <;> first | exact g5.elim | exact hnb rfl | (cases pe <;> exact g5.elim)
          refine ⟨ls, pe, _, run_endLoop g1 hls, g5, ?_⟩
          subst hs'
          refine ⟨by simp; omega, ⟨μ2, hg1.trans hg2 (by simp; omega), (hf.mono ext1).mono ext2, hd1.mono ext2, ?_⟩, hs⟩
          exact RelW.gone hw3 hi2 (by rw [hgL]; rfl) _
        unfold cEnd at h
        split at h
        · rename_i fn2 n2 fr2 ps2 asg2 body2 d2 st hgL
          split at h
          · injection h with h; injection h with h1 h2
            subst h1
            obtain ⟨ls, pe, w4, h3, h4, h5⟩ := done .ready _ _ _ _ _ _ _ hgL (by simp) h2.symm
            refine ⟨pe, w4, h3, ?_⟩
            have hpe : pe = none := by
              cases ls <;> cases pe <;> first | rfl | exact h4.elim
            subst hpe
            exact hq _ _ h5
          · rename_i j
            replace h := ob_eq h; obtain ⟨X', hX', h⟩ := h
            injection h with h; injection h with h1 h2
            subst h1
            obtain ⟨ls, pe, w4, h3, h4, h5⟩ := done (.done j) _ _ _ _ _ _ _ hgL (by simp) h2.symm
            refine ⟨pe, w4, h3, ?_⟩
            have hpe : pe = some j := by
              cases ls <;> cases pe <;> first | exact h4.elim | (simp only [LS.fit] at h4; rw [h4])
            subst hpe
            unfold axOf at hX'
            split at hX'
            · injection hX' with hX'; subst hX'; exact wpIn_exit (hq _ _ h5)
            · injection hX' with hX'; subst hX'; exact wpIn_ret (hq _ _ h5)
            · cases hX'
          · cases h
        · cases h
  · cases h

/-- no loop over a function in it. -/
def noRange : Code → Bool
  | .seq a b => noRange a && noRange b
  | .cond _ a b => noRange a && noRange b
  | .block _ b => noRange b
  | .loop b => noRange b
  | .rangeFunc _ _ _ _ => false
  | _ => true

/-- What is known of blocks of code, is so. -/
def LoopsOK (P : Program) (cx : Cx) (base : Nat → Prop) (w0 : World) : Prop :=
  ∀ {fn : FuncId} {id : Nat} {L : LSum}, cx.loop fn id = some L → ∀ {nn : Nat} {r : Option Nat} {n : Nat} {s s' : St} {X : AX} {μ : Inj} {a : Act} {w : World} {Q : Exit → Act → World → Prop},
    L.run nn s = some (X, s') → RelF μ s.fr.get a.tmps → a.tmps.size = nn → RelD μ s.ds a.defers → RelW (szOf cx) base w0 μ s.H w →
    (∀ a' w', EndOK cx base w0 nn μ s.H s' a' w' → Q (exOf X) a' w') → (Code.block id L.code).wpIn (FF r) n P Q a w
variable (hloop : LoopsOK P cx base w0)

include hcx hcall hloop in
/-- **Code.** -/
theorem aCode_sound {fn : FuncId} {around : Option Nat} {nn : Nat} {r : Option Nat} {n : Nat} : ∀ (f : Nat) (c : Code) (s s' : St) (X : AX) (μ : Inj) (a : Act) (w : World) (Q : Exit → Act → World → Prop),
    aCode cx call fn around nn f c s = some (X, s') → RelF μ s.fr.get a.tmps → a.tmps.size = nn → RelD μ s.ds a.defers → RelW (szOf cx) base w0 μ s.H w → (noRange c = true ∨ Round μ around r) →
    (∀ a' w', EndOK cx base w0 nn μ s.H s' a' w' → Q (exOf X) a' w') → c.wpIn (FF r) n P Q a w := by
  intro f
  induction f using Nat.strongRecOn with
  | ind f IH =>
    cases f with
    | zero => intro c s s' X μ a w Q h; simp at h
    | succ f =>
      intro c s s' X μ a w Q h hf hs hd hw hr hq
      -- what goes on behind a run that ends normally
      have chain : ∀ {nr : Bool} {μ : Inj} {s : St} {y : AX × St} {run : St → Option (AX × St)} {K : Act → World → Prop} {Q : Exit → Act → World → Prop} (hw : RelW (szOf cx) base w0 μ s.H w) (hr : nr = true ∨ Round μ around r), cThen run y = some (X, s') →
          (∀ a' w', EndOK cx base w0 nn μ s.H s' a' w' → Q (exOf X) a' w') →
          (∀ μ1 a1 w1, run y.2 = some (X, s') → RelF μ1 y.2.fr.get a1.tmps → a1.tmps.size = nn → RelD μ1 y.2.ds a1.defers → RelW (szOf cx) base w0 μ1 y.2.H w1 → (nr = true ∨ Round μ1 around r) → (∀ a' w', EndOK cx base w0 nn μ1 y.2.H s' a' w' → Q (exOf X) a' w') → K a1 w1) →
          ∀ a1 w1, EndOK cx base w0 nn μ s.H y.2 a1 w1 → Exit.then K Q (exOf y.1) a1 w1 := by
        intro nr μ s y run K Q hw hr hc hq hk a1 w1 he
        obtain ⟨y1, y2⟩ := y
        obtain ⟨h1, ⟨μ1, h2, h3, h4, h5⟩, h6⟩ := he
        cases y1 with
        | normal =>
          simp only [cThen] at hc
          exact hk μ1 a1 w1 hc h3 h6 h4 h5 (hr.imp id fun h => h.mono (hw.ext h2)) fun a' w' hx => hq a' w' (EndOK.trans h2 h1 hx)
        | exit id =>
          simp only [cThen] at hc
          injection hc with hc; injection hc with e1 e2; subst e1; subst e2
          exact hq a1 w1 ⟨h1, ⟨μ1, h2, h3, h4, h5⟩, h6⟩
        | ret =>
          simp only [cThen] at hc
          injection hc with hc; injection hc with e1 e2; subst e1; subst e2
          exact hq a1 w1 ⟨h1, ⟨μ1, h2, h3, h4, h5⟩, h6⟩
      rw [aCode_succ] at h
      unfold aCode1 at h
      split at h
      · -- skip
        injection h with h; injection h with h1 h2; subst h1; subst h2
        exact wpIn_skip (hq a w ⟨Nat.le_refl _, ⟨μ, Grow.refl _ _, hf, hd, hw⟩, hs⟩)
      · -- a region
        rename_i id ops draw
        unfold cRegion at h
        replace h := ob_eq h; obtain ⟨⟨fr', H'⟩, h1, h⟩ := h
        injection h with h; injection h with e1 e2; subst e1; subst e2
        have hq' : ∀ a' w', RunOK cx base w0 nn μ s.H a.defers fr' H' a' w' → Q .normal a' w' := by
          rintro a' w' ⟨h2, ⟨μ', h3, h4, h5⟩, h6, h7⟩
          exact hq a' w' ⟨h2, ⟨μ', h3, h4, by rw [h7]; exact hd.mono (hw.ext h3), h5⟩, h6⟩
        cases draw with
        | true => rw [cb_true] at h1; exact aDraw_sound hcx hcall h1 hf hs hw hq'
        | false =>
          rw [cb_false] at h1
          refine wpIn_region ?_
          have := aOps_sound hcx hcall (r := r) (n := n) (Q := Q) ops.toList 0 μ s.fr s.H a w fr' H' (by simp) h1 hf hs hw hq'
          rw [List.range_eq_range']
          simpa using this
      · -- one behind the other
        rename_i x y
        replace h := ob_eq h; obtain ⟨z, hz, h⟩ := h
        refine wpIn_seq (IH f (by omega) x s z.2 z.1 μ a w _ hz hf hs hd hw (hr.imp (fun h => by simp only [noRange, Bool.and_eq_true] at h; exact h.1) id) ?_)
        exact chain (nr := noRange y) hw (hr.imp (fun h => by simp only [noRange, Bool.and_eq_true] at h; exact h.2) id) h hq fun μ1 a1 w1 h1 h2 h3 h4 h5 h6 h7 => IH f (by omega) y z.2 s' X μ1 a1 w1 Q h1 h2 h3 h4 h5 h6 h7
      · -- a branch
        rename_i x y z
        unfold cCond at h
        replace h := ob_eq h; obtain ⟨v, hv, h⟩ := h
        replace h := ob_eq h; obtain ⟨t, ht, h⟩ := h
        have rv := ev_sound hf hv
        cases bool?_eq ht
        have e := rel_bool rv
        refine wpIn_cond e ?_
        cases t with
        | true => exact IH f (by omega) y s s' X μ a w Q h hf hs hd hw (hr.imp (fun h => by simp only [noRange, Bool.and_eq_true] at h; exact h.1) id) hq
        | false => exact IH f (by omega) z s s' X μ a w Q h hf hs hd hw (hr.imp (fun h => by simp only [noRange, Bool.and_eq_true] at h; exact h.2) id) hq
      · -- a block
        rename_i id b
        have hh : (((aCode cx call fn around nn f b s).ob (cBlock id)) = some (X, s')) ∨ ∃ L, cx.loop fn id = some L ∧ b = L.code ∧ L.run nn s = some (X, s') := by
          unfold hook at h
          split at h
          · exact .inl h
          · rename_i L hL
            split at h
            · rename_i hb
              split at h
              · rename_i q hq'
                injection h with h; subst h
                exact .inr ⟨L, hL, hb, hq'⟩
              · exact .inl h
            · exact .inl h
        clear h
        rcases hh with h | ⟨L, hL, rfl, h⟩
        rotate_left
        · exact hloop hL h hf hs hd hw hq
        replace h := ob_eq h; obtain ⟨z, hz, h⟩ := h
        obtain ⟨z1, z2⟩ := z
        refine wpIn_block (IH f (by omega) b s z2 z1 μ a w _ hz hf hs hd hw hr fun a' w' he => ?_)
        unfold cBlock at h
        cases z1 with
        | normal => simp only at h; injection h with h; injection h with e1 e2; subst e1; subst e2; exact hq a' w' he
        | ret => simp only at h; injection h with h; injection h with e1 e2; subst e1; subst e2; exact hq a' w' he
        | exit id' =>
          simp only at h
          simp only [exOf, Exit.inBlock]
          split at h
          · rename_i hid
            injection h with h; injection h with e1 e2; subst e1; subst e2
            rw [if_pos hid]; exact hq a' w' he
          · rename_i hid
            injection h with h; injection h with e1 e2; subst e1; subst e2
            rw [if_neg hid]; exact hq a' w' he
      · -- a loop
        rename_i b
        have rounds : ∀ (g : Nat), g ≤ f + 1 → ∀ (s : St) (μ : Inj) (a : Act) (w : World), aCode cx call fn around nn g (.loop b) s = some (X, s') → RelF μ s.fr.get a.tmps → a.tmps.size = nn → RelD μ s.ds a.defers → RelW (szOf cx) base w0 μ s.H w → (noRange b = true ∨ Round μ around r) →
            (∀ a' w', EndOK cx base w0 nn μ s.H s' a' w' → Q (exOf X) a' w') → Code.roundsIn (FF r) n P b Q g a w := by
          intro g
          induction g with
          | zero => intro _ s μ a w h; simp at h
          | succ g ihg =>
            intro hle s μ a w h hf hs hd hw hr hq
            rw [aCode_succ] at h
            simp only [aCode1] at h
            replace h := ob_eq h; obtain ⟨z, hz, h⟩ := h
            rw [roundsIn_succ]
            refine IH g (by omega) b s z.2 z.1 μ a w _ hz hf hs hd hw hr ?_
            obtain ⟨z1, z2⟩ := z
            intro a1 w1 he
            obtain ⟨h1, ⟨μ1, h2, h3, h4, h5⟩, h6⟩ := he
            cases z1 with
            | normal =>
              simp only [cThen] at h
              exact ihg (by omega) z2 μ1 a1 w1 h h3 h6 h4 h5 (hr.imp id fun h => h.mono (hw.ext h2)) fun a' w' hx => hq a' w' (EndOK.trans h2 h1 hx)
            | exit id =>
              simp only [cThen] at h
              injection h with h; injection h with e1 e2; subst e1; subst e2
              exact hq a1 w1 ⟨h1, ⟨μ1, h2, h3, h4, h5⟩, h6⟩
            | ret =>
              simp only [cThen] at h
              injection h with h; injection h with e1 e2; subst e1; subst e2
              exact hq a1 w1 ⟨h1, ⟨μ1, h2, h3, h4, h5⟩, h6⟩
        exact wpIn_loop_rounds (f + 1) (rounds (f + 1) (Nat.le_refl _) s μ a w (by rw [aCode_succ]; exact h) hf hs hd hw hr hq)
      · -- ways out
        injection h with h; injection h with h1 h2; subst h1; subst h2
        exact wpIn_exit (hq a w ⟨Nat.le_refl _, ⟨μ, Grow.refl _ _, hf, hd, hw⟩, hs⟩)
      · injection h with h; injection h with h1 h2; subst h1; subst h2
        exact wpIn_ret (hq a w ⟨Nat.le_refl _, ⟨μ, Grow.refl _ _, hf, hd, hw⟩, hs⟩)
      · -- a loop over a function
        rename_i x ps asg body
        have := cRange_sound hcx hcall h (r := r) (n := n) (Q := Q) hf hs hd hw (hr.resolve_left (by simp [noRange])) hq
        rwa [Array.toArray_toList] at this
      · cases h
end
end Go.Ab
end
end

/- Calls: the soundness of the abstract machine. -/
section
section
set_option autoImplicit false
set_option linter.unusedVariables false
set_option linter.unusedSimpArgs false
set_option linter.unusedSectionVars false
namespace Go.Ab
open Go.RowKit

theorem ofList_get : ∀ (l : List AV) (i : Nat) (fr : Fr) (t : Nat), (ofList i l fr).get t = if i ≤ t ∧ t < i + l.length then (l[t - i]?).getD .undef else fr.get t := by
  intro l
  induction l with
  | nil => intro i fr t; rw [if_neg (by simp)]; rfl
  | cons v l ih =>
    intro i fr t
    show (ofList (i + 1) l (T.set .undef fr i v)).get t = _
    rw [ih]
    have hg : ∀ t, Fr.get (T.set .undef fr i v) t = if t = i then v else fr.get t := fun t => T.get_set _ _ _ _ _
    by_cases h : t = i
    · subst h
      rw [if_neg (by omega), hg, if_pos rfl, if_pos (by simp)]
      simp
    · by_cases h2 : i ≤ t ∧ t < i + (v :: l).length
      · simp only [List.length_cons] at h2
        rw [if_pos (by omega), if_pos (by simp only [List.length_cons]; omega)]
        obtain ⟨q, hq⟩ : ∃ q, t - i = q + 1 := ⟨t - i - 1, by omega⟩
        rw [hq, List.getElem?_cons_succ, show t - (i + 1) = q from by omega]
      · simp only [List.length_cons] at h2
        rw [if_neg (by omega), if_neg (by simp only [List.length_cons]; omega), hg, if_neg h]

theorem start_sound {μ : Inj} {args : List AV} {xs : List Value} (h : RelL μ args xs) (n : Nat) (hn : args.length ≤ n) :
    RelF μ (ofList 0 args .nil).get (xs.toArray ++ Array.replicate (n - xs.toArray.size) undef) ∧ (xs.toArray ++ Array.replicate (n - xs.toArray.size) undef).size = n := by
  have hl := h.length
  refine ⟨fun (t : Nat) => ?_, by simp; omega⟩
  rw [ofList_get, Array.getD_eq_getD_getElem?, Array.getElem?_append]
  by_cases ht : t < args.length
  · have c1 : 0 ≤ t ∧ t < 0 + args.length := by omega
    have c2 : t < xs.toArray.size := by simp; omega
    rw [if_pos c1, if_pos c2]
    obtain ⟨x, hx, hr⟩ := h.get t _ (List.getElem?_eq_getElem ht)
    simp only [Nat.sub_zero, List.getElem?_toArray, hx, List.getElem?_eq_getElem ht, Option.getD_some]
    exact hr
  · have c1 : ¬ (0 ≤ t ∧ t < 0 + args.length) := by omega
    have c2 : ¬ t < xs.toArray.size := by simp; omega
    rw [if_neg c1, if_neg c2]
    have e : (Array.replicate (n - xs.toArray.size) undef)[t - xs.toArray.size]?.getD undef = undef := by
      rw [Array.getElem?_replicate]; split <;> rfl
    rw [e]; exact .undef

section
variable {P : Program} {cx : Cx} (hcx : CxOK P cx) {base : Nat → Prop} {w0 : World}

/-- a result, as the machine reads it. -/
def rvRun (tmps : Array Value) : ResultVar → Sem Value
  | .tmp t => pure (tmps.getD t undef)
  | .cell a t => do loadVar t (← asAddr (tmps.getD a undef))

include hcx in
theorem result_sound {μ : Inj} {fr : Fr} {H : Heap} {tmps : Array Value} {w : World} (hf : RelF μ fr.get tmps) (hw : RelW (szOf cx) base w0 μ H w) {rv : ResultVar} {v : AV} (h : aResult cx fr H rv = some v) :
    ∃ z, (rvRun tmps rv).run P w = .ok z w ∧ RelV μ v z := by
  cases rv with
  | tmp t => exact ⟨_, rfl, known_sound (a := { tmps := tmps, defers := [] }) hf h⟩
  | cell a t =>
    simp only [aResult] at h
    obtain ⟨z, h1, h2⟩ := aLoad_sound hcx hw h (hf a)
    have hra := hf a
    have hp : ∃ ad, tmps.getD a undef = .pointer (some ad) := by
      unfold aLoad at h
      split at h
      · rename_i cs hg
        rw [hg] at hra
        cases hx : tmps.getD a undef <;> rw [hx] at hra <;> cases hra
        exact ⟨_, rfl⟩
      · rename_i hno
        unfold aLoad0 at h
        split at h
        · rename_i ty p _ hg
          rw [hg] at hra
          obtain ⟨i, _, e⟩ := rel_ptr hra
          exact ⟨_, e⟩
        · cases h
    obtain ⟨ad, e⟩ := hp
    refine ⟨z, ?_, h2⟩
    show (do loadVar t (← asAddr (tmps.getD a undef)) : Sem Value).run P w = _
    rw [e] at h1 ⊢
    simp only [asAddr, pure_bind]
    simpa [Instr.loadAt, Instr.sureAddr] using h1

include hcx in
theorem results_sound {μ : Inj} {fr : Fr} {H : Heap} {tmps : Array Value} {w : World} (hf : RelF μ fr.get tmps) (hw : RelW (szOf cx) base w0 μ H w) :
    ∀ {rs : List ResultVar} {vs : List AV}, aResults cx fr H rs = some vs → ∃ zs, (rs.mapM (rvRun tmps)).run P w = .ok zs w ∧ RelL μ vs zs := by
  intro rs
  induction rs with
  | nil => intro vs h; simp only [aResults] at h; injection h with h; subst h; exact ⟨[], by simp, .nil⟩
  | cons r rs ih =>
    intro vs h
    simp only [aResults] at h
    replace h := ob_eq h; obtain ⟨v, hv, h⟩ := h
    replace h := ob_eq h; obtain ⟨us, hus, h⟩ := h
    injection h with h; subst h
    obtain ⟨z, h1, h2⟩ := result_sound (P := P) hcx hf hw hv
    obtain ⟨zs, h3, h4⟩ := ih hus
    refine ⟨z :: zs, ?_, .cons h2 h4⟩
    rw [List.mapM_cons]
    simp [h1, h3]

include hcx in
theorem ends_sound {μ : Inj} {fr : Fr} {H : Heap} {tmps : Array Value} {w : World} (hf : RelF μ fr.get tmps) (hw : RelW (szOf cx) base w0 μ H w) {fn : Func} {vs : List AV} (h : aResults cx fr H fn.results.toList = some vs) :
    ∃ z, (results fn tmps).run P w = .ok z w ∧ RelV μ (single vs) z := by
  obtain ⟨zs, h1, h2⟩ := results_sound (P := P) hcx hf hw h
  have hl := h2.length
  have hrun : (results fn tmps).run P w = .ok (if h : zs.toArray.size = 1 then zs.toArray[0] else .tuple zs.toArray) w := by
    have e : results fn tmps = (do let vs ← fn.results.mapM (rvRun tmps); pure (if h : vs.size = 1 then vs[0] else .tuple vs)) := rfl
    rw [e, ← Array.toArray_toList (xs := fn.results), List.mapM_toArray]
    simp [h1]
  refine ⟨_, hrun, ?_⟩
  unfold single
  split
  · cases h2 with
    | cons a b => cases b; simpa using a
  · rename_i hne
    rw [dif_neg (by
      intro e
      simp at e
      rw [hl] at e
      match vs, e, hne with
      | [v], _, hne => exact hne v rfl)]
    exact .tuple h2

theorem shut_sound {fn : Func} {tmps : Array Value} {R : Ending → World → Prop} {F : Fence} {n : Nat} : ∀ (ds : List Nat) (H H' : Heap) (μ : Inj) (es : List Deferred) (w : World), shut ds H = some H' → RelD μ ds es → RelW (szOf cx) base w0 μ H w →
    H'.next = H.next ∧ ((∀ w', RelW (szOf cx) base w0 μ H' w' → LeavesIn F n P fn tmps R [] .returning w') → LeavesInM F n P fn tmps R es .returning w) := by
  intro ds
  induction ds with
  | nil => intro H H' μ es w h hd hw; cases hd; simp only [shut] at h; injection h with h; subst h; exact ⟨rfl, fun hk => hk w hw⟩
  | cons d ds ih =>
    intro H H' μ es w h hd hw
    cases hd with
    | cons hi hd =>
      rename_i i es
      simp only [shut] at h
      split at h
      · rename_i hg
        have hb := hw.blk d i hi
        rw [hg] at hb
        have hw' := RelW.gone hw hi (by rw [hg]; rfl) (.deferred none)
        obtain ⟨h1, h2⟩ := ih _ H' μ es _ h hd hw'
        refine ⟨h1, fun hk => ?_⟩
        exact ⟨by simp, .inl ⟨i.blk, _, rfl, run_takeDeferred hb.2, h2 hk⟩⟩
      · cases h

/-- What a summary of a function owes. -/
def SumOK (P : Program) (cx : Cx) (base : Nat → Prop) (w0 : World) : Prop :=
  ∀ {g : FuncId} {args : List AV} {H H' : Heap} {v : AV} {μ : Inj} {w : World} {xs : List Value}, cx.sum g args H = some (v, H') → RelW (szOf cx) base w0 μ H w → RelL μ args xs →
    ∀ r n, CallsIn (FF r) n P g xs.toArray w (CallPost cx base w0 μ H v H')

variable (hsum : SumOK P cx base w0) (hloop : LoopsOK P cx base w0)

include hcx in
theorem callFunc_run {g : FuncId} {fn : Func} (h : cx.fn g = some fn) (w : World) (args : Array Value) : (callFunc g args).run P w = .ok (.enter g args) w := by
  obtain ⟨h1, h2, h3⟩ := hcx.fn g fn h
  have h2' : ¬ fn.name = "runtime.NumGoroutine" := by simpa using h2
  have h3' : ¬ fn.body = none := by
    intro e; rw [e] at h3; cases h3
  simp [callFunc, h1, h2', h3']

include hcx hsum hloop in
/-- **The abstract machine's calls are the program's.** -/
theorem aCall_sound : ∀ f, CallerOK P cx base w0 (aCall cx f) := by
  intro f
  induction f with
  | zero => exact ⟨fun h => by simp at h, fun h => by simp at h⟩
  | succ f ih =>
    refine ⟨?_, ?_⟩
    · intro g args H H' v μ w xs h hw hr
      rw [aCall_succ] at h
      simp only [aCall1, callFn] at h
      replace h := ob_eq h; obtain ⟨fn, hfn, h⟩ := h
      refine ⟨callFunc_run hcx hfn w _, fun r n => ?_⟩
      split at h
      · rename_i q hq
        injection h with h; subst h
        exact hsum hq hw hr r n
      · unfold callBody at h
        replace h := ob_eq h; obtain ⟨body, hbody, h⟩ := h
        split at h
        · rename_i hle
          replace h := ob_eq h; obtain ⟨⟨X, s'⟩, hrun, h⟩ := h
          obtain ⟨h1, h2, h3⟩ := hcx.fn g fn hfn
          obtain ⟨hf0, hs0⟩ := start_sound hr fn.ntmps hle
          have hwp := aCode_sound hcx ih hloop (r := none) (n := n) f body ⟨ofList 0 args .nil, [], H⟩ s' X μ { tmps := xs.toArray ++ Array.replicate (fn.ntmps - xs.toArray.size) undef, defers := [] } w
            (bodyPostM (FF none) n P fn (CallPost cx base w0 μ H v H')) hrun hf0 hs0 .nil hw (.inr trivial) ?_
          · exact callsIn_of_wp_marks (F := FF none) h1 hbody trivial hwp
          · rintro a' w' ⟨e1, ⟨μ', e2, e3, e4, e5⟩, e6⟩
            unfold callEnd at h
            have fin : (shut s'.ds s'.H).ob (fun H' => (aResults cx s'.fr H' fn.results.toList).ob fun vs => some (single vs, H')) = some (v, H') → LeavesInM (FF none) n P fn a'.tmps (CallPost cx base w0 μ H v H') a'.defers .returning w' := by
              intro h
              replace h := ob_eq h; obtain ⟨H2, hH2, h⟩ := h
              replace h := ob_eq h; obtain ⟨vs, hvs, h⟩ := h
              injection h with h; injection h with e7 e8; subst e7; subst e8
              obtain ⟨e9, e10⟩ := shut_sound (P := P) (fn := fn) (tmps := a'.tmps) (R := CallPost cx base w0 μ H (single vs) H2) (F := FF none) (n := n) _ _ _ _ _ _ hH2 e4 e5
              refine e10 fun w2 hw2 => ?_
              obtain ⟨z, hz, hrz⟩ := ends_sound (P := P) hcx e3 hw2 hvs
              exact ⟨z, hz, z, rfl, by rw [e9]; exact e1, μ', e2, hrz, hw2⟩
            cases X with
            | normal => exact fin h
            | ret => exact fin h
            | exit id => cases h
        · cases h
    · intro l args H H' v μ w xs i h hw hr hi
      rw [aCall_succ] at h
      simp only [aCall1, callYield] at h
      split at h
      · rename_i fn n fr ps asg body d hg
        replace h := ob_eq h; obtain ⟨fr', hput, h⟩ := h
        replace h := ob_eq h; obtain ⟨⟨X, s1⟩, hrun1, h⟩ := h
        obtain ⟨hb, tmps, di, ls, pe, fn', g1, g2, g3, g4, g5⟩ := hw.loop hi hg
        obtain ⟨p1, p2, p3⟩ := putAll_sound ps args fr fr' tmps xs hput g4 g3 hr
        refine ⟨_, _, _, _, run_yield g1 (by simpa using p1), fun r m => ?_⟩
        have hfold : (ps.toArray.zip xs.toArray).foldl (fun tmps (x : Tmp × Value) => tmps.setIfInBounds x.1 x.2) tmps = (ps.zip xs).foldl (fun tmps (x : Tmp × Value) => tmps.setIfInBounds x.1 x.2) tmps := by
          simp
        refine roundIn_of_wpIn (F := FF r) trivial ?_
        show asg.wpIn (FF (some i.blk)) m P _ _ w
        unfold roundBody at h
        rw [cb_eq] at h
        split at h
        · rename_i hcond
          rw [Bool.and_eq_true] at hcond
          replace h := ob_eq h; obtain ⟨⟨Y, s2⟩, hrun2, h⟩ := h
          simp only at hrun2 h hcond
          cases X <;> simp only [AX.isNormal, Bool.false_eq_true, false_and] at hcond
          have hcond := hcond.2
          refine aCode_sound hcx ih hloop (r := some i.blk) (n := m) f asg ⟨fr', [], H⟩ s1 .normal μ _ w _ hrun1 (by simp only; exact hfold ▸ p2) (by simp only; exact hfold ▸ p3) .nil hw (.inr ⟨i, hi, rfl⟩) ?_
          rintro a1 w1 ⟨e1, ⟨μ1, e2, e3, e4, e5⟩, e6⟩
          have hi1 := hw.ext e2 _ _ hi
          unfold isReady at hcond
          split at hcond
          · rename_i fn2 n2 fr2 ps2 asg2 body2 d2 hg2
            obtain ⟨hb2, tmps2, di2, ls2, pe2, fn2', q1, q2, q3, q4, q5⟩ := e5.loop hi1 hg2
            have hls2 : ls2 = .ready := by cases ls2 <;> cases pe2 <;> first | rfl | exact q5.elim
            refine ⟨_, run_beginRound q1 hls2, ?_⟩
            have hw2 := RelW.turn e5 hi1 hg2 .busy .busy pe2 trivial q1
            refine aCode_sound hcx ih hloop (r := some i.blk) (n := m) f body ⟨s1.fr, s1.ds, s1.H.put l (Blk.setLS .busy (s1.H.get l))⟩ s2 Y μ1 a1 _ _ hrun2 e3 e6 e4 hw2 (.inr ⟨i, hi1, rfl⟩) ?_
            rintro a2 w2 ⟨f1, ⟨μ2, f2, f3, f4, f5⟩, f6⟩
            simp only [Heap.next_put] at f1 f2
            have hi2 := (e5.ext f2) _ _ hi1
            unfold roundEnd at h
            rw [cb_eq] at h
            split at h
            · rename_i hbusy
              injection h with h; injection h with h7 h8; subst h7; subst h8
              unfold isBusy at hbusy
              split at hbusy
              · rename_i fn3 n3 fr3 ps3 asg3 body3 d3 hg3
                simp only at hg3
                obtain ⟨hb3, tmps3, di3, ls3, pe3, fn3', t1, t2, t3, t4, t5⟩ := f5.loop hi2 hg3
                have fin : ∀ (j : Option Code), j = jumpOf Y → ∃ v w', (Instr.endRound i.blk j).run P w2 = .ok v w' ∧ CallPost cx base w0 μ H (.bool (jumpOf Y).isNone) (s2.H.put l (Blk.setLS (lsOf Y) (s2.H.get l))) (.returned v) w' := by
                  rintro j rfl
                  refine ⟨_, _, run_endRound (jumpOf Y) t1, _, rfl, ?_, μ2, e2.trans f2 e1, .bool _, ?_⟩
                  · simp only [Heap.next_put] at f1 e1 ⊢; omega
                  · refine RelW.turn f5 hi2 hg3 (lsOf Y) _ _ ?_ t1
                    cases Y <;> simp [lsOf, jumpOf, LS.fit]
                cases Y with
                | normal => exact fin none rfl
                | exit id => exact fin (some (.exit id)) rfl
                | ret => exact fin (some .ret) rfl
              · cases hbusy
            · cases h
          · cases hcond
        · cases h
      · cases h
end
end Go.Ab
end
end

/- The tables, checked by the kernel; a call of the program out of a call of the abstract machine. -/
section
section
set_option autoImplicit false
set_option linter.unusedVariables false
set_option linter.unusedSimpArgs false
set_option linter.unusedSectionVars false
namespace Go.Ab
open Go.RowKit

/-- All that stands in a trie. -/
def T.allB {α : Type} (f : Nat → α → Bool) : T (Option α) → (Nat → Nat) → Bool
  | .nil, _ => true
  | .node v l r, φ => (match v with | some x => f (φ 0) x | none => true) && T.allB f l (fun n => φ (2 * n + 1)) && T.allB f r (fun n => φ (2 * n + 2))

theorem T.allB_get {α : Type} (f : Nat → α → Bool) : ∀ (t : T (Option α)) (φ : Nat → Nat), T.allB f t φ = true → ∀ n x, T.get none t n = some x → f (φ n) x = true := by
  intro t
  induction t with
  | nil => intro φ _ n x h; rw [T.get_nil] at h; cases h
  | node v l r ihl ihr =>
    intro φ h n x hx
    simp only [T.allB, Bool.and_eq_true] at h
    rw [T.get_node] at hx
    split at hx
    · rename_i h0
      subst h0
      rw [hx] at h
      exact h.1.1
    · split at hx
      · rename_i h0 h1
        have := ihl _ h.1.2 _ _ hx
        rwa [show 2 * (n / 2) + 1 = n from by omega] at this
      · rename_i h0 h1
        have := ihr _ h.2 _ _ hx
        rwa [show 2 * (n / 2 - 1) + 2 = n from by omega] at this

/-- Likewise as a proposition. -/
def T.All {α : Type} (p : Nat → α → Prop) : T (Option α) → (Nat → Nat) → Prop
  | .nil, _ => True
  | .node v l r, φ => (∀ x, v = some x → p (φ 0) x) ∧ T.All p l (fun n => φ (2 * n + 1)) ∧ T.All p r (fun n => φ (2 * n + 2))
theorem T.all_get {α : Type} (p : Nat → α → Prop) : ∀ (t : T (Option α)) (φ : Nat → Nat), T.All p t φ → ∀ n x, T.get none t n = some x → p (φ n) x := by
  intro t
  induction t with
  | nil => intro φ _ n x h; rw [T.get_nil] at h; cases h
  | node v l r ihl ihr =>
    intro φ h n x hx
    rw [T.get_node] at hx
    split at hx
    · rename_i h0; subst h0; exact h.1 x hx
    · split at hx
      · rename_i h0 h1
        have := ihl _ h.2.1 _ _ hx
        rwa [show 2 * (n / 2) + 1 = n from by omega] at this
      · rename_i h0 h1
        have := ihr _ h.2.2 _ _ hx
        rwa [show 2 * (n / 2 - 1) + 2 = n from by omega] at this
theorem T.All.some {α : Type} {p : Nat → α → Prop} {y : α} {k : Nat} (h : p k y) : ∀ x, Option.some y = Option.some x → p k x := fun x e => by injection e with e; subst e; exact h
theorem T.All.none {α : Type} {p : Nat → α → Prop} {k : Nat} : ∀ x, (Option.none : Option α) = Option.some x → p k x := fun x e => by cases e

/-! ### Types -/
def capZero (c : Option Nat) : Bool :=
  match c with
  | some x => Nat.beq x 0
  | none => false
mutual
def zeroB : AV → Value → Bool
  | .int k n, .int j m => decide (k = j) && ieqB n m
  | .bool a, .bool b => a == b
  | .str s, .string t => s.isEmpty && t.data.isEmpty
  | .ptr p, .pointer q => p.isNone && q.isNone
  | .slice p l c, .slice q m d => p.isNone && q.isNone && Nat.beq l 0 && Nat.beq m 0 && Nat.beq d 0 && capZero c
  | .map p, .map q => p.isNone && q.isNone
  | .nilFunc, .nilFunc => true
  | .nilIface, .nilIface => true
  | .agg xs, .agg ys => zeroBL xs ys.toList
  | .tuple xs, .tuple ys => zeroBL xs ys.toList
  | _, _ => false
def zeroBL : List AV → List Value → Bool
  | [], [] => true
  | x :: xs, y :: ys => zeroB x y && zeroBL xs ys
  | _, _ => false
end

mutual
theorem zeroB_rel {μ : Inj} : ∀ (a : AV) (v : Value), zeroB a v = true → RelV μ a v
  | .undef, v, h => by cases v <;> simp only [zeroB] at h <;> cases h
  | .int k n, v, h => by
    cases v <;> simp only [zeroB] at h <;> first | (cases h; done) | skip
    simp only [Bool.and_eq_true, decide_eq_true_eq] at h
    obtain ⟨rfl, h⟩ := h
    rw [ieqB_eq] at h
    rw [eq_of_beq h]; exact .int _ _
  | .bool b, v, h => by
    cases v <;> simp only [zeroB] at h <;> first | (cases h; done) | skip
    rw [eq_of_beq h]; exact .bool _
  | .str s, v, h => by
    cases v <;> simp only [zeroB] at h <;> first | (cases h; done) | skip
    rename_i t
    obtain ⟨d⟩ := t
    simp at h
    obtain ⟨rfl, rfl⟩ := h
    exact .str []
  | .ptr p, v, h => by
    cases v <;> simp only [zeroB] at h <;> first | (cases h; done) | skip
    simp at h
    obtain ⟨rfl, rfl⟩ := h
    exact .ptrN
  | .slice p l c, v, h => by
    cases v <;> simp only [zeroB] at h <;> first | (cases h; done) | skip
    simp only [Bool.and_eq_true, nbeq, decide_eq_true_eq, Option.isNone_iff_eq_none] at h
    obtain ⟨⟨⟨⟨⟨rfl, rfl⟩, rfl⟩, rfl⟩, rfl⟩, h⟩ := h
    unfold capZero at h
    split at h
    · rw [nbeq] at h
      have := of_decide_eq_true h
      subst this
      exact .sliceN
    · cases h
  | .map r, v, h => by
    cases v <;> simp only [zeroB] at h <;> first | (cases h; done) | skip
    simp at h
    obtain ⟨rfl, rfl⟩ := h
    exact .mapN
  | .func f x y, v, h => by cases v <;> simp only [zeroB] at h <;> cases h
  | .yield l, v, h => by cases v <;> simp only [zeroB] at h <;> cases h
  | .nilFunc, v, h => by
    cases v <;> simp only [zeroB] at h <;> first | (cases h; done) | skip
    exact .nilFunc
  | .iface t x, v, h => by cases v <;> simp only [zeroB] at h <;> cases h
  | .fsl _ _ _, v, h => by cases v <;> simp only [zeroB] at h <;> cases h
  | .fptr _, v, h => by cases v <;> simp only [zeroB] at h <;> cases h
  | .any, v, h => by cases v <;> simp only [zeroB] at h <;> cases h
  | .nilIface, v, h => by
    cases v <;> simp only [zeroB] at h <;> first | (cases h; done) | skip
    exact .nilIface
  | .agg xs, v, h => by
    cases v <;> simp only [zeroB] at h <;> first | (cases h; done) | skip
    rename_i ys
    have := RelV.agg (zeroBL_rel (μ := μ) xs ys.toList h)
    rwa [Array.toArray_toList] at this
  | .tuple xs, v, h => by
    cases v <;> simp only [zeroB] at h <;> first | (cases h; done) | skip
    rename_i ys
    have := RelV.tuple (zeroBL_rel (μ := μ) xs ys.toList h)
    rwa [Array.toArray_toList] at this
theorem zeroBL_rel {μ : Inj} : ∀ (a : List AV) (v : List Value), zeroBL a v = true → RelL μ a v
  | [], v, h => by
    cases v with
    | nil => exact .nil
    | cons y ys => simp only [zeroBL] at h; cases h
  | x :: xs, v, h => by
    cases v with
    | nil => simp only [zeroBL] at h; cases h
    | cons y ys =>
      simp only [zeroBL, Bool.and_eq_true] at h
      exact .cons (zeroB_rel x _ h.1) (zeroBL_rel xs _ h.2)
end

def fieldsB : List (Nat × TypeId) → List Field → Bool
  | [], [] => true
  | f :: fs, g :: gs => Nat.beq f.1 g.offset && Nat.beq f.2 g.type && decide (g.name ≠ "_") && fieldsB fs gs
  | _, _ => false
theorem fieldsB_eq : ∀ (fs : List (Nat × TypeId)) (gs : List Field), fieldsB fs gs = true → fs = gs.map (fun f => (f.offset, f.type)) ∧ ∀ f ∈ gs, f.name ≠ "_" := by
  intro fs
  induction fs with
  | nil => intro gs h; cases gs <;> simp [fieldsB] at h; exact ⟨rfl, fun f hf => by cases hf⟩
  | cons f fs ih =>
    intro gs h
    cases gs with
    | nil => simp [fieldsB] at h
    | cons g gs =>
      simp only [fieldsB, Bool.and_eq_true, nbeq, decide_eq_true_eq] at h
      obtain ⟨⟨⟨h1, h2⟩, h3⟩, h4⟩ := h
      obtain ⟨h5, h6⟩ := ih gs h4
      refine ⟨by rw [List.map_cons, ← h5, ← h1, ← h2], fun x hx => ?_⟩
      rcases List.mem_cons.1 hx with rfl | hx
      · exact h3
      · exact h6 x hx

def descB : AD → TypeDesc → Bool
  | .bool, .bool => true
  | .int k, .int k' => decide (k = k')
  | .string, .string => true
  | .ptr e, .pointer e' => Nat.beq e e'
  | .slice e, .slice e' => Nat.beq e e'
  | .array n e, .array n' e' => Nat.beq n n' && Nat.beq e e'
  | .map k e, .map k' e' => Nat.beq k k' && Nat.beq e e'
  | .struct fs, .struct gs => fieldsB fs gs.toList
  | .func, .func _ _ _ => true
  | .iface _, .interface _ => true
  | _, _ => false
theorem descB_ok {a : AD} {d : TypeDesc} (h : descB a d = true) : DescOK a d := by
  cases a <;> cases d <;> simp [descB, DescOK, nbeq] at h ⊢ <;> first | exact h | exact trivial | skip
  rename_i fs gs
  have := fieldsB_eq fs gs.toList h
  exact ⟨this.1, fun f hf => this.2 f (by simpa using hf)⟩

def tyB (P : Program) (t : TypeId) (ty : ATy) : Bool :=
  (match P.underlying t with | some d => descB ty.desc d | none => false) &&
  (match P.info? t with | some i => Nat.beq i.size ty.size && Nat.beq i.bytes ty.bytes && (match i.zero with | some z => zeroB ty.zero z | none => false) | none => false) &&
  Nat.beq ty.zero.cells.length ty.size && !(isAny ty.zero) &&
  (match P.underlying t with | some (.struct gs) => gs.toList.all fun f => (P.info? f.type).isSome | _ => true) &&
  (!ty.eqs || (!P.stoodInHeld t && !P.eqGuardType P.depth t))

theorem tyB_ok {P : Program} {t : TypeId} {ty : ATy} (h : tyB P t ty = true) : TyOK P t ty := by
  unfold tyB at h
  simp only [Bool.and_eq_true, nbeq] at h
  obtain ⟨⟨⟨⟨⟨h1, h2⟩, h3⟩, h3b⟩, h4⟩, h5⟩ := h
  refine ⟨?_, ?_, of_decide_eq_true h3, fun e => (by rw [e] at h3b; cases h3b), fun gs hg f hf => ?_, fun he => ?_⟩
  · split at h1
    · rename_i d hd; exact ⟨d, hd, descB_ok h1⟩
    · cases h1
  · split at h2
    · rename_i i hi
      simp only [Bool.and_eq_true, decide_eq_true_eq] at h2
      obtain ⟨⟨h6, h7⟩, h8⟩ := h2
      split at h8
      · rename_i z hz; exact ⟨i, z, hi, h6, h7, hz, zeroB_rel _ _ h8⟩
      · cases h8
    · cases h2
  · rw [hg] at h4
    simp only at h4
    have := List.all_eq_true.1 h4 f hf
    exact Option.isSome_iff_exists.1 this
  · rw [he] at h5
    simpa using h5

/-- What is asked of a function's row. -/
def FnRow (P : Program) (k : Nat) (fn : Func) : Prop := P.funcs[k]? = some fn ∧ (fn.name == "runtime.NumGoroutine") = false ∧ fn.body.isNone = false

theorem cx_ok {P : Program} {tys : T (Option ATy)} {fns : T (Option Func)} {sum : FuncId → List AV → Heap → Option (AV × Heap)} {loop : FuncId → Nat → Option LSum} (ht : T.allB (tyB P) tys (fun n => n) = true) (hf : T.All (FnRow P) fns (fun n => n)) (ho : P.follows .mixedOrders = true) :
    CxOK P { ty := T.get none tys, fn := T.get none fns, sum := sum, loop := loop } :=
  ⟨fun t ty h => tyB_ok (T.allB_get _ tys _ ht t ty h), fun f fn h => T.all_get _ fns _ hf f fn h, ho⟩

/-! ### A call of the program -/
theorem calls_of_aCall {P : Program} {cx : Cx} (hcx : CxOK P cx) {w : World} (hsum : SumOK P cx (Old w) w) (hloop : LoopsOK P cx (Old w) w) {f : Nat} {g : FuncId} {args : List AV} {H H' : Heap} {v : AV} {μ : Inj} {xs : List Value}
    (h : aCall cx f (.fn g) args H = some (v, H')) (hw : RelW (szOf cx) (Old w) w μ H w) (hr : RelL μ args xs) :
    Calls P g xs.toArray w fun e w' => ∃ Z μ', e = .returned Z ∧ RelV μ' v Z ∧ Below w.heap.size w w' := by
  have h1 := ((aCall_sound hcx hsum hloop f).fn h hw hr).2 none 0
  refine (callsIn_wide.1 h1).mono ?_
  rintro e w' ⟨Z, rfl, _, μ', _, hv, hw'⟩
  exact ⟨Z, μ', rfl, hv, hw'.below.below⟩

theorem sum_none {P : Program} {cx : Cx} {base : Nat → Prop} {w0 : World} (h : cx.sum = fun _ _ _ => none) : SumOK P cx base w0 := by
  intro g args H H' v μ w xs hs
  rw [h] at hs; cases hs

/-- Nothing in the heap. -/
def H0 : Heap := { next := 0, m := .nil }
theorem loop_none {P : Program} {cx : Cx} {base : Nat → Prop} {w0 : World} (h : cx.loop = fun _ _ => none) : LoopsOK P cx base w0 := by
  intro fn id L hL
  rw [h] at hL; cases hL
theorem relW_empty (sz : TypeId → Nat) (base : Nat → Prop) (w : World) (hb : ∀ k, base k → k < w.heap.size) : RelW sz base w Inj.empty H0 w :=
  ⟨Keep.refl _ _, hb, fun _ _ e => (by cases e), fun _ _ e => (by cases e), fun _ _ _ _ e => (by cases e), fun _ _ e => (by cases e), fun _ _ _ _ e => (by cases e), Nat.zero_le _⟩
end Go.Ab
end
end

/- Operations that build a value or look into a map; then all that change nothing, together. -/
import Derived.Test.YtecncappdnhbaaaAbF
import Derived.Great.FillDense
import Derived.MapKept
set_option autoImplicit false
set_option linter.unusedVariables false
set_option linter.unusedSimpArgs false
set_option linter.unusedSectionVars false
namespace Go.Ab
open Go.RowKit Go.MapKept

/-! ### A row with cells put in -/
theorem over_get (vs : List AV) : ∀ (cs : List AV) (k : Nat), (rowSet.over vs cs)[k]? = if k < vs.length ∧ k < cs.length then vs[k]? else cs[k]? := by
  induction vs with
  | nil => intro cs k; simp [rowSet.over]
  | cons v vs ih =>
    intro cs k
    cases cs with
    | nil => simp [rowSet.over]
    | cons c cs =>
      cases k with
      | zero => simp [rowSet.over]
      | succ k => simp [rowSet.over, ih]
theorem rowSet_get (vs : List AV) : ∀ (cs : List AV) (off k : Nat), (rowSet cs off vs)[k]? = if off ≤ k ∧ k < off + vs.length ∧ k < cs.length then vs[k - off]? else cs[k]? := by
  intro cs
  induction cs with
  | nil =>
    intro off k
    cases off with
    | zero => simp [rowSet, over_get]
    | succ off => simp [rowSet]
  | cons c cs ih =>
    intro off k
    cases off with
    | zero => simp only [rowSet, over_get]; simp
    | succ off =>
      cases k with
      | zero => simp [rowSet]
      | succ k =>
        simp only [rowSet, List.getElem?_cons_succ, ih]
        by_cases h : off ≤ k ∧ k < off + vs.length ∧ k < cs.length
        · rw [if_pos h, if_pos (by simp; omega)]; congr 1; omega
        · rw [if_neg h, if_neg (by simp; omega)]
theorem over_len (vs : List AV) : ∀ (cs : List AV), (rowSet.over vs cs).length = cs.length := by
  induction vs with
  | nil => intro cs; cases cs <;> rfl
  | cons v vs ih => intro cs; cases cs with
    | nil => rfl
    | cons c cs => simp [rowSet.over, ih]
theorem rowSet_len (vs : List AV) : ∀ (cs : List AV) (off : Nat), (rowSet cs off vs).length = cs.length := by
  intro cs
  induction cs with
  | nil => intro off; cases off <;> simp [rowSet, over_len]
  | cons c cs ih => intro off; cases off with
    | zero => simp [rowSet, over_len]
    | succ off => simp [rowSet, ih]

section
variable {μ : Inj}
theorem rel_fold {cs vs : List AV} {xs : List Value} {v : Value} {off : Nat} (hc : RelL μ cs xs) (hv : RelL μ vs v.cells.toList) :
    ∃ ys, v.cells.zipIdx.foldl (fun cs (c, j) => cs.setIfInBounds (off + j) c) xs.toArray = ys.toArray ∧ RelL μ (rowSet cs off vs) ys ∧ ys.length = xs.length := by
  obtain ⟨h1, h2⟩ := Great.foldl_set off v.cells.toList 0 xs.toArray
  refine ⟨(v.cells.zipIdx.foldl (fun cs (x : Value × Nat) => cs.setIfInBounds (off + x.2) x.1) xs.toArray).toList, by simp, ?_, ?_⟩
  · rw [← Array.foldl_toList, Array.toList_zipIdx]
    refine RelL.of_get (by rw [rowSet_len, Array.length_toList, h1]; simpa using hc.length) fun k a x ha hx => ?_
    rw [rowSet_get] at ha
    have hx' : ((v.cells.toList.zipIdx 0).foldl (fun cs (x : Value × Nat) => cs.setIfInBounds (off + x.2) x.1) xs.toArray)[k]? = some x := by simpa using hx
    rw [h2] at hx'
    have hl := hv.length
    have hl2 := hc.length
    by_cases hk : off ≤ k ∧ k < off + vs.length ∧ k < cs.length
    · rw [if_pos hk] at ha
      rw [if_pos (by simp at hl ⊢; omega)] at hx'
      obtain ⟨y, hy, r⟩ := hv.get _ _ ha
      simp at hx' hy
      rw [hy] at hx'
      cases hx'; exact r
    · rw [if_neg hk] at ha
      rw [if_neg (by simp at hl ⊢; omega)] at hx'
      obtain ⟨y, hy, r⟩ := hc.get _ _ ha
      simp at hx'
      rw [hy] at hx'
      cases hx'; exact r
  · rw [← Array.foldl_toList, Array.toList_zipIdx, Array.length_toList, h1]; simp

theorem fill_sound {pl : Nat → Option (Nat × Nat)} {PL : Nat → Option (Nat × Nat)} (hpl : ∀ i r, pl i = some r → PL i = some r) : ∀ {ps : List (Nat × AV)} {qs : List (Nat × Value)} {cs out : List AV} {xs : List Value}, fillParts pl cs ps = some out → RelP μ ps qs → RelL μ cs xs →
    ∃ ys, Instr.fill PL xs.toArray qs = some ys.toArray ∧ RelL μ out ys := by
  intro ps
  induction ps with
  | nil => intro qs cs out xs h hp hr; cases hp; simp only [fillParts] at h; cases h; exact ⟨xs, rfl, hr⟩
  | cons p ps ih =>
    intro qs cs out xs h hp hr
    obtain ⟨i, v⟩ := p
    cases hp with
    | cons a hna b =>
      rename_i x m
      simp only [fillParts] at h
      split at h
      · cases h
      · rename_i off size hpi
        split at h
        · rename_i hsz
          have hva := a.cells hna
          have hl := hva.length
          have hl2 := hr.length
          obtain ⟨ys, hy, hry, hyl⟩ := rel_fold (off := off) hr hva
          obtain ⟨zs, hz, hrz⟩ := ih h b hry
          refine ⟨zs, ?_, hrz⟩
          simp only [Instr.fill, hpl _ _ hpi]
          rw [if_neg (by simp at hl ⊢; omega)]
          rw [← hz, ← hy]
        · cases h

variable {P : Program} {cx : Cx} (hcx : CxOK P cx) {base : Nat → Prop} {w0 w : World} {H : Heap} (hw : RelW (szOf cx) base w0 μ H w)

theorem mapM_sizes (gs : List Field) (h : ∀ f ∈ gs, ∃ i, P.info? f.type = some i) :
    (gs.mapM fun f => (do pure (f.offset, ← sizeOf f.type) : Sem (Nat × Nat))).run P w = .ok (gs.map fun f => (f.offset, P.cellsOf f.type)) w := by
  induction gs with
  | nil => simp
  | cons f gs ih =>
    obtain ⟨i, hi⟩ := h f (by simp)
    have h1 : (sizeOf f.type).run P w = .ok (P.cellsOf f.type) w := run_sizeOf w hi
    have h2 := ih fun g hg => h g (by simp [hg])
    simp [List.mapM_cons, h1] at h2 ⊢
    simp [h2]

include hcx in
theorem aBuild_sound {t : TypeId} {ps : List (Nat × AV)} {qs : List (Nat × Value)} {v : AV} (h : aBuild cx t ps = some v) (hp : RelP μ ps qs) :
    ∃ z, (Instr.build t qs.toArray).run P w = .ok z w ∧ RelV μ v z := by
  unfold aBuild at h
  split at h
  · rename_i ty ht
    have hty := hcx.ty t ty ht
    obtain ⟨z0, hz0, rz0⟩ := hty.run_zero w μ
    obtain ⟨d, hu, hk⟩ := hty.und
    have hz1 : z0.cells = (z0.cells.toList).toArray := by simp
    split at h
    · rename_i fs hd
      rw [hd] at hk
      cases d <;> simp only [DescOK] at hk
      rename_i gs
      obtain ⟨rfl, _⟩ := hk
      replace h := ob_eq h; obtain ⟨cs, hcs, h⟩ := h
      injection h with h; subst h
      have hm := mapM_sizes (P := P) (w := w) gs.toList (hty.flds gs hu)
      have hm' : (gs.mapM fun f => (do pure (f.offset, ← sizeOf f.type) : Sem (Nat × Nat))).run P w = .ok (gs.map fun f => (f.offset, P.cellsOf f.type)) w := by
        rw [← Array.toArray_toList (xs := gs), List.mapM_toArray]
        simp only [Sem.run_map, hm, Result.andThen_ok]
        rw [← Array.toList_map, Array.toArray_toList, Array.toArray_toList]
      obtain ⟨ys, hy, hr⟩ := fill_sound (PL := ((gs.map fun f => (f.offset, P.cellsOf f.type))[·]?)) (fun i r hi => by
        replace hi := ob_eq hi; obtain ⟨f, hf, hi⟩ := hi
        replace hi := ob_eq hi; obtain ⟨ft, hft, hi⟩ := hi
        injection hi with hi; subst hi
        obtain ⟨fd, hfd, rfl⟩ := field_at hf
        obtain ⟨inf, z, hi1, hi2, _⟩ := (hcx.ty _ ft hft).info
        simp [hfd, Program.cellsOf, hi1, hi2]) hcs hp (rz0.cells hty.nz)
      refine ⟨.agg ys.toArray, ?_, .agg hr⟩
      simp only [Instr.build, Sem.run_bind, hz0, Result.andThen_ok, run_underlying hu, hm']
      rw [hz1]
      simp only [hy]
      simp
    · rename_i n e hd
      rw [hd] at hk
      cases d <;> simp only [DescOK] at hk
      obtain ⟨rfl, rfl⟩ := hk
      split at h
      · rename_i et het
        replace h := ob_eq h; obtain ⟨cs, hcs, h⟩ := h
        injection h with h; subst h
        obtain ⟨ys, hy, hr⟩ := fill_sound (PL := fun i => some (i * et.size, et.size)) (fun i r hi => hi) hcs hp (rz0.cells hty.nz)
        refine ⟨.agg ys.toArray, ?_, .agg hr⟩
        simp only [Instr.build, Sem.run_bind, hz0, Result.andThen_ok, run_underlying hu, (hcx.ty e et het).run_size]
        rw [hz1]
        simp only [hy]
        simp
      · cases h
    · cases h
  · cases h

/-! ### Maps -/
theorem isKeyT_sound {kt : TypeId} {k : AV} {K : Value} (h : isKeyT cx kt k = true) (hcx : CxOK P cx) (hk : RelV μ k K) : ∃ d, P.underlying kt = some d ∧ IsKey d K ∧
    (∀ x X b, sameKey k x = some b → RelV μ x X → Instr.sameNow d K X = some b ∧ (b = true → X = K)) := by
  unfold isKeyT at h
  split at h
  · cases h
  · rename_i ty ht
    obtain ⟨d, hu, hd⟩ := (hcx.ty kt ty ht).und
    refine ⟨d, hu, ?_⟩
    split at h <;> rename_i hdd <;> try (cases h; done)
    · unfold isIntK at h
      split at h <;> try (cases h; done)
      rename_i ak an
      cases rel_int hk
      have h := of_decide_eq_true h
      rw [hdd] at hd
      cases d <;> simp only [DescOK] at hd
      refine ⟨by simp [IsKey]; first | exact h.trans hd | exact (h.trans hd).symm, fun x X b hs hx => ?_⟩
      obtain ⟨a, ha⟩ : ∃ a : IntKind × Int, a = (ak, an) := ⟨_, rfl⟩
      have e1 : ak = a.1 := by rw [ha]
      have e2 : an = a.2 := by rw [ha]
      subst e1; subst e2; clear ha
      simp only [sameKey, eqInt] at hs
      replace hs := ob_eq hs; obtain ⟨p, hp, hs⟩ := hs
      replace hs := ob_eq hs; obtain ⟨q, hq, hs⟩ := hs
      obtain rfl : p = a := by
        have := int?_eq hp
        injection this with h1 h2
        exact Prod.ext h1.symm h2.symm
      cases int?_eq hq; cases rel_int hx
      split at hs
      · rename_i hkk
        injection hs with hs; subst hs
        refine ⟨by simp only [Instr.sameNow]; rw [if_pos hkk, ieqB_eq], fun e => ?_⟩
        rw [ieqB_eq] at e
        rw [hkk, eq_of_beq e]
      · cases hs
    · obtain ⟨a, ha⟩ := Option.isSome_iff_exists.1 h
      cases str?_eq ha; cases rel_str hk
      rw [hdd] at hd
      cases d <;> simp only [DescOK] at hd
      refine ⟨by trivial, fun x X b hs hx => ?_⟩
      simp only [sameKey] at hs
      replace hs := ob_eq hs; obtain ⟨q, hq, hs⟩ := hs
      cases str?_eq hq; cases rel_str hx
      injection hs with hs; subst hs
      have e2 : ((ByteArray.mk a.toArray) == (ByteArray.mk q.toArray)) = bytesEq a q := by
        rw [bytesEq_eq, beq_toListBytes, toList_mk, toList_mk]
      refine ⟨by simp only [Instr.sameNow]; rw [e2], fun e => ?_⟩
      rw [bytesEq_eq] at e
      rw [eq_of_beq e]
    · obtain ⟨a, ha⟩ := Option.isSome_iff_exists.1 h
      cases bool?_eq ha; cases rel_bool hk
      rw [hdd] at hd
      cases d <;> simp only [DescOK] at hd
      refine ⟨by trivial, fun x X b hs hx => ?_⟩
      simp only [sameKey] at hs
      replace hs := ob_eq hs; obtain ⟨q, hq, hs⟩ := hs
      cases bool?_eq hq; cases rel_bool hx
      injection hs with hs; subst hs
      exact ⟨rfl, fun e => by rw [eq_of_beq e]⟩

theorem findKey_sound {d : TypeDesc} {k : AV} {K : Value} (hs : ∀ x X b, sameKey k x = some b → RelV μ x X → Instr.sameNow d K X = some b ∧ (b = true → X = K)) :
    ∀ {es : List (AV × AV)} {fs : List MapEntry} {f : Option AV} (i : Nat), findKey k es = some f → RelE μ es fs →
      (f = none ∧ Instr.findNow d K fs i = some none) ∨ ∃ v j e, f = some v ∧ Instr.findNow d K fs i = some (some (i + j, e.val)) ∧ fs[j]? = some e ∧ e.key = K ∧ RelV μ v e.val := by
  intro es
  induction es with
  | nil => intro fs f i h hr; cases hr; simp only [findKey] at h; cases h; exact .inl ⟨rfl, rfl⟩
  | cons p es ih =>
    intro fs f i h hr
    cases hr with
    | cons a b c =>
      rename_i kk vv e fs
      simp only [findKey] at h
      replace h := ob_eq h; obtain ⟨b', hb, h⟩ := h
      obtain ⟨h1, h2⟩ := hs _ _ _ hb a
      cases b' with
      | true =>
        simp only [if_true] at h
        injection h with h; subst h
        exact .inr ⟨vv, 0, e, rfl, by simp [Instr.findNow, h1], rfl, h2 rfl, b⟩
      | false =>
        simp only [Bool.false_eq_true, if_false] at h
        rcases ih (i + 1) h c with ⟨h3, h4⟩ | ⟨v, j, e', h3, h4, h5, h6, h7⟩
        · exact .inl ⟨h3, by simp [Instr.findNow, h1, h4]⟩
        · exact .inr ⟨v, j + 1, e', h3, by simp [Instr.findNow, h1, h4]; omega, by simpa using h5, h6, h7⟩

theorem mapT_sound (hcx : CxOK P cx) {t : TypeId} {m : TypeId × TypeId} (h : mapT cx t = some m) : P.underlying t = some (.map m.1 m.2) := by
  unfold mapT at h
  split at h
  · rename_i ht
    injection h with h; subst h
    obtain ⟨d, hu, hd⟩ := (hcx.ty t _ ht).und
    cases d <;> simp only [DescOK] at hd
    obtain ⟨rfl, rfl⟩ := hd
    exact hu
  · cases h

include hw in
theorem entries_sound {r : Nat} {es : List (AV × AV)} (h : entriesOf H r = some es) {i : BI} (hr : μ r = some i) : H.get r = .entries es ∧ ¬ base i.blk ∧ ∃ (fs : Array MapEntry) (clock : Nat), w.heap[i.blk]? = some (.map fs clock) ∧ RelE μ es fs.toList := by
  unfold entriesOf at h
  split at h
  · rename_i es' hg
    injection h with h; subst h
    have := hw.blk r i hr
    rw [hg] at this
    exact ⟨hg, this⟩
  · cases h

include hcx hw in
theorem aLookup_sound {t : TypeId} {x k v : AV} {X K : Value} {ok : Bool} (h : aLookup cx t x k ok H = some v) (hx : RelV μ x X) (hk : RelV μ k K) : ∃ z, (Instr.lookup t X K ok).run P w = .ok z w ∧ RelV μ v z := by
  unfold aLookup at h
  replace h := ob_eq h; obtain ⟨m, hm, h⟩ := h
  rw [cb_eq] at h
  split at h
  · rename_i hkt
    replace h := ob_eq h; obtain ⟨r, hr, h⟩ := h
    replace h := ob_eq h; obtain ⟨es, hes, h⟩ := h
    replace h := ob_eq h; obtain ⟨f, hf, h⟩ := h
    replace h := ob_eq h; obtain ⟨et, het, h⟩ := h
    injection h with h
    have hu := mapT_sound hcx hm
    obtain ⟨d, hd, hik, hsk⟩ := isKeyT_sound hkt hcx hk
    obtain ⟨z0, hz0, rz0⟩ := (hcx.ty _ et het).run_zero w μ
    cases map?_eq hr
    have fin : ∀ (fs : Array MapEntry), RelE μ es fs.toList → ∃ z, (do
        Instr.checkKey fs.isEmpty 10000 m.1 K
        let (v, ok') ← match ← Instr.findKey m.1 K fs.toList with
          | some (_, v) => pure (v, true)
          | none => pure (← zeroValue m.2, false)
        pure (if ok then .tuple #[v, .bool ok'] else v) : Sem Value).run P w = .ok z w ∧ RelV μ v z := by
      intro fs hrel
      have hc := run_checkKey (w := w) hd hik fs.isEmpty 9999
      rcases findKey_sound hsk 0 hf hrel with ⟨hfn, hnow⟩ | ⟨u, j, e, hfn, hnow, _, _, hru⟩
      · have hfk := run_findKey (w := w) hd hnow
        subst hfn
        refine ⟨if ok then .tuple #[z0, .bool false] else z0, ?_, ?_⟩
        · simp [hc, hfk, hz0]
        · rw [← h]
          cases ok
          · exact rz0
          · exact .tuple (xs := [z0, .bool false]) (.cons rz0 (.cons (.bool _) .nil))
      · have hfk := run_findKey (w := w) hd hnow
        subst hfn
        refine ⟨if ok then .tuple #[e.val, .bool true] else e.val, ?_, ?_⟩
        · simp [hc, hfk]
        · rw [← h]
          cases ok
          · exact hru
          · exact .tuple (xs := [e.val, .bool true]) (.cons hru (.cons (.bool _) .nil))
    cases r with
    | none =>
      simp only [entriesAt] at hes
      injection hes with hes; subst hes
      cases hx
      obtain ⟨z, hz, hv⟩ := fin #[] .nil
      refine ⟨z, ?_, hv⟩
      simp only [Instr.lookup, Sem.run_bind, run_underlying hu, Result.andThen_ok, Sem.run_pure] at hz ⊢
      exact hz
    | some r =>
      cases hx with
      | map hi =>
        obtain ⟨_, _, fs, clock, hb, hrel⟩ := entries_sound hw hes hi
        obtain ⟨z, hz, hv⟩ := fin fs hrel
        refine ⟨z, ?_, hv⟩
        simp only [Instr.lookup, Sem.run_bind, run_underlying hu, Result.andThen_ok, Sem.run_pure, MapKept.run_getObj_map hb] at hz ⊢
        exact hz
  · cases h
end
end Go.Ab

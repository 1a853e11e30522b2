/- Operations that read, or that name a place: loads, conversions of bytes, pieces of slices, addresses of elements and fields. -/
import Derived.Test.YtecncappdnhbaaaAbD
set_option autoImplicit false
set_option linter.unusedVariables false
set_option linter.unusedSimpArgs false
set_option linter.unusedSectionVars false
namespace Go.Ab
open Go.RowKit

theorem addr_add (b o n : Nat) : (⟨b, o, none⟩ : Addr).add n = ⟨b, o + n, none⟩ := by
  unfold Addr.add; split
  · rename_i h; subst h; rfl
  · rfl

def szOf (cx : Cx) (e : TypeId) : Nat := ((cx.ty e).map (·.size)).getD 0
theorem szOf_eq {cx : Cx} {e : TypeId} {et : ATy} (h : cx.ty e = some et) : szOf cx e = et.size := by simp [szOf, h]

section
variable {P : Program} {cx : Cx} (hcx : CxOK P cx) {μ : Inj} {base : Nat → Prop} {w0 w : World} {H : Heap} (hw : RelW (szOf cx) base w0 μ H w)

/-- A block of cells, as the world has it. -/
theorem RelW.row (hw : RelW (szOf cx) base w0 μ H w) {b : Nat} {i : BI} (hb : μ b = some i) {own : Bool} {e : TypeId} {len : Nat} {cs : List AV} (hg : H.get b = .cells own e len cs) :
    len = cs.length ∧ ∃ (arr : Array Value) (e' : TypeId) (fr : Nat × Nat), w.heap[i.blk]? = some (.cells arr e' fr) ∧
      (∀ (k : Nat) (v : AV), cs[k]? = some v → ∃ x, arr[i.off + k]? = some x ∧ RelV μ v x) ∧ (own = true → ¬ base i.blk ∧ i.off = 0 ∧ e' = e ∧ i.m = arr.size ∧ i.esz = szOf cx e ∧ freeRow arr.size fr) := by
  have := hw.blk b i hb
  rw [hg] at this
  exact this

include hw in
/-- Cells that are read. -/
theorem cells_read {p : Nat × Nat} {n : Nat} {vs : List AV} (h : cellsAt H p n = some vs) {i : BI} (hb : μ p.1 = some i) :
    ∃ xs, RelL μ vs xs ∧ xs.length = n ∧ ∀ (j : Nat) (v : Value), xs[j]? = some v → w.cell? ⟨i.blk, i.off + p.2 + j, none⟩ = some v := by
  unfold cellsAt at h
  split at h
  · rename_i own e len cs hg
    split at h
    · rename_i hle
      injection h with h; subst h
      obtain ⟨hl, arr, e', fr, ha, hc, _⟩ := hw.row hb hg
      have hx : ∀ j, j < n → ∃ x, arr[i.off + p.2 + j]? = some x ∧ ∃ v, cs[p.2 + j]? = some v ∧ RelV μ v x := fun j hj => by
        have hlt : p.2 + j < cs.length := by omega
        obtain ⟨x, hx, hr⟩ := hc (p.2 + j) _ (List.getElem?_eq_getElem hlt)
        exact ⟨x, by rw [← hx]; congr 1; omega, _, List.getElem?_eq_getElem hlt, hr⟩
      refine ⟨(List.range n).map fun j => (arr[i.off + p.2 + j]?).getD Go.undef, ?_, by simp, ?_⟩
      · refine RelL.of_get (by simp [rowCut]; omega) fun k v x hv hx' => ?_
        have hk : k < n := by
          have := (List.getElem?_eq_some_iff.1 hx').1
          simpa using this
        obtain ⟨y, hy, u, hu, hr⟩ := hx k hk
        simp only [rowCut, List.getElem?_take, List.getElem?_drop] at hv
        rw [if_pos hk, hu] at hv
        cases hv
        simp [hk, hy] at hx'
        subst hx'
        exact hr
      · intro j v hv
        have hk : j < n := by
          have := (List.getElem?_eq_some_iff.1 hv).1
          simpa using this
        obtain ⟨y, hy, _⟩ := hx j hk
        simp [hk, hy] at hv
        subst hv
        simp [World.cell?, ha, hy]
    · cases h
  · cases h

theorem run_loadList (a : Addr) (xs : List Value) (h : ∀ (j : Nat) (v : Value), xs[j]? = some v → w.cell? (a.add j) = some v) : (loadCells a xs.length).run P w = .ok xs.toArray w :=
  run_loadCells_list (P := P) (w := w) a xs h

include hw hcx in
theorem aLoad0_sound {t : TypeId} {x v : AV} {X : Value} (h : aLoad0 cx t H x = some v) (hx : RelV μ x X) : ∃ z, (Instr.loadAt t X).run P w = .ok z w ∧ RelV μ v z := by
  unfold aLoad0 at h
  split at h
  · rename_i ty p ht
    have hty := hcx.ty t ty ht
    obtain ⟨i, hi, rfl⟩ := rel_ptr hx
    simp only [Instr.loadAt, Instr.sureAddr, pure_bind, loadVar, Sem.run_bind, hty.run_isAgg, Result.andThen_ok]
    by_cases ha : isAggB ty.desc = true
    · rw [if_pos ha] at h ⊢
      replace h := ob_eq h; obtain ⟨cs, hc, h⟩ := h
      injection h with h; subst h
      obtain ⟨xs, hr, hl, hcell⟩ := cells_read hw hc hi
      refine ⟨.agg xs.toArray, ?_, .agg hr⟩
      simp only [Sem.run_bind, hty.run_size, Result.andThen_ok]
      rw [← hl, run_loadList _ xs (fun j v hv => by rw [addr_add]; exact hcell j v hv)]
      rfl
    · rw [if_neg ha] at h ⊢
      split at h
      · rename_i own e len cs hg
        split at h
        · rename_i hlt
          rw [listAt_eq] at h
          obtain ⟨hl, arr, e', fr, harr, hc, _⟩ := hw.row hi hg
          obtain ⟨x, hx', hr⟩ := hc _ _ h
          refine ⟨x, ?_, hr⟩
          have : w.cell? ⟨i.blk, i.off + p.2, none⟩ = some x := by simp [World.cell?, harr, hx']
          simp [this]
        · cases h
      · cases h
  · cases h

include hw in
/-- Cells of a frozen row. -/
theorem froz_read {cs : List AV} {a : Addr} {arr : Array Value} {vs : List Value} (hz : cs ≠ [] → a.spot = none ∧ μ.fz a.block = some arr) (hr : RelL μ cs vs) (hv : ∀ k x, vs[k]? = some x → arr[a.off + k]? = some x) :
    ∀ (j : Nat) (v : Value), vs[j]? = some v → w.cell? (a.add j) = some v := by
  intro j v h
  have hne : cs ≠ [] := by
    intro e
    have := hr.length
    rw [e] at this
    have h2 : vs = [] := List.length_eq_zero_iff.1 (by simpa using this)
    rw [h2] at h; cases h
  obtain ⟨h1, h2⟩ := hz hne
  obtain ⟨e, fr, h3⟩ := hw.froz _ _ h2
  obtain ⟨b, o, sp⟩ := a
  simp only at h1 h2 h3 hv
  subst h1
  rw [addr_add]
  simp [World.cell?, h3, hv j v h]

include hw hcx in
theorem aLoad_sound {t : TypeId} {x v : AV} {X : Value} (h : aLoad cx t H x = some v) (hx : RelV μ x X) : ∃ z, (Instr.loadAt t X).run P w = .ok z w ∧ RelV μ v z := by
  unfold aLoad at h
  split at h
  · rename_i cs
    cases hx with
    | fptr hz hr hv =>
    rename_i a arr vs
    simp only [fLoad] at h
    replace h := ob_eq h; obtain ⟨ty, ht, h⟩ := h
    have hty := hcx.ty t ty ht
    have rd := froz_read hw hz hr hv
    simp only [Instr.loadAt, Instr.sureAddr, pure_bind, loadVar, Sem.run_bind, hty.run_isAgg, Result.andThen_ok]
    have hl := hr.length
    cases ha : isAggB ty.desc with
    | true =>
      rw [ha, cb_true, cb_eq, nble] at h
      split at h
      · rename_i hle
        have hle := of_decide_eq_true hle
        injection h with h; subst h
        refine ⟨.agg (vs.take ty.size).toArray, ?_, ?_⟩
        · simp only [if_true, Sem.run_bind, hty.run_size, Result.andThen_ok]
          have e : (vs.take ty.size).length = ty.size := by rw [List.length_take]; omega
          conv => lhs; rw [← e]
          rw [run_loadList _ (vs.take ty.size) (fun j v hv' => by
            rw [List.getElem?_take] at hv'
            split at hv'
            · exact rd j v hv'
            · cases hv')]
          rfl
        · simp only [rowCut, List.drop_zero]; exact .agg (hr.take _)
      · cases h
    | false =>
      rw [ha, cb_false, listAt_eq] at h
      obtain ⟨x, hx', hrx⟩ := hr.get 0 v h
      refine ⟨x, ?_, hrx⟩
      have := rd 0 x hx'
      have e0 : a.add 0 = a := by simp [Addr.add]
      rw [e0] at this
      simp [this]
  · exact aLoad0_sound hcx hw h hx

/-! ### Conversions -/
theorem bytes_run (f : Value → ByteArray → Sem (ForInStep ByteArray)) (hf : ∀ n s, f (.int .u8 n) s = pure (.yield (s.push (UInt8.ofNat n.toNat)))) (xs : List Value) :
    ∀ (cs : List AV) (l : List UInt8) (acc : ByteArray), bytesOf cs = some l → RelL μ cs xs → (forIn (m := Sem) xs acc f).run P w = .ok ⟨acc.data ++ l.toArray⟩ w := by
  induction xs with
  | nil =>
    intro cs l acc h hr
    cases hr
    simp only [bytesOf] at h; cases h
    simp
  | cons x xs ih =>
    intro cs l acc h hr
    cases hr with
    | cons a b =>
      rename_i v vs
      simp only [bytesOf] at h
      replace h := ob_eq h; obtain ⟨c, hc, h⟩ := h
      replace h := ob_eq h; obtain ⟨m, hm, h⟩ := h
      injection h with h; subst h
      unfold byteOf at hc
      split at hc
      · rename_i n
        cases rel_int a
        injection hc with hc; subst hc
        have := ih vs m (acc.push (UInt8.ofNat n.toNat)) hm b
        simp only [List.forIn_cons, hf, Sem.run_bind, Sem.run_pure, Result.andThen_ok]
        rw [this]
        congr 2
        simp [ByteArray.push]
      · cases hc

theorem isU8_eq {e : TypeId} (h : isU8 cx e = true) (hcx : CxOK P cx) : P.underlying e = some (.int .u8) ∧ ∃ et, cx.ty e = some et ∧ TyOK P e et := by
  unfold isU8 at h
  split at h
  · rename_i a b c d ht
    have hty := hcx.ty e _ ht
    obtain ⟨dd, hu, hk⟩ := hty.und
    cases dd <;> simp only [DescOK] at hk
    subst hk
    exact ⟨hu, _, ht, hty⟩
  · cases h

theorem sliceStr_sound (hcx : CxOK P cx) (hw : RelW (szOf cx) base w0 μ H w) {e : TypeId} {x v : AV} {X : Value} (h : sliceStr cx e x H = some v) (hx : RelV μ x X) {src dst : TypeId}
    (hs : P.underlying src = some (.slice e)) (hd : P.underlying dst = some .string) : ∃ z, (convert src dst X).run P w = .ok z w ∧ RelV μ v z := by
  unfold sliceStr at h
  replace h := ob_eq h; obtain ⟨a, ha, h⟩ := h
  rw [cb_eq] at h
  split at h
  · rename_i hu8
    obtain ⟨hu, _⟩ := isU8_eq hu8 hcx
    cases slice?_eq ha
    obtain ⟨p, len, cap⟩ := a
    have hc : ∀ (X : Value), (∀ k n, X ≠ .int k n) → (∀ s, X ≠ .string s) → (∀ k n, X ≠ .float k n) → (∀ k n m, X ≠ .complex k n m) → (convert src dst X).run P w = (Conv.bytesToString X).run P w := fun X h1 h2 h3 h4 => by
      simp only [convert, Sem.run_bind, run_underlying hs, run_underlying hd, Result.andThen_ok]
      cases X <;> first
        | (simp [run_underlying hu]; done)
        | exact absurd rfl (h1 _ _)
        | exact absurd rfl (h2 _)
        | exact absurd rfl (h3 _ _)
        | exact absurd rfl (h4 _ _ _)
    cases p with
    | none =>
      injection h with h; subst h
      cases hx
      refine ⟨.string ⟨#[]⟩, ?_, .str []⟩
      rw [hc _ (by intros; simp) (by intros; simp) (by intros; simp) (by intros; simp)]
      simp [Conv.bytesToString]; rfl
    | some p =>
      simp only at h
      replace h := ob_eq h; obtain ⟨cs, hcs, h⟩ := h
      replace h := ob_eq h; obtain ⟨l, hl, h⟩ := h
      injection h with h; subst h
      have fin : ∀ (i : BI) (a : Addr) (c : Nat), μ p.1 = some i → len ≤ c → (c ≠ 0 → a = ⟨i.blk, i.off + p.2, none⟩) → X = .slice (some a) len c →
          ∃ z, (convert src dst X).run P w = .ok z w ∧ RelV μ (.str l) z := by
        intro i a c hi hlc ha hX
        subst hX
        obtain ⟨xs, hr, hlen, hcell⟩ := cells_read hw hcs hi
        refine ⟨.string ⟨l.toArray⟩, ?_, .str l⟩
        rw [hc _ (by intros; simp) (by intros; simp) (by intros; simp) (by intros; simp)]
        have hload : (loadCells a len).run P w = .ok xs.toArray w := by
          rw [← hlen]
          refine run_loadList _ xs fun j v hv => ?_
          have hj : j < len := by rw [← hlen]; exact (List.getElem?_eq_some_iff.1 hv).1
          rw [ha (by omega), addr_add]
          exact hcell j v hv
        simp only [Conv.bytesToString, Sem.run_bind, hload, Result.andThen_ok]
        rw [← Array.forIn_toList]
        rw [bytes_run (P := P) (w := w) (μ := μ) _ (fun _ _ => rfl) xs cs l ByteArray.empty hl hr]
        simp only [Result.andThen_ok, Sem.run_pure]
        congr 3
        simp
      cases hx with
      | slice hi hlc ha' => exact fin _ _ _ hi hlc ha' rfl
      | sliceU hi hlc ha' _ => exact fin _ _ _ hi hlc ha' rfl
  · cases h

/-- The mark behind a row's end. -/
theorem stringish_run {a : Addr} {arr : Array Value} {e : TypeId} {fr : Nat × Nat} (h : w.heap[a.block]? = some (.cells arr e fr)) :
    (markStringish a).run P w = .ok () (w.freeze ⟨a.block, arr.size, none⟩ 1) := by
  simp [markStringish, World.shape?, h]

theorem freeze_heap {b n : Nat} {arr : Array Value} {e : TypeId} {fr : Nat × Nat} (h : w.heap[b]? = some (.cells arr e fr)) :
    (w.freeze ⟨b, arr.size, none⟩ 1).heap[b]? = some (.cells arr e (if fr.1 == fr.2 then (arr.size, arr.size + 1) else (min fr.1 arr.size, max fr.2 (arr.size + 1)))) ∧
    (∀ k, k ≠ b → (w.freeze ⟨b, arr.size, none⟩ 1).heap[k]? = w.heap[k]?) ∧ (w.freeze ⟨b, arr.size, none⟩ 1).heap.size = w.heap.size := by
  obtain ⟨lo, hi⟩ := fr
  refine ⟨?_, fun k hk => ?_, ?_⟩
  · simp [World.freeze, Array.getElem?_modify, h]
  · simp [World.freeze, Array.getElem?_modify]; intro e; exact absurd e.symm hk
  · simp [World.freeze]

theorem Heap.put_self (H : Heap) (b : Nat) (c : Nat) : (H.put b (H.get b)).get c = H.get c := by
  rw [Heap.get_put]; split
  · rename_i h; rw [h]
  · rfl

/-- two heaps that hold the same. -/
theorem RelW.heap_eq {H' : Heap} (hw : RelW (szOf cx) base w0 μ H w) (hn : H'.next = H.next) (hg : ∀ c, H'.get c = H.get c) : RelW (szOf cx) base w0 μ H' w :=
  ⟨hw.below, hw.baseLe, fun b i e => by rw [hn]; exact hw.fresh b i e, fun b i e => by rw [hg]; exact hw.blk b i e, fun b b' i i' e e' hne => by rw [hg, hg]; exact hw.apart b b' i i' e e' hne, hw.froz, fun b i k arr e => by rw [hg]; exact hw.frozApart b i k arr e, hw.lo⟩

theorem RelW.stringish (hw : RelW (szOf cx) base w0 μ H w) {b : Nat} {i : BI} (hb : μ b = some i) (ho : isOwn H (some (b, 0)) = true) :
    ∃ w', (∀ o, (markStringish ⟨i.blk, o, none⟩).run P w = .ok () w') ∧ RelW (szOf cx) base w0 μ H w' := by
  unfold isOwn at ho
  simp only at ho
  split at ho
  · rename_i own e len cs hg
    subst ho
    obtain ⟨hl, arr, e', fr, harr, hc, hown⟩ := hw.row hb hg
    obtain ⟨h1, h2, h3, h4, h5, h6⟩ := hown rfl
    obtain ⟨f1, f2, f3⟩ := freeze_heap (w := w) (n := 0) harr
    refine ⟨w.freeze ⟨i.blk, arr.size, none⟩ 1, fun o => stringish_run (a := ⟨i.blk, o, none⟩) harr, ?_⟩
    refine RelW.heap_eq (H := H.put b (H.get b)) (RelW.write hw hb (x := H.get b) (by rw [hg]; rfl) rfl rfl rfl f3 f2 (.inl (by rw [hg]; rfl)) ?_) rfl (fun c => (Heap.put_self H b c).symm)
    rw [hg]
    refine ⟨hl, arr, e', _, f1, hc, fun _ => ⟨h1, h2, h3, h4, h5, ?_⟩⟩
    rcases h6 with h6 | h6
    · rw [if_pos (by simpa using h6)]; exact .inr (Nat.le_refl _)
    · split
      · exact .inr (Nat.le_refl _)
      · exact .inr (by simp; omega)
  · cases ho

theorem convSlice_sound (hcx : CxOK P cx) (hw : RelW (szOf cx) base w0 μ H w) {s : ATy} {e : TypeId} {x v : AV} {X : Value} {src dst : TypeId} (h : convSlice cx (decide (src = dst)) s e x H = some v) (hx : RelV μ x X)
    (hs : cx.ty src = some s) (hd : P.underlying dst = some (.slice e)) : ∃ z w', (convert src dst X).run P w = .ok z w' ∧ RelV μ v z ∧ RelW (szOf cx) base w0 μ H w' := by
  unfold convSlice at h
  split at h
  · rename_i e' hsd
    replace h := ob_eq h; obtain ⟨a, ha, h⟩ := h
    rw [cb_eq] at h
    split at h
    · rename_i hc
      simp only [Bool.and_eq_true, decide_eq_true_eq, nble] at hc
      obtain ⟨⟨⟨hsame, hu8⟩, hown⟩, hlen⟩ := hc
      injection h with h; subst h
      cases slice?_eq ha
      obtain ⟨p, len, cap⟩ := a
      obtain ⟨hu, _⟩ := isU8_eq hu8 hcx
      cases p with
      | none => cases hown
      | some p =>
        have hown' : isOwn H (some (p.1, 0)) = true := by simpa [isOwn] using hown
        have fin : ∀ (i : BI) (a : Addr) (c : Nat), μ p.1 = some i → len ≤ c → (c ≠ 0 → a = ⟨i.blk, i.off + p.2, none⟩) → X = .slice (some a) len c →
            ∃ w', (convert src dst X).run P w = .ok X w' ∧ RelW (szOf cx) base w0 μ H w' := by
          intro i a c hi hlc ha' hX
          subst hX
          obtain ⟨w', hrun, hw'⟩ := RelW.stringish (P := P) hw hi hown'
          refine ⟨w', ?_, hw'⟩
          have hlen : 1 ≤ len := hlen
          have := ha' (by omega)
          subst this
          subst hsame
          simp only [convert, Sem.run_bind, run_underlying hd, Result.andThen_ok]
          simp [run_underlying hu, hrun]
        cases hx with
        | slice hi hlc ha' => obtain ⟨w', h1, h2⟩ := fin _ _ _ hi hlc ha' rfl; exact ⟨_, w', h1, .slice hi hlc ha', h2⟩
        | sliceU hi hlc ha' h4 => obtain ⟨w', h1, h2⟩ := fin _ _ _ hi hlc ha' rfl; exact ⟨_, w', h1, .sliceU hi hlc ha' h4, h2⟩
    · cases h
  · cases h

theorem aConv0_sound (hcx : CxOK P cx) (hw : RelW (szOf cx) base w0 μ H w) {src dst : TypeId} {x v : AV} {X : Value} (h : aConv0 cx src dst x H = some v) (hx : RelV μ x X) :
    ∃ z w', (convert src dst X).run P w = .ok z w' ∧ RelV μ v z ∧ RelW (szOf cx) base w0 μ H w' := by
  unfold aConv0 at h
  replace h := ob_eq h; obtain ⟨s, hs, h⟩ := h
  replace h := ob_eq h; obtain ⟨d, hd, h⟩ := h
  have hts := hcx.ty src s hs
  have htd := hcx.ty dst d hd
  obtain ⟨ds, hus, hks⟩ := hts.und
  obtain ⟨dd, hud, hkd⟩ := htd.und
  cases hdd : d.desc <;> rw [hdd] at h hkd <;> simp only at h <;> try (cases h; done)
  case int k =>
    simp only [convInt] at h
    replace h := ob_eq h; obtain ⟨a, ha, h⟩ := h
    injection h with h; subst h
    cases int?_eq ha; cases rel_int hx
    cases dd <;> simp only [DescOK] at hkd
    subst hkd
    refine ⟨_, w, ?_, by rw [wrapA_eq]; exact .int _ _, hw⟩
    simp only [convert, Sem.run_bind, run_underlying hus, run_underlying hud, Result.andThen_ok]
    cases ds <;> rfl
  case string =>
    cases dd <;> simp only [DescOK] at hkd
    unfold convStr at h
    split at h
    · rename_i hsd
      replace h := ob_eq h; obtain ⟨l, hl, h⟩ := h
      injection h with h; subst h
      cases str?_eq hl; cases rel_str hx
      refine ⟨_, w, ?_, .str l, hw⟩
      simp only [convert, Sem.run_bind, run_underlying hus, run_underlying hud, Result.andThen_ok]
      cases ds <;> rfl
    · rename_i e hsd
      rw [hsd] at hks
      cases ds <;> simp only [DescOK] at hks
      subst hks
      obtain ⟨z, h1, h2⟩ := sliceStr_sound hcx hw h hx hus hud
      exact ⟨z, w, h1, h2, hw⟩
    · cases h
  case slice e =>
    cases dd <;> simp only [DescOK] at hkd
    subst hkd
    exact convSlice_sound hcx hw h hx hs hud

theorem aConv_sound (hcx : CxOK P cx) (hw : RelW (szOf cx) base w0 μ H w) {src dst : TypeId} {x v : AV} {X : Value} (h : aConv cx src dst x H = some v) (hx : RelV μ x X) :
    ∃ z w', (convert src dst X).run P w = .ok z w' ∧ RelV μ v z ∧ RelW (szOf cx) base w0 μ H w' := by
  unfold aConv at h
  split at h
  · rename_i nl len cs
    unfold fStr at h
    replace h := ob_eq h; obtain ⟨s, hs, h⟩ := h
    replace h := ob_eq h; obtain ⟨d, hd, h⟩ := h
    have hts := hcx.ty src s hs
    have htd := hcx.ty dst d hd
    obtain ⟨ds, hus, hks⟩ := hts.und
    obtain ⟨dd, hud, hkd⟩ := htd.und
    cases hdd : d.desc <;> rw [hdd] at h hkd <;> simp only at h <;> try (cases h; done)
    cases hsd : s.desc <;> rw [hsd] at h hks <;> simp only at h <;> try (cases h; done)
    rename_i e
    rw [cb_eq] at h
    split at h
    · rename_i hc
      simp only [Bool.and_eq_true, nbeq, decide_eq_true_eq] at hc
      replace h := ob_eq h; obtain ⟨l, hl, h⟩ := h
      injection h with h; subst h
      cases dd <;> simp only [DescOK] at hkd
      cases ds <;> simp only [DescOK] at hks
      subst hks
      obtain ⟨hu, _⟩ := isU8_eq hc.1 hcx
      have hcv : ∀ (X : Value), (∀ k n, X ≠ .int k n) → (∀ s, X ≠ .string s) → (∀ k n, X ≠ .float k n) → (∀ k n m, X ≠ .complex k n m) → (convert src dst X).run P w = (Conv.bytesToString X).run P w := fun X h1 h2 h3 h4 => by
        simp only [convert, Sem.run_bind, run_underlying hus, run_underlying hud, Result.andThen_ok]
        cases X <;> first
          | (simp [run_underlying hu]; done)
          | exact absurd rfl (h1 _ _)
          | exact absurd rfl (h2 _)
          | exact absurd rfl (h3 _ _)
          | exact absurd rfl (h4 _ _ _)
      cases hx with
      | fslN =>
        simp only [bytesOf] at hl
        injection hl with hl; subst hl
        refine ⟨.string ⟨#[]⟩, w, ?_, .str [], hw⟩
        rw [hcv _ (by intros; simp) (by intros; simp) (by intros; simp) (by intros; simp)]
        simp [Conv.bytesToString]; rfl
      | fsl hz hr hv hlc =>
        rename_i cap a arr vs
        have hlen := hr.length
        refine ⟨.string ⟨l.toArray⟩, w, ?_, .str l, hw⟩
        rw [hcv _ (by intros; simp) (by intros; simp) (by intros; simp) (by intros; simp)]
        have hload : (loadCells a len).run P w = .ok vs.toArray w := by
          have e2 : len = vs.length := by rw [hlen]; exact hc.2.symm
          rw [e2]
          exact run_loadList _ vs (froz_read hw hz hr hv)
        simp only [Conv.bytesToString, Sem.run_bind, hload, Result.andThen_ok]
        rw [← Array.forIn_toList]
        rw [bytes_run (P := P) (w := w) (μ := μ) _ (fun _ _ => rfl) vs cs l ByteArray.empty hl hr]
        simp only [Result.andThen_ok, Sem.run_pure]
        congr 3
        simp
    · cases h
  · exact aConv0_sound hcx hw h hx
end
end Go.Ab

/- Operations that make a block; stores; append; copy; maps that are written. -/
import Derived.Test.YtecncappdnhbaaaAbH
import Derived.Laws.Append
set_option autoImplicit false
set_option linter.unusedVariables false
set_option linter.unusedSimpArgs false
set_option linter.unusedSectionVars false
namespace Go.Ab
open Go.RowKit Go.MapKept

theorem reps_get {α : Type} (z : List α) (n k : Nat) : (reps n z)[k]? = if k < n * z.length then z[k % z.length]? else none := by
  induction n generalizing k with
  | zero => simp [reps]
  | succ n ih =>
    simp only [reps]
    by_cases h : k < z.length
    · rw [List.getElem?_append_left h, if_pos (by rw [Nat.succ_mul]; omega), Nat.mod_eq_of_lt h]
    · have h : z.length ≤ k := Nat.le_of_not_lt h
      rw [List.getElem?_append_right h, ih]
      have e : (k - z.length) % z.length = k % z.length := by
        rw [← Nat.mod_eq_sub_mod h]
      rw [e]
      by_cases h2 : k < (n + 1) * z.length
      · rw [if_pos h2, if_pos (by rw [Nat.succ_mul] at h2; omega)]
      · rw [if_neg h2, if_neg (by rw [Nat.succ_mul] at h2; omega)]
theorem reps_len {α : Type} (z : List α) (n : Nat) : (reps n z).length = n * z.length := by
  induction n with
  | zero => simp [reps]
  | succ n ih => simp [reps, ih, Nat.succ_mul]; omega

/-- n cells of zeroes, as the model lays them. -/
theorem zeros_rel {μ : Inj} {zs : List AV} {z : Array Value} (h : RelL μ zs z.toList) (n : Nat) : RelL μ (reps n zs) ((Array.range (n * z.size)).map (z[· % z.size]!)).toList := by
  have hl := h.length
  simp at hl
  refine RelL.of_get (by simp [reps_len, hl]) fun k v x hv hx => ?_
  rw [reps_get] at hv
  split at hv
  · rename_i hk
    obtain ⟨y, hy, r⟩ := h.get _ _ hv
    rw [← hl] at hk hy
    simp at hx
    obtain ⟨_, hx⟩ := hx
    have hpos : 0 < z.size := by
      rcases Nat.eq_zero_or_pos z.size with e | e
      · rw [e] at hk; simp at hk
      · exact e
    have hlt : k % z.size < z.size := Nat.mod_lt _ hpos
    have e2 : z[k % z.size]! = y := by
      rw [getElem!_pos z _ hlt]
      simpa [hlt] using hy
    obtain ⟨h1, h2⟩ := hx
    have e1 := (List.getElem?_eq_some_iff.1 h1).2
    rw [List.getElem_range] at e1
    subst e1
    rw [e2] at h2
    subst h2
    exact r
  · cases hv
theorem zeros_rel' {μ : Inj} {zs : List AV} {z : Array Value} (h : RelL μ zs z.toList) (n m : Nat) (hm : m = n * zs.length) : RelL μ (reps n zs) ((Array.range m).map (z[· % z.size]!)).toList := by
  have hl := h.length
  simp at hl
  rw [hm, ← hl]
  exact zeros_rel h n

section
variable {P : Program} {cx : Cx} (hcx : CxOK P cx) {μ : Inj} {base : Nat → Prop} {w0 w : World} {H : Heap} (hw : RelW (szOf cx) base w0 μ H w) {g : Env} {a : Act} (hf : RelF μ g a.tmps)

/-- what an allocation comes to in the world: the object, its value. -/
structure MadeOK (P : Program) (sz : TypeId → Nat) (base : Nat → Prop) (μ : Inj) (m : Made) (w : World) (i : BI) (x : Value) (o : Obj) (w1 : World) : Prop where
  heap : w1.heap = w.heap
  os : w1.os = w.os
  tape : w1.tape = w.tape
  out : w1.output = w.output
  at_ : i.blk = w.heap.size
  val : ∀ b μ', Ext μ μ' → μ' b = some i → RelV μ' (m.1 b) x
  blk : ∀ μ', Ext μ μ' → ¬ base w.heap.size → RelB sz base μ' i (w1.alloc o) m.2

theorem cells_made {e : TypeId} {cs : List AV} {xs : List Value} (hr : RelL μ cs xs) (w : World) (len : Nat) (hl : len = cs.length) (rest : List Value) (fr : Nat × Nat) (hfr : freeRow (xs ++ rest).length fr) (i : BI)
    (hi : i = ⟨w.heap.size, 0, (xs ++ rest).length, szOf cx e⟩) (μ' : Inj) (he : Ext μ μ') (hb : ¬ base w.heap.size) :
    RelB (szOf cx) base μ' i (w.alloc (.cells (xs ++ rest).toArray e fr)) (.cells true e len cs) := by
  subst hi
  refine ⟨hl, (xs ++ rest).toArray, e, fr, (MapKept.heap_alloc w _).1, fun k v hv => ?_, fun _ => ⟨hb, rfl, rfl, by simp, rfl, by simpa using hfr⟩⟩
  obtain ⟨x, hx, r⟩ := (hr.mono he).get k v hv
  refine ⟨x, ?_, r⟩
  have hlt : k < xs.length := (List.getElem?_eq_some_iff.1 hx).1
  simp only [Nat.zero_add, List.getElem?_toArray]
  rw [List.getElem?_append_left hlt]; exact hx

theorem freeze_alloc (w : World) (arr : Array Value) (e : TypeId) : (w.alloc (.cells arr e)).freeze ⟨w.heap.size, arr.size, none⟩ 1 = w.alloc (.cells arr e (arr.size, arr.size + 1)) := by
  show ({ w with heap := (w.heap.push (.cells arr e)).modify w.heap.size _ } : World) = { w with heap := w.heap.push (.cells arr e (arr.size, arr.size + 1)) }
  congr 1
  apply Array.ext_getElem?
  intro k
  rw [Array.getElem?_modify, Array.getElem?_push, Array.getElem?_push]
  by_cases hk : k = w.heap.size
  · subst hk; simp
  · simp only [if_neg hk, if_neg (Ne.symm hk)]

include hcx in
/-- the zeroes of a row, as the model finds them. -/
theorem zeros_run {e : TypeId} {et : ATy} (het : cx.ty e = some et) (w : World) (n m : Nat) (hm : m = n * et.size) :
    (m = 0 ∧ RelL μ (reps n et.zero.cells) ((Array.range m).map ((#[] : Array Value)[· % (#[] : Array Value).size]!)).toList) ∨
      (m ≠ 0 ∧ ∃ z, (zeroValue e).run P w = .ok z w ∧ RelL μ (reps n et.zero.cells) ((Array.range m).map (z.cells[· % z.cells.size]!)).toList) := by
  have hety := hcx.ty _ et het
  obtain ⟨z, hz, rz⟩ := hety.run_zero w μ
  have hzz := hety.zero
  by_cases h0 : m = 0
  · refine .inl ⟨h0, ?_⟩
    have : reps n et.zero.cells = [] := List.eq_nil_of_length_eq_zero (by rw [reps_len, hzz]; omega)
    rw [this, h0]; simp; exact .nil
  · exact .inr ⟨h0, z, hz, zeros_rel' (rz.cells hety.nz) n _ (by rw [hzz]; exact hm)⟩

include hcx in
theorem aBuildSlice_sound {t : TypeId} {n : Nat} {ps : List (Nat × AV)} {qs : List (Nat × Value)} {m : Made} (h : aBuildSlice cx t n ps = some m) (hp : RelP μ ps qs) (w : World) :
    ∃ e cs xs, RelL μ cs xs ∧ m = (fun b => .slice (some (b, 0)) n (some n), mkCells true e cs) ∧
      (Instr.buildSlice t n qs.toArray).run P w = .ok (.slice (some ⟨w.heap.size, 0, none⟩) n n) (w.alloc (.cells xs.toArray e)) := by
  unfold aBuildSlice at h
  split at h
  · rename_i e _ _ _ _ ht
    split at h
    · rename_i et het
      split at h
      · rename_i hsz
        replace h := ob_eq h; obtain ⟨cs, hcs, h⟩ := h
        injection h with h; subst h
        obtain ⟨d, hu, hd⟩ := (hcx.ty t _ ht).und
        cases d <;> simp only [DescOK] at hd
        subst hd
        have hety := hcx.ty _ et het
        have hlim : ¬ n * et.size > 2 ^ 24 := by omega
        rcases zeros_run (μ := μ) hcx het w n (n * et.size) rfl with ⟨h0, rzc⟩ | ⟨h0, z, hz, rzc⟩
        · obtain ⟨ys, hy, hr⟩ := fill_sound (PL := fun i => some (i * et.size, et.size)) (fun i r hi => hi) hcs hp rzc
          rw [Array.toArray_toList] at hy
          refine ⟨e, cs, ys, hr, rfl, ?_⟩
          simp only [Instr.buildSlice, Sem.run_bind, run_underlying hu, Result.andThen_ok, hety.run_size, if_neg hlim, if_pos h0, pure_bind, hy, newRow, run_newObj_alloc, Sem.run_pure]
        · obtain ⟨ys, hy, hr⟩ := fill_sound (PL := fun i => some (i * et.size, et.size)) (fun i r hi => hi) hcs hp rzc
          rw [Array.toArray_toList] at hy
          refine ⟨e, cs, ys, hr, rfl, ?_⟩
          simp only [Instr.buildSlice, Sem.run_bind, run_underlying hu, Result.andThen_ok, hety.run_size, if_neg hlim, if_neg h0, hz, pure_bind, hy, newRow, run_newObj_alloc, Sem.run_pure]
      · cases h
    · cases h
  · cases h

include hcx in
theorem aMakeSlice_sound {t : TypeId} {l c : AV} {L C : Value} {m : Made} (h : aMakeSlice cx t l c = some m) (rl : RelV μ l L) (rc : RelV μ c C) (w : World) :
    ∃ e cs xs len cap, RelL μ cs xs ∧ len ≤ cap ∧ m = (fun b => .slice (some (b, 0)) len (some cap), mkCells true e cs) ∧
      (Instr.makeSlice t L C).run P w = .ok (.slice (some ⟨w.heap.size, 0, none⟩) len cap) (w.alloc (.cells xs.toArray e)) := by
  unfold aMakeSlice at h
  split at h
  · rename_i ty e _ _ _ _ kl len kc cap ht
    have el := rel_int rl
    have ec := rel_int rc
    subst el; subst ec
    split at h
    · rename_i et het
      split at h
      · rename_i hc
        obtain ⟨c1, c2, c3, c4⟩ := hc
        injection h with h; subst h
        obtain ⟨d, hu, hd⟩ := (hcx.ty t _ ht).und
        cases d <;> simp only [DescOK] at hd
        subst hd
        have hety := hcx.ty _ et het
        obtain ⟨inf, hinf, hby, hsz⟩ := hety.run_bytes w
        have wl : IntKind.i64.wrap len = len := IntWalk.i64_in _ (by omega)
        have wc : IntKind.i64.wrap cap = cap := IntWalk.i64_in _ (by omega)
        have hcond : (((decide (cap < 0) || decide ((inf.bytes : Int) * cap > 2 ^ 48)) || decide (len < 0) || decide (len > cap))) = false := by
          rw [hby]
          simp only [Bool.or_eq_false_iff, decide_eq_false_iff_not]
          refine ⟨⟨⟨by omega, ?_⟩, by omega⟩, by omega⟩
          have : (2 : Int) ^ 48 = 281474976710656 := by decide
          rw [this]; omega
        rcases zeros_run (μ := μ) hcx het w cap.toNat (cap.toNat * et.size) rfl with ⟨h0, rzc⟩ | ⟨h0, z, hz, rzc⟩
        · refine ⟨e, _, _, len.toNat, cap.toNat, rzc, by omega, rfl, ?_⟩
          simp only [Instr.makeSlice, Sem.run_bind, run_underlying hu, Result.andThen_ok, asInt, asIntOf, Sem.run_pure, pure_bind, hinf, wl, wc]
          rw [hcond]
          simp only [Bool.false_eq_true, if_false, Sem.run_bind, pure_bind, run_askRoom, Result.andThen_ok, hety.run_size, if_pos h0, newRow, run_newObj_alloc, Sem.run_pure, Array.toArray_toList]
        · refine ⟨e, _, _, len.toNat, cap.toNat, rzc, by omega, rfl, ?_⟩
          simp only [Instr.makeSlice, Sem.run_bind, run_underlying hu, Result.andThen_ok, asInt, asIntOf, Sem.run_pure, pure_bind, hinf, wl, wc]
          rw [hcond]
          simp only [Bool.false_eq_true, if_false, Sem.run_bind, pure_bind, run_askRoom, Result.andThen_ok, hety.run_size, if_neg h0, hz, newRow, run_newObj_alloc, Sem.run_pure, Array.toArray_toList]
      · cases h
    · cases h
  · cases h

theorem isOne_eq {e : TypeId} (h : isOne cx e = true) : szOf cx e = 1 := by
  unfold isOne at h
  split at h
  · rename_i ty ht
    rw [nbeq] at h
    rw [szOf_eq ht]; exact of_decide_eq_true h
  · cases h

/-- the bytes of a text, as values. -/
def valBytes (l : List UInt8) : List Value := l.map fun b => .int .u8 b.toNat
theorem ofBytes_rel (l : List UInt8) : RelL μ (ofBytes l) (valBytes l) := by
  induction l with
  | nil => exact .nil
  | cons b l ih => exact .cons (.int _ _) ih

include hcx in
theorem aBytes_sound {s d : TypeId} {x : AV} {X : Value} {m : Made} (h : aBytes cx d x = some m) (hs : isStringT cx s = true) (r : RelV μ x X) (w : World) :
    ∃ e l cap, l.length ≤ cap ∧ m = (fun b => .slice (some (b, 0)) l.length none, mkCells true e (ofBytes l)) ∧ szOf cx e = 1 ∧
      (convert s d X).run P w = .ok (.slice (some ⟨w.heap.size, 0, none⟩) l.length cap)
        ((w.drew.alloc (.cells (valBytes l ++ List.replicate (cap - l.length) (Value.int .u8 0)).toArray e)).freeze ⟨w.heap.size, cap, none⟩ 1) := by
  unfold aBytes at h
  replace h := ob_eq h; obtain ⟨e, he, h⟩ := h
  replace h := ob_eq h; obtain ⟨l, hl, h⟩ := h
  rw [cb_eq] at h
  split at h
  · rename_i hu8
    rw [Bool.and_eq_true] at hu8
    injection h with h; subst h
    obtain ⟨hue, et, het, hety⟩ := isU8_eq hu8.1 hcx
    cases str?_eq hl
    have ex := rel_str r
    subst ex
    unfold isSliceT at he
    split at he
    · rename_i e _ _ _ _ hd
      injection he with he; subst he
      obtain ⟨dd, hud, hdd⟩ := (hcx.ty d _ hd).und
      cases dd <;> simp only [DescOK] at hdd
      subst hdd
      unfold isStringT at hs
      split at hs
      · rename_i hst
        obtain ⟨ds, hus, hds⟩ := (hcx.ty s _ hst).und
        cases ds <;> simp only [DescOK] at hds
        obtain ⟨cap, hcap, hrun⟩ : ∃ cap, l.length ≤ cap ∧ (choose (.appendCap l.length 0 e)).run P w = .ok cap w.drew :=
          ⟨(Question.appendCap l.length 0 e).cut (w.tape w.drawn (.appendCap l.length 0 e)), Nat.le_add_right _ _, by rw [run_choose_drew, if_neg (by simp [Question.forced])]⟩
        refine ⟨e, l, cap, hcap, rfl, isOne_eq hu8.2, ?_⟩
        have hsz : (ByteArray.mk l.toArray).size = l.length := by simp [ByteArray.size]
        have harr : l.toArray.map (fun b => Value.int .u8 b.toNat) ++ Array.replicate (cap - l.length) (Value.int .u8 0) = (valBytes l ++ List.replicate (cap - l.length) (Value.int .u8 0)).toArray := by
          apply Array.ext'; simp [valBytes]
        have hmark := stringish_run (P := P) (w := w.drew.alloc (.cells (valBytes l ++ List.replicate (cap - l.length) (Value.int .u8 0)).toArray _)) (a := ⟨w.heap.size, 0, none⟩) (MapKept.heap_alloc w.drew (.cells (valBytes l ++ List.replicate (cap - l.length) (Value.int .u8 0)).toArray e)).1
        have hcl : (valBytes l ++ List.replicate (cap - l.length) (Value.int .u8 0)).toArray.size = cap := by simp [valBytes]; omega
        rw [hcl] at hmark
        simp only [convert, Sem.run_bind, run_underlying hus, run_underlying hud, Result.andThen_ok, run_underlying hue, Conv.stringToBytes, hsz, hrun, harr, newRow, run_newObj_alloc, Sem.run_pure]
        have e1 : w.drew.heap.size = w.heap.size := rfl
        rw [e1, hmark]
        rfl
      · cases hs
    · cases he
  · cases h

include hcx hf in
/-- **All operations that make a block.** -/
theorem aMade_sound {o : Oper} {m : Made} (h : aMade cx o.op g = some m) (hk : kindOf cx o.op = .made) (w : World) :
    ∃ x ob i w1, (execOp a.eval o).run P w = .ok (.value x) (w1.alloc ob) ∧ MadeOK P (szOf cx) base μ m w i x ob w1 := by
  obtain ⟨dst, op, ty', pos, after, guard⟩ := o
  simp only at h hk
  -- a block without more room
  have plain : ∀ {e : TypeId} {cs : List AV} {xs : List Value} {val : Nat → AV} {x : Value} (s : Sem Value), RelL μ cs xs →
      s.run P w = .ok x (w.alloc (.cells xs.toArray e)) → (∀ b μ', μ' b = some (⟨w.heap.size, 0, xs.length, szOf cx e⟩ : BI) → RelV μ' (val b) x) →
      ∃ x ob i w1, (do pure (Next.value (← s)) : Sem Next).run P w = .ok (.value x) (w1.alloc ob) ∧ MadeOK P (szOf cx) base μ (val, mkCells true e cs) w i x ob w1 := by
    intro e cs xs val x s hr hs hv
    refine ⟨x, .cells xs.toArray e, ⟨w.heap.size, 0, xs.length, szOf cx e⟩, w, by simp [hs], ⟨rfl, rfl, rfl, rfl, rfl, fun b μ' _ e => hv b μ' e, fun μ' he hb => ?_⟩⟩
    have := cells_made (cx := cx) (base := base) (e := e) hr w cs.length rfl [] (0, 0) (.inl rfl) ⟨w.heap.size, 0, xs.length, szOf cx e⟩ (by simp) μ' he hb
    simpa [mkCells] using this
  cases op <;> simp only [aMade] at h <;> try (cases h; done)
  case alloc t =>
    replace h := ob_eq h; obtain ⟨ty, ht, h⟩ := h
    injection h with h; subst h
    obtain ⟨z, hz, rz⟩ := (hcx.ty t ty ht).run_zero w μ
    refine plain (xs := z.cells.toList) (x := .pointer (some ⟨w.heap.size, 0, none⟩)) (Instr.alloc t true (.tuple #[])) (rz.cells (hcx.ty t ty ht).nz) ?_ (fun b μ' e => .ptr e)
    simp [Instr.alloc, hz, newVar, newRow]
  case box t x =>
    unfold mBox at h
    replace h := ob_eq h; obtain ⟨v, hv, h⟩ := h
    injection h with h; subst h
    have r := ev_sound hf hv
    refine plain (xs := (a.eval x).cells.toList) (x := .pointer (some ⟨w.heap.size, 0, none⟩)) (Instr.box t (a.eval x)) (r.cells (ev_known hv)) ?_ (fun b μ' e => .ptr e)
    simp [Instr.box, newVar, newRow]
  case buildSlice t n ps =>
    unfold mBuild at h
    replace h := ob_eq h; obtain ⟨qs, hqs, h⟩ := h
    obtain ⟨e, cs, xs, hr, rfl, hrun⟩ := aBuildSlice_sound hcx h (evParts_sound hf hqs) w
    have e1 : (ps.map fun (i, x) => (i, a.eval x)) = (ps.toList.map fun p => (p.1, a.eval p.2)).toArray := by
      rw [← Array.toList_map, Array.toArray_toList]
    have := plain (xs := xs) (Instr.buildSlice t n (ps.map fun (i, x) => (i, a.eval x))) hr (by rw [e1]; exact hrun) (val := fun b => .slice (some (b, 0)) n (some n)) (fun b μ' e => .slice e (Nat.le_refl _) (fun _ => rfl))
    exact this
  case makeSlice t l c =>
    unfold mMake at h
    replace h := ob_eq h; obtain ⟨lv, hlv, h⟩ := h
    replace h := ob_eq h; obtain ⟨cv, hcv, h⟩ := h
    obtain ⟨e, cs, xs, len, cap, hr, hlc, rfl, hrun⟩ := aMakeSlice_sound hcx h (ev_sound hf hlv) (ev_sound hf hcv) w
    exact plain (Instr.makeSlice t (a.eval l) (a.eval c)) hr hrun (val := fun b => .slice (some (b, 0)) len (some cap)) (fun b μ' e => .slice e hlc (fun _ => rfl))
  case makeMap t r =>
    unfold mMap at h
    rw [cb_eq] at h
    split at h
    · rename_i hr
      injection h with h; subst h
      have hr : r = none := by cases r with | none => rfl | some _ => cases hr
      subst hr
      refine ⟨.map (some w.heap.size), .map #[] 0, ⟨w.heap.size, 0, 0, 0⟩, w, ?_, ⟨rfl, rfl, rfl, rfl, rfl, fun b μ' _ e => RelV.map (i := ⟨w.heap.size, 0, 0, 0⟩) e, fun μ' he hb => ⟨hb, #[], 0, (MapKept.heap_alloc w _).1, .nil⟩⟩⟩
      simp [execOp, Instr.makeMap]
    · cases h
  case convert s d x =>
    replace h := ob_eq h; obtain ⟨u, hu, h⟩ := h
    have hmb : isStringT cx s = true := by
      simp only [kindOf, cb_eq, makesBytes] at hk
      split at hk
      · rename_i hh; simp only [Bool.and_eq_true] at hh; exact hh.1
      · cases hk
    obtain ⟨e, l, cap, hcap, rfl, hsz, hrun⟩ := aBytes_sound hcx h hmb (ev_sound hf hu) w
    have hcl : (valBytes l ++ List.replicate (cap - l.length) (Value.int .u8 0)).length = cap := by simp [valBytes]; omega
    refine ⟨.slice (some ⟨w.heap.size, 0, none⟩) l.length cap, .cells (valBytes l ++ List.replicate (cap - l.length) (Value.int .u8 0)).toArray e (cap, cap + 1), ⟨w.heap.size, 0, cap, szOf cx e⟩, w.drew, ?_, ⟨rfl, rfl, rfl, rfl, rfl, fun b μ' _ he => ?_, fun μ' he hb => ?_⟩⟩
    · have hfr := freeze_alloc w.drew (valBytes l ++ List.replicate (cap - l.length) (Value.int .u8 0)).toArray e
      have hcl' : (valBytes l ++ List.replicate (cap - l.length) (Value.int .u8 0)).toArray.size = cap := by simpa using hcl
      rw [hcl'] at hfr
      rw [← hfr]
      simp only [execOp, Sem.run_bind, hrun, Result.andThen_ok, Sem.run_pure]
      rfl
    · exact .sliceU he hcap (fun _ => rfl) (fun _ => by simp [hsz])
    · have := cells_made (cx := cx) (base := base) (e := e) (ofBytes_rel (μ := μ) l) w.drew (ofBytes l).length rfl (List.replicate (cap - l.length) (Value.int .u8 0)) (cap, cap + 1) (by rw [hcl]; exact .inr (Nat.le_refl _)) ⟨w.heap.size, 0, cap, szOf cx e⟩ (by rw [hcl]; rfl) μ' he hb
      exact this
end
end Go.Ab

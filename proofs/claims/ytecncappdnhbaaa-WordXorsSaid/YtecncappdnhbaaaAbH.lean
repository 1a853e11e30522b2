/- All operations that change nothing; all that make a block. -/
import Derived.Test.YtecncappdnhbaaaAbG
set_option autoImplicit false
set_option linter.unusedVariables false
set_option linter.unusedSimpArgs false
set_option linter.unusedSectionVars false
namespace Go.Ab
open Go.RowKit Go.MapKept

section
variable {P : Program} {cx : Cx} (hcx : CxOK P cx) {μ : Inj} {base : Nat → Prop} {w0 w : World} {H : Heap} (hw : RelW (szOf cx) base w0 μ H w) {g : Env} {a : Act} (hf : RelF μ g a.tmps)

include hcx hw in
theorem aLen0_sound {t : TypeId} {x v : AV} {X : Value} (h : aLen0 cx t x H = some v) (hx : RelV μ x X) (ty' : TypeId) : ∃ z, (Builtin.len_ #[t] ty' #[X]).run P w = .ok z w ∧ RelV μ v z := by
  unfold aLen0 at h
  replace h := ob_eq h; obtain ⟨ty, ht, h⟩ := h
  obtain ⟨d, hu, hk⟩ := (hcx.ty t ty ht).und
  cases hd : ty.desc <;> rw [hd] at h hk <;> simp only at h <;> try (cases h; done)
  case string =>
    replace h := ob_eq h; obtain ⟨s, hs, h⟩ := h
    injection h with h; subst h
    cases str?_eq hs; cases rel_str hx
    cases d <;> simp only [DescOK] at hk
    have hsz : (ByteArray.mk s.toArray).size = s.length := by simp [ByteArray.size]
    exact ⟨.int .i64 s.length, by simp [Builtin.len_, run_underlying hu, goInt, hsz], .int _ _⟩
  case array n e =>
    injection h with h; subst h
    cases d <;> simp only [DescOK] at hk
    obtain ⟨rfl, rfl⟩ := hk
    exact ⟨.int .i64 n, by simp [Builtin.len_, run_underlying hu, goInt], .int _ _⟩
  case slice e =>
    replace h := ob_eq h; obtain ⟨s, hs, h⟩ := h
    injection h with h; subst h
    cases slice?_eq hs
    cases d <;> simp only [DescOK] at hk
    obtain ⟨p, len, cap⟩ := s
    simp only at hx
    cases hx <;> exact ⟨.int .i64 _, by simp [Builtin.len_, run_underlying hu, goInt], .int _ _⟩
  case map k e =>
    replace h := ob_eq h; obtain ⟨r, hr, h⟩ := h
    cases map?_eq hr
    cases d <;> simp only [DescOK] at hk
    unfold lenMap at h
    split at h
    · injection h with h; subst h
      cases hx
      exact ⟨.int .i64 0, by simp [Builtin.len_, run_underlying hu, goInt], .int _ _⟩
    · rename_i r'
      split at h
      · rename_i es hg
        injection h with h; subst h
        cases hx with
        | map hi =>
          have := hw.blk _ _ hi
          rw [hg] at this
          obtain ⟨_, fs, clock, hb, hrel⟩ := this
          have hlen : fs.size = es.length := by
            rw [← Array.length_toList]
            clear hb hg hw
            generalize fs.toList = l at hrel
            induction hrel with
            | nil => rfl
            | cons _ _ _ ih => simp [ih]
          refine ⟨.int .i64 es.length, ?_, .int _ _⟩
          simp [Builtin.len_, run_underlying hu, goInt, MapKept.run_getObj_map hb, hlen]
      · cases h

include hcx hw in
theorem aLen_sound {t : TypeId} {x v : AV} {X : Value} (h : aLen cx t x H = some v) (hx : RelV μ x X) (ty' : TypeId) : ∃ z, (Builtin.len_ #[t] ty' #[X]).run P w = .ok z w ∧ RelV μ v z := by
  unfold aLen at h
  split at h
  · rename_i nl len cs
    rw [cb_eq] at h
    split at h
    · rename_i hs
      injection h with h; subst h
      unfold isSliceD at hs
      split at hs
      · rename_i ty ht
        obtain ⟨d, hu, hk⟩ := (hcx.ty t ty ht).und
        split at hs
        · rename_i e hd
          rw [hd] at hk
          cases d <;> simp only [DescOK] at hk
          cases hx <;> exact ⟨.int .i64 _, by simp [Builtin.len_, run_underlying hu, goInt], .int _ _⟩
        · cases hs
      · cases hs
    · cases h
  · exact aLen0_sound hcx hw h hx ty'

theorem two_sound {f : IntKind → Int → Int → AV} {l : List AV} {xs : List Value} {v : AV} (h : two f l = some v) (hr : RelL μ l xs) : ∃ k a b, xs = [.int k a, .int k b] ∧ v = f k a b := by
  unfold two at h
  split at h
  · replace h := ob_eq h; obtain ⟨p, hp, h⟩ := h
    replace h := ob_eq h; obtain ⟨q, hq, h⟩ := h
    split at h
    · rename_i hk
      injection h with h
      cases int?_eq hp; cases int?_eq hq
      cases hr with
      | cons r1 r2 => cases r2 with
        | cons r3 r4 => cases r4; cases rel_int r1; cases rel_int r3; exact ⟨p.1, p.2, q.2, by rw [hk], h.symm⟩
    · cases h
  · cases h

include hcx hw in
theorem qBuiltin_sound {b : Builtin} {ts : List TypeId} {l : List AV} {xs : List Value} {v : AV} (h : qBuiltin cx b ts l H = some v) (hr : RelL μ l xs) (ty' : TypeId) (cs : Array Bool) :
    ∃ z, (builtin b ts.toArray ty' cs xs.toArray).run P w = .ok (.value z) w ∧ RelV μ v z := by
  cases b <;> simp only [qBuiltin] at h <;> try (cases h; done)
  case len =>
    unfold qLen at h
    split at h
    · split at h
      · cases hr with
        | cons r1 r2 =>
          cases r2
          obtain ⟨z, hz, hv⟩ := aLen_sound hcx hw h r1 ty'
          exact ⟨z, by simp [builtin, hz], hv⟩
      · cases h
    · cases h
  case max =>
    obtain ⟨k, a, b, rfl, rfl⟩ := two_sound h hr
    exact ⟨.int k (if b > a then b else a), by simp [builtin, Builtin.max_, Builtin.max2], .int _ _⟩
  case min =>
    obtain ⟨k, a, b, rfl, rfl⟩ := two_sound h hr
    exact ⟨.int k (if b < a then b else a), by simp [builtin, Builtin.min_, Builtin.min2], .int _ _⟩

include hcx hw hf in
/-- **All operations that change nothing.** -/
theorem aQuiet_sound {o : Oper} {v : AV} (h : aQuiet cx o.op g H = some v) :
    ∃ x w', (execOp a.eval o).run P w = .ok (.value x) w' ∧ RelV μ v x ∧ RelW (szOf cx) base w0 μ H w' := by
  obtain ⟨dst, op, ty', pos, after, guard⟩ := o
  simp only at h
  have lift : ∀ {s : Sem Value}, (∃ z, s.run P w = .ok z w ∧ RelV μ v z) → ∃ x w', (do pure (Next.value (← s)) : Sem Next).run P w = .ok (.value x) w' ∧ RelV μ v x ∧ RelW (szOf cx) base w0 μ H w' := by
    rintro s ⟨z, hz, hv⟩
    exact ⟨z, w, by simp [hz], hv, hw⟩
  cases op <;> simp only [aQuiet] at h <;> try (cases h; done)
  case move x => exact ⟨_, w, rfl, ev_sound hf h, hw⟩
  case assign x => exact ⟨_, w, rfl, ev_sound hf h, hw⟩
  case pick c x y =>
    replace h := ob_eq h; obtain ⟨u, hu, h⟩ := h
    simp only [ev2] at h
    replace h := ob_eq h; obtain ⟨p, hp, h⟩ := h
    replace h := ob_eq h; obtain ⟨q, hq, h⟩ := h
    simp only [pick] at h
    replace h := ob_eq h; obtain ⟨b, hb, h⟩ := h
    injection h with h; subst h
    have r1 := ev_sound hf hu
    cases bool?_eq hb
    have e1 := rel_bool r1
    have rp := ev_sound hf hp
    have rq := ev_sound hf hq
    refine ⟨if b then a.eval x else a.eval y, w, ?_, ?_, hw⟩
    · simp [execOp, e1, asBool]
    · cases b
      · exact rq
      · exact rp
  case build t ps =>
    replace h := ob_eq h; obtain ⟨u, hu, h⟩ := h
    have hp := evParts_sound hf hu
    have := aBuild_sound hcx (w := w) h hp
    refine lift (s := Instr.build t (ps.map fun (i, x) => (i, a.eval x))) ?_
    have e : (ps.map fun (i, x) => (i, a.eval x)) = (ps.toList.map fun p => (p.1, a.eval p.2)).toArray := by
      rw [← Array.toList_map, Array.toArray_toList]
    rw [e]; exact this
  case load t x =>
    replace h := ob_eq h; obtain ⟨u, hu, h⟩ := h
    exact lift (aLoad_sound hcx hw h (ev_sound hf hu))
  case nilCheck x =>
    replace h := ob_eq h; obtain ⟨u, hu, h⟩ := h
    have r := ev_sound hf hu
    unfold aNil at h
    split at h
    · injection h with h; subst h
      have r' := r
      cases hv : a.eval x <;> rw [hv] at r <;> cases r
      refine ⟨a.eval x, w, ?_, r', hw⟩
      simp [execOp, hv]
    · replace h := ob_eq h; obtain ⟨p, hp, h⟩ := h
      injection h with h; subst h
      subst hp
      have r' := r
      obtain ⟨i, hi, e⟩ := rel_ptr r
      refine ⟨a.eval x, w, ?_, r', hw⟩
      simp [execOp, e]
    · injection h with h; subst h
      have r' := r
      cases hv : a.eval x <;> rw [hv] at r <;> cases r
      refine ⟨a.eval x, w, ?_, r', hw⟩
      simp [execOp, hv]
    · injection h with h; subst h
      have r' := r
      cases hv : a.eval x <;> rw [hv] at r <;> cases r
      refine ⟨a.eval x, w, ?_, r', hw⟩
      simp [execOp, hv]
    · cases h
  case binOp op t x y yt =>
    simp only [ev2] at h
    replace h := ob_eq h; obtain ⟨p, hp, h⟩ := h
    replace h := ob_eq h; obtain ⟨q, hq, h⟩ := h
    exact lift (aBin_sound hcx w h (ev_sound hf hp) (ev_sound hf hq) x y)
  case unOp op t x =>
    replace h := ob_eq h; obtain ⟨u, hu, h⟩ := h
    exact lift (aUn_sound hcx w h (ev_sound hf hu))
  case convert s d x =>
    replace h := ob_eq h; obtain ⟨u, hu, h⟩ := h
    obtain ⟨z, w', hz, hv, hw'⟩ := aConv_sound hcx hw h (ev_sound hf hu)
    exact ⟨z, w', by simp [execOp, hz], hv, hw'⟩
  case makeFunc fn first captured =>
    unfold qFunc at h
    split at h
    · replace h := ob_eq h; obtain ⟨p, hp, h⟩ := h
      replace h := ob_eq h; obtain ⟨q, hq, h⟩ := h
      injection h with h; subst h
      refine lift ⟨_, rfl, ?_⟩
      have e1 : first.map a.eval = (first.toList.map a.eval).toArray := by rw [← Array.toList_map, Array.toArray_toList]
      have e2 : captured.map a.eval = (captured.toList.map a.eval).toArray := by rw [← Array.toList_map, Array.toArray_toList]
      rw [e1, e2]
      exact .func (evs_sound hf hp) (evs_sound hf hq)
    · cases h
  case slice t x lo hi mx =>
    unfold qSlice at h
    replace h := ob_eq h; obtain ⟨u, hu, h⟩ := h
    replace h := ob_eq h; obtain ⟨lo', hlo, h⟩ := h
    replace h := ob_eq h; obtain ⟨hi', hhi, h⟩ := h
    replace h := ob_eq h; obtain ⟨mx', hmx, h⟩ := h
    exact lift (aSlice_sound hcx h (ev_sound hf hu) (evO_sound hf hlo) (evO_sound hf hhi) (evO_sound hf hmx))
  case fieldAddr t x f =>
    replace h := ob_eq h; obtain ⟨u, hu, h⟩ := h
    exact lift (aFieldAddr_sound hcx h (ev_sound hf hu))
  case field t x f =>
    replace h := ob_eq h; obtain ⟨u, hu, h⟩ := h
    exact lift (aField_sound hcx h (ev_sound hf hu))
  case indexAddr t x i =>
    simp only [ev2] at h
    replace h := ob_eq h; obtain ⟨p, hp, h⟩ := h
    replace h := ob_eq h; obtain ⟨q, hq, h⟩ := h
    exact lift (aIndexAddr_sound hcx h (ev_sound hf hp) (ev_sound hf hq))
  case index t x i =>
    simp only [ev2] at h
    replace h := ob_eq h; obtain ⟨p, hp, h⟩ := h
    replace h := ob_eq h; obtain ⟨q, hq, h⟩ := h
    exact lift (aIndex_sound hcx h (ev_sound hf hp) (ev_sound hf hq))
  case lookup t x i ok =>
    simp only [ev2] at h
    replace h := ob_eq h; obtain ⟨p, hp, h⟩ := h
    replace h := ob_eq h; obtain ⟨q, hq, h⟩ := h
    exact lift (aLookup_sound hcx hw h (ev_sound hf hp) (ev_sound hf hq))
  case extract x i =>
    replace h := ob_eq h; obtain ⟨u, hu, h⟩ := h
    replace h := ob_eq h; obtain ⟨vs, hvs, h⟩ := h
    cases tuple?_eq hvs
    obtain ⟨xs, e, hr⟩ := rel_tuple (ev_sound hf hu)
    rw [listAt_eq] at h
    obtain ⟨z, hz, hv⟩ := hr.get _ _ h
    refine lift ⟨z, ?_, hv⟩
    simp [Instr.extract, e, hz]
  case call c =>
    unfold qCall at h
    split at h
    · rename_i b hb
      replace h := ob_eq h; obtain ⟨l, hl, h⟩ := h
      have hr := evs_sound hf hl
      obtain ⟨z, hz, hv⟩ := qBuiltin_sound hcx hw h hr ty' (c.args.map fun | .const _ => true | _ => false)
      refine ⟨z, w, ?_, hv, hw⟩
      have e : c.args.map a.eval = (c.args.toList.map a.eval).toArray := by rw [← Array.toList_map, Array.toArray_toList]
      have e2 : c.argTypes.toList.toArray = c.argTypes := by simp
      simp only [execOp, resolve, hb, pure_bind, invoke, e]
      rw [e2] at hz
      exact hz
    · cases h
end
end Go.Ab

/- Operations that name a place or build a value; the maps' keys: all that changes nothing. -/
import Derived.Test.YtecncappdnhbaaaAbE
set_option autoImplicit false
set_option linter.unusedVariables false
set_option linter.unusedSimpArgs false
set_option linter.unusedSectionVars false
namespace Go.Ab
open Go.RowKit

section
variable {P : Program} {cx : Cx} (hcx : CxOK P cx) {μ : Inj} {base : Nat → Prop} {w0 w : World} {H : Heap} (hw : RelW (szOf cx) base w0 μ H w)

/-! ### Pieces of slices -/
theorem boundInt_eq {i : Int} {most n : Nat} (h : boundInt i most = some n) : i = (n : Int) ∧ n ≤ most := by
  cases i with
  | negSucc _ => cases h
  | ofNat m =>
    simp only [boundInt, cb_eq, nble] at h
    split at h
    · rename_i hm
      injection h with h; subst h
      exact ⟨rfl, of_decide_eq_true hm⟩
    · cases h

theorem bound_run {X : Value} {v : AV} (hx : RelV μ v X) {a : IntKind × Int} (ha : v.int? = some a) {most n : Nat} (h : boundInt a.2 most = some n) {c : Nat} (hc : most ≤ c) (code : BoundsCode) :
    (Instr.sliceBound X c code).run P w = .ok n w := by
  cases int?_eq ha; cases rel_int hx
  obtain ⟨he, hle⟩ := boundInt_eq h
  have h1 : (0 : Int) ≤ a.2 ∧ a.2 ≤ (c : Int) := by omega
  simp only [Instr.sliceBound, asIntOf, pure_bind]
  rw [if_pos h1]
  simp [he]

/-- three bounds; of the capacity it need only be known that it is no less. -/
theorem bounds_run {lo hi mx : Option AV} {LO HI MX : Option Value} {len cap c : Nat} {m h l : Nat}
    (rlo : (lo = none ∧ LO = none) ∨ ∃ u y, lo = some u ∧ LO = some y ∧ RelV μ u y) (rhi : (hi = none ∧ HI = none) ∨ ∃ u y, hi = some u ∧ HI = some y ∧ RelV μ u y) (rmx : (mx = none ∧ MX = none) ∨ ∃ u y, mx = some u ∧ MX = some y ∧ RelV μ u y)
    (hm : boundOf mx cap cap = some m) (hh : boundOf hi len m = some h) (hl : boundOf lo 0 h = some l) (hn : (mx.isSome && hi.isNone) = false) (hc : cap ≤ c) (hcap : mx = none → cap = c) (b : Bool) :
    (Instr.sliceBounds b len c LO HI MX).run P w = .ok (l, h, m) w ∧ (mx = none → m = c) ∧ (mx.isSome = true → m ≤ cap) ∧ (hi.isSome = true → h ≤ m) ∧ (hi = none → h = len) ∧ (lo.isSome = true → l ≤ h) ∧ (lo = none → l = 0) := by
  have step : ∀ {v : AV} {X : Value} {most n : Nat}, boundOf (some v) 0 most = some n → RelV μ v X → n ≤ most ∧ ∀ (c : Nat) code, most ≤ c → (Instr.sliceBound X c code).run P w = .ok n w := by
    intro v X most n hb hr
    simp only [boundOf] at hb
    replace hb := ob_eq hb; obtain ⟨a, ha, hb⟩ := hb
    exact ⟨(boundInt_eq hb).2, fun c code hc => bound_run hr ha hb hc code⟩
  have hm' : (mx = none ∧ MX = none ∧ m = c ∧ cap = c) ∨ (mx.isSome = true ∧ m ≤ cap ∧ ∃ y, MX = some y ∧ ∀ code, (Instr.sliceBound y c code).run P w = .ok m w) := by
    rcases rmx with ⟨rfl, rfl⟩ | ⟨u, y, rfl, rfl, r⟩
    · simp only [boundOf] at hm; injection hm with hm
      have := hcap rfl
      exact .inl ⟨rfl, rfl, by omega, this⟩
    · obtain ⟨h1, h2⟩ := step (most := cap) (n := m) hm r
      exact .inr ⟨rfl, h1, y, rfl, fun code => h2 c code hc⟩
  have hlo : (lo = none ∧ LO = none ∧ l = 0) ∨ (lo.isSome = true ∧ l ≤ h ∧ ∃ y, LO = some y ∧ ∀ code, (Instr.sliceBound y h code).run P w = .ok l w) := by
    rcases rlo with ⟨rfl, rfl⟩ | ⟨u, y, rfl, rfl, r⟩
    · simp only [boundOf] at hl; injection hl with hl
      exact .inl ⟨rfl, rfl, hl.symm⟩
    · obtain ⟨h1, h2⟩ := step (most := h) (n := l) hl r
      exact .inr ⟨rfl, h1, y, rfl, fun code => h2 h code (Nat.le_refl _)⟩
  have hhi : (hi = none ∧ HI = none ∧ h = len) ∨ (hi.isSome = true ∧ h ≤ m ∧ ∃ y, HI = some y ∧ ∀ code, (Instr.sliceBound y m code).run P w = .ok h w) := by
    rcases rhi with ⟨rfl, rfl⟩ | ⟨u, y, rfl, rfl, r⟩
    · simp only [boundOf] at hh; injection hh with hh
      exact .inl ⟨rfl, rfl, hh.symm⟩
    · obtain ⟨h1, h2⟩ := step (most := m) (n := h) hh r
      exact .inr ⟨rfl, h1, y, rfl, fun code => h2 m code (Nat.le_refl _)⟩
  clear rmx rlo rhi hm hl hh step
  rcases hm' with ⟨rfl, rfl, rfl, rfl⟩ | ⟨em, m1, y, rfl, m2⟩ <;> rcases hhi with ⟨rfl, rfl, rfl⟩ | ⟨eh, h1, y', rfl, h2⟩ <;> rcases hlo with ⟨rfl, rfl, rfl⟩ | ⟨el, l1, y'', rfl, l2⟩ <;>
    first
      | (simp [em] at hn; done)
      | (refine ⟨by simp [Instr.sliceBounds, *], ?_, ?_, ?_, ?_, ?_, ?_⟩ <;> intro e <;> first | rfl | assumption | (cases e; done) | (subst e; simp at em; done) | (subst e; simp at eh; done) | (subst e; simp at el; done))

theorem place_rel {b o c : Nat} {i : BI} {a : Addr} (hi : μ b = some i) (ha : c ≠ 0 → a = ⟨i.blk, i.off + o, none⟩) {m l h size : Nat} (hm : m ≤ c) (hl : l ≤ h) (hh : h ≤ m) :
    (m - l ≠ 0 → (if m = l then a else a.add (l * size)) = ⟨i.blk, i.off + (o + l * size), none⟩) := by
  intro hne
  rw [if_neg (by omega), ha (by omega), addr_add, Nat.add_assoc]

/-- A piece of a slice of which the capacity is known, or named. -/
theorem sliceRow_rel {size : Nat} {p : Nat × Nat} {len cap : Nat} {lo hi mx : Option AV} {v : AV} (h : sliceRow size (some p) len cap lo hi mx = some v)
    {LO HI MX : Option Value} (rlo : (lo = none ∧ LO = none) ∨ ∃ u y, lo = some u ∧ LO = some y ∧ RelV μ u y) (rhi : (hi = none ∧ HI = none) ∨ ∃ u y, hi = some u ∧ HI = some y ∧ RelV μ u y) (rmx : (mx = none ∧ MX = none) ∨ ∃ u y, mx = some u ∧ MX = some y ∧ RelV μ u y)
    {i : BI} {a : Addr} {c : Nat} (hi' : μ p.1 = some i) (hlen : len ≤ cap) (hcap : cap ≤ c) (hce : mx = none → cap = c) (ha : c ≠ 0 → a = ⟨i.blk, i.off + p.2, none⟩) (b : Bool) :
    ∃ l h m, (Instr.sliceBounds b len c LO HI MX).run P w = .ok (l, h, m) w ∧ RelV μ v (.slice (some (if m = l then a else a.add (l * size))) (h - l) (m - l)) := by
  unfold sliceRow at h
  rw [cb_eq] at h
  split at h
  · cases h
  · rename_i hn
    replace h := ob_eq h; obtain ⟨m, hm, h⟩ := h
    replace h := ob_eq h; obtain ⟨hh, hhh, h⟩ := h
    replace h := ob_eq h; obtain ⟨l, hl, h⟩ := h
    injection h with h; subst h
    obtain ⟨hrun, m1, m2, h1, h2, l1, l2⟩ := bounds_run (P := P) (w := w) rlo rhi rmx hm hhh hl (by simpa only [Bool.not_eq_true] using hn) hcap hce b
    have hmc : m ≤ c := by
      cases mx with
      | none => exact Nat.le_of_eq (m1 rfl)
      | some _ => have := m2 rfl; omega
    have hhm : hh ≤ m := by
      cases hi with
      | some _ => exact h1 rfl
      | none =>
        have := h2 rfl
        cases mx with
        | none => have := m1 rfl; have := hce rfl; omega
        | some _ => simp at hn
    have hlh : l ≤ hh := by
      cases lo with
      | some _ => exact l1 rfl
      | none => have := l2 rfl; omega
    exact ⟨l, hh, m, hrun, .slice hi' (by omega) (place_rel hi' ha hmc hlh hhm)⟩

include hcx in
theorem aSlice0_sound {t : TypeId} {x v : AV} {lo hi mx : Option AV} {X : Value} {LO HI MX : Option Value} (h : aSlice0 cx t x lo hi mx = some v) (hx : RelV μ x X)
    (rlo : (lo = none ∧ LO = none) ∨ ∃ u y, lo = some u ∧ LO = some y ∧ RelV μ u y) (rhi : (hi = none ∧ HI = none) ∨ ∃ u y, hi = some u ∧ HI = some y ∧ RelV μ u y) (rmx : (mx = none ∧ MX = none) ∨ ∃ u y, mx = some u ∧ MX = some y ∧ RelV μ u y) :
    ∃ z, (Instr.sliceAt t X LO HI MX).run P w = .ok z w ∧ RelV μ v z := by
  unfold aSlice0 at h
  replace h := ob_eq h; obtain ⟨ty, ht, h⟩ := h
  have hty := hcx.ty t ty ht
  obtain ⟨d, hu, hk⟩ := hty.und
  cases hd : ty.desc <;> rw [hd] at h hk <;> simp only at h <;> try (cases h; done)
  case string =>
    replace h := ob_eq h; obtain ⟨s, hs, h⟩ := h
    cases str?_eq hs; cases rel_str hx
    cases d <;> simp only [DescOK] at hk
    unfold sliceStrAt at h
    rw [cb_eq] at h
    split at h
    · cases h
    · rename_i hm
      replace h := ob_eq h; obtain ⟨hh, hhh, h⟩ := h
      replace h := ob_eq h; obtain ⟨l, hl, h⟩ := h
      injection h with h; subst h
      have hmx : mx = none := by cases mx with | none => rfl | some _ => simp at hm
      subst hmx
      have hMX : MX = none := by rcases rmx with ⟨_, h⟩ | ⟨_, _, h, _⟩ <;> first | exact h | cases h
      subst hMX
      obtain ⟨hrun, _, _, h1, h2, l1, l2⟩ := bounds_run (P := P) (w := w) (len := s.length) (cap := s.length) (c := s.length) (m := s.length) rlo rhi (.inl ⟨rfl, rfl⟩ : (none = none ∧ (none : Option Value) = none) ∨ _) rfl hhh hl rfl (Nat.le_refl _) (fun _ => rfl) false
      have hsz : (ByteArray.mk s.toArray).size = s.length := by simp [ByteArray.size]
      refine ⟨.string ⟨((s.drop l).take (hh - l)).toArray⟩, ?_, .str _⟩
      simp only [Instr.sliceAt, Instr.slice, Sem.run_bind, run_underlying hu, Result.andThen_ok, Option.isSome_none, Bool.false_eq_true, if_false, pure_bind, hsz, hrun, Sem.run_pure]
      congr 2
      have hlh : l ≤ hh := by
        cases lo with
        | some _ => exact l1 rfl
        | none => have := l2 rfl; omega
      apply ByteArray.ext
      simp only [ByteArray.data_extract]
      rw [show hh = l + (hh - l) by omega]
      simp
  case slice e =>
    cases d <;> simp only [DescOK] at hk
    subst hk
    replace h := ob_eq h; obtain ⟨et, het, h⟩ := h
    replace h := ob_eq h; obtain ⟨s, hs, h⟩ := h
    have hety := hcx.ty e et het
    cases slice?_eq hs
    obtain ⟨p, len, cap⟩ := s
    simp only at h hx
    clear hs
    have fin : ∀ (a : Addr) (c l hh m : Nat), (Instr.sliceBounds true len c LO HI MX).run P w = .ok (l, hh, m) w →
        (Instr.sliceAt t (.slice (some a) len c) LO HI MX).run P w = .ok (.slice (some (if m = l then a else a.add (l * et.size))) (hh - l) (m - l)) w := by
      intro a c l hh m hrun
      simp only [Instr.sliceAt, Instr.slice, Sem.run_bind, run_underlying hu, Result.andThen_ok, hrun, hety.run_size, Sem.run_pure, Option.map_some]
      split <;> rfl
    unfold sliceSlice at h
    cases cap with
    | some cap =>
      simp only at h
      cases p with
      | none =>
        cases hx
        unfold sliceRow at h
        rw [cb_eq] at h
        split at h
        · cases h
        · rename_i hn
          replace h := ob_eq h; obtain ⟨m, hm, h⟩ := h
          replace h := ob_eq h; obtain ⟨hh, hhh, h⟩ := h
          replace h := ob_eq h; obtain ⟨l, hl, h⟩ := h
          injection h with h; subst h
          obtain ⟨hrun, m1, m2, h1, h2, l1, l2⟩ := bounds_run (P := P) (w := w) rlo rhi rmx hm hhh hl (by simpa only [Bool.not_eq_true] using hn) (Nat.le_refl 0) (fun _ => rfl) true
          have hm0 : m = 0 := by
            cases mx with
            | none => exact m1 rfl
            | some _ => have := m2 rfl; omega
          have hh0 : hh = 0 := by
            cases hi with
            | some _ => have := h1 rfl; omega
            | none => exact h2 rfl
          have hl0 : l = 0 := by
            cases lo with
            | some _ => have := l1 rfl; omega
            | none => exact l2 rfl
          subst hm0; subst hh0; subst hl0
          refine ⟨.slice none 0 0, ?_, .sliceN⟩
          simp only [Instr.sliceAt, Instr.slice, Sem.run_bind, run_underlying hu, Result.andThen_ok, hrun, hety.run_size, Sem.run_pure]
          rfl
      | some p =>
        cases hx with
        | slice hi' hlc ha =>
          obtain ⟨l, hh, m, hrun, hr⟩ := sliceRow_rel (P := P) (w := w) h rlo rhi rmx hi' hlc (Nat.le_refl _) (fun _ => rfl) ha true
          exact ⟨_, fin _ _ _ _ _ hrun, hr⟩
    | none =>
      simp only at h
      cases p with
      | none => cases h
      | some p =>
        simp only [cb_eq] at h
        cases hx with
        | sliceU hi' hlc ha ho =>
          rename_i b o c i a
          split at h
          · rename_i hm
            obtain ⟨l, hh, m, hrun, hr⟩ := sliceRow_rel (P := P) (w := w) h rlo rhi rmx hi' (Nat.le_refl _) hlc (fun e => by rw [e] at hm; cases hm) ha true
            exact ⟨_, fin _ _ _ _ _ hrun, hr⟩
          · rename_i hm
            have hmx : mx = none := by cases mx with | none => rfl | some _ => simp at hm
            subst hmx
            have hMX : MX = none := by rcases rmx with ⟨_, h⟩ | ⟨_, _, h, _⟩ <;> first | exact h | cases h
            subst hMX
            unfold sliceOpen at h
            replace h := ob_eq h; obtain ⟨hh, hhh, h⟩ := h
            replace h := ob_eq h; obtain ⟨l, hl, h⟩ := h
            injection h with h; subst h
            -- the bound by the length is a bound by the capacity
            have hb : boundOf hi len c = some hh ∧ hh ≤ len := by
              cases hi with
              | none => simp only [boundOf] at hhh ⊢; injection hhh with hhh; exact ⟨by rw [hhh], by omega⟩
              | some u =>
                simp only [boundOf] at hhh ⊢
                replace hhh := ob_eq hhh; obtain ⟨q, hq, hhh⟩ := hhh
                obtain ⟨e1, e2⟩ := boundInt_eq hhh
                refine ⟨?_, e2⟩
                rw [hq, ob_some, e1]
                show cb (Nat.ble hh c) (some hh) none = _
                rw [cb_eq, nble, if_pos (decide_eq_true (by omega))]
            obtain ⟨hrun, m1, m2, h1, h2, l1, l2⟩ := bounds_run (P := P) (w := w) (cap := c) (c := c) (m := c) rlo rhi (.inl ⟨rfl, rfl⟩ : (none = none ∧ (none : Option Value) = none) ∨ _) rfl hb.1 hl rfl (Nat.le_refl _) (fun _ => rfl) true
            have hlh : l ≤ hh := by
              cases lo with
              | some _ => exact l1 rfl
              | none => have := l2 rfl; omega
            refine ⟨_, fin _ _ _ _ _ hrun, .sliceU hi' (by have := hb.2; simp; omega) (place_rel hi' ha (Nat.le_refl _) hlh (by have := hb.2; omega)) ?_⟩
            intro e
            have e1 : o = 0 := by simp at e; omega
            refine Nat.le_trans (Nat.mul_le_mul_right _ (Nat.sub_le c l)) (ho e1)
  case array n e =>
    cases d <;> simp only [DescOK] at hk
    obtain ⟨rfl, rfl⟩ := hk
    replace h := ob_eq h; obtain ⟨et, het, h⟩ := h
    replace h := ob_eq h; obtain ⟨p, hp, h⟩ := h
    have hety := hcx.ty e et het
    cases ptr?_eq hp
    rw [cb_eq] at h
    split at h
    · rename_i hs
      obtain ⟨p, rfl⟩ := Option.isSome_iff_exists.1 hs
      obtain ⟨i, hi', rfl⟩ := rel_ptr hx
      obtain ⟨l, hh, m, hrun, hr⟩ := sliceRow_rel (P := P) (w := w) (a := ⟨i.blk, i.off + p.2, none⟩) h rlo rhi rmx hi' (Nat.le_refl _) (Nat.le_refl _) (fun _ => rfl) (fun _ => rfl) false
      refine ⟨_, ?_, hr⟩
      simp only [Instr.sliceAt, Instr.sureAddr, Sem.run_bind, run_underlying hu, Result.andThen_ok, Sem.run_pure, hrun, hety.run_size]
    · cases h

theorem addr_add_off (a : Addr) (n : Nat) : (a.add n).block = a.block ∧ (a.add n).off = a.off + n ∧ (a.spot = none → (a.add n).spot = none) := by
  unfold Addr.add
  split
  · rename_i h; subst h; exact ⟨rfl, rfl, id⟩
  · exact ⟨rfl, rfl, fun _ => rfl⟩
theorem boundOf_wide {hi : Option AV} {d len c hh : Nat} (h : boundOf hi d len = some hh) (hd : d ≤ len) (hc : len ≤ c) : boundOf hi d c = some hh ∧ hh ≤ len := by
  cases hi with
  | none => simp only [boundOf] at h ⊢; injection h with h; exact ⟨by rw [h], by omega⟩
  | some u =>
    simp only [boundOf] at h ⊢
    replace h := ob_eq h; obtain ⟨q, hq, h⟩ := h
    obtain ⟨e1, e2⟩ := boundInt_eq h
    refine ⟨?_, e2⟩
    rw [hq, ob_some, e1]
    show cb (Nat.ble hh c) (some hh) none = _
    rw [cb_eq, nble, if_pos (decide_eq_true (by omega))]

include hcx in
theorem aSlice_sound {t : TypeId} {x v : AV} {lo hi mx : Option AV} {X : Value} {LO HI MX : Option Value} (h : aSlice cx t x lo hi mx = some v) (hx : RelV μ x X)
    (rlo : (lo = none ∧ LO = none) ∨ ∃ u y, lo = some u ∧ LO = some y ∧ RelV μ u y) (rhi : (hi = none ∧ HI = none) ∨ ∃ u y, hi = some u ∧ HI = some y ∧ RelV μ u y) (rmx : (mx = none ∧ MX = none) ∨ ∃ u y, mx = some u ∧ MX = some y ∧ RelV μ u y) :
    ∃ z, (Instr.sliceAt t X LO HI MX).run P w = .ok z w ∧ RelV μ v z := by
  unfold aSlice at h
  split at h
  · rename_i nl len cs
    unfold fSlice at h
    replace h := ob_eq h; obtain ⟨ty, ht, h⟩ := h
    have hty := hcx.ty t ty ht
    obtain ⟨d, hu, hk⟩ := hty.und
    split at h
    · rename_i e hd
      rw [hd] at hk
      cases d <;> simp only [DescOK] at hk
      subst hk
      replace h := ob_eq h; obtain ⟨et, het, h⟩ := h
      have hety := hcx.ty e et het
      unfold fCut at h
      rw [cb_eq] at h
      split at h
      · cases h
      · rename_i hm
        simp only [Bool.or_eq_true, not_or, Bool.not_eq_true, Bool.not_eq_false', nbeq, decide_eq_true_eq] at hm
        obtain ⟨hm, hcl⟩ := hm
        have hcl : cs.length = len * et.size := hcl
        have hmx : mx = none := by cases mx with | none => rfl | some _ => cases hm
        subst hmx
        have hMX : MX = none := by rcases rmx with ⟨_, h⟩ | ⟨_, _, h, _⟩ <;> first | exact h | cases h
        subst hMX
        replace h := ob_eq h; obtain ⟨hh, hhh, h⟩ := h
        replace h := ob_eq h; obtain ⟨l, hl, h⟩ := h
        injection h with h; subst h
        cases hx with
        | fslN =>
          obtain ⟨hrun, m1, m2, h1, h2, l1, l2⟩ := bounds_run (P := P) (w := w) (cap := 0) (c := 0) (m := 0) rlo rhi (.inl ⟨rfl, rfl⟩ : (none = none ∧ (none : Option Value) = none) ∨ _) rfl hhh hl rfl (Nat.le_refl 0) (fun _ => rfl) true
          have hh0 : hh = 0 := by
            cases hi with
            | some _ => have := h1 rfl; omega
            | none => exact h2 rfl
          have hl0 : l = 0 := by
            cases lo with
            | some _ => have := l1 rfl; omega
            | none => exact l2 rfl
          subst hh0; subst hl0
          refine ⟨.slice none 0 0, ?_, ?_⟩
          · simp only [Instr.sliceAt, Instr.slice, Sem.run_bind, run_underlying hu, Result.andThen_ok, hrun, hety.run_size, Sem.run_pure]
            rfl
          · simp only [rowCut, List.drop_nil, List.take_nil]; exact .fslN
        | fsl hz hr hv hlc =>
          rename_i c a arr vs
          obtain ⟨hb1, hb2⟩ := boundOf_wide hhh (Nat.le_refl _) hlc
          obtain ⟨hrun, m1, m2, h1, h2, l1, l2⟩ := bounds_run (P := P) (w := w) (cap := c) (c := c) (m := c) rlo rhi (.inl ⟨rfl, rfl⟩ : (none = none ∧ (none : Option Value) = none) ∨ _) rfl hb1 hl rfl (Nat.le_refl _) (fun _ => rfl) true
          have hlh : l ≤ hh := by
            cases lo with
            | some _ => exact l1 rfl
            | none => have := l2 rfl; omega
          refine ⟨.slice (some (if c = l then a else a.add (l * et.size))) (hh - l) (c - l), ?_, ?_⟩
          · simp only [Instr.sliceAt, Instr.slice, Sem.run_bind, run_underlying hu, Result.andThen_ok, hrun, hety.run_size, Sem.run_pure, Option.map_some]
            split <;> rfl
          · have hvl := hr.length
            refine RelV.fsl (arr := arr) (vs := (vs.drop (l * et.size)).take ((hh - l) * et.size)) (fun hne => ?_) ?_ (fun k x hx => ?_) (by omega)
            · have hcl : c ≠ l := by
                intro e
                apply hne
                have : hh - l = 0 := by omega
                rw [this]; simp [rowCut]
              have hcs : cs ≠ [] := by
                intro e; apply hne; rw [e]; simp [rowCut]
              rw [if_neg hcl]
              obtain ⟨z1, z2⟩ := hz hcs
              obtain ⟨q1, q2, q3⟩ := addr_add_off a (l * et.size)
              exact ⟨q3 z1, by rw [q1]; exact z2⟩
            · exact (hr.drop _).take _
            · have hlt := (List.getElem?_eq_some_iff.1 hx).1
              rw [List.length_take] at hlt
              rw [List.getElem?_take, if_pos (by omega), List.getElem?_drop] at hx
              have hcl : c ≠ l := by
                intro e
                have : hh - l = 0 := by omega
                rw [this] at hlt; simp at hlt
              rw [if_neg hcl]
              obtain ⟨q1, q2, q3⟩ := addr_add_off a (l * et.size)
              rw [q2, Nat.add_assoc]
              exact hv _ _ hx
    · cases h
  · exact aSlice0_sound hcx h hx rlo rhi rmx

/-! ### Places -/
theorem inRange_eq {i : Int} {n : Nat} (h : inRange i n = true) : 0 ≤ i ∧ i < (n : Int) := by
  cases i with
  | negSucc _ => cases h
  | ofNat m =>
    simp only [inRange, nble] at h
    have := of_decide_eq_true h
    constructor
    · exact Int.natCast_nonneg m
    · show ((m : Nat) : Int) < n; omega

include hcx in
theorem aIndexAddr0_sound {t : TypeId} {x y v : AV} {X Y : Value} (h : aIndexAddr0 cx t x y = some v) (hx : RelV μ x X) (hy : RelV μ y Y) : ∃ z, (Instr.indexAt t X Y).run P w = .ok z w ∧ RelV μ v z := by
  unfold aIndexAddr0 at h
  replace h := ob_eq h; obtain ⟨i, hi, h⟩ := h
  replace h := ob_eq h; obtain ⟨ty, ht, h⟩ := h
  cases int?_eq hi; cases rel_int hy
  have hty := hcx.ty t ty ht
  obtain ⟨d, hu, hk⟩ := hty.und
  cases hd : ty.desc <;> rw [hd] at h hk <;> simp only at h <;> try (cases h; done)
  case slice e =>
    cases d <;> simp only [DescOK] at hk
    subst hk
    replace h := ob_eq h; obtain ⟨s, hs, h⟩ := h
    cases slice?_eq hs
    obtain ⟨p, len, cap⟩ := s
    simp only at h hx
    clear hs
    unfold addrAt at h
    rw [cb_eq] at h
    split at h
    · rename_i hr
      obtain ⟨r1, r2⟩ := inRange_eq hr
      replace h := ob_eq h; obtain ⟨et, het, h⟩ := h
      replace h := ob_eq h; obtain ⟨p, hp, h⟩ := h
      injection h with h; subst h
      subst hp
      have hety := hcx.ty e et het
      have fin : ∀ (q : BI) (a : Addr) (c : Nat), μ p.1 = some q → len ≤ c → (c ≠ 0 → a = ⟨q.blk, q.off + p.2, none⟩) →
          ∃ z, (Instr.indexAt t (.slice (some a) len c) (.int i.1 i.2)).run P w = .ok z w ∧ RelV μ (.ptr (some (place p (i.2.toNat * et.size)))) z := by
        intro q a c hq hlc ha
        have := ha (by omega)
        subst this
        refine ⟨.pointer (some ⟨q.blk, q.off + (p.2 + i.2.toNat * et.size), none⟩), ?_, .ptr hq⟩
        have hc : 0 ≤ i.2 ∧ i.2 < (len : Int) := ⟨r1, r2⟩
        simp only [Instr.indexAt, asIntOf, pure_bind, Sem.run_bind, run_underlying hu, Result.andThen_ok, Sem.run_pure]
        rw [if_pos hc]
        simp only [Sem.run_bind, hety.run_size, Result.andThen_ok, Sem.run_pure, addr_add, Nat.add_assoc]
      cases hx with
      | slice hq hlc ha => exact fin _ _ _ hq hlc ha
      | sliceU hq hlc ha _ => exact fin _ _ _ hq hlc ha
    · cases h
  case array n e =>
    cases d <;> simp only [DescOK] at hk
    obtain ⟨rfl, rfl⟩ := hk
    replace h := ob_eq h; obtain ⟨p, hp, h⟩ := h
    cases ptr?_eq hp
    unfold addrAt at h
    rw [cb_eq] at h
    split at h
    · rename_i hr
      obtain ⟨r1, r2⟩ := inRange_eq hr
      replace h := ob_eq h; obtain ⟨et, het, h⟩ := h
      replace h := ob_eq h; obtain ⟨p, hp, h⟩ := h
      injection h with h; subst h
      subst hp
      have hety := hcx.ty e et het
      obtain ⟨q, hq, rfl⟩ := rel_ptr hx
      refine ⟨.pointer (some ⟨q.blk, q.off + (p.2 + i.2.toNat * et.size), none⟩), ?_, .ptr hq⟩
      have hc : 0 ≤ i.2 ∧ i.2 < (n : Int) := ⟨r1, r2⟩
      simp only [Instr.indexAt, asIntOf, pure_bind, Sem.run_bind, run_underlying hu, Result.andThen_ok, Sem.run_pure, Instr.sureAddr]
      rw [if_pos hc]
      simp only [Sem.run_bind, hety.run_size, Result.andThen_ok, Sem.run_pure, addr_add, Nat.add_assoc]
    · cases h

include hcx in
theorem aIndexAddr_sound {t : TypeId} {x y v : AV} {X Y : Value} (h : aIndexAddr cx t x y = some v) (hx : RelV μ x X) (hy : RelV μ y Y) : ∃ z, (Instr.indexAt t X Y).run P w = .ok z w ∧ RelV μ v z := by
  unfold aIndexAddr at h
  split at h
  · rename_i nl len cs
    unfold fIndex at h
    replace h := ob_eq h; obtain ⟨i, hi, h⟩ := h
    replace h := ob_eq h; obtain ⟨ty, ht, h⟩ := h
    cases int?_eq hi; cases rel_int hy
    have hty := hcx.ty t ty ht
    obtain ⟨d, hu, hk⟩ := hty.und
    split at h
    · rename_i e hd
      rw [hd] at hk
      cases d <;> simp only [DescOK] at hk
      subst hk
      replace h := ob_eq h; obtain ⟨et, het, h⟩ := h
      have hety := hcx.ty e et het
      rw [cb_eq] at h
      split at h
      · rename_i hc
        simp only [Bool.and_eq_true, nbeq, decide_eq_true_eq] at hc
        obtain ⟨hin, hcl⟩ := hc
        obtain ⟨r1, r2⟩ := inRange_eq hin
        injection h with h; subst h
        cases hx with
        | fslN => omega
        | fsl hz hr hv hlc =>
          rename_i c a arr vs
          refine ⟨.pointer (some (a.add (i.2.toNat * et.size))), ?_, ?_⟩
          · have hc : 0 ≤ i.2 ∧ i.2 < (len : Int) := ⟨r1, r2⟩
            simp only [Instr.indexAt, asIntOf, pure_bind, Sem.run_bind, run_underlying hu, Result.andThen_ok, Sem.run_pure]
            rw [if_pos hc]
            simp only [Sem.run_bind, hety.run_size, Result.andThen_ok, Sem.run_pure]
          · obtain ⟨q1, q2, q3⟩ := addr_add_off a (i.2.toNat * et.size)
            refine RelV.fptr (arr := arr) (vs := vs.drop (i.2.toNat * et.size)) (fun hne => ?_) (hr.drop _) (fun k x hx => ?_)
            · have hcs : cs ≠ [] := by
                intro e; apply hne; rw [e]; simp
              obtain ⟨z1, z2⟩ := hz hcs
              exact ⟨q3 z1, by rw [q1]; exact z2⟩
            · rw [List.getElem?_drop] at hx
              rw [q2, Nat.add_assoc]
              exact hv _ _ hx
      · cases h
    · cases h
  · exact aIndexAddr0_sound hcx h hx hy

include hcx in
theorem aIndex_sound {t : TypeId} {x y v : AV} {X Y : Value} (h : aIndex cx t x y = some v) (hx : RelV μ x X) (hy : RelV μ y Y) : ∃ z, (Instr.index t X Y).run P w = .ok z w ∧ RelV μ v z := by
  unfold aIndex at h
  replace h := ob_eq h; obtain ⟨i, hi, h⟩ := h
  replace h := ob_eq h; obtain ⟨ty, ht, h⟩ := h
  cases int?_eq hi; cases rel_int hy
  have hty := hcx.ty t ty ht
  obtain ⟨d, hu, hk⟩ := hty.und
  cases hd : ty.desc <;> rw [hd] at h hk <;> simp only at h <;> try (cases h; done)
  case array n e =>
    cases d <;> simp only [DescOK] at hk
    obtain ⟨rfl, rfl⟩ := hk
    replace h := ob_eq h; obtain ⟨cs, hcs, h⟩ := h
    cases agg?_eq hcs
    obtain ⟨xs, rfl, hr⟩ := rel_agg hx
    rw [cb_eq] at h
    split at h
    · rename_i hin
      have hc := inRange_eq hin
      replace h := ob_eq h; obtain ⟨et, het, h⟩ := h
      have hety := hcx.ty e et het
      obtain ⟨z, hz, hv⟩ := aPart_sound hcx w h hr
      refine ⟨z, ?_, hv⟩
      simp only [Instr.index, asIntOf, pure_bind, Sem.run_bind, run_underlying hu, Result.andThen_ok]
      rw [if_pos hc]
      simp only [Sem.run_bind, hety.run_size, Result.andThen_ok, hz]
    · cases h
  case string =>
    cases d <;> simp only [DescOK] at hk
    replace h := ob_eq h; obtain ⟨s, hs, h⟩ := h
    cases str?_eq hs; cases rel_str hx
    unfold strAt at h
    rw [cb_eq] at h
    split at h
    · rename_i hle
      rw [ileB_eq] at hle
      have hle := of_decide_eq_true hle
      replace h := ob_eq h; obtain ⟨b, hb, h⟩ := h
      injection h with h; subst h
      rw [listAt_eq] at hb
      refine ⟨_, ?_, .int _ _⟩
      simp only [Instr.index, asIntOf, pure_bind, Sem.run_bind, run_underlying hu, Result.andThen_ok]
      rw [if_pos hle]
      have : (ByteArray.mk s.toArray)[i.2.toNat]? = some b := by
        obtain ⟨hlt, hb⟩ := List.getElem?_eq_some_iff.1 hb
        have h2 : i.2.toNat < (ByteArray.mk s.toArray).size := by simpa [ByteArray.size] using hlt
        rw [getElem?_pos (ByteArray.mk s.toArray) i.2.toNat h2]
        show some (s.toArray[i.2.toNat]) = some b
        simp [hb]
      rw [this]
      rfl
    · cases h

theorem fieldsOf_eq (hcx : CxOK P cx) {t : TypeId} {fs : List (Nat × TypeId)} (h : fieldsOf cx t = some fs) : ∃ gs, P.underlying t = some (.struct gs) ∧ fs = gs.toList.map (fun f => (f.offset, f.type)) ∧ ∃ ty, cx.ty t = some ty ∧ ty.desc = .struct fs := by
  unfold fieldsOf at h
  split at h
  · rename_i ht
    injection h with h; subst h
    obtain ⟨d, hu, hk⟩ := (hcx.ty t _ ht).und
    cases d <;> simp only [DescOK] at hk
    exact ⟨_, hu, hk.1, _, ht, rfl⟩
  · cases h

theorem field_at {gs : Array Field} {f : Nat} {g : Nat × TypeId} (h : listAt (gs.toList.map fun f => (f.offset, f.type)) f = some g) : ∃ fd, gs[f]? = some fd ∧ g = (fd.offset, fd.type) := by
  rw [listAt_eq, List.getElem?_map] at h
  cases hx : gs.toList[f]? with
  | none => rw [hx] at h; cases h
  | some fd => rw [hx] at h; simp at h; exact ⟨fd, by simpa using hx, h.symm⟩

include hcx in
theorem aFieldAddr0_sound {t : TypeId} {x v : AV} {f : Nat} {X : Value} (h : aFieldAddr0 cx t x f = some v) (hx : RelV μ x X) : ∃ z, (Instr.fieldAt t X f).run P w = .ok z w ∧ RelV μ v z := by
  unfold aFieldAddr0 at h
  replace h := ob_eq h; obtain ⟨fs, hfs, h⟩ := h
  replace h := ob_eq h; obtain ⟨g, hg, h⟩ := h
  replace h := ob_eq h; obtain ⟨ft, hft, h⟩ := h
  replace h := ob_eq h; obtain ⟨p, hp, h⟩ := h
  replace h := ob_eq h; obtain ⟨a, ha, h⟩ := h
  subst ha
  split at h
  · cases h
  · rename_i hs
    injection h with h; subst h
    obtain ⟨gs, hu, rfl, _⟩ := fieldsOf_eq hcx hfs
    obtain ⟨fd, hfd, rfl⟩ := field_at hg
    cases ptr?_eq hp
    obtain ⟨i, hi, rfl⟩ := rel_ptr hx
    have hft' := hcx.ty _ ft hft
    refine ⟨.pointer (some ⟨i.blk, i.off + (a.2 + fd.offset), none⟩), ?_, .ptr hi⟩
    simp only [Instr.fieldAt, Sem.run_bind, run_underlying hu, Result.andThen_ok, hfd, Instr.sureAddr, pure_bind, fieldPlace, hft'.run_size, hs, if_false, Sem.run_pure, addr_add, Nat.add_assoc]

include hcx in
theorem aFieldAddr_sound {t : TypeId} {x v : AV} {f : Nat} {X : Value} (h : aFieldAddr cx t x f = some v) (hx : RelV μ x X) : ∃ z, (Instr.fieldAt t X f).run P w = .ok z w ∧ RelV μ v z := by
  unfold aFieldAddr at h
  split at h
  · rename_i cs
    unfold fField at h
    replace h := ob_eq h; obtain ⟨fs, hfs, h⟩ := h
    replace h := ob_eq h; obtain ⟨g, hg, h⟩ := h
    replace h := ob_eq h; obtain ⟨ft, hft, h⟩ := h
    rw [cb_eq] at h
    split at h
    · rename_i hc
      simp only [Bool.and_eq_true, nble, decide_eq_true_eq] at hc
      injection h with h; subst h
      obtain ⟨gs, hu, rfl, _⟩ := fieldsOf_eq hcx hfs
      obtain ⟨fd, hfd, rfl⟩ := field_at hg
      have hft' := hcx.ty _ ft hft
      have hs : ¬ ft.size = 0 := by have := hc.1; omega
      cases hx with
      | fptr hz hr hv =>
        rename_i a arr vs
        refine ⟨.pointer (some (a.add fd.offset)), ?_, ?_⟩
        · simp only [Instr.fieldAt, Sem.run_bind, run_underlying hu, Result.andThen_ok, hfd, Instr.sureAddr, pure_bind, fieldPlace, hft'.run_size, hs, if_false, Sem.run_pure]
        · obtain ⟨q1, q2, q3⟩ := addr_add_off a fd.offset
          refine RelV.fptr (arr := arr) (vs := vs.drop fd.offset) (fun hne => ?_) (hr.drop _) (fun k x hx => ?_)
          · have hcs : cs ≠ [] := by
              intro e; apply hne; rw [e]; simp
            obtain ⟨z1, z2⟩ := hz hcs
            exact ⟨q3 z1, by rw [q1]; exact z2⟩
          · rw [List.getElem?_drop] at hx
            rw [q2, Nat.add_assoc]
            exact hv _ _ hx
    · cases h
  · exact aFieldAddr0_sound hcx h hx

include hcx in
theorem aField_sound {t : TypeId} {x v : AV} {f : Nat} {X : Value} (h : aField cx t x f = some v) (hx : RelV μ x X) : ∃ z, (Instr.field t X f).run P w = .ok z w ∧ RelV μ v z := by
  unfold aField at h
  replace h := ob_eq h; obtain ⟨fs, hfs, h⟩ := h
  replace h := ob_eq h; obtain ⟨g, hg, h⟩ := h
  replace h := ob_eq h; obtain ⟨cs, hcs, h⟩ := h
  obtain ⟨gs, hu, rfl, _⟩ := fieldsOf_eq hcx hfs
  obtain ⟨fd, hfd, rfl⟩ := field_at hg
  cases agg?_eq hcs
  obtain ⟨xs, rfl, hr⟩ := rel_agg hx
  obtain ⟨z, hz, hv⟩ := aPart_sound hcx w h hr
  refine ⟨z, ?_, hv⟩
  simp only [Instr.field, Sem.run_bind, run_underlying hu, Result.andThen_ok, hfd, asAgg, pure_bind, hz]
end
end Go.Ab

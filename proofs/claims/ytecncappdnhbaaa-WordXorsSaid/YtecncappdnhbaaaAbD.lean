/- Operations that compute, on: parts, equality, conversions, pieces of slices, addresses. -/
import Derived.Test.YtecncappdnhbaaaAbC
import Derived.ChangeKeysEq
set_option autoImplicit false
set_option linter.unusedVariables false
set_option linter.unusedSimpArgs false
set_option linter.unusedSectionVars false
namespace Go.Ab
open Go.RowKit

theorem toList_extract (xs : List Value) (a n : Nat) : xs.toArray.extract a (a + n) = ((xs.drop a).take n).toArray := by
  simp

section
variable {P : Program} {cx : Cx} (hcx : CxOK P cx) {μ : Inj} (w : World)
include hcx

theorem aPart_sound {t : TypeId} {cs : List AV} {xs : List Value} {off : Nat} {v : AV} (h : aPart cx t cs off = some v) (hr : RelL μ cs xs) :
    ∃ x, (part t xs.toArray off).run P w = .ok x w ∧ RelV μ v x := by
  unfold aPart at h
  cases ht : cx.ty t with
  | none => rw [ht] at h; cases h
  | some ty =>
    rw [ht] at h
    have hty := hcx.ty t ty ht
    simp only [part, Sem.run_bind, hty.run_isAgg, Result.andThen_ok]
    simp only at h
    by_cases ha : isAggB ty.desc = true
    · rw [if_pos ha] at h ⊢
      split at h
      · injection h with h; subst h
        refine ⟨_, by simp only [Sem.run_bind, hty.run_size, Result.andThen_ok, Sem.run_pure]; rfl, ?_⟩
        rw [toList_extract]
        exact .agg ((hr.drop off).take ty.size)
      · cases h
    · rw [if_neg ha] at h ⊢
      rw [listAt_eq] at h
      obtain ⟨x, hx, hv⟩ := hr.get off v h
      exact ⟨x, by simp [hx], hv⟩

theorem eqPtr_sound {t e : TypeId} {ty : ATy} (ht : cx.ty t = some ty) (hd : ty.desc = .ptr e) {a b : Option (Nat × Nat)} {r : Bool} (h : eqPtr cx e a b = some r) {X Y : Value}
    (hx : RelV μ (.ptr a) X) (hy : RelV μ (.ptr b) Y) (d : Nat) : (Op.equalIn (d + 1) t X Y).run P w = .ok r w := by
  have hty := hcx.ty t ty ht
  obtain ⟨dd, hu, hk⟩ := hty.und
  rw [hd] at hk
  cases dd <;> simp only [DescOK] at hk
  subst hk
  cases a with
  | none =>
    cases rel_ptr_none hx
    cases b with
    | none => cases rel_ptr_none hy; simp only [eqPtr, Option.isNone] at h; cases h; simp [Op.equalIn, run_underlying hu]
    | some b => obtain ⟨i, _, rfl⟩ := rel_ptr hy; simp only [eqPtr, Option.isNone] at h; cases h; simp [Op.equalIn, run_underlying hu]
  | some a =>
    obtain ⟨i, hi, rfl⟩ := rel_ptr hx
    cases b with
    | none => cases rel_ptr_none hy; simp only [eqPtr] at h; cases h; simp [Op.equalIn, run_underlying hu]
    | some b =>
      obtain ⟨j, hj, rfl⟩ := rel_ptr hy
      simp only [eqPtr] at h
      split at h
      · rename_i hb
        replace h := ob_eq h; obtain ⟨et, het, h⟩ := h
        have hety := hcx.ty e et het
        split at h
        · cases h
        · rename_i hs
          injection h with h; subst h
          rw [← hb, hi] at hj; cases hj
          simp only [Op.equalIn, Sem.run_bind, run_underlying hu, Result.andThen_ok, hety.run_size, ne_eq, hs, not_false_eq_true, if_true]
          simp [sameAddr]
          rw [Bool.eq_iff_iff]
          simp
      · cases h

theorem eqSlice_sound {t e : TypeId} {ty : ATy} (ht : cx.ty t = some ty) (hd : ty.desc = .slice e) {a b : Option (Nat × Nat) × Nat × Option Nat} {r : Bool} (h : eqNil a.1 b.1 = some r) {X Y : Value}
    (hx : RelV μ (.slice a.1 a.2.1 a.2.2) X) (hy : RelV μ (.slice b.1 b.2.1 b.2.2) Y) (d : Nat) : (Op.equalIn (d + 1) t X Y).run P w = .ok r w := by
  have hty := hcx.ty t ty ht
  obtain ⟨dd, hu, hk⟩ := hty.und
  rw [hd] at hk
  cases dd <;> simp only [DescOK] at hk
  obtain ⟨pa, la, ca⟩ := a
  obtain ⟨pb, lb, cb'⟩ := b
  cases hx <;> cases hy <;> simp only [eqNil, Option.isNone] at h <;> first | (cases h; done) | (cases h; simp [Op.equalIn, run_underlying hu])

theorem eqMap_sound {t k e : TypeId} {ty : ATy} (ht : cx.ty t = some ty) (hd : ty.desc = .map k e) {a b : Option Nat} {r : Bool} (h : eqNil a b = some r) {X Y : Value}
    (hx : RelV μ (.map a) X) (hy : RelV μ (.map b) Y) (d : Nat) : (Op.equalIn (d + 1) t X Y).run P w = .ok r w := by
  have hty := hcx.ty t ty ht
  obtain ⟨dd, hu, hk⟩ := hty.und
  rw [hd] at hk
  cases dd <;> simp only [DescOK] at hk
  cases hx <;> cases hy <;> simp only [eqNil, Option.isNone] at h <;> first | (cases h; done) | (cases h; simp [Op.equalIn, run_underlying hu])

theorem eqFunc_sound {t : TypeId} {ty : ATy} (ht : cx.ty t = some ty) (hd : ty.desc = .func) {x y : AV} {r : Bool} (h : eqFunc x y = some r) {X Y : Value}
    (hx : RelV μ x X) (hy : RelV μ y Y) (d : Nat) : (Op.equalIn (d + 1) t X Y).run P w = .ok r w := by
  have hty := hcx.ty t ty ht
  obtain ⟨dd, hu, hk⟩ := hty.und
  rw [hd] at hk
  cases dd <;> simp only [DescOK] at hk
  unfold eqFunc at h
  cases x <;> simp only at h <;> try (cases h; done)
  all_goals (cases y <;> simp only at h <;> first | (cases h; done) | (cases h; cases hx; cases hy; simp [Op.equalIn, run_underlying hu]))

theorem aEq_sound : ∀ (d : Nat) {t : TypeId} {x y : AV} {X Y : Value} {r : Bool}, aEq cx d t x y = some r → RelV μ x X → RelV μ y Y →
    ∀ D, d ≤ D → (Op.equalIn D t X Y).run P w = .ok r w := by
  intro d
  induction d with
  | zero => intro t x y X Y r h; cases h
  | succ d ih =>
    intro t x y X Y r h hx hy D hD
    obtain ⟨D, rfl⟩ : ∃ k, D = k + 1 := ⟨D - 1, by omega⟩
    have hD : d ≤ D := by omega
    simp only [aEq] at h
    replace h := ob_eq h; obtain ⟨ty, ht, h⟩ := h
    have hty := hcx.ty t ty ht
    obtain ⟨dd, hu, hk⟩ := hty.und
    unfold eqAt at h
    cases hd : ty.desc with
    | bool =>
      rw [hd] at h hk
      replace h := ob_eq h; obtain ⟨a, ha, h⟩ := h
      replace h := ob_eq h; obtain ⟨b, hb, h⟩ := h
      cases bool?_eq ha; cases bool?_eq hb; cases rel_bool hx; cases rel_bool hy
      injection h with h; subst h
      cases dd <;> simp only [DescOK] at hk
      simp [Op.equalIn, run_underlying hu]
    | int k =>
      rw [hd] at h hk
      simp only [eqInt] at h
      replace h := ob_eq h; obtain ⟨a, ha, h⟩ := h
      replace h := ob_eq h; obtain ⟨b, hb, h⟩ := h
      split at h
      · rename_i hkk
        cases int?_eq ha; cases int?_eq hb; cases rel_int hx; cases rel_int hy
        injection h with h; subst h
        cases dd <;> simp only [DescOK] at hk
        simp [Op.equalIn, run_underlying hu, hkk, ieqB_eq]
      · cases h
    | string =>
      rw [hd] at h hk
      replace h := ob_eq h; obtain ⟨a, ha, h⟩ := h
      replace h := ob_eq h; obtain ⟨b, hb, h⟩ := h
      cases str?_eq ha; cases str?_eq hb; cases rel_str hx; cases rel_str hy
      injection h with h; subst h
      cases dd <;> simp only [DescOK] at hk
      rw [run_equalIn_string w D t _ _ hu, bytesEq_eq, toList_mk, toList_mk]
    | ptr e =>
      rw [hd] at h
      replace h := ob_eq h; obtain ⟨a, ha, h⟩ := h
      replace h := ob_eq h; obtain ⟨b, hb, h⟩ := h
      cases ptr?_eq ha; cases ptr?_eq hb
      exact eqPtr_sound hcx w ht hd h hx hy D
    | slice e =>
      rw [hd] at h
      replace h := ob_eq h; obtain ⟨a, ha, h⟩ := h
      replace h := ob_eq h; obtain ⟨b, hb, h⟩ := h
      cases slice?_eq ha; cases slice?_eq hb
      exact eqSlice_sound hcx w ht hd h hx hy D
    | map k e =>
      rw [hd] at h
      replace h := ob_eq h; obtain ⟨a, ha, h⟩ := h
      replace h := ob_eq h; obtain ⟨b, hb, h⟩ := h
      cases map?_eq ha; cases map?_eq hb
      exact eqMap_sound hcx w ht hd h hx hy D
    | func => rw [hd] at h; exact eqFunc_sound hcx w ht hd h hx hy D
    | iface b => rw [hd] at h; cases h
    | struct fs =>
      rw [hd] at h hk
      simp only [eqAgg, cb_eq] at h
      split at h
      · rename_i he
        replace h := ob_eq h; obtain ⟨xs, hxs, h⟩ := h
        replace h := ob_eq h; obtain ⟨ys, hys, h⟩ := h
        cases agg?_eq hxs; cases agg?_eq hys
        obtain ⟨XS, rfl, hX⟩ := rel_agg hx
        obtain ⟨YS, rfl, hY⟩ := rel_agg hy
        cases dd <;> simp only [DescOK] at hk
        rename_i gs
        obtain ⟨rfl, hname⟩ := hk
        have hf : P.fieldsOf t = gs := by simp [Program.fieldsOf, hu]
        rw [run_equalIn_struct w D t _ _ (by rw [hf]; exact hu) (hty.eqs he).1, hf]
        clear hd hu hf
        generalize gs.toList = l at h hname
        clear hx hy
        induction l with
        | nil => simp only [List.map_nil, eqFields] at h; cases h; simp [Op.eqFields]
        | cons f l ihl =>
          simp only [List.map_cons, eqFields] at h
          replace h := ob_eq h; obtain ⟨u, hu1, h⟩ := h
          replace h := ob_eq h; obtain ⟨v, hv1, h⟩ := h
          replace h := ob_eq h; obtain ⟨b, hb, h⟩ := h
          obtain ⟨U, hU, rU⟩ := aPart_sound hcx w hu1 hX
          obtain ⟨V, hV, rV⟩ := aPart_sound hcx w hv1 hY
          have he := ih hb rU rV D hD
          have hn : f.name ≠ "_" := hname f (by simp)
          simp only [Op.eqFields, hn, ne_eq, not_false_eq_true, if_true, Sem.run_bind, hU, hV, he, Result.andThen_ok]
          cases b with
          | true => simp only [cb_true] at h; simp; exact ihl h (fun f hf => hname f (by simp [hf]))
          | false => simp only [cb_false] at h; cases h; simp
      · cases h
    | array n e =>
      rw [hd] at h hk
      simp only [eqAgg, cb_eq] at h
      split at h
      · rename_i he
        replace h := ob_eq h; obtain ⟨xs, hxs, h⟩ := h
        replace h := ob_eq h; obtain ⟨ys, hys, h⟩ := h
        replace h := ob_eq h; obtain ⟨et, het, h⟩ := h
        cases agg?_eq hxs; cases agg?_eq hys
        obtain ⟨XS, rfl, hX⟩ := rel_agg hx
        obtain ⟨YS, rfl, hY⟩ := rel_agg hy
        cases dd <;> simp only [DescOK] at hk
        obtain ⟨rfl, rfl⟩ := hk
        obtain ⟨i, z, hi, hs, _⟩ := (hcx.ty e et het).info
        rw [run_equalIn_array w D _ _ hu hi, List.range_eq_range']
        have hc : P.cellsOf e = et.size := by simp [Program.cellsOf, hi, hs]
        rw [hc]
        clear hd hu hx hy
        generalize 0 = k at h
        induction n generalizing k with
        | zero => simp only [eqElems] at h; cases h; simp [Op.eqItems]
        | succ n ihn =>
          simp only [eqElems] at h
          replace h := ob_eq h; obtain ⟨u, hu1, h⟩ := h
          replace h := ob_eq h; obtain ⟨v, hv1, h⟩ := h
          replace h := ob_eq h; obtain ⟨b, hb, h⟩ := h
          obtain ⟨U, hU, rU⟩ := aPart_sound hcx w hu1 hX
          obtain ⟨V, hV, rV⟩ := aPart_sound hcx w hv1 hY
          have he := ih hb rU rV D hD
          simp only [List.range'_succ, Op.eqItems, Sem.run_bind, hU, hV, he, Result.andThen_ok]
          cases b with
          | true => simp only [cb_true] at h; simp; exact ihn (k + 1) h
          | false => simp only [cb_false] at h; cases h; simp
      · cases h

theorem binOther0_sound {op : BinOp} {t : TypeId} {x y : AV} {X Y : Value} {v : AV} (h : binOther0 cx op t x y = some v) (hx : RelV μ x X) (hy : RelV μ y Y)
    (h1 : ∀ k n, X ≠ .int k n) (h2 : ∀ s, X ≠ .string s) (h0 : x ≠ .any) : ∃ z, (Go.binOp op t X Y).run P w = .ok z w ∧ RelV μ v z := by
  have e : ∀ op : BinOp, op = .eql ∨ op = .neq → Go.binOp op t X Y = (do let b ← Op.equal t X Y; pure (.bool (if op = .eql then b else !b))) := by
    intro op ho
    rcases ho with rfl | rfl <;> cases X <;> first
      | rfl
      | exact absurd rfl (h1 _ _)
      | exact absurd rfl (h2 _)
      | (cases hx; done)
      | (cases hx; exact absurd rfl h0)
  cases op <;> simp only [binOther0] at h <;> try (cases h; done)
  case eql =>
    replace h := ob_eq h; obtain ⟨b, hb, h⟩ := h
    injection h with h; subst h
    rw [e _ (.inl rfl)]
    have := aEq_sound hcx w 100 hb hx hy 10000 (by omega)
    exact ⟨.bool b, by simp [Op.equal, Op.maxDepth, this], .bool _⟩
  case neq =>
    replace h := ob_eq h; obtain ⟨b, hb, h⟩ := h
    injection h with h; subst h
    rw [e _ (.inr rfl)]
    have := aEq_sound hcx w 100 hb hx hy 10000 (by omega)
    exact ⟨.bool (!b), by simp [Op.equal, Op.maxDepth, this], .bool _⟩

noncomputable def aBin0 (cx : Cx) (op : BinOp) (t : TypeId) (x y : AV) : Option AV :=
  match x with
  | .int k a => y.int?.ob fun b => binInt op k a b.1 b.2
  | .str a => y.str?.ob fun b => aStr op a b
  | .any => none
  | x => binOther0 cx op t x y

/-- Two operands: the guard against two nil values says nothing, and the operation answers. -/
theorem aBin0_sound {op : BinOp} {t : TypeId} {x y : AV} {X Y : Value} {v : AV} (h : aBin0 cx op t x y = some v) (hx : RelV μ x X) (hy : RelV μ y Y) (ox oy : Operand) :
    ∃ z, (do eqGuard op t ox oy X Y; Go.binOp op t X Y : Sem Value).run P w = .ok z w ∧ RelV μ v z := by
  have key : (∃ z, (Go.binOp op t X Y).run P w = .ok z w ∧ RelV μ v z) → (eqGuard op t ox oy X Y).run P w = .ok () w →
      ∃ z, (do eqGuard op t ox oy X Y; Go.binOp op t X Y : Sem Value).run P w = .ok z w ∧ RelV μ v z := by
    rintro ⟨z, hz, hr⟩ hg
    exact ⟨z, by simp [hg, hz], hr⟩
  unfold aBin0 at h
  cases x
  case int k n =>
    replace h := ob_eq h; obtain ⟨b, hb, h⟩ := h
    cases int?_eq hb; cases rel_int hx; cases rel_int hy
    exact key (binInt_sound w h t) (by cases op <;> rfl)
  case str s =>
    replace h := ob_eq h; obtain ⟨b, hb, h⟩ := h
    cases str?_eq hb; cases rel_str hx; cases rel_str hy
    exact key (aStr_sound w h t) (by cases op <;> rfl)
  case agg cs =>
    have hop : op = .eql ∨ op = .neq := by cases op <;> first | exact .inl rfl | exact .inr rfl | cases h
    have he : ∃ b, aEq cx 100 t (.agg cs) y = some b := by
      rcases hop with rfl | rfl <;> (simp only [binOther0] at h; obtain ⟨b, hb, _⟩ := ob_eq h; exact ⟨b, hb⟩)
    obtain ⟨b, he⟩ := he
    obtain ⟨XS, rfl, hX⟩ := rel_agg hx
    refine key (binOther0_sound hcx w h hx hy (fun _ _ e => by cases e) (fun _ e => by cases e) (by simp)) ?_
    change ((cx.ty t).ob fun ty => eqAt cx (aEq cx 99) ty (.agg cs) y) = some b at he
    replace he := ob_eq he; obtain ⟨ty, ht, he⟩ := he
    unfold eqAt at he
    have hag : ∃ ys, y = .agg ys ∧ ty.eqs = true := by
      cases hd : ty.desc <;> rw [hd] at he <;> simp only [eqAgg, cb_eq, eqInt, AV.bool?, AV.int?, AV.str?, AV.ptr?, AV.slice?, AV.map?, ob_none, eqFunc] at he <;> try (cases he; done)
      all_goals
        split at he
        · rename_i hq
          replace he := ob_eq he; obtain ⟨xs, _, he⟩ := he
          replace he := ob_eq he; obtain ⟨ys, hys, he⟩ := he
          exact ⟨ys, agg?_eq hys, hq⟩
        · cases he
    obtain ⟨ys, rfl, hq⟩ := hag
    obtain ⟨YS, rfl, hY⟩ := rel_agg hy
    exact run_eqGuard_agg w op t ox oy _ _ ((hcx.ty t ty ht).eqs hq).2
  case any => cases h
  case nilIface =>
    exfalso
    have : binOther0 cx op t .nilIface y = some v := h
    unfold binOther0 at this
    cases op <;> simp only at this <;> try (cases this; done)
    all_goals
      obtain ⟨b, hb, _⟩ := ob_eq this
      change ((cx.ty t).ob fun ty => eqAt cx (aEq cx 99) ty .nilIface y) = some b at hb
      replace hb := ob_eq hb; obtain ⟨ty, ht, hb⟩ := hb
      unfold eqAt at hb
      cases hd : ty.desc <;> rw [hd] at hb <;> simp only [eqAgg, cb_eq, eqInt, AV.bool?, AV.int?, AV.str?, AV.ptr?, AV.slice?, AV.map?, AV.agg?, ob_none, eqFunc, ite_self] at hb <;> cases hb
  all_goals
    refine key (binOther0_sound hcx w h hx hy (fun _ _ e => by subst e; cases hx) (fun _ e => by subst e; cases hx) (by simp)) ?_
    cases hx <;> (cases op <;> first | rfl | (cases Y <;> rfl))

theorem aBin_sound {op : BinOp} {t : TypeId} {x y : AV} {X Y : Value} {v : AV} (h : aBin cx op t x y = some v) (hx : RelV μ x X) (hy : RelV μ y Y) (ox oy : Operand) :
    ∃ z, (do eqGuard op t ox oy X Y; Go.binOp op t X Y : Sem Value).run P w = .ok z w ∧ RelV μ v z := by
  have sl : ∀ {nl : Bool}, fNil cx op t nl = some v → ∃ e, P.underlying t = some (.slice e) ∧ ((op = .eql ∧ v = .bool nl) ∨ (op = .neq ∧ v = .bool !nl)) := by
    intro nl h
    unfold fNil at h
    rw [cb_eq] at h
    split at h
    · rename_i hs
      unfold isSliceD at hs
      split at hs
      · rename_i ty ht
        obtain ⟨dd, hu, hk⟩ := (hcx.ty t ty ht).und
        split at hs
        · rename_i e hd
          rw [hd] at hk
          cases dd <;> simp only [DescOK] at hk
          refine ⟨_, hu, ?_⟩
          cases op <;> simp only at h <;> first | (cases h; done) | (injection h with h; subst h; first | exact .inl ⟨rfl, rfl⟩ | exact .inr ⟨rfl, rfl⟩)
        · cases hs
      · cases hs
    · cases h
  have nilOf : ∀ {u : AV} {U : Value}, u.isNil = true → RelV μ u U → U = .slice none 0 0 := by
    intro u U hn hr
    cases u <;> simp only [AV.isNil] at hn <;> try (cases hn; done)
    rename_i p l c
    cases p with
    | none => cases hr; rfl
    | some p => cases hn
  have fin : ∀ {e : TypeId} {nl : Bool} {b : Bool}, P.underlying t = some (.slice e) → (∀ d, (Op.equalIn (d + 1) t X Y).run P w = .ok nl w) → (∀ k n, X ≠ .int k n) → (∀ s, X ≠ .string s) → (∀ fs, X ≠ .agg fs) →
      (∃ p l c, X = .slice p l c) → ((op = .eql ∧ v = .bool nl) ∨ (op = .neq ∧ v = .bool !nl)) → ∃ z, (do eqGuard op t ox oy X Y; Go.binOp op t X Y : Sem Value).run P w = .ok z w ∧ RelV μ v z := by
    rintro e nl b hu he - - - ⟨p, l, c, rfl⟩ (⟨rfl, rfl⟩ | ⟨rfl, rfl⟩)
    · have h1 : (eqGuard .eql t ox oy (.slice p l c) Y).run P w = .ok () w := by first | rfl | (cases Y <;> rfl)
      have h2 : Go.binOp .eql t (.slice p l c) Y = (do let b ← Op.equal t (.slice p l c) Y; pure (.bool b)) := rfl
      exact ⟨.bool nl, by have he := he 9999; simp [h1, h2, Op.equal, Op.maxDepth, he], .bool _⟩
    · have h1 : (eqGuard .neq t ox oy (.slice p l c) Y).run P w = .ok () w := by first | rfl | (cases Y <;> rfl)
      have h2 : Go.binOp .neq t (.slice p l c) Y = (do let b ← Op.equal t (.slice p l c) Y; pure (.bool (!b))) := rfl
      exact ⟨.bool !nl, by have he := he 9999; simp [h1, h2, Op.equal, Op.maxDepth, he], .bool _⟩
  have key2 : ∀ {nl : Bool} {len : Nat} {cs : List AV}, x = .fsl nl len cs → cb y.isNil (fNil cx op t nl) none = some v → ∃ z, (do eqGuard op t ox oy X Y; Go.binOp op t X Y : Sem Value).run P w = .ok z w ∧ RelV μ v z := by
    intro nl len cs hxe h2
    subst hxe
    rw [cb_eq] at h2
    split at h2
    · rename_i hn
      obtain ⟨e, hu, hv⟩ := sl h2
      cases nilOf hn hy
      refine fin (b := true) hu ?_ (fun _ _ e => by subst e; cases hx) (fun _ e => by subst e; cases hx) (fun _ e => by subst e; cases hx) (by cases hx <;> exact ⟨_, _, _, rfl⟩) hv
      intro d; cases hx <;> simp [Op.equalIn, run_underlying hu]
    · cases h2
  have key3 : ∀ {nl : Bool} {len : Nat} {cs : List AV}, y = .fsl nl len cs → cb x.isNil (fNil cx op t nl) none = some v → ∃ z, (do eqGuard op t ox oy X Y; Go.binOp op t X Y : Sem Value).run P w = .ok z w ∧ RelV μ v z := by
    intro nl len cs hye h2
    subst hye
    rw [cb_eq] at h2
    split at h2
    · rename_i hn
      obtain ⟨e, hu, hv⟩ := sl h2
      cases nilOf hn hx
      refine fin (b := true) hu ?_ (fun _ _ e => by cases e) (fun _ e => by cases e) (fun _ e => by cases e) ⟨_, _, _, rfl⟩ hv
      intro d; cases hy <;> simp [Op.equalIn, run_underlying hu]
    · cases h2
  unfold aBin at h
  cases x
  case int k n => exact aBin0_sound (op := op) (t := t) (x := .int k n) (y := y) hcx w h hx hy ox oy
  case str s => exact aBin0_sound (op := op) (t := t) (x := .str s) (y := y) hcx w h hx hy ox oy
  case fsl nl len cs => exact key2 rfl h
  case any => cases h
  all_goals
    simp only [binOther] at h
    split at h
    · exact key3 rfl h
    · first | exact aBin0_sound (op := op) (t := t) (x := .undef) (y := y) hcx w h hx hy ox oy | exact aBin0_sound (op := op) (t := t) (x := .bool _) (y := y) hcx w h hx hy ox oy | exact aBin0_sound (op := op) (t := t) (x := .ptr _) (y := y) hcx w h hx hy ox oy | exact aBin0_sound (op := op) (t := t) (x := .slice _ _ _) (y := y) hcx w h hx hy ox oy | exact aBin0_sound (op := op) (t := t) (x := .map _) (y := y) hcx w h hx hy ox oy | exact aBin0_sound (op := op) (t := t) (x := .func _ _ _) (y := y) hcx w h hx hy ox oy | exact aBin0_sound (op := op) (t := t) (x := .yield _) (y := y) hcx w h hx hy ox oy | exact aBin0_sound (op := op) (t := t) (x := .nilFunc) (y := y) hcx w h hx hy ox oy | exact aBin0_sound (op := op) (t := t) (x := .iface _ _) (y := y) hcx w h hx hy ox oy | exact aBin0_sound (op := op) (t := t) (x := .nilIface) (y := y) hcx w h hx hy ox oy | exact aBin0_sound (op := op) (t := t) (x := .agg _) (y := y) hcx w h hx hy ox oy | exact aBin0_sound (op := op) (t := t) (x := .tuple _) (y := y) hcx w h hx hy ox oy | exact aBin0_sound (op := op) (t := t) (x := .fptr _) (y := y) hcx w h hx hy ox oy

theorem aUn_sound {op : UnOp} {x : AV} {X : Value} {v : AV} (h : aUn op x = some v) (hx : RelV μ x X) : ∃ z, (Op.unary op X).run P w = .ok z w ∧ RelV μ v z := by
  cases op <;> simp only [aUn] at h
  case neg =>
    simp only [uNeg] at h
    replace h := ob_eq h; obtain ⟨a, ha, h⟩ := h
    cases int?_eq ha; cases rel_int hx
    injection h with h; subst h
    exact ⟨_, by simp only [Op.unary, Op.intArith]; rfl, by rw [wrapA_eq]; exact .int _ _⟩
  case xor =>
    simp only [uXor] at h
    replace h := ob_eq h; obtain ⟨a, ha, h⟩ := h
    cases int?_eq ha; cases rel_int hx
    injection h with h; subst h
    exact ⟨_, by simp only [Op.unary, Op.intBits]; rfl, by rw [iXor_eq]; exact .int _ _⟩
  case not =>
    simp only [uNot] at h
    replace h := ob_eq h; obtain ⟨a, ha, h⟩ := h
    cases bool?_eq ha; cases rel_bool hx
    injection h with h; subst h
    exact ⟨_, rfl, .bool _⟩
  case plus => cases h
end
end Go.Ab

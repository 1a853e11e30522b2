/- The tables, checked by the kernel; a call of the program out of a call of the abstract machine. -/
import Derived.Test.YtecncappdnhbaaaAbR
set_option autoImplicit false
set_option linter.unusedVariables false
set_option linter.unusedSimpArgs false
set_option linter.unusedSectionVars false
namespace Go.Ab
open Go.RowKit

/-- All that stands in a trie. -/
def T.allB {α : Type} (f : Nat → α → Bool) : T (Option α) → (Nat → Nat) → Bool
  | .nil, _ => true
  | .node v l r, φ => (match v with | some x => f (φ 0) x | none => true) && T.allB f l (fun n => φ (2 * n + 1)) && T.allB f r (fun n => φ (2 * n + 2))

theorem T.allB_get {α : Type} (f : Nat → α → Bool) : ∀ (t : T (Option α)) (φ : Nat → Nat), T.allB f t φ = true → ∀ n x, T.get none t n = some x → f (φ n) x = true := by
  intro t
  induction t with
  | nil => intro φ _ n x h; rw [T.get_nil] at h; cases h
  | node v l r ihl ihr =>
    intro φ h n x hx
    simp only [T.allB, Bool.and_eq_true] at h
    rw [T.get_node] at hx
    split at hx
    · rename_i h0
      subst h0
      rw [hx] at h
      exact h.1.1
    · split at hx
      · rename_i h0 h1
        have := ihl _ h.1.2 _ _ hx
        rwa [show 2 * (n / 2) + 1 = n from by omega] at this
      · rename_i h0 h1
        have := ihr _ h.2 _ _ hx
        rwa [show 2 * (n / 2 - 1) + 2 = n from by omega] at this

/-- Likewise as a proposition. -/
def T.All {α : Type} (p : Nat → α → Prop) : T (Option α) → (Nat → Nat) → Prop
  | .nil, _ => True
  | .node v l r, φ => (∀ x, v = some x → p (φ 0) x) ∧ T.All p l (fun n => φ (2 * n + 1)) ∧ T.All p r (fun n => φ (2 * n + 2))
theorem T.all_get {α : Type} (p : Nat → α → Prop) : ∀ (t : T (Option α)) (φ : Nat → Nat), T.All p t φ → ∀ n x, T.get none t n = some x → p (φ n) x := by
  intro t
  induction t with
  | nil => intro φ _ n x h; rw [T.get_nil] at h; cases h
  | node v l r ihl ihr =>
    intro φ h n x hx
    rw [T.get_node] at hx
    split at hx
    · rename_i h0; subst h0; exact h.1 x hx
    · split at hx
      · rename_i h0 h1
        have := ihl _ h.2.1 _ _ hx
        rwa [show 2 * (n / 2) + 1 = n from by omega] at this
      · rename_i h0 h1
        have := ihr _ h.2.2 _ _ hx
        rwa [show 2 * (n / 2 - 1) + 2 = n from by omega] at this
theorem T.All.some {α : Type} {p : Nat → α → Prop} {y : α} {k : Nat} (h : p k y) : ∀ x, Option.some y = Option.some x → p k x := fun x e => by injection e with e; subst e; exact h
theorem T.All.none {α : Type} {p : Nat → α → Prop} {k : Nat} : ∀ x, (Option.none : Option α) = Option.some x → p k x := fun x e => by cases e

/-! ### Types -/
def capZero (c : Option Nat) : Bool :=
  match c with
  | some x => Nat.beq x 0
  | none => false
mutual
def zeroB : AV → Value → Bool
  | .int k n, .int j m => decide (k = j) && ieqB n m
  | .bool a, .bool b => a == b
  | .str s, .string t => s.isEmpty && t.data.isEmpty
  | .ptr p, .pointer q => p.isNone && q.isNone
  | .slice p l c, .slice q m d => p.isNone && q.isNone && Nat.beq l 0 && Nat.beq m 0 && Nat.beq d 0 && capZero c
  | .map p, .map q => p.isNone && q.isNone
  | .nilFunc, .nilFunc => true
  | .nilIface, .nilIface => true
  | .agg xs, .agg ys => zeroBL xs ys.toList
  | .tuple xs, .tuple ys => zeroBL xs ys.toList
  | _, _ => false
def zeroBL : List AV → List Value → Bool
  | [], [] => true
  | x :: xs, y :: ys => zeroB x y && zeroBL xs ys
  | _, _ => false
end

mutual
theorem zeroB_rel {μ : Inj} : ∀ (a : AV) (v : Value), zeroB a v = true → RelV μ a v
  | .undef, v, h => by cases v <;> simp only [zeroB] at h <;> cases h
  | .int k n, v, h => by
    cases v <;> simp only [zeroB] at h <;> first | (cases h; done) | skip
    simp only [Bool.and_eq_true, decide_eq_true_eq] at h
    obtain ⟨rfl, h⟩ := h
    rw [ieqB_eq] at h
    rw [eq_of_beq h]; exact .int _ _
  | .bool b, v, h => by
    cases v <;> simp only [zeroB] at h <;> first | (cases h; done) | skip
    rw [eq_of_beq h]; exact .bool _
  | .str s, v, h => by
    cases v <;> simp only [zeroB] at h <;> first | (cases h; done) | skip
    rename_i t
    obtain ⟨d⟩ := t
    simp at h
    obtain ⟨rfl, rfl⟩ := h
    exact .str []
  | .ptr p, v, h => by
    cases v <;> simp only [zeroB] at h <;> first | (cases h; done) | skip
    simp at h
    obtain ⟨rfl, rfl⟩ := h
    exact .ptrN
  | .slice p l c, v, h => by
    cases v <;> simp only [zeroB] at h <;> first | (cases h; done) | skip
    simp only [Bool.and_eq_true, nbeq, decide_eq_true_eq, Option.isNone_iff_eq_none] at h
    obtain ⟨⟨⟨⟨⟨rfl, rfl⟩, rfl⟩, rfl⟩, rfl⟩, h⟩ := h
    unfold capZero at h
    split at h
    · rw [nbeq] at h
      have := of_decide_eq_true h
      subst this
      exact .sliceN
    · cases h
  | .map r, v, h => by
    cases v <;> simp only [zeroB] at h <;> first | (cases h; done) | skip
    simp at h
    obtain ⟨rfl, rfl⟩ := h
    exact .mapN
  | .func f x y, v, h => by cases v <;> simp only [zeroB] at h <;> cases h
  | .yield l, v, h => by cases v <;> simp only [zeroB] at h <;> cases h
  | .nilFunc, v, h => by
    cases v <;> simp only [zeroB] at h <;> first | (cases h; done) | skip
    exact .nilFunc
  | .iface t x, v, h => by cases v <;> simp only [zeroB] at h <;> cases h
  | .fsl _ _ _, v, h => by cases v <;> simp only [zeroB] at h <;> cases h
  | .fptr _, v, h => by cases v <;> simp only [zeroB] at h <;> cases h
  | .any, v, h => by cases v <;> simp only [zeroB] at h <;> cases h
  | .nilIface, v, h => by
    cases v <;> simp only [zeroB] at h <;> first | (cases h; done) | skip
    exact .nilIface
  | .agg xs, v, h => by
    cases v <;> simp only [zeroB] at h <;> first | (cases h; done) | skip
    rename_i ys
    have := RelV.agg (zeroBL_rel (μ := μ) xs ys.toList h)
    rwa [Array.toArray_toList] at this
  | .tuple xs, v, h => by
    cases v <;> simp only [zeroB] at h <;> first | (cases h; done) | skip
    rename_i ys
    have := RelV.tuple (zeroBL_rel (μ := μ) xs ys.toList h)
    rwa [Array.toArray_toList] at this
theorem zeroBL_rel {μ : Inj} : ∀ (a : List AV) (v : List Value), zeroBL a v = true → RelL μ a v
  | [], v, h => by
    cases v with
    | nil => exact .nil
    | cons y ys => simp only [zeroBL] at h; cases h
  | x :: xs, v, h => by
    cases v with
    | nil => simp only [zeroBL] at h; cases h
    | cons y ys =>
      simp only [zeroBL, Bool.and_eq_true] at h
      exact .cons (zeroB_rel x _ h.1) (zeroBL_rel xs _ h.2)
end

def fieldsB : List (Nat × TypeId) → List Field → Bool
  | [], [] => true
  | f :: fs, g :: gs => Nat.beq f.1 g.offset && Nat.beq f.2 g.type && decide (g.name ≠ "_") && fieldsB fs gs
  | _, _ => false
theorem fieldsB_eq : ∀ (fs : List (Nat × TypeId)) (gs : List Field), fieldsB fs gs = true → fs = gs.map (fun f => (f.offset, f.type)) ∧ ∀ f ∈ gs, f.name ≠ "_" := by
  intro fs
  induction fs with
  | nil => intro gs h; cases gs <;> simp [fieldsB] at h; exact ⟨rfl, fun f hf => by cases hf⟩
  | cons f fs ih =>
    intro gs h
    cases gs with
    | nil => simp [fieldsB] at h
    | cons g gs =>
      simp only [fieldsB, Bool.and_eq_true, nbeq, decide_eq_true_eq] at h
      obtain ⟨⟨⟨h1, h2⟩, h3⟩, h4⟩ := h
      obtain ⟨h5, h6⟩ := ih gs h4
      refine ⟨by rw [List.map_cons, ← h5, ← h1, ← h2], fun x hx => ?_⟩
      rcases List.mem_cons.1 hx with rfl | hx
      · exact h3
      · exact h6 x hx

def descB : AD → TypeDesc → Bool
  | .bool, .bool => true
  | .int k, .int k' => decide (k = k')
  | .string, .string => true
  | .ptr e, .pointer e' => Nat.beq e e'
  | .slice e, .slice e' => Nat.beq e e'
  | .array n e, .array n' e' => Nat.beq n n' && Nat.beq e e'
  | .map k e, .map k' e' => Nat.beq k k' && Nat.beq e e'
  | .struct fs, .struct gs => fieldsB fs gs.toList
  | .func, .func _ _ _ => true
  | .iface _, .interface _ => true
  | _, _ => false
theorem descB_ok {a : AD} {d : TypeDesc} (h : descB a d = true) : DescOK a d := by
  cases a <;> cases d <;> simp [descB, DescOK, nbeq] at h ⊢ <;> first | exact h | exact trivial | skip
  rename_i fs gs
  have := fieldsB_eq fs gs.toList h
  exact ⟨this.1, fun f hf => this.2 f (by simpa using hf)⟩

def tyB (P : Program) (t : TypeId) (ty : ATy) : Bool :=
  (match P.underlying t with | some d => descB ty.desc d | none => false) &&
  (match P.info? t with | some i => Nat.beq i.size ty.size && Nat.beq i.bytes ty.bytes && (match i.zero with | some z => zeroB ty.zero z | none => false) | none => false) &&
  Nat.beq ty.zero.cells.length ty.size && !(isAny ty.zero) &&
  (match P.underlying t with | some (.struct gs) => gs.toList.all fun f => (P.info? f.type).isSome | _ => true) &&
  (!ty.eqs || (!P.stoodInHeld t && !P.eqGuardType P.depth t))

theorem tyB_ok {P : Program} {t : TypeId} {ty : ATy} (h : tyB P t ty = true) : TyOK P t ty := by
  unfold tyB at h
  simp only [Bool.and_eq_true, nbeq] at h
  obtain ⟨⟨⟨⟨⟨h1, h2⟩, h3⟩, h3b⟩, h4⟩, h5⟩ := h
  refine ⟨?_, ?_, of_decide_eq_true h3, fun e => (by rw [e] at h3b; cases h3b), fun gs hg f hf => ?_, fun he => ?_⟩
  · split at h1
    · rename_i d hd; exact ⟨d, hd, descB_ok h1⟩
    · cases h1
  · split at h2
    · rename_i i hi
      simp only [Bool.and_eq_true, decide_eq_true_eq] at h2
      obtain ⟨⟨h6, h7⟩, h8⟩ := h2
      split at h8
      · rename_i z hz; exact ⟨i, z, hi, h6, h7, hz, zeroB_rel _ _ h8⟩
      · cases h8
    · cases h2
  · rw [hg] at h4
    simp only at h4
    have := List.all_eq_true.1 h4 f hf
    exact Option.isSome_iff_exists.1 this
  · rw [he] at h5
    simpa using h5

/-- What is asked of a function's row. -/
def FnRow (P : Program) (k : Nat) (fn : Func) : Prop := P.funcs[k]? = some fn ∧ (fn.name == "runtime.NumGoroutine") = false ∧ fn.body.isNone = false

theorem cx_ok {P : Program} {tys : T (Option ATy)} {fns : T (Option Func)} {sum : FuncId → List AV → Heap → Option (AV × Heap)} {loop : FuncId → Nat → Option LSum} (ht : T.allB (tyB P) tys (fun n => n) = true) (hf : T.All (FnRow P) fns (fun n => n)) (ho : P.follows .mixedOrders = true) :
    CxOK P { ty := T.get none tys, fn := T.get none fns, sum := sum, loop := loop } :=
  ⟨fun t ty h => tyB_ok (T.allB_get _ tys _ ht t ty h), fun f fn h => T.all_get _ fns _ hf f fn h, ho⟩

/-! ### A call of the program -/
theorem calls_of_aCall {P : Program} {cx : Cx} (hcx : CxOK P cx) {w : World} (hsum : SumOK P cx (Old w) w) (hloop : LoopsOK P cx (Old w) w) {f : Nat} {g : FuncId} {args : List AV} {H H' : Heap} {v : AV} {μ : Inj} {xs : List Value}
    (h : aCall cx f (.fn g) args H = some (v, H')) (hw : RelW (szOf cx) (Old w) w μ H w) (hr : RelL μ args xs) :
    Calls P g xs.toArray w fun e w' => ∃ Z μ', e = .returned Z ∧ RelV μ' v Z ∧ Below w.heap.size w w' := by
  have h1 := ((aCall_sound hcx hsum hloop f).fn h hw hr).2 none 0
  refine (callsIn_wide.1 h1).mono ?_
  rintro e w' ⟨Z, rfl, _, μ', _, hv, hw'⟩
  exact ⟨Z, μ', rfl, hv, hw'.below.below⟩

theorem sum_none {P : Program} {cx : Cx} {base : Nat → Prop} {w0 : World} (h : cx.sum = fun _ _ _ => none) : SumOK P cx base w0 := by
  intro g args H H' v μ w xs hs
  rw [h] at hs; cases hs

/-- Nothing in the heap. -/
def H0 : Heap := { next := 0, m := .nil }
theorem loop_none {P : Program} {cx : Cx} {base : Nat → Prop} {w0 : World} (h : cx.loop = fun _ _ => none) : LoopsOK P cx base w0 := by
  intro fn id L hL
  rw [h] at hL; cases hL
theorem relW_empty (sz : TypeId → Nat) (base : Nat → Prop) (w : World) (hb : ∀ k, base k → k < w.heap.size) : RelW sz base w Inj.empty H0 w :=
  ⟨Keep.refl _ _, hb, fun _ _ e => (by cases e), fun _ _ e => (by cases e), fun _ _ _ _ e => (by cases e), fun _ _ e => (by cases e), fun _ _ _ _ e => (by cases e), Nat.zero_le _⟩
end Go.Ab

/- Summaries of plain functions by a table: conditions, value. -/
import Derived.Test.YtecncappdnhbaaaAbV
set_option autoImplicit false
set_option linter.unusedVariables false
set_option linter.unusedSimpArgs false
noncomputable section
namespace Go.Ab
open Go.RowKit

/-- What is said of functions: of arguments: the conditions, the value. -/
abbrev Specs := FuncId → Option (List AV → Option (List Bool × AV))
def allTrue (l : List Bool) : Bool := List.rec (motive := fun _ => Bool) true (fun b _ r => cb b r false) l
def specSum (sp : Specs) : FuncId → List AV → Heap → Option (AV × Heap) := fun g args H => (sp g).ob fun m => (m args).ob fun r => cb (allTrue r.1) (some (r.2, H)) none
def musts {α : Type} (l : List Bool) (k : S α) : S α := List.rec (motive := fun _ => S α) k (fun b _ r => S.must b r) l
def specS (sp : Specs) : SumS := fun g => (sp g).ob fun m => some fun args H => S.bind (S.lift (m args)) fun r => musts r.1 (S.pure (r.2, H))

theorem musts_snd {α : Type} {k : S α} {o : Option α} (h : Snd k o) : ∀ l : List Bool, Snd (musts l k) (cb (allTrue l) o none) := by
  intro l
  induction l with
  | nil => exact h
  | cons b l ih =>
    show Snd (S.must b (musts l k)) (cb (cb b (allTrue l) false) o none)
    exact Snd.must fun hb => by rw [hb]; exact ih
theorem specs_sums (sp : Specs) {ty : TypeId → Option ATy} {fn : FuncId → Option Func} : SumsOK { ty := ty, fn := fn, sum := specSum sp } (specS sp) := by
  refine ⟨fun g m args H h => ?_, fun g args H h => ?_⟩
  · unfold specS at h
    replace h := ob_eq h; obtain ⟨m', hm, h⟩ := h
    injection h with h; subst h
    simp only [specSum, hm, ob_some]
    exact Snd.bind (Snd.lift _) fun r _ => musts_snd (Snd.pure _) _
  · unfold specS at h
    cases hm : sp g with
    | none => simp only [specSum, hm, ob_none]
    | some m => rw [hm] at h; cases h

/-- **A table of summaries is sound**, if each row is what the function does by itself, with the summaries that stood before. -/
theorem specs_ok {P : Program} {ty : TypeId → Option ATy} {fn : FuncId → Option Func} {sum : FuncId → List AV → Heap → Option (AV × Heap)} (hcx : CxOK P { ty := ty, fn := fn, sum := sum }) (hs : SumAll P { ty := ty, fn := fn, sum := sum }) {sp : Specs}
    (h : ∀ g m args c v, sp g = some m → m args = some (c, v) → allTrue c = true → AV.plainL args = true ∧ v.plain = true ∧ ∃ f h', aCall { ty := ty, fn := fn, sum := sum } f (.fn g) args H0 = some (v, h')) :
    SumAll P { ty := ty, fn := fn, sum := specSum sp } := by
  intro base w0 g args H H' v μ w xs hsum hw hr r n
  simp only [specSum] at hsum
  replace hsum := ob_eq hsum; obtain ⟨m, hm, hsum⟩ := hsum
  replace hsum := ob_eq hsum; obtain ⟨⟨c, v'⟩, hc, hsum⟩ := hsum
  simp only at hsum
  cases hall : allTrue c with
  | false => rw [hall] at hsum; cases hsum
  | true =>
    rw [hall, cb_true] at hsum
    injection hsum with hsum; injection hsum with h1 h2; subst h1; subst h2
    obtain ⟨ha, hv, f, h', hrun⟩ := h g m args c v' hm hc hall
    exact sum_plain hcx hs hrun ha hv hw hr r n

/-- a table as a list. -/
def spOf (l : List (FuncId × (List AV → Option (List Bool × AV)))) : Specs := fun g => List.rec (motive := fun _ => Option (List AV → Option (List Bool × AV))) none (fun p _ r => cb (Nat.beq g p.1) (some p.2) r) l
theorem spOf_mem {l : List (FuncId × (List AV → Option (List Bool × AV)))} {g : FuncId} {m : List AV → Option (List Bool × AV)} (h : spOf l g = some m) : (g, m) ∈ l := by
  induction l with
  | nil => cases h
  | cons p l ih =>
    change cb (Nat.beq g p.1) (some p.2) (spOf l g) = some m at h
    cases hb : Nat.beq g p.1 with
    | true =>
      rw [hb, cb_true] at h
      injection h with h
      have := Nat.eq_of_beq_eq_true hb
      rw [← h, this]; simp
    | false =>
      rw [hb, cb_false] at h
      simp [ih h]
/-- a function without arguments that comes to a value. -/
def const0 (v : AV) : List AV → Option (List Bool × AV) := fun args =>
  match args with
  | [] => some ([], v)
  | _ => none
end Go.Ab

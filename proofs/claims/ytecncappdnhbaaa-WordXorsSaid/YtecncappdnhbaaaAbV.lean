/- Summaries: what a function does by itself, it does wherever it is called. -/
import Derived.Test.YtecncappdnhbaaaAbU
set_option autoImplicit false
set_option linter.unusedVariables false
set_option linter.unusedSimpArgs false
set_option linter.unusedSectionVars false
namespace Go.Ab
open Go.RowKit

mutual
/-- a value that leads nowhere. -/
def AV.plain : AV → Bool
  | .undef | .int _ _ | .bool _ | .str _ | .nilFunc | .nilIface => true
  | .ptr p => p.isNone
  | .slice p _ _ => p.isNone
  | .map r => r.isNone
  | .func _ x y => AV.plainL x && AV.plainL y
  | .yield _ => false
  | .iface _ v => v.plain
  | .agg cs => AV.plainL cs
  | .tuple cs => AV.plainL cs
  | .fsl _ _ cs => AV.plainL cs
  | .fptr cs => AV.plainL cs
  | .any => true
def AV.plainL : List AV → Bool
  | [] => true
  | v :: vs => v.plain && AV.plainL vs
end

mutual
theorem RelV.move {μ μ' : Inj} (hz : ∀ k arr, μ.fz k = some arr → μ'.fz k = some arr) : ∀ {v : AV} {x : Value}, v.plain = true → RelV μ v x → RelV μ' v x
  | _, _, _, .undef => .undef
  | _, _, _, .any => .any
  | _, _, _, .int k n => .int k n
  | _, _, _, .bool b => .bool b
  | _, _, _, .str s => .str s
  | _, _, _, .ptrN => .ptrN
  | _, _, h, .ptr _ => by simp [AV.plain] at h
  | _, _, _, .sliceN => .sliceN
  | _, _, h, .slice _ _ _ => by simp [AV.plain] at h
  | _, _, h, .sliceU _ _ _ _ => by simp [AV.plain] at h
  | _, _, _, .mapN => .mapN
  | _, _, h, .map _ => by simp [AV.plain] at h
  | _, _, h, .func a b => by
    simp only [AV.plain, Bool.and_eq_true] at h
    exact .func (RelL.move hz h.1 a) (RelL.move hz h.2 b)
  | _, _, h, .yield _ => by simp [AV.plain] at h
  | _, _, _, .nilFunc => .nilFunc
  | _, _, _, .nilIface => .nilIface
  | _, _, h, .iface a => by
    simp only [AV.plain] at h
    exact .iface (RelV.move hz h a)
  | _, _, h, .agg a => by
    simp only [AV.plain] at h
    exact .agg (RelL.move hz h a)
  | _, _, h, .tuple a => by
    simp only [AV.plain] at h
    exact .tuple (RelL.move hz h a)
  | _, _, _, .fslN => .fslN
  | _, _, h, .fsl a b c d => by
    simp only [AV.plain] at h
    exact .fsl (fun hn => ⟨(a hn).1, hz _ _ (a hn).2⟩) (RelL.move hz h b) c d
  | _, _, h, .fptr a b c => by
    simp only [AV.plain] at h
    exact .fptr (fun hn => ⟨(a hn).1, hz _ _ (a hn).2⟩) (RelL.move hz h b) c
theorem RelL.move {μ μ' : Inj} (hz : ∀ k arr, μ.fz k = some arr → μ'.fz k = some arr) : ∀ {v : List AV} {x : List Value}, AV.plainL v = true → RelL μ v x → RelL μ' v x
  | _, _, _, .nil => .nil
  | _, _, h, .cons a b => by
    simp only [AV.plainL, Bool.and_eq_true] at h
    exact .cons (RelV.move hz h.1 a) (RelL.move hz h.2 b)
end

/-- Sound wherever. -/
structure SumAll (P : Program) (cx : Cx) : Prop where
  sum : ∀ base w0, SumOK P cx base w0
  loop : ∀ base w0, LoopsOK P cx base w0

theorem sumAll_none {P : Program} {tys : TypeId → Option ATy} {fns : FuncId → Option Func} : SumAll P { ty := tys, fn := fns, sum := fun _ _ _ => none } :=
  ⟨fun base w0 => sum_none rfl, fun base w0 => loop_none rfl⟩

/-- What is frozen alone. -/
def Inj.frozen (μ : Inj) (lo : Nat) : Inj := ⟨fun _ => none, μ.fz, lo⟩
theorem RelW.frozen {sz : TypeId → Nat} {base : Nat → Prop} {w0 w : World} {μ : Inj} {H : Heap} (h : RelW sz base w0 μ H w) : RelW sz (Old w) w (μ.frozen w.heap.size) H0 w :=
  ⟨Keep.refl _ _, fun _ h => h, fun _ _ e => (by cases e), fun _ _ e => (by cases e), fun _ _ _ _ e => (by cases e), h.froz, fun _ _ _ _ e => (by cases e), Nat.le_refl _⟩

/-- **A function of plain values, to plain values**: run by itself, in an empty heap. -/
theorem sum_plain {P : Program} {cx : Cx} (hcx : CxOK P cx) (hs : SumAll P cx) {f : Nat} {g : FuncId} {args : List AV} {v : AV} {h' : Heap} (h : aCall cx f (.fn g) args H0 = some (v, h')) (ha : AV.plainL args = true) (hv : v.plain = true)
    {base : Nat → Prop} {w0 w : World} {μ : Inj} {H : Heap} {xs : List Value} (hw : RelW (szOf cx) base w0 μ H w) (hr : RelL μ args xs) (r : Option Nat) (n : Nat) :
    CallsIn (FF r) n P g xs.toArray w fun e w' => ∃ Z, e = .returned Z ∧ Keep (Old w) w w' ∧ ∃ μ', Grow 0 (μ.frozen w.heap.size) μ' ∧ RelV μ' v Z ∧ RelW (szOf cx) (Old w) w μ' h' w' := by
  have h1 := ((aCall_sound hcx (hs.sum (Old w) w) (hs.loop (Old w) w) f).fn h hw.frozen (RelL.move (μ := μ) (μ' := μ.frozen w.heap.size) (fun _ _ e => e) ha hr)).2 r n
  refine h1.mono ?_
  rintro e w' ⟨Z, rfl, _, μ', hg, hz, hw'⟩
  exact ⟨Z, rfl, hw'.below, μ', ⟨fun b hb => by omega, hg.fz, hg.lo, hg.fzn⟩, hz, hw'⟩
end Go.Ab

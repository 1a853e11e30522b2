/- Rows of functions: of plain values; of new blocks. -/
import Derived.Test.YtecncappdnhbaaaAbIn
set_option autoImplicit false
set_option linter.unusedVariables false
set_option linter.unusedSimpArgs false
set_option linter.unusedSectionVars false
noncomputable section
namespace Go.Ab
open Go.RowKit

mutual
theorem AV.ren_id {nf : Bool} {ρ : Nat → Nat} : ∀ {v : AV}, v.ok nf (fun _ => false) = true → v.ren ρ = v
  | .undef, _ => rfl
  | .any, _ => rfl
  | .int _ _, _ => rfl
  | .bool _, _ => rfl
  | .str _, _ => rfl
  | .ptr none, _ => rfl
  | .ptr (some _), h => by simp [AV.ok] at h
  | .slice none _ _, _ => rfl
  | .slice (some _) _ _, h => by simp [AV.ok] at h
  | .map none, _ => rfl
  | .map (some _), h => by simp [AV.ok] at h
  | .func f x y, h => by
    simp only [AV.ok, Bool.and_eq_true] at h
    simp only [AV.ren, AV.renL_id h.1, AV.renL_id h.2]
  | .yield _, h => by simp [AV.ok] at h
  | .nilFunc, _ => rfl
  | .nilIface, _ => rfl
  | .iface _ v, h => by simp only [AV.ok] at h; simp only [AV.ren, AV.ren_id h]
  | .agg cs, h => by simp only [AV.ok] at h; simp only [AV.ren, AV.renL_id h]
  | .tuple cs, h => by simp only [AV.ok] at h; simp only [AV.ren, AV.renL_id h]
  | .fsl _ _ cs, h => by simp only [AV.ok, Bool.and_eq_true] at h; simp only [AV.ren, AV.renL_id h.2]
  | .fptr cs, h => by simp only [AV.ok, Bool.and_eq_true] at h; simp only [AV.ren, AV.renL_id h.2]
theorem AV.renL_id {nf : Bool} {ρ : Nat → Nat} : ∀ {v : List AV}, AV.okL nf (fun _ => false) v = true → AV.renL ρ v = v
  | [], _ => rfl
  | v :: vs, h => by
    simp only [AV.okL, Bool.and_eq_true] at h
    simp only [AV.renL, AV.ren_id h.1, AV.renL_id h.2]
end
mutual
theorem AV.ok_mono {nf : Bool} {p q : Nat → Bool} (hpq : ∀ b, p b = true → q b = true) : ∀ {v : AV}, v.ok nf p = true → v.ok nf q = true
  | .undef, _ => rfl
  | .any, _ => rfl
  | .int _ _, _ => rfl
  | .bool _, _ => rfl
  | .str _, _ => rfl
  | .ptr none, _ => rfl
  | .ptr (some a), h => hpq _ h
  | .slice none _ _, _ => rfl
  | .slice (some _) _ _, h => hpq _ h
  | .map none, _ => rfl
  | .map (some _), h => hpq _ h
  | .func f x y, h => by
    simp only [AV.ok, Bool.and_eq_true] at h ⊢
    exact ⟨AV.okL_mono hpq h.1, AV.okL_mono hpq h.2⟩
  | .yield _, h => hpq _ h
  | .nilFunc, _ => rfl
  | .nilIface, _ => rfl
  | .iface _ v, h => AV.ok_mono (v := v) hpq h
  | .agg cs, h => AV.okL_mono (v := cs) hpq h
  | .tuple cs, h => AV.okL_mono (v := cs) hpq h
  | .fsl _ _ cs, h => by simp only [AV.ok, Bool.and_eq_true] at h ⊢; exact ⟨h.1, AV.okL_mono hpq h.2⟩
  | .fptr cs, h => by simp only [AV.ok, Bool.and_eq_true] at h ⊢; exact ⟨h.1, AV.okL_mono hpq h.2⟩
theorem AV.okL_mono {nf : Bool} {p q : Nat → Bool} (hpq : ∀ b, p b = true → q b = true) : ∀ {v : List AV}, AV.okL nf p v = true → AV.okL nf q v = true
  | [], _ => rfl
  | v :: vs, h => by
    simp only [AV.okL, Bool.and_eq_true] at h ⊢
    exact ⟨AV.ok_mono hpq h.1, AV.okL_mono hpq h.2⟩
end

/-- a plain result. -/
def RSum.pl (nf : Bool) (m : List AV → Option (List Bool × AV)) : RSum := ⟨nf, fun us => (m us).ob fun r => some (r.1, fun _ => (r.2, []))⟩
theorem RSum.pl_ok {cx : Cx} {g : FuncId} {nf : Bool} {m : List AV → Option (List Bool × AV)}
    (h : ∀ us c v, m us = some (c, v) → allTrue c = true → v.ok nf (fun _ => false) = true ∧ ∃ f h', aCall cx f (.fn g) us H0 = some (v, h')) : (RSum.pl nf m).OK cx g := by
  intro us c q hq hc
  simp only [RSum.pl] at hq
  replace hq := ob_eq hq; obtain ⟨⟨c', v⟩, hm, hq⟩ := hq
  injection hq with hq; injection hq with e1 e2; subst e1; subst e2
  obtain ⟨hv, f, h', hrun⟩ := h us c' v hm hc
  refine ⟨f, v, h', [], hrun, AV.ok_mono (fun b hb => by cases hb) hv, (fun l l' j e => by cases e), fun n ρ hρ => ⟨AV.Le.of_eq (AV.ren_id hv), rfl, fun l j b e => by cases e⟩⟩

/-- a result in new blocks of plain cells; the value by the first number. -/
def RSum.nb (nf : Bool) (m : List AV → Option (List Bool × (Nat → AV) × List Blk)) : RSum := ⟨nf, fun us => (m us).ob fun r => some (r.1, fun n => (r.2.1 n, r.2.2))⟩
def Blk.plainOwn (nf : Bool) : Blk → Bool
  | .cells o _ _ cs => o && AV.okL nf (fun _ => false) cs
  | _ => false
theorem RSum.nb_ok {cx : Cx} {g : FuncId} {nf : Bool} {m : List AV → Option (List Bool × (Nat → AV) × List Blk)}
    (h : ∀ us c v bs, m us = some (c, v, bs) → allTrue c = true → (∀ b ∈ bs, b.plainOwn nf = true) ∧ ∃ (f : Nat) (h' : Heap) (sel : List Nat) (v0 : AV), aCall cx f (.fn g) us H0 = some (v0, h') ∧ sel.map h'.get = bs ∧
      (∀ (l l' j : Nat), sel[l]? = some j → sel[l']? = some j → l = l') ∧ v0.ok nf (fun b => sel.contains b) = true ∧ ∀ (n : Nat) (ρ : Nat → Nat), (∀ (l j : Nat), sel[l]? = some j → ρ j = n + l) → AV.Le (v0.ren ρ) (v n)) : (RSum.nb nf m).OK cx g := by
  intro us c q hq hc
  simp only [RSum.nb] at hq
  replace hq := ob_eq hq; obtain ⟨⟨c', v, bs⟩, hm, hq⟩ := hq
  injection hq with hq; injection hq with e1 e2; subst e1; subst e2
  obtain ⟨hb, f, h', sel, v0, hrun, hsel, hnd, hok, hren⟩ := h us c' v bs hm hc
  refine ⟨f, v0, h', sel, hrun, hok, hnd, fun n ρ hρ => ⟨hren n ρ hρ, by rw [← hsel]; simp, fun l j b e eb => ?_⟩⟩
  have hb1 : h'.get j = b := by
    simp only [← hsel, List.getElem?_map, e] at eb
    simpa using eb
  have hb2 := hb b (List.mem_of_getElem? eb)
  rw [hb1]
  cases b <;> simp only [Blk.plainOwn] at hb2 <;> try (cases hb2; done)
  simp only [Bool.and_eq_true] at hb2
  refine ⟨?_, ?_⟩
  · simp only [Blk.ren]; rw [AV.renL_id hb2.2]
  · simp only [Blk.ok, Bool.and_eq_true]; exact ⟨hb2.1, AV.okL_mono (fun b hb => by cases hb) hb2.2⟩

/-- a function without arguments. -/
def RSum.const (v : AV) : RSum := RSum.pl true fun us => match us with
  | [] => some ([], v)
  | _ => none
theorem RSum.const_ok {cx : Cx} {g : FuncId} {v : AV} (hv : v.ok true (fun _ => false) = true) {f : Nat} (h : ∃ h', aCall cx f (.fn g) [] H0 = some (v, h')) : (RSum.const v).OK cx g := by
  refine RSum.pl_ok fun us c u hm hc => ?_
  split at hm
  · injection hm with hm; injection hm with e1 e2; subst e2
    obtain ⟨h', h⟩ := h
    exact ⟨hv, f, h', h⟩
  · cases hm
/-- of a row of no cells the capacity isn't told. -/
theorem AV.Le.empty (b : Nat) : AV.Le (.slice (some (b, 0)) 0 (some 0)) (.slice (some (b, 0)) 0 none) := by
  intro μ x h
  cases h with
  | slice e h1 h2 => exact .sliceU e h1 h2 (fun _ => by simp)
/-- one block. -/
theorem sel_one (k : Nat) : ∀ (l l' j : Nat), [k][l]? = some j → [k][l']? = some j → l = l' := by
  intro l l' j h h'
  cases l with
  | zero => cases l' with
    | zero => rfl
    | succ l' => simp at h'
  | succ l => simp at h

/-- **A loop that leaves the heap, by rounds**: enc: the slots' values of a state; fin: how it ends from there. -/
theorem PLoop.ok_by {P : Program} {ty : TypeId → Option ATy} {L : PLoop} {id : Nat} {b : Code} (hb : L.code = .loop b) {α : Type} (enc : α → List AV) (fin : α → AX × List AV) (ok : α → Prop) (meas : α → Nat)
    (hm : ∀ vs conds X vs', L.m vs = some (conds, X, vs') → allTrue conds = true → ∃ p, ok p ∧ vs = enc p ∧ X = AX.inBlock id (fin p).1 ∧ vs' = (fin p).2)
    (step : ∀ p, ok p → ∀ ds H, (∃ p', ok p' ∧ fin p' = fin p ∧ meas p' < meas p ∧ CodeOK P (tyCx ty) L.nn H.next b ⟨frameOf L.nn (L.slots.zip (enc p)), ds, H⟩ .normal ⟨frameOf L.nn (L.slots.zip (enc p')), ds, H⟩) ∨
      ((fin p).1 ≠ .normal ∧ CodeOK P (tyCx ty) L.nn H.next b ⟨frameOf L.nn (L.slots.zip (enc p)), ds, H⟩ (fin p).1 ⟨frameOf L.nn (L.slots.zip (fin p).2), ds, H⟩)) : L.OK P (tyCx ty) id := by
  intro vs conds X vs' h hc _ ds H
  obtain ⟨p, hp, rfl, rfl, rfl⟩ := hm vs conds X vs' h hc
  have key := CodeOK.loop (P := P) (cx := tyCx ty) (nn := L.nn) (n0 := H.next) (b := b) (fun q : {q // ok q} => ⟨frameOf L.nn (L.slots.zip (enc q.1)), ds, H⟩) (fun q => ((fin q.1).1, ⟨frameOf L.nn (L.slots.zip (fin q.1).2), ds, H⟩)) (fun q => meas q.1) (fun q => by
    rcases step q.1 q.2 ds H with ⟨p', h1, h2, h3, h4⟩ | ⟨h1, h2⟩
    · exact .inl ⟨⟨p', h1⟩, h4, by simp only [h2], h3⟩
    · exact .inr ⟨h2, h1⟩) ⟨p, hp⟩
  rw [hb]
  exact CodeOK.block id key
end Go.Ab

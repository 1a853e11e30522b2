/- The machine with loops that write to a row of their own; their proofs by rounds. -/
import Derived.Test.YtecncappdnhbaaaAbHL
set_option autoImplicit false
set_option linter.unusedVariables false
set_option linter.unusedSimpArgs false
set_option linter.unusedSectionVars false
noncomputable section
namespace Go.Ab
open Go.RowKit

def mkCxH (ty : TypeId → Option ATy) (fn : FuncId → Option Func) (ft : FTab) (lt : HTab) : Cx := { ty := ty, fn := fn, sum := ftSum ty ft, loop := htLoop lt }
def mkSH (ty : TypeId → Option ATy) (ft : FTab) (lt : HTab) : SumS := { fn := ftSumS ty ft, loop := htLoopS lt }
theorem mkSH_ok (ty : TypeId → Option ATy) (fn : FuncId → Option Func) (ft : FTab) (lt : HTab) : SumsOK (mkCxH ty fn ft lt) (mkSH ty ft lt) :=
  ftSums_snd (cx := mkCxH ty fn ft lt) rfl (htLoops_snd rfl)
theorem sums_allH {P : Program} {ty : TypeId → Option ATy} {fn : FuncId → Option Func} {ft : FTab} {lt : HTab} (hf : ∀ p ∈ ft, RSum.Sound P ty p.1 p.2) (hl : ∀ p ∈ lt, p.2.OK P (tyCx ty) p.1.2) : SumAll P (mkCxH ty fn ft lt) := by
  refine ⟨fun base w0 => ?_, fun base w0 => htLoops_ok (cx := mkCxH ty fn ft lt) rfl (fun p hp v ob us conds X v' ob' us' h1 h2 h3 h4 h5 => by
    obtain ⟨k1, k2, k3⟩ := hl p hp v ob us conds X v' ob' us' h1 h2 h3 h4 h5
    exact ⟨k1, k2, ⟨fun {_ _ _ _ _ _ _ _} => k3.ok⟩⟩) base w0⟩
  intro g args H H' v μ w xs hsum hw hr r n
  obtain ⟨s, hs, hsum⟩ := ftSum_one hsum
  exact hf _ hs base w0 hsum hw hr r n
theorem RSum.soundH {P : Program} {ty : TypeId → Option ATy} {fn : FuncId → Option Func} {ft : FTab} {lt : HTab} (hcx : CxOK P (mkCxH ty fn ft lt)) (hs : SumAll P (mkCxH ty fn ft lt)) {g : FuncId} {s : RSum} (h : s.OK (mkCxH ty fn ft lt) g) : RSum.Sound P ty g s := by
  intro base w0
  exact ftSums_ok hcx hs (cx' := { ty := ty, fn := fun _ => none, sum := ftSum ty [(g, s)] }) rfl rfl (fun p hp => by
    have : p = (g, s) := by simpa using hp
    subst this; exact h) base w0
theorem call_runH {ty : TypeId → Option ATy} {fn : FuncId → Option Func} {ft : FTab} {lt : HTab} {f : Nat} {t : Tgt} {args : List AV} {H : Heap} {v : AV} {ids : List Nat} {bs : List Blk} {q : List Ans} {c : List Cnd}
    (h : part (pCallB ids) (callS (mkCxH ty fn ft lt) (mkSH ty ft lt) f t args H q) = some ((v, bs), c)) (hc : HoldsL c) : ∃ h', aCall (mkCxH ty fn ft lt) f t args H = some (v, h') ∧ ids.map h'.get = bs := by
  obtain ⟨⟨v', h'⟩, q', h1, h2⟩ := part_eq h
  injection h2 with h2 h3
  subst h2
  exact ⟨h', callS_snd _ (mkSH_ok ty fn ft lt) f t args H q _ q' c h1 hc, h3⟩

theorem plainL_get : ∀ {l : List AV} {i : Nat} {v : AV}, AV.plainL l = true → l[i]? = some v → v.plain = true := by
  intro l
  induction l with
  | nil => intro i v _ h; cases h
  | cons a l ih =>
    intro i v hl h
    simp only [AV.plainL, Bool.and_eq_true] at hl
    cases i with
    | zero => simp at h; subst h; exact hl.1
    | succ i => exact ih hl.2 (by simpa using h)

section
variable {sz : TypeId → Nat} {base : Nat → Prop} {w0 w w' : World} {μ : Inj} {H : Heap}
/-- of a heap one row is told. -/
theorem relW_pick (hw : RelW sz base w0 μ H w) {k : Nat} {b : Blk} (hg : H.get k = b) (hp : b.plainB = true) : RelW sz base w0 ⟨fun j => if j = 0 then μ k else none, μ.fz, μ.lo⟩ (mk1 (some b)) w := by
  have hget : (mk1 (some b)).get 0 = b := by
    show (H0.new _).get 0 = _
    rw [Heap.get_new]; rfl
  refine ⟨hw.below, hw.baseLe, fun c j e => ?_, fun c j e => ?_, fun c c' j j' e e' hne => ?_, hw.froz, fun c j k' arr e hwr hz => ?_, hw.lo⟩
  · change (if c = 0 then μ k else none) = some j at e
    split at e
    · rename_i h; subst h; show 0 < 1; omega
    · cases e
  · change (if c = 0 then μ k else none) = some j at e
    split at e
    · rename_i h; subst h
      have h0 := hw.blk k j e
      rw [hget]
      rw [hg] at h0
      cases b <;> simp only [Blk.plainB] at hp <;> try (cases hp; done)
      rename_i o e1 n cs
      simp only [Bool.and_eq_true] at hp
      obtain ⟨hl, arr, e', fr, ha, hcs, hown⟩ := h0
      refine ⟨hl, arr, e', fr, ha, fun k v hv => ?_, hown⟩
      obtain ⟨x, hx, hr⟩ := hcs k v hv
      refine ⟨x, hx, RelV.move (μ := μ) ?_ (plainL_get hp.2 hv) hr⟩
      exact fun _ _ e => e
    · cases e
  · change (if c = 0 then μ k else none) = some j at e
    change (if c' = 0 then μ k else none) = some j' at e'
    split at e
    · split at e'
      · rename_i h h'; exact absurd (h.trans h'.symm) hne
      · cases e'
    · cases e
  · change (if c = 0 then μ k else none) = some j at e
    split at e
    · rename_i h; subst h
      rw [hget] at hwr
      exact hw.frozApart k j k' arr e (by rw [hg]; exact hwr) hz
    · cases e
theorem relW_forget (hw : RelW sz base w0 μ H w) : RelW sz base w0 ⟨fun _ => none, μ.fz, μ.lo⟩ (mk1 none) w := by
  refine ⟨hw.below, hw.baseLe, fun c j e => ?_, fun c j e => ?_, fun c c' j j' e e' hne => ?_, hw.froz, fun c j k arr e hwr hz => ?_, hw.lo⟩ <;> cases e
end

/-- code around a row of its own: its end, the row's slot, other slots, the row. -/
def pOwn (own : Nat) (sl : List Nat) (k : Nat) (r : AX × St) : AX × AV × List AV × List Nat × Blk := (r.1, r.2.fr.get own, sl.map r.2.fr.get, r.2.ds, r.2.H.get k)
theorem own_run {P : Program} {ty : TypeId → Option ATy} {fn : FuncId → Option Func} {ft : FTab} {lt : HTab} (hcx : CxOK P (mkCxH ty fn ft lt)) (hs : SumAll P (mkCxH ty fn ft lt)) {g f : Nat} {k : FuncId} {nn : Nat} {b : Code} {s : St} {X : AX} {own kk : Nat} {sl : List Nat} {o len : Nat} {cp : Option Nat} {us : List AV} {bb : Blk} {q : List Ans} {c : List Cnd}
    (h : part (pOwn own sl kk) (codeS (mkCxH ty fn ft lt) (htLoopS lt) (callS (mkCxH ty fn ft lt) (mkSH ty ft lt) g) k none nn f b s q) = some ((X, .slice (some (kk, o)) len cp, us, [], bb), c)) (hc : HoldsL c) (hr : noRange b = true) (hb : bb.plainB = true) (hv : AV.plainL us = true) :
    CodeOK P (tyCx ty) nn 0 b s X ⟨frameOf nn ((own, .slice (some (0, o)) len cp) :: sl.zip us), [], mk1 (some bb)⟩ := by
  obtain ⟨⟨X', s1⟩, q', h1, h2⟩ := part_eq h
  unfold pOwn at h2
  injection h2 with e1 h2; injection h2 with e2 h2; injection h2 with e3 h2; injection h2 with e4 e5
  simp only at e1 e2
  subst e1
  have hrun := codeS_snd _ (htLoops_snd rfl) (callS_snd _ (mkSH_ok ty fn ft lt) g) k none nn f b s q _ q' c h1 hc
  have key : CodeOK P (mkCxH ty fn ft lt) nn 0 b s X' s1 := CodeOK.run hcx hs hrun (Nat.zero_le _) hr
  have wk : Weak P (mkCxH ty fn ft lt) nn 0 s1 ⟨frameOf nn ((own, .slice (some (0, o)) len cp) :: sl.zip us), [], mk1 (some bb)⟩ := by
    refine ⟨fun {base w0 w μ tmps es} k1 k2 k3 k4 => ?_⟩
    refine ⟨⟨fun j => if j = 0 then μ kk else none, μ.fz, μ.lo⟩, ⟨fun _ h => absurd h (Nat.not_lt_zero _), fun _ _ e => e, rfl, fun _ _ e => .inl e⟩, ?_, ?_, relW_pick k4 e5 hb⟩
    · show RelF _ (frameOf nn ((own, .slice (some (0, o)) len cp) :: sl.zip us)).get tmps
      refine relF_frameOf' k2 _ fun p hp => ?_
      rcases List.mem_cons.1 hp with rfl | hp
      · have hr0 := k1 own
        rw [e2] at hr0
        exact RelV.ren (nf := false) (p := fun j => Nat.beq j kk) (v := .slice (some (kk, o)) len cp) (ρ := fun _ => 0) (μ := μ) (μ' := ⟨fun j => if j = 0 then μ kk else none, μ.fz, μ.lo⟩) (fun c j hc e => by
          have := Nat.eq_of_beq_eq_true hc
          subst this
          exact e) (fun _ _ _ e => e) (by simp [AV.ok]) hr0
      · obtain ⟨i, hi⟩ := List.getElem?_of_mem hp
        rw [List.getElem?_zip_eq_some] at hi
        obtain ⟨i1, i2⟩ := hi
        have hpl := plainL_get hv i2
        have : s1.fr.get p.1 = p.2 := by
          rw [← e3, List.getElem?_map, i1] at i2
          simpa using i2
        have hr0 := k1 p.1
        rw [this] at hr0
        refine RelV.move (μ := μ) ?_ hpl hr0
        exact fun _ _ e => e
    · rw [e4] at k3
      cases k3
      exact .nil
  have fin := key.weak wk
  exact ⟨fun {_ _ _ _ _ _ _ _} => fin.ok⟩
theorem own_run0 {P : Program} {ty : TypeId → Option ATy} {fn : FuncId → Option Func} {ft : FTab} {lt : HTab} (hcx : CxOK P (mkCxH ty fn ft lt)) (hs : SumAll P (mkCxH ty fn ft lt)) {g f : Nat} {k : FuncId} {nn : Nat} {b : Code} {s : St} {X : AX} {own kk : Nat} {sl : List Nat} {v : AV} {us : List AV} {bb : Blk} {q : List Ans} {c : List Cnd}
    (h : part (pOwn own sl kk) (codeS (mkCxH ty fn ft lt) (htLoopS lt) (callS (mkCxH ty fn ft lt) (mkSH ty ft lt) g) k none nn f b s q) = some ((X, v, us, [], bb), c)) (hc : HoldsL c) (hr : noRange b = true) (hb : v.plain = true) (hv : AV.plainL us = true) :
    CodeOK P (tyCx ty) nn 0 b s X ⟨frameOf nn ((own, v) :: sl.zip us), [], mk1 none⟩ := by
  obtain ⟨⟨X', s1⟩, q', h1, h2⟩ := part_eq h
  unfold pOwn at h2
  injection h2 with e1 h2; injection h2 with e2 h2; injection h2 with e3 h2; injection h2 with e4 e5
  simp only at e1 e2
  subst e1
  have hrun := codeS_snd _ (htLoops_snd rfl) (callS_snd _ (mkSH_ok ty fn ft lt) g) k none nn f b s q _ q' c h1 hc
  have key : CodeOK P (mkCxH ty fn ft lt) nn 0 b s X' s1 := CodeOK.run hcx hs hrun (Nat.zero_le _) hr
  have wk : Weak P (mkCxH ty fn ft lt) nn 0 s1 ⟨frameOf nn ((own, v) :: sl.zip us), [], mk1 none⟩ := by
    refine ⟨fun {base w0 w μ tmps es} k1 k2 k3 k4 => ?_⟩
    refine ⟨⟨fun _ => none, μ.fz, μ.lo⟩, ⟨fun _ h => absurd h (Nat.not_lt_zero _), fun _ _ e => e, rfl, fun _ _ e => .inl e⟩, ?_, ?_, relW_forget k4⟩
    · show RelF _ (frameOf nn ((own, v) :: sl.zip us)).get tmps
      refine relF_frameOf' k2 _ fun p hp => ?_
      have fin : ∀ t u, u.plain = true → s1.fr.get t = u → RelV ⟨fun _ => none, μ.fz, μ.lo⟩ u (tmps.getD t Go.undef) := by
        intro t u hu ht
        have hr0 := k1 t
        rw [ht] at hr0
        refine RelV.move (μ := μ) ?_ hu hr0
        exact fun _ _ e => e
      rcases List.mem_cons.1 hp with rfl | hp
      · exact fin _ _ hb e2
      · obtain ⟨i, hi⟩ := List.getElem?_of_mem hp
        rw [List.getElem?_zip_eq_some] at hi
        obtain ⟨i1, i2⟩ := hi
        refine fin _ _ (plainL_get hv i2) ?_
        rw [← e3, List.getElem?_map, i1] at i2
        simpa using i2
    · rw [e4] at k3
      cases k3
      exact .nil
  have fin := key.weak wk
  exact ⟨fun {_ _ _ _ _ _ _ _} => fin.ok⟩

/-- By rounds. -/
abbrev HSt := AV × Option Blk × List AV
def HLoop.st (L : HLoop) (x : HSt) : St := ⟨frameOf L.nn ((L.own, x.1) :: L.slots.zip x.2.2), [], mk1 x.2.1⟩
theorem HLoop.ok_by {P : Program} {ty : TypeId → Option ATy} {L : HLoop} {id : Nat} {b : Code} (hb : L.code = .loop b) {α : Type} (enc : α → HSt) (fin : α → AX × HSt) (ok : α → Prop) (meas : α → Nat)
    (hm : ∀ v ob us conds X v' ob' us', L.m v ob us = some (conds, X, v', ob', us') → allTrue conds = true → AV.plainL us = true → okIn v ob → ∃ p, ok p ∧ (v, ob, us) = enc p ∧ X = AX.inBlock id (fin p).1 ∧ (v', ob', us') = (fin p).2 ∧ AV.plainL us' = true ∧ okIn v' ob')
    (step : ∀ p, ok p → (∃ p', ok p' ∧ fin p' = fin p ∧ meas p' < meas p ∧ CodeOK P (tyCx ty) L.nn 0 b (L.st (enc p)) .normal (L.st (enc p'))) ∨
      ((fin p).1 ≠ .normal ∧ CodeOK P (tyCx ty) L.nn 0 b (L.st (enc p)) (fin p).1 (L.st (fin p).2))) : L.OK P (tyCx ty) id := by
  intro v ob us conds X v' ob' us' h hc _ hpl hin
  obtain ⟨p, hp, e1, e2, e3, h1, h2⟩ := hm v ob us conds X v' ob' us' h hc hpl hin
  refine ⟨h1, h2, ?_⟩
  have key := CodeOK.loop (P := P) (cx := tyCx ty) (nn := L.nn) (n0 := 0) (b := b) (fun q : {q // ok q} => L.st (enc q.1)) (fun q => ((fin q.1).1, L.st (fin q.1).2)) (fun q => meas q.1) (fun q => by
    rcases step q.1 q.2 with ⟨p', h1, h2, h3, h4⟩ | ⟨h1, h2⟩
    · exact .inl ⟨⟨p', h1⟩, h4, by simp only [h2], h3⟩
    · exact .inr ⟨h2, h1⟩) ⟨p, hp⟩
  simp only [← e1, ← e3] at key
  rw [hb, e2]
  exact CodeOK.block id key
end Go.Ab

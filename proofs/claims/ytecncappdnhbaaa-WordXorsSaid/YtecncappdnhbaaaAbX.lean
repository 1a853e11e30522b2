/- What is known of blocks of code: loops that leave the heap as it is; by rounds. -/
import Derived.Test.YtecncappdnhbaaaAbW
set_option autoImplicit false
set_option linter.unusedVariables false
set_option linter.unusedSimpArgs false
set_option linter.unusedSectionVars false
noncomputable section
namespace Go.Ab
open Go.RowKit

/-! ### Frames of which a few slots are known -/
def anys (n : Nat) : Fr := ofList 0 (List.replicate n .any) .nil
def frameOf (n : Nat) (l : List (Nat × AV)) : Fr := List.rec (motive := fun _ => Fr) (anys n) (fun p _ r => T.set .undef r p.1 p.2) l
theorem frameOf_get (n : Nat) (l : List (Nat × AV)) (t : Nat) : (frameOf n l).get t = (((l.find? fun p => p.1 == t).map (·.2)).getD (if t < n then .any else .undef)) := by
  induction l with
  | nil =>
    show (ofList 0 (List.replicate n .any) .nil).get t = _
    rw [ofList_get]
    by_cases h : t < n
    · rw [if_pos ⟨Nat.zero_le _, by simpa using h⟩, if_pos h]; simp [h]
    · rw [if_neg (by simp; omega), if_neg h]; rfl
  | cons p l ih =>
    show T.get .undef (T.set .undef (frameOf n l) p.1 p.2) t = _
    rw [T.get_set]
    by_cases h : t = p.1
    · rw [if_pos h]; simp [h]
    · rw [if_neg h]
      have : (p.1 == t) = false := by simpa using Ne.symm h
      rw [List.find?_cons, this]
      exact ih
theorem relF_frameOf {μ : Inj} {fr : Fr} {tmps : Array Value} {n : Nat} (hf : RelF μ fr.get tmps) (hs : tmps.size = n) (l : List (Nat × AV)) (h : ∀ q ∈ l, q.2 = .any ∨ fr.get q.1 = q.2) : RelF μ (frameOf n l).get tmps := by
  intro t
  rw [frameOf_get]
  cases hx : l.find? fun p => p.1 == t with
  | some q =>
    have hm := List.mem_of_find?_eq_some hx
    have he := List.find?_some hx
    simp only [Option.map_some, Option.getD_some]
    rcases h q hm with h | h
    · rw [h]; exact .any
    · rw [← h, eq_of_beq he]; exact hf t
  | none =>
    simp only [Option.map_none, Option.getD_none]
    split
    · exact .any
    · rename_i ht
      rw [Array.getD_eq_getD_getElem?, Array.getElem?_eq_none (by omega)]
      exact .undef

/-! ### What is said of a block of code -/
/-- from a state the code comes to another one; n0: the numbers that stay. -/
structure CodeOK (P : Program) (cx : Cx) (nn n0 : Nat) (c : Code) (s : St) (X : AX) (s' : St) : Prop where
  ok : ∀ {base : Nat → Prop} {w0 : World} {r : Option Nat} {n : Nat} {μ : Inj} {a : Act} {w : World} {Q : Exit → Act → World → Prop},
    RelF μ s.fr.get a.tmps → a.tmps.size = nn → RelD μ s.ds a.defers → RelW (szOf cx) base w0 μ s.H w →
    (∀ a' w', (∃ μ', Grow n0 μ μ' ∧ RelF μ' s'.fr.get a'.tmps ∧ RelD μ' s'.ds a'.defers ∧ RelW (szOf cx) base w0 μ' s'.H w') → a'.tmps.size = nn → Q (exOf X) a' w') → c.wpIn (FF r) n P Q a w

/-- a state is told with less. -/
structure Weak (P : Program) (cx : Cx) (nn n0 : Nat) (s s' : St) : Prop where
  ok : ∀ {base : Nat → Prop} {w0 w : World} {μ : Inj} {tmps : Array Value} {es : List Deferred}, RelF μ s.fr.get tmps → tmps.size = nn → RelD μ s.ds es → RelW (szOf cx) base w0 μ s.H w →
    ∃ μ', Grow n0 μ μ' ∧ RelF μ' s'.fr.get tmps ∧ RelD μ' s'.ds es ∧ RelW (szOf cx) base w0 μ' s'.H w

theorem Weak.refl {P : Program} {cx : Cx} {nn n0 : Nat} (s : St) : Weak P cx nn n0 s s := ⟨fun h1 _ h3 h4 => ⟨_, Grow.refl _ _, h1, h3, h4⟩⟩
theorem Weak.trans {P : Program} {cx : Cx} {nn n0 : Nat} {a b c : St} (h : Weak P cx nn n0 a b) (k : Weak P cx nn n0 b c) : Weak P cx nn n0 a c := ⟨fun h1 h2 h3 h4 => by
  obtain ⟨μ1, g1, f1, d1, w1⟩ := h.ok h1 h2 h3 h4
  obtain ⟨μ2, g2, f2, d2, w2⟩ := k.ok f1 h2 d1 w1
  exact ⟨μ2, g1.trans g2 (Nat.le_refl _), f2, d2, w2⟩⟩

/-! ### What was there before looks at what was there before -/
mutual
theorem RelV.back {μ μ' : Inj} (ext : ∀ b i, μ b = some i → μ' b = some i) : ∀ {v : AV} {x y : Value}, RelV μ v x → RelV μ' v y → RelV ⟨μ.map, μ'.fz, μ.lo⟩ v y
  | .undef, _, _, _, .undef => .undef
  | .any, _, _, _, .any => .any
  | .int _ _, _, _, _, .int k n => .int k n
  | .bool _, _, _, _, .bool b => .bool b
  | .str _, _, _, _, .str s => .str s
  | .ptr none, _, _, _, .ptrN => .ptrN
  | .ptr (some (b, o)), _, _, .ptr e, .ptr e' => by
    rw [ext _ _ e] at e'; cases e'; exact .ptr e
  | .slice none _ _, _, _, _, .sliceN => .sliceN
  | .slice (some (b, o)) _ (some _), _, _, .slice e _ _, .slice e' h1 h2 => by
    rw [ext _ _ e] at e'; cases e'; exact .slice e h1 h2
  | .slice (some (b, o)) _ none, _, _, .sliceU e _ _ _, .sliceU e' h1 h2 h3 => by
    rw [ext _ _ e] at e'; cases e'; exact .sliceU e h1 h2 h3
  | .map none, _, _, _, .mapN => .mapN
  | .map (some r), _, _, .map e, .map e' => by
    rw [ext _ _ e] at e'; cases e'; exact .map e
  | .func _ _ _, _, _, .func a b, .func a' b' => .func (RelL.back ext a a') (RelL.back ext b b')
  | .yield _, _, _, .yield e, .yield e' => by
    rw [ext _ _ e] at e'; cases e'; exact .yield e
  | .nilFunc, _, _, _, .nilFunc => .nilFunc
  | .nilIface, _, _, _, .nilIface => .nilIface
  | .iface _ _, _, _, .iface a, .iface a' => .iface (RelV.back ext a a')
  | .agg _, _, _, .agg a, .agg a' => .agg (RelL.back ext a a')
  | .tuple _, _, _, .tuple a, .tuple a' => .tuple (RelL.back ext a a')
  | .fsl true _ _, _, _, _, .fslN => .fslN
  | .fsl false _ cs, _, _, .fsl _ a _ _, .fsl h1 a' h2 h3 => .fsl h1 (RelL.back ext a a') h2 h3
  | .fptr cs, _, _, .fptr _ a _, .fptr h1 a' h2 => .fptr h1 (RelL.back ext a a') h2
theorem RelL.back {μ μ' : Inj} (ext : ∀ b i, μ b = some i → μ' b = some i) : ∀ {v : List AV} {x y : List Value}, RelL μ v x → RelL μ' v y → RelL ⟨μ.map, μ'.fz, μ.lo⟩ v y
  | [], _, _, _, .nil => .nil
  | _ :: _, _, _, .cons a b, .cons a' b' => .cons (RelV.back ext a a') (RelL.back ext b b')
end
theorem RelE.back {μ μ' : Inj} (ext : ∀ b i, μ b = some i → μ' b = some i) : ∀ {es : List (AV × AV)} {x y : List MapEntry}, RelE μ es x → RelE μ' es y → RelE ⟨μ.map, μ'.fz, μ.lo⟩ es y := by
  intro es
  induction es with
  | nil => intro x y _ h; cases h; exact .nil
  | cons e es ih =>
    intro x y h h'
    cases h with
    | cons a b c => cases h' with
      | cons a' b' c' => exact .cons (a.back ext a') (b.back ext b') (ih c c')

theorem roundsIn_more {F : Fence} {n : Nat} {P : Program} {c : Code} {Q : Exit → Act → World → Prop} : ∀ {m m' : Nat} {a : Act} {w : World}, Code.roundsIn F n P c Q m a w → m ≤ m' → Code.roundsIn F n P c Q m' a w := by
  intro m
  induction m with
  | zero => intro m' a w h; exact h.elim
  | succ m ih =>
    intro m' a w h hm
    obtain ⟨k, rfl⟩ : ∃ k, m' = k + 1 := ⟨m' - 1, by omega⟩
    rw [roundsIn_succ] at h ⊢
    refine Code.wpIn_mono (fun e a w he => ?_) h
    cases e <;> first | exact he | exact ih he (by omega)

section
variable {P : Program} {cx : Cx} {nn n0 : Nat}

theorem Grow.mono {n m : Nat} {μ μ' : Inj} (h : Grow n μ μ') (hm : m ≤ n) : Grow m μ μ' := ⟨fun b hb => h.same b (by omega), h.fz, h.lo, h.fzn⟩

theorem EndOK.code {base : Nat → Prop} {w0 : World} {μ : Inj} {H : Heap} {s' : St} {a' : Act} {w' : World} (h : EndOK cx base w0 nn μ H s' a' w') (hn : n0 ≤ H.next) : ∃ μ', Grow n0 μ μ' ∧ RelF μ' s'.fr.get a'.tmps ∧ RelD μ' s'.ds a'.defers ∧ RelW (szOf cx) base w0 μ' s'.H w' := by
  obtain ⟨e1, ⟨μ', e2, e3, e4, e5⟩, e6⟩ := h
  exact ⟨μ', e2.mono hn, e3, e4, e5⟩

/-- A run of code without a loop over a function. -/
theorem CodeOK.run (hcx : CxOK P cx) (hs : SumAll P cx) {g f : Nat} {fn : FuncId} {c : Code} {s s' : St} {X : AX} (h : aCode cx (aCall cx g) fn none nn f c s = some (X, s')) (hn : n0 ≤ s.H.next) (hr : noRange c = true) : CodeOK P cx nn n0 c s X s' := by
  refine ⟨fun {base w0 r n μ a w Q} h1 h2 h3 h4 hq => ?_⟩
  exact aCode_sound hcx (aCall_sound hcx (hs.sum base w0) (hs.loop base w0) g) (hs.loop base w0) f c s s' X μ a w Q h h1 h2 h3 h4 (.inl hr) fun a' w' e => hq a' w' (e.code hn) e.size

theorem CodeOK.weak {c : Code} {s s1 s2 : St} {X : AX} (h : CodeOK P cx nn n0 c s X s1) (hw : Weak P cx nn n0 s1 s2) : CodeOK P cx nn n0 c s X s2 := by
  refine ⟨fun {base w0 r n μ a w Q} h1 h2 h3 h4 hq => ?_⟩
  refine h.ok h1 h2 h3 h4 fun a' w' ⟨μ1, g1, f1, d1, w1⟩ hs => ?_
  obtain ⟨μ2, g2, f2, d2, w2⟩ := hw.ok f1 hs d1 w1
  exact hq a' w' ⟨μ2, g1.trans g2 (Nat.le_refl _), f2, d2, w2⟩ hs

/-- **Rounds**: each one goes on to a state that is less, with the same end, or ends. -/
theorem CodeOK.loop {α : Type} {b : Code} (S : α → St) (F : α → AX × St) (m : α → Nat)
    (step : ∀ p, (∃ p', CodeOK P cx nn n0 b (S p) .normal (S p') ∧ F p' = F p ∧ m p' < m p) ∨ (CodeOK P cx nn n0 b (S p) (F p).1 (F p).2 ∧ (F p).1 ≠ .normal)) : ∀ p, CodeOK P cx nn n0 (.loop b) (S p) (F p).1 (F p).2 := by
  intro p
  obtain ⟨k, hk⟩ : ∃ k, k = m p := ⟨_, rfl⟩
  refine ⟨fun {base w0 r n μ a w Q} h1 h2 h3 h4 hq => ?_⟩
  refine wpIn_loop_rounds (k + 1) ?_
  revert p μ a w
  induction k using Nat.strongRecOn with
  | ind k ih =>
    intro p hk μ a w h1 h2 h3 h4 hq
    rw [roundsIn_succ]
    rcases step p with ⟨p', hc, hF, hm⟩ | ⟨hc, hX⟩
    · refine hc.ok h1 h2 h3 h4 fun a' w' ⟨μ1, g1, f1, d1, w1⟩ hs => ?_
      have := ih (m p') (by omega) p' rfl f1 hs d1 w1 (by
        rw [hF]
        intro a2 w2 ⟨μ2, g2, f2, d2, w2'⟩ hs2
        exact hq a2 w2 ⟨μ2, g1.trans g2 (Nat.le_refl _), f2, d2, w2'⟩ hs2)
      exact roundsIn_more this (by omega)
    · refine hc.ok h1 h2 h3 h4 fun a' w' he hs => ?_
      have := hq a' w' he hs
      cases hx : (F p).1 with
      | normal => exact absurd hx hX
      | exit id => rw [hx] at this; exact this
      | ret => rw [hx] at this; exact this

/-- a block around. -/
def AX.inBlock (id : Nat) (X : AX) : AX :=
  match X with
  | .exit id' => if id' = id then .normal else .exit id'
  | x => x
theorem CodeOK.block {b : Code} {s s' : St} {X : AX} (id : Nat) (h : CodeOK P cx nn n0 b s X s') : CodeOK P cx nn n0 (.block id b) s (AX.inBlock id X) s' := by
  refine ⟨fun {base w0 r n μ a w Q} h1 h2 h3 h4 hq => ?_⟩
  refine wpIn_block (h.ok h1 h2 h3 h4 fun a' w' he hs => ?_)
  have := hq a' w' he hs
  unfold AX.inBlock at this
  cases X with
  | normal => exact this
  | ret => exact this
  | exit id' =>
    simp only at this
    simp only [exOf, Exit.inBlock]
    split at this
    · rename_i h; rw [if_pos h]; exact this
    · rename_i h; rw [if_neg h]; exact this

/-! ### Loops that leave the heap as it is -/
/-- What lies below a number is as it was; the rest is forgotten. -/
theorem RelW.cut {sz : TypeId → Nat} {base : Nat → Prop} {w0 w w' : World} {μ μ' : Inj} {H H1 : Heap} (hw : RelW sz base w0 μ H w) (hw' : RelW sz base w0 μ' H1 w') (hg : Grow H.next μ μ') (hsame : ∀ b, b < H.next → H1.get b = H.get b) :
    RelW sz base w0 ⟨μ.map, μ'.fz, μ.lo⟩ H w' := by
  have ext : ∀ b i, μ b = some i → μ' b = some i := fun b i e => (hg.same b (hw.fresh b i e)).trans e
  refine ⟨hw'.below, hw'.baseLe, hw.fresh, fun b i e => ?_, fun b b' i i' e e' => ?_, hw'.froz, fun b i k arr e hwr hz => ?_, by have := hw'.lo; rw [hg.lo] at this; exact this⟩
  · have h1 := hw'.blk b i (ext b i e)
    have h0 := hw.blk b i e
    rw [hsame b (hw.fresh b i e)] at h1
    cases hb : H.get b <;> rw [hb] at h0 h1 <;> first | trivial | skip
    · obtain ⟨hl, arr, e', fr, ha, hc, ho⟩ := h1
      obtain ⟨_, _, _, _, _, hc0, _⟩ := h0
      refine ⟨hl, arr, e', fr, ha, fun k v hv => ?_, ho⟩
      obtain ⟨x, hx, hr⟩ := hc k v hv
      obtain ⟨x0, _, hr0⟩ := hc0 k v hv
      exact ⟨x, hx, RelV.back ext hr0 hr⟩
    · obtain ⟨hb1, fs, clock, hh, hr⟩ := h1
      obtain ⟨_, fs0, _, _, hr0⟩ := h0
      exact ⟨hb1, fs, clock, hh, RelE.back ext hr0 hr⟩
    · obtain ⟨hb1, tmps, di, ls, pe, fn', hh, hd, hn, hf, hst⟩ := h1
      obtain ⟨_, tmps0, di0, _, _, _, _, hd0, _, hf0, _⟩ := h0
      have : di = di0 := by have := ext _ _ hd0; rw [hd] at this; injection this
      subst this
      exact ⟨hb1, tmps, di, ls, pe, fn', hh, hd0, hn, fun t => RelV.back ext (hf0 t) (hf t), hst⟩
  · intro hne hcw hcl
    exact hw'.apart b b' i i' (ext b i e) (ext b' i' e') hne (by rw [hsame b (hw.fresh b i e)]; exact hcw) (by rw [hsame b' (hw.fresh b' i' e')]; exact hcl)
  · exact hw'.frozApart b i k arr (ext b i e) (by rw [hsame b (hw.fresh b i e)]; exact hwr) hz

theorem RelD.back {μ μ' : Inj} (ext : ∀ b i, μ b = some i → μ' b = some i) {ds : List Nat} {es es' : List Deferred} (h : RelD μ ds es) (h' : RelD μ' ds es') : RelD ⟨μ.map, μ'.fz, μ.lo⟩ ds es' := by
  induction h generalizing es' with
  | nil => cases h'; exact .nil
  | cons a _ ih => cases h' with
    | cons a' b' =>
      rw [ext _ _ a] at a'; cases a'
      exact .cons a (ih b')

/-- A run that leaves the heap as it was; what it made is forgotten. -/
theorem CodeOK.pure (hcx : CxOK P cx) (hs : SumAll P cx) {g f : Nat} {fn : FuncId} {c : Code} {s s1 : St} {X : AX} (h : aCode cx (aCall cx g) fn none nn f c s = some (X, s1)) (hr : noRange c = true) (hds : s1.ds = s.ds) (hsame : ∀ b, b < s.H.next → s1.H.get b = s.H.get b)
    (l : List (Nat × AV)) (hl : ∀ q ∈ l, q.2 = .any ∨ (s1.fr.get q.1 = q.2 ∧ (q.2.plain = true ∨ ∃ t, s.fr.get t = q.2))) : CodeOK P cx nn s.H.next c s X ⟨frameOf nn l, s.ds, s.H⟩ := by
  refine ⟨fun {base w0 r n μ a w Q} h1 h2 h3 h4 hq => ?_⟩
  refine aCode_sound hcx (aCall_sound hcx (hs.sum base w0) (hs.loop base w0) g) (hs.loop base w0) f c s s1 X μ a w Q h h1 h2 h3 h4 (.inl hr) fun a' w' e => ?_
  obtain ⟨e1, ⟨μ', e2, e3, e4, e5⟩, e6⟩ := e
  have ext : ∀ b i, μ b = some i → μ' b = some i := fun b i e => (e2.same b (h4.fresh b i e)).trans e
  refine hq a' w' ⟨⟨μ.map, μ'.fz, μ.lo⟩, ⟨fun _ _ => rfl, e2.fz, rfl, e2.fzn⟩, ?_, ?_, RelW.cut h4 e5 e2 hsame⟩ e6
  · intro t
    rw [frameOf_get]
    cases hx : l.find? fun p => p.1 == t with
    | some q =>
      have hm := List.mem_of_find?_eq_some hx
      have he := List.find?_some hx
      simp only [beq_iff_eq] at he
      simp only [Option.map_some, Option.getD_some]
      rcases hl q hm with h | ⟨h, h'⟩
      · rw [h]; exact .any
      · have hv := e3 t
        rw [← he, h] at hv
        rw [← he]
        rcases h' with h' | ⟨t', h'⟩
        · exact RelV.move (μ := μ') (μ' := ⟨μ.map, μ'.fz, μ.lo⟩) (fun _ _ e => e) h' hv
        · have h0 := h1 t'
          rw [h'] at h0
          exact RelV.back ext h0 hv
    | none =>
      simp only [Option.map_none, Option.getD_none]
      split
      · exact .any
      · rename_i ht
        rw [Array.getD_eq_getD_getElem?, Array.getElem?_eq_none (by omega)]
        exact .undef
  · rw [hds] at e4
    exact RelD.back ext h3 e4

/-- fewer slots are told. -/
theorem Weak.slots (s : St) (l : List (Nat × AV)) (h : ∀ q ∈ l, q.2 = .any ∨ s.fr.get q.1 = q.2) : Weak P cx nn n0 s ⟨frameOf nn l, s.ds, s.H⟩ := ⟨fun h1 h2 h3 h4 => ⟨_, Grow.refl _ _, relF_frameOf h1 h2 l h, h3, h4⟩⟩
end

/-- Conditions. -/
def allTrue (l : List Bool) : Bool := List.rec (motive := fun _ => Bool) true (fun b _ r => cb b r false) l
def musts {α : Type} (l : List Bool) (k : S α) : S α := List.rec (motive := fun _ => S α) k (fun b _ r => S.must b r) l
theorem musts_snd {α : Type} {k : S α} {o : Option α} (h : Snd k o) : ∀ l : List Bool, Snd (musts l k) (cb (allTrue l) o none) := by
  intro l
  induction l with
  | nil => exact h
  | cons b l ih =>
    show Snd (S.must b (musts l k)) (cb (cb b (allTrue l) false) o none)
    exact Snd.must fun hb => by rw [hb]; exact ih
theorem allTrue_cons {b : Bool} {l : List Bool} : allTrue (b :: l) = true ↔ b = true ∧ allTrue l = true := by
  show cb b (allTrue l) false = true ↔ _
  cases b <;> simp

/-- What a loop does that leaves the heap as it is: slots, their values ahead of it: conditions, the end, their values behind it. -/
structure PLoop where
  nn : Nat
  code : Code
  slots : List Nat
  m : List AV → Option (List Bool × AX × List AV)
def PLoop.lsum (L : PLoop) : LSum where
  code := L.code
  run nn s := cb (Nat.beq nn L.nn) ((L.m (L.slots.map s.fr.get)).ob fun r => cb (allTrue r.1) (some (r.2.1, ⟨frameOf L.nn (L.slots.zip r.2.2), s.ds, s.H⟩)) none) none
def PLoop.lsumS (L : PLoop) : Code × (Nat → St → S (AX × St)) :=
  (L.code, fun nn s => cb (Nat.beq nn L.nn) (S.bind (S.lift (L.m (L.slots.map s.fr.get))) fun r => musts r.1 (S.pure (r.2.1, ⟨frameOf L.nn (L.slots.zip r.2.2), s.ds, s.H⟩))) S.fail)
theorem PLoop.snd (L : PLoop) (nn : Nat) (s : St) : Snd (L.lsumS.2 nn s) (L.lsum.run nn s) := Snd.cb_bool (Snd.bind (Snd.lift _) fun r _ => musts_snd (Snd.pure _) _) (Snd.fail _)

/-- what is owed for it. -/
def PLoop.OK (P : Program) (cx : Cx) (id : Nat) (L : PLoop) : Prop :=
  ∀ vs conds X vs', L.m vs = some (conds, X, vs') → allTrue conds = true → vs.length = L.slots.length → ∀ ds H, CodeOK P cx L.nn H.next (.block id L.code) ⟨frameOf L.nn (L.slots.zip vs), ds, H⟩ X ⟨frameOf L.nn (L.slots.zip vs'), ds, H⟩

/-- What is known of blocks of code, by a list. -/
abbrev LTab := List ((FuncId × Nat) × PLoop)
def ltFind (l : LTab) (fn : FuncId) (id : Nat) : Option PLoop := List.rec (motive := fun _ => Option PLoop) none (fun p _ r => cb (Nat.beq fn p.1.1 && Nat.beq id p.1.2) (some p.2) r) l
theorem ltFind_mem {l : LTab} {fn : FuncId} {id : Nat} {L : PLoop} (h : ltFind l fn id = some L) : ((fn, id), L) ∈ l := by
  induction l with
  | nil => cases h
  | cons p l ih =>
    change cb (Nat.beq fn p.1.1 && Nat.beq id p.1.2) (some p.2) (ltFind l fn id) = some L at h
    cases hb : (Nat.beq fn p.1.1 && Nat.beq id p.1.2) with
    | true =>
      rw [hb, cb_true] at h
      injection h with h
      rw [Bool.and_eq_true] at hb
      have h1 := Nat.eq_of_beq_eq_true hb.1
      have h2 := Nat.eq_of_beq_eq_true hb.2
      subst h1; subst h2; subst h
      obtain ⟨⟨a, b⟩, c⟩ := p
      simp
    | false =>
      rw [hb, cb_false] at h
      simp [ih h]
def ltLoop (l : LTab) : FuncId → Nat → Option LSum := fun fn id => (ltFind l fn id).ob fun L => some L.lsum
def ltLoopS (l : LTab) : LoopS := fun fn id => (ltFind l fn id).ob fun L => some L.lsumS

theorem ltLoops_snd {cx : Cx} {l : LTab} (h : cx.loop = ltLoop l) : LoopsSOK cx (ltLoopS l) := by
  refine ⟨fun fn id m hm => ?_, fun fn id hm => ?_⟩
  · unfold ltLoopS at hm
    replace hm := ob_eq hm; obtain ⟨L, hL, hm⟩ := hm
    injection hm with hm; subst hm
    exact ⟨L.lsum, by rw [h, ltLoop, hL]; rfl, rfl, fun n s => L.snd n s⟩
  · unfold ltLoopS at hm
    rw [h, ltLoop]
    cases hL : ltFind l fn id with
    | none => rfl
    | some L => rw [hL] at hm; cases hm

/-- **A list of loops is sound**, if each is what its code does. -/
theorem ltLoops_ok {P : Program} {cx : Cx} {l : LTab} (h : cx.loop = ltLoop l) (hl : ∀ p ∈ l, p.2.OK P cx p.1.2) (base : Nat → Prop) (w0 : World) : LoopsOK P cx base w0 := by
  intro fn id L hL nn r n s s' X μ a w Q hrun h1 h2 h3 h4 hq
  rw [h, ltLoop] at hL
  replace hL := ob_eq hL; obtain ⟨L0, hL0, hL⟩ := hL
  injection hL with hL; subst hL
  have hok := hl _ (ltFind_mem hL0)
  simp only [PLoop.lsum] at hrun
  cases hnn : Nat.beq nn L0.nn with
  | false => rw [hnn] at hrun; cases hrun
  | true =>
    rw [hnn, cb_true] at hrun
    have hnn := Nat.eq_of_beq_eq_true hnn
    subst hnn
    replace hrun := ob_eq hrun; obtain ⟨⟨conds, X0, vs'⟩, hm, hrun⟩ := hrun
    simp only at hrun
    cases hc : allTrue conds with
    | false => rw [hc] at hrun; cases hrun
    | true =>
      rw [hc, cb_true] at hrun
      injection hrun with hrun; injection hrun with e1 e2
      subst e1; subst e2
      have hk : CodeOK P cx L0.nn s.H.next (.block id L0.code) ⟨frameOf L0.nn (L0.slots.zip (L0.slots.map s.fr.get)), s.ds, s.H⟩ X0 ⟨frameOf L0.nn (L0.slots.zip vs'), s.ds, s.H⟩ := hok _ _ _ _ hm hc (by simp) s.ds s.H
      refine hk.ok (Q := Q) (relF_frameOf h1 h2 _ fun q hq => ?_) h2 h3 h4 fun a' w' ⟨μ', g, f, d, w1⟩ hs => hq a' w' ⟨Nat.le_refl _, ⟨μ', g, f, d, w1⟩, hs⟩
      right
      obtain ⟨i, hi⟩ := List.getElem?_of_mem hq
      rw [List.getElem?_zip_eq_some] at hi
      obtain ⟨i1, i2⟩ := hi
      rw [List.getElem?_map, i1] at i2
      simpa using i2
end Go.Ab

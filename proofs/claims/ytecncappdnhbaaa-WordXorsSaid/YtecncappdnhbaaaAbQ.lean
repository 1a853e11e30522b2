/- Code and calls. -/
import Derived.Test.YtecncappdnhbaaaAbP
import Derived.LoopNIn
import Derived.RangeFuncNested
set_option autoImplicit false
set_option linter.unusedVariables false
set_option linter.unusedSimpArgs false
set_option linter.unusedSectionVars false
namespace Go.Ab
open Go.RowKit

/-- The marks of loops among the deferred calls. -/
inductive RelD (μ : Inj) : List Nat → List Deferred → Prop
  | nil : RelD μ [] []
  | cons {d : Nat} {i : BI} {ds : List Nat} {es : List Deferred} : μ d = some i → RelD μ ds es → RelD μ (d :: ds) ({ target := .collected i.blk, args := #[] } :: es)
theorem RelD.mono {μ μ' : Inj} {ds : List Nat} {es : List Deferred} (h : RelD μ ds es) (e : Ext μ μ') : RelD μ' ds es := by
  induction h with
  | nil => exact .nil
  | cons a _ ih => exact .cons (e _ _ a) ih

def exOf : AX → Exit
  | .normal => .normal
  | .exit id => .exit id
  | .ret => .ret

/-- Where a run of code ends. -/
structure EndOK (cx : Cx) (base : Nat → Prop) (w0 : World) (nn : Nat) (μ : Inj) (H : Heap) (s' : St) (a' : Act) (w' : World) : Prop where
  next : H.next ≤ s'.H.next
  ex : ∃ μ', Grow H.next μ μ' ∧ RelF μ' s'.fr.get a'.tmps ∧ RelD μ' s'.ds a'.defers ∧ RelW (szOf cx) base w0 μ' s'.H w'
  size : a'.tmps.size = nn

/-- the fence's round is the loop around. -/
def Round (μ : Inj) (around : Option Nat) (r : Option Nat) : Prop :=
  match around, r with
  | none, none => True
  | some l, some b => ∃ i, μ l = some i ∧ i.blk = b
  | _, _ => False
theorem Round.mono {μ μ' : Inj} {around r : Option Nat} (h : Round μ around r) (e : Ext μ μ') : Round μ' around r := by
  unfold Round at h ⊢
  split at h
  · trivial
  · obtain ⟨i, h1, h2⟩ := h; exact ⟨i, e _ _ h1, h2⟩
  · exact h.elim

section
variable {P : Program} {cx : Cx} (hcx : CxOK P cx) {base : Nat → Prop} {w0 : World}

theorem RelW.newBlk {μ : Inj} {H : Heap} {w : World} (hw : RelW (szOf cx) base w0 μ H w) (x : Blk) (o : Obj) (i : BI) (hi : i.blk = w.heap.size) (hr : RelB (szOf cx) base (μ.set H.next i) i (w.alloc o) x) :
    RelW (szOf cx) base w0 (μ.set H.next i) (H.new x) (w.alloc o) := by
  refine RelW.bind (hw.addDead x) hw.unmapped (by simp) o i hi ?_
  rw [Heap.get_new, if_pos rfl]; exact hr

/-- a loop's record in the world. -/
theorem RelW.loop {μ : Inj} {H : Heap} {w : World} (hw : RelW (szOf cx) base w0 μ H w) {l : Nat} {i : BI} (hl : μ l = some i) {fn n : Nat} {fr : Fr} {ps : List Tmp} {asg body : Code} {d : Nat} {st : LS}
    (hg : H.get l = .loop fn n fr ps asg body d st) : ¬ base i.blk ∧ ∃ (tmps : Array Value) (di : BI) (ls : LoopState) (pe : Option Code) (fn' : FuncId),
      w.heap[i.blk]? = some (.loop { state := ls, pending := pe, fn := fn', tmps := tmps, params := ps.toArray, assign := asg, body := body, defers := di.blk }) ∧ μ d = some di ∧ tmps.size = n ∧ RelF μ fr.get tmps ∧ st.fit ls pe := by
  have := hw.blk l i hl
  rw [hg] at this
  exact this

/-- A loop's record is turned. -/
theorem RelW.turn {μ : Inj} {H : Heap} {w : World} (hw : RelW (szOf cx) base w0 μ H w) {l : Nat} {i : BI} (hl : μ l = some i) {fn n : Nat} {fr : Fr} {ps : List Tmp} {asg body : Code} {d : Nat} {st : LS}
    (hg : H.get l = .loop fn n fr ps asg body d st) (st' : LS) (ls' : LoopState) (pe' : Option Code) (hfit : st'.fit ls' pe') {r : Loop} (hr : w.heap[i.blk]? = some (.loop r)) :
    RelW (szOf cx) base w0 μ (H.put l (Blk.setLS st' (H.get l))) (w.putObj i.blk (.loop { r with state := ls', pending := pe' })) := by
  obtain ⟨hb, tmps, di, ls, pe, fn', h1, h2, h3, h4, h5⟩ := hw.loop hl hg
  rw [h1] at hr
  injection hr with hr; injection hr with hr; subst hr
  have hlt := (Array.getElem?_eq_some_iff.1 h1).1
  refine RelW.write hw hl (by rw [hg]; rfl) rfl rfl rfl World.putObj_size (fun k hk => World.putObj_heap_other hk) (.inl (by rw [hg]; rfl)) ?_
  rw [hg]
  exact ⟨hb, tmps, di, ls', pe', fn', World.putObj_heap_same hlt, h2, h3, h4, hfit⟩

theorem RelW.gone {μ : Inj} {H : Heap} {w : World} (hw : RelW (szOf cx) base w0 μ H w) {l : Nat} {i : BI} (hl : μ l = some i) (hwr : (H.get l).writes = true) (o : Obj) :
    RelW (szOf cx) base w0 μ (H.put l .dead) (w.putObj i.blk o) :=
  RelW.write hw hl hwr rfl rfl rfl World.putObj_size (fun k hk => World.putObj_heap_other hk) (.inr rfl) trivial

/-- unrolled. -/
theorem exit_then_normal {K : Act → World → Prop} {Q : Exit → Act → World → Prop} {x : AX} {a : Act} {w : World} (h : match x with | .normal => K a w | x => Q (exOf x) a w) : Exit.then K Q (exOf x) a w := by
  cases x <;> exact h

theorem putAll_sound {μ : Inj} {nn : Nat} : ∀ (ps : List Tmp) (vs : List AV) (fr fr' : Fr) (tmps : Array Value) (xs : List Value), putAll nn ps vs fr = some fr' → RelF μ fr.get tmps → tmps.size = nn → RelL μ vs xs →
    xs.length = ps.length ∧ RelF μ fr'.get ((ps.zip xs).foldl (fun tmps (x : Tmp × Value) => tmps.setIfInBounds x.1 x.2) tmps) ∧ ((ps.zip xs).foldl (fun tmps (x : Tmp × Value) => tmps.setIfInBounds x.1 x.2) tmps).size = nn := by
  intro ps
  induction ps with
  | nil =>
    intro vs fr fr' tmps xs h hf hs hr
    cases vs with
    | nil =>
      cases hr
      simp only [putAll] at h; injection h with h; subst h
      exact ⟨rfl, hf, hs⟩
    | cons v vs => simp [putAll] at h
  | cons t ps ih =>
    intro vs fr fr' tmps xs h hf hs hr
    cases vs with
    | nil => simp [putAll] at h
    | cons v vs =>
      cases hr with
      | cons a b =>
        rename_i x xs
        simp only [putAll] at h
        replace h := ob_eq h; obtain ⟨fr1, h1, h⟩ := h
        have hf1 := put_sound (a := ⟨tmps, []⟩) hf hs h1 (Ext.refl μ) a
        obtain ⟨h2, h3, h4⟩ := ih vs fr1 fr' (tmps.setIfInBounds t x) xs h hf1 (by simpa using hs) b
        exact ⟨by simp [h2], by simpa using h3, by simpa using h4⟩

variable {call : Caller} (hcall : CallerOK P cx base w0 call)

theorem EndOK.trans {nn : Nat} {μ μ1 : Inj} {H H1 : Heap} {s' : St} {a' : Act} {w' : World} (hg : Grow H.next μ μ1) (hn : H.next ≤ H1.next) (h : EndOK cx base w0 nn μ1 H1 s' a' w') : EndOK cx base w0 nn μ H s' a' w' := by
  obtain ⟨h1, ⟨μ2, h2, h3⟩, h4⟩ := h
  exact ⟨Nat.le_trans hn h1, ⟨μ2, hg.trans h2 hn, h3⟩, h4⟩

include hcx hcall in
theorem cRange_sound {fn : FuncId} {around : Option Nat} {nn : Nat} {x : Operand} {ps : List Tmp} {asg body : Code} {s s' : St} {X : AX} (h : cRange call fn around nn x ps asg body s = some (X, s'))
    {μ : Inj} {a : Act} {w : World} {r : Option Nat} {n : Nat} {Q : Exit → Act → World → Prop} (hf : RelF μ s.fr.get a.tmps) (hs : a.tmps.size = nn) (hd : RelD μ s.ds a.defers) (hw : RelW (szOf cx) base w0 μ s.H w) (hr : Round μ around r)
    (hq : ∀ a' w', EndOK cx base w0 nn μ s.H s' a' w' → Q (exOf X) a' w') : (Code.rangeFunc x ps.toArray asg body).wpIn (FF r) n P Q a w := by
  unfold cRange at h
  replace h := ob_eq h; obtain ⟨v, hv, h⟩ := h
  have rv := ev_sound hf hv
  split at h
  · rename_i g first captured
    replace h := ob_eq h; obtain ⟨⟨d, ds', H1⟩, hq1, h⟩ := h
    replace h := ob_eq h; obtain ⟨⟨v2, H3⟩, hc, h⟩ := h
    simp only at hc h
    generalize hX : a.eval x = F at rv
    cases rv with
    | func r1 r2 =>
      rename_i xs ys
      refine wpIn_rangeFunc fun fn' _ => ?_
      -- the record is laid
      have lay : ∃ (mark : List Deferred) (w1 : World) (i : BI) (μ1 : Inj), (Instr.enterLoop fn' a.tmps ps.toArray asg body r).run P w = .ok (i.blk, mark) w1 ∧
          Grow s.H.next μ μ1 ∧ s.H.next ≤ H1.next ∧ μ1 H1.next = some i ∧ RelD μ1 ds' (mark ++ a.defers) ∧ RelW (szOf cx) base w0 μ1 (H1.new (.loop fn nn s.fr ps asg body d .ready)) w1 := by
        unfold cDefers at hq1
        cases around with
        | none =>
          cases r with
          | some b => exact hr.elim
          | none =>
            simp only at hq1
            injection hq1 with hq1; injection hq1 with e1 e2; injection e2 with e2 e3; subst e1; subst e2; subst e3
            have hwA := hw.newBlk .dfr (.deferred (some [])) ⟨w.heap.size, 0, 0, 0⟩ rfl ⟨hw.newOK, World.alloc_heap_new w _⟩
            have extA := ext_set (⟨w.heap.size, 0, 0, 0⟩ : BI) hw.unmapped
            have hm : (μ.set s.H.next ⟨w.heap.size, 0, 0, 0⟩) s.H.next = some ⟨w.heap.size, 0, 0, 0⟩ := Inj.set_same _ _ _
            have extB := ext_set (⟨w.heap.size + 1, 0, 0, 0⟩ : BI) hwA.unmapped
            have hwB := hwA.newBlk (.loop fn nn s.fr ps asg body s.H.next .ready) (.loop { state := .ready, pending := none, fn := fn', tmps := a.tmps, params := ps.toArray, assign := asg, body := body, defers := w.heap.size }) ⟨w.heap.size + 1, 0, 0, 0⟩ (by simp)
              ⟨by have := hwA.newOK; simpa using this, a.tmps, ⟨w.heap.size, 0, 0, 0⟩, .ready, none, fn', by have := World.alloc_heap_new (w.alloc (.deferred (some []))) (.loop { state := .ready, pending := none, fn := fn', tmps := a.tmps, params := ps.toArray, assign := asg, body := body, defers := w.heap.size }); rwa [World.size_alloc] at this,
                extB _ _ hm, hs, (hf.mono extA).mono extB, trivial⟩
            refine ⟨_, _, ⟨w.heap.size + 1, 0, 0, 0⟩, _, run_enterLoop_outer fn' a.tmps ps.toArray asg body, ?_, by simp, Inj.set_same _ _ _, .cons (i := ⟨w.heap.size, 0, 0, 0⟩) (extB _ _ hm) ((hd.mono extA).mono extB), hwB⟩
            exact (grow_set _ _ _).trans (grow_set _ _ _) (by simp)
        | some lo =>
          cases r with
          | none => exact hr.elim
          | some b =>
            obtain ⟨i0, hi0, hib⟩ := hr
            simp only at hq1
            split at hq1
            · rename_i d0 st0 hg0
              injection hq1 with hq1; injection hq1 with e1 e2; injection e2 with e2 e3; subst e1; subst e2; subst e3
              obtain ⟨hb0, tmps0, di0, ls0, pe0, fn0, g1, g2, g3, g4, g5⟩ := hw.loop hi0 hg0
              rw [hib] at g1
              have extB := ext_set (⟨w.heap.size, 0, 0, 0⟩ : BI) hw.unmapped
              have hwB := hw.newBlk (.loop fn nn s.fr ps asg body d0 .ready) (.loop { state := .ready, pending := none, fn := fn', tmps := a.tmps, params := ps.toArray, assign := asg, body := body, defers := di0.blk }) ⟨w.heap.size, 0, 0, 0⟩ rfl
                ⟨hw.newOK, a.tmps, di0, .ready, none, fn', World.alloc_heap_new w _, extB _ _ g2, hs, hf.mono extB, trivial⟩
              exact ⟨_, _, ⟨w.heap.size, 0, 0, 0⟩, _, run_enterLoop_inner g1 fn' a.tmps ps.toArray asg body, grow_set _ _ _, Nat.le_refl _, Inj.set_same _ _ _, hd.mono extB, hwB⟩
            · cases hq1
      obtain ⟨mark, w1, i, μ1, hrun, hg1, hn1, hi, hd1, hw1⟩ := lay
      have ext1 := hw.ext hg1
      have hargs : RelL μ1 (first ++ [AV.yield H1.next] ++ captured) (xs ++ [Value.func (.yield i.blk) #[] #[]] ++ ys) :=
        (((r1.mono ext1).append (.cons (.yield hi) .nil)).append (r2.mono ext1))
      obtain ⟨hc1, hc2⟩ := hcall.fn hc hw1 hargs
      refine ⟨i.blk, mark, w1, { target := .fn (.func g) ys.toArray, args := xs.toArray ++ #[.func (.yield i.blk) #[] #[]] }, w1, g, _, w1, hrun, ?_, fun _ _ => trivial, ?_, fun e => (by cases e), (hc2 r (n - 1)).mono ?_⟩
      · have e1 : (#[Operand.const (.func (.yield i.blk) #[] #[])] : Array Operand).map a.eval = #[Value.func (.yield i.blk) #[] #[]] := by simp [Act.eval]
        simp only [resolve, rangeCall, hX, Deferred.ofValue, e1, Sem.run_pure]
      · rw [← hc1]; simp [invoke]
      · rintro e w3 ⟨Z, rfl, hn2, μ2, hg2, hZ, hw3⟩
        have ext2 := hw1.ext hg2
        have hi2 := ext2 _ _ hi
        have hH1 : H1.next + 1 ≤ H3.next := by simpa using hn2
        -- the loop's end
        have done : ∀ (st : LS) (fn2 n2 : Nat) (fr2 : Fr) (ps2 : List Tmp) (asg2 body2 : Code) (d2 : Nat), H3.get H1.next = .loop fn2 n2 fr2 ps2 asg2 body2 d2 st → st ≠ .busy → s' = ⟨s.fr, ds', H3.put H1.next .dead⟩ →
            ∃ ls pe w4, (Instr.endLoop i.blk).run P w3 = .ok pe w4 ∧ st.fit ls pe ∧ EndOK cx base w0 nn μ s.H s' { a with defers := mark ++ a.defers } w4 := by
          intro st fn2 n2 fr2 ps2 asg2 body2 d2 hgL hnb hs'
          obtain ⟨hb, tmps, di, ls, pe, fn3, g1, g2, g3, g4, g5⟩ := hw3.loop hi2 hgL
          have hls : ls ≠ .busy := by
            intro e; subst e
            cases st <;> first | exact g5.elim | exact hnb rfl | (cases pe <;> exact g5.elim)
          refine ⟨ls, pe, _, run_endLoop g1 hls, g5, ?_⟩
          subst hs'
          refine ⟨by simp; omega, ⟨μ2, hg1.trans hg2 (by simp; omega), (hf.mono ext1).mono ext2, hd1.mono ext2, ?_⟩, hs⟩
          exact RelW.gone hw3 hi2 (by rw [hgL]; rfl) _
        unfold cEnd at h
        split at h
        · rename_i fn2 n2 fr2 ps2 asg2 body2 d2 st hgL
          split at h
          · injection h with h; injection h with h1 h2
            subst h1
            obtain ⟨ls, pe, w4, h3, h4, h5⟩ := done .ready _ _ _ _ _ _ _ hgL (by simp) h2.symm
            refine ⟨pe, w4, h3, ?_⟩
            have hpe : pe = none := by
              cases ls <;> cases pe <;> first | rfl | exact h4.elim
            subst hpe
            exact hq _ _ h5
          · rename_i j
            replace h := ob_eq h; obtain ⟨X', hX', h⟩ := h
            injection h with h; injection h with h1 h2
            subst h1
            obtain ⟨ls, pe, w4, h3, h4, h5⟩ := done (.done j) _ _ _ _ _ _ _ hgL (by simp) h2.symm
            refine ⟨pe, w4, h3, ?_⟩
            have hpe : pe = some j := by
              cases ls <;> cases pe <;> first | exact h4.elim | (simp only [LS.fit] at h4; rw [h4])
            subst hpe
            unfold axOf at hX'
            split at hX'
            · injection hX' with hX'; subst hX'; exact wpIn_exit (hq _ _ h5)
            · injection hX' with hX'; subst hX'; exact wpIn_ret (hq _ _ h5)
            · cases hX'
          · cases h
        · cases h
  · cases h

/-- no loop over a function in it. -/
def noRange : Code → Bool
  | .seq a b => noRange a && noRange b
  | .cond _ a b => noRange a && noRange b
  | .block _ b => noRange b
  | .loop b => noRange b
  | .rangeFunc _ _ _ _ => false
  | _ => true

/-- What is known of blocks of code, is so. -/
def LoopsOK (P : Program) (cx : Cx) (base : Nat → Prop) (w0 : World) : Prop :=
  ∀ {fn : FuncId} {id : Nat} {L : LSum}, cx.loop fn id = some L → ∀ {nn : Nat} {r : Option Nat} {n : Nat} {s s' : St} {X : AX} {μ : Inj} {a : Act} {w : World} {Q : Exit → Act → World → Prop},
    L.run nn s = some (X, s') → RelF μ s.fr.get a.tmps → a.tmps.size = nn → RelD μ s.ds a.defers → RelW (szOf cx) base w0 μ s.H w →
    (∀ a' w', EndOK cx base w0 nn μ s.H s' a' w' → Q (exOf X) a' w') → (Code.block id L.code).wpIn (FF r) n P Q a w
variable (hloop : LoopsOK P cx base w0)

include hcx hcall hloop in
/-- **Code.** -/
theorem aCode_sound {fn : FuncId} {around : Option Nat} {nn : Nat} {r : Option Nat} {n : Nat} : ∀ (f : Nat) (c : Code) (s s' : St) (X : AX) (μ : Inj) (a : Act) (w : World) (Q : Exit → Act → World → Prop),
    aCode cx call fn around nn f c s = some (X, s') → RelF μ s.fr.get a.tmps → a.tmps.size = nn → RelD μ s.ds a.defers → RelW (szOf cx) base w0 μ s.H w → (noRange c = true ∨ Round μ around r) →
    (∀ a' w', EndOK cx base w0 nn μ s.H s' a' w' → Q (exOf X) a' w') → c.wpIn (FF r) n P Q a w := by
  intro f
  induction f using Nat.strongRecOn with
  | ind f IH =>
    cases f with
    | zero => intro c s s' X μ a w Q h; simp at h
    | succ f =>
      intro c s s' X μ a w Q h hf hs hd hw hr hq
      -- what goes on behind a run that ends normally
      have chain : ∀ {nr : Bool} {μ : Inj} {s : St} {y : AX × St} {run : St → Option (AX × St)} {K : Act → World → Prop} {Q : Exit → Act → World → Prop} (hw : RelW (szOf cx) base w0 μ s.H w) (hr : nr = true ∨ Round μ around r), cThen run y = some (X, s') →
          (∀ a' w', EndOK cx base w0 nn μ s.H s' a' w' → Q (exOf X) a' w') →
          (∀ μ1 a1 w1, run y.2 = some (X, s') → RelF μ1 y.2.fr.get a1.tmps → a1.tmps.size = nn → RelD μ1 y.2.ds a1.defers → RelW (szOf cx) base w0 μ1 y.2.H w1 → (nr = true ∨ Round μ1 around r) → (∀ a' w', EndOK cx base w0 nn μ1 y.2.H s' a' w' → Q (exOf X) a' w') → K a1 w1) →
          ∀ a1 w1, EndOK cx base w0 nn μ s.H y.2 a1 w1 → Exit.then K Q (exOf y.1) a1 w1 := by
        intro nr μ s y run K Q hw hr hc hq hk a1 w1 he
        obtain ⟨y1, y2⟩ := y
        obtain ⟨h1, ⟨μ1, h2, h3, h4, h5⟩, h6⟩ := he
        cases y1 with
        | normal =>
          simp only [cThen] at hc
          exact hk μ1 a1 w1 hc h3 h6 h4 h5 (hr.imp id fun h => h.mono (hw.ext h2)) fun a' w' hx => hq a' w' (EndOK.trans h2 h1 hx)
        | exit id =>
          simp only [cThen] at hc
          injection hc with hc; injection hc with e1 e2; subst e1; subst e2
          exact hq a1 w1 ⟨h1, ⟨μ1, h2, h3, h4, h5⟩, h6⟩
        | ret =>
          simp only [cThen] at hc
          injection hc with hc; injection hc with e1 e2; subst e1; subst e2
          exact hq a1 w1 ⟨h1, ⟨μ1, h2, h3, h4, h5⟩, h6⟩
      rw [aCode_succ] at h
      unfold aCode1 at h
      split at h
      · -- skip
        injection h with h; injection h with h1 h2; subst h1; subst h2
        exact wpIn_skip (hq a w ⟨Nat.le_refl _, ⟨μ, Grow.refl _ _, hf, hd, hw⟩, hs⟩)
      · -- a region
        rename_i id ops draw
        unfold cRegion at h
        replace h := ob_eq h; obtain ⟨⟨fr', H'⟩, h1, h⟩ := h
        injection h with h; injection h with e1 e2; subst e1; subst e2
        have hq' : ∀ a' w', RunOK cx base w0 nn μ s.H a.defers fr' H' a' w' → Q .normal a' w' := by
          rintro a' w' ⟨h2, ⟨μ', h3, h4, h5⟩, h6, h7⟩
          exact hq a' w' ⟨h2, ⟨μ', h3, h4, by rw [h7]; exact hd.mono (hw.ext h3), h5⟩, h6⟩
        cases draw with
        | true => rw [cb_true] at h1; exact aDraw_sound hcx hcall h1 hf hs hw hq'
        | false =>
          rw [cb_false] at h1
          refine wpIn_region ?_
          have := aOps_sound hcx hcall (r := r) (n := n) (Q := Q) ops.toList 0 μ s.fr s.H a w fr' H' (by simp) h1 hf hs hw hq'
          rw [List.range_eq_range']
          simpa using this
      · -- one behind the other
        rename_i x y
        replace h := ob_eq h; obtain ⟨z, hz, h⟩ := h
        refine wpIn_seq (IH f (by omega) x s z.2 z.1 μ a w _ hz hf hs hd hw (hr.imp (fun h => by simp only [noRange, Bool.and_eq_true] at h; exact h.1) id) ?_)
        exact chain (nr := noRange y) hw (hr.imp (fun h => by simp only [noRange, Bool.and_eq_true] at h; exact h.2) id) h hq fun μ1 a1 w1 h1 h2 h3 h4 h5 h6 h7 => IH f (by omega) y z.2 s' X μ1 a1 w1 Q h1 h2 h3 h4 h5 h6 h7
      · -- a branch
        rename_i x y z
        unfold cCond at h
        replace h := ob_eq h; obtain ⟨v, hv, h⟩ := h
        replace h := ob_eq h; obtain ⟨t, ht, h⟩ := h
        have rv := ev_sound hf hv
        cases bool?_eq ht
        have e := rel_bool rv
        refine wpIn_cond e ?_
        cases t with
        | true => exact IH f (by omega) y s s' X μ a w Q h hf hs hd hw (hr.imp (fun h => by simp only [noRange, Bool.and_eq_true] at h; exact h.1) id) hq
        | false => exact IH f (by omega) z s s' X μ a w Q h hf hs hd hw (hr.imp (fun h => by simp only [noRange, Bool.and_eq_true] at h; exact h.2) id) hq
      · -- a block
        rename_i id b
        have hh : (((aCode cx call fn around nn f b s).ob (cBlock id)) = some (X, s')) ∨ ∃ L, cx.loop fn id = some L ∧ b = L.code ∧ L.run nn s = some (X, s') := by
          unfold hook at h
          split at h
          · exact .inl h
          · rename_i L hL
            split at h
            · rename_i hb
              split at h
              · rename_i q hq'
                injection h with h; subst h
                exact .inr ⟨L, hL, hb, hq'⟩
              · exact .inl h
            · exact .inl h
        clear h
        rcases hh with h | ⟨L, hL, rfl, h⟩
        rotate_left
        · exact hloop hL h hf hs hd hw hq
        replace h := ob_eq h; obtain ⟨z, hz, h⟩ := h
        obtain ⟨z1, z2⟩ := z
        refine wpIn_block (IH f (by omega) b s z2 z1 μ a w _ hz hf hs hd hw hr fun a' w' he => ?_)
        unfold cBlock at h
        cases z1 with
        | normal => simp only at h; injection h with h; injection h with e1 e2; subst e1; subst e2; exact hq a' w' he
        | ret => simp only at h; injection h with h; injection h with e1 e2; subst e1; subst e2; exact hq a' w' he
        | exit id' =>
          simp only at h
          simp only [exOf, Exit.inBlock]
          split at h
          · rename_i hid
            injection h with h; injection h with e1 e2; subst e1; subst e2
            rw [if_pos hid]; exact hq a' w' he
          · rename_i hid
            injection h with h; injection h with e1 e2; subst e1; subst e2
            rw [if_neg hid]; exact hq a' w' he
      · -- a loop
        rename_i b
        have rounds : ∀ (g : Nat), g ≤ f + 1 → ∀ (s : St) (μ : Inj) (a : Act) (w : World), aCode cx call fn around nn g (.loop b) s = some (X, s') → RelF μ s.fr.get a.tmps → a.tmps.size = nn → RelD μ s.ds a.defers → RelW (szOf cx) base w0 μ s.H w → (noRange b = true ∨ Round μ around r) →
            (∀ a' w', EndOK cx base w0 nn μ s.H s' a' w' → Q (exOf X) a' w') → Code.roundsIn (FF r) n P b Q g a w := by
          intro g
          induction g with
          | zero => intro _ s μ a w h; simp at h
          | succ g ihg =>
            intro hle s μ a w h hf hs hd hw hr hq
            rw [aCode_succ] at h
            simp only [aCode1] at h
            replace h := ob_eq h; obtain ⟨z, hz, h⟩ := h
            rw [roundsIn_succ]
            refine IH g (by omega) b s z.2 z.1 μ a w _ hz hf hs hd hw hr ?_
            obtain ⟨z1, z2⟩ := z
            intro a1 w1 he
            obtain ⟨h1, ⟨μ1, h2, h3, h4, h5⟩, h6⟩ := he
            cases z1 with
            | normal =>
              simp only [cThen] at h
              exact ihg (by omega) z2 μ1 a1 w1 h h3 h6 h4 h5 (hr.imp id fun h => h.mono (hw.ext h2)) fun a' w' hx => hq a' w' (EndOK.trans h2 h1 hx)
            | exit id =>
              simp only [cThen] at h
              injection h with h; injection h with e1 e2; subst e1; subst e2
              exact hq a1 w1 ⟨h1, ⟨μ1, h2, h3, h4, h5⟩, h6⟩
            | ret =>
              simp only [cThen] at h
              injection h with h; injection h with e1 e2; subst e1; subst e2
              exact hq a1 w1 ⟨h1, ⟨μ1, h2, h3, h4, h5⟩, h6⟩
        exact wpIn_loop_rounds (f + 1) (rounds (f + 1) (Nat.le_refl _) s μ a w (by rw [aCode_succ]; exact h) hf hs hd hw hr hq)
      · -- ways out
        injection h with h; injection h with h1 h2; subst h1; subst h2
        exact wpIn_exit (hq a w ⟨Nat.le_refl _, ⟨μ, Grow.refl _ _, hf, hd, hw⟩, hs⟩)
      · injection h with h; injection h with h1 h2; subst h1; subst h2
        exact wpIn_ret (hq a w ⟨Nat.le_refl _, ⟨μ, Grow.refl _ _, hf, hd, hw⟩, hs⟩)
      · -- a loop over a function
        rename_i x ps asg body
        have := cRange_sound hcx hcall h (r := r) (n := n) (Q := Q) hf hs hd hw (hr.resolve_left (by simp [noRange])) hq
        rwa [Array.toArray_toList] at this
      · cases h
end
end Go.Ab

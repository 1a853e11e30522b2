/- Calls: the soundness of the abstract machine. -/
import Derived.Test.YtecncappdnhbaaaAbQ
set_option autoImplicit false
set_option linter.unusedVariables false
set_option linter.unusedSimpArgs false
set_option linter.unusedSectionVars false
namespace Go.Ab
open Go.RowKit

theorem ofList_get : ∀ (l : List AV) (i : Nat) (fr : Fr) (t : Nat), (ofList i l fr).get t = if i ≤ t ∧ t < i + l.length then (l[t - i]?).getD .undef else fr.get t := by
  intro l
  induction l with
  | nil => intro i fr t; rw [if_neg (by simp)]; rfl
  | cons v l ih =>
    intro i fr t
    show (ofList (i + 1) l (T.set .undef fr i v)).get t = _
    rw [ih]
    have hg : ∀ t, Fr.get (T.set .undef fr i v) t = if t = i then v else fr.get t := fun t => T.get_set _ _ _ _ _
    by_cases h : t = i
    · subst h
      rw [if_neg (by omega), hg, if_pos rfl, if_pos (by simp)]
      simp
    · by_cases h2 : i ≤ t ∧ t < i + (v :: l).length
      · simp only [List.length_cons] at h2
        rw [if_pos (by omega), if_pos (by simp only [List.length_cons]; omega)]
        obtain ⟨q, hq⟩ : ∃ q, t - i = q + 1 := ⟨t - i - 1, by omega⟩
        rw [hq, List.getElem?_cons_succ, show t - (i + 1) = q from by omega]
      · simp only [List.length_cons] at h2
        rw [if_neg (by omega), if_neg (by simp only [List.length_cons]; omega), hg, if_neg h]

theorem start_sound {μ : Inj} {args : List AV} {xs : List Value} (h : RelL μ args xs) (n : Nat) (hn : args.length ≤ n) :
    RelF μ (ofList 0 args .nil).get (xs.toArray ++ Array.replicate (n - xs.toArray.size) undef) ∧ (xs.toArray ++ Array.replicate (n - xs.toArray.size) undef).size = n := by
  have hl := h.length
  refine ⟨fun (t : Nat) => ?_, by simp; omega⟩
  rw [ofList_get, Array.getD_eq_getD_getElem?, Array.getElem?_append]
  by_cases ht : t < args.length
  · have c1 : 0 ≤ t ∧ t < 0 + args.length := by omega
    have c2 : t < xs.toArray.size := by simp; omega
    rw [if_pos c1, if_pos c2]
    obtain ⟨x, hx, hr⟩ := h.get t _ (List.getElem?_eq_getElem ht)
    simp only [Nat.sub_zero, List.getElem?_toArray, hx, List.getElem?_eq_getElem ht, Option.getD_some]
    exact hr
  · have c1 : ¬ (0 ≤ t ∧ t < 0 + args.length) := by omega
    have c2 : ¬ t < xs.toArray.size := by simp; omega
    rw [if_neg c1, if_neg c2]
    have e : (Array.replicate (n - xs.toArray.size) undef)[t - xs.toArray.size]?.getD undef = undef := by
      rw [Array.getElem?_replicate]; split <;> rfl
    rw [e]; exact .undef

section
variable {P : Program} {cx : Cx} (hcx : CxOK P cx) {base : Nat → Prop} {w0 : World}

/-- a result, as the machine reads it. -/
def rvRun (tmps : Array Value) : ResultVar → Sem Value
  | .tmp t => pure (tmps.getD t undef)
  | .cell a t => do loadVar t (← asAddr (tmps.getD a undef))

include hcx in
theorem result_sound {μ : Inj} {fr : Fr} {H : Heap} {tmps : Array Value} {w : World} (hf : RelF μ fr.get tmps) (hw : RelW (szOf cx) base w0 μ H w) {rv : ResultVar} {v : AV} (h : aResult cx fr H rv = some v) :
    ∃ z, (rvRun tmps rv).run P w = .ok z w ∧ RelV μ v z := by
  cases rv with
  | tmp t => exact ⟨_, rfl, known_sound (a := { tmps := tmps, defers := [] }) hf h⟩
  | cell a t =>
    simp only [aResult] at h
    obtain ⟨z, h1, h2⟩ := aLoad_sound hcx hw h (hf a)
    have hra := hf a
    have hp : ∃ ad, tmps.getD a undef = .pointer (some ad) := by
      unfold aLoad at h
      split at h
      · rename_i cs hg
        rw [hg] at hra
        cases hx : tmps.getD a undef <;> rw [hx] at hra <;> cases hra
        exact ⟨_, rfl⟩
      · rename_i hno
        unfold aLoad0 at h
        split at h
        · rename_i ty p _ hg
          rw [hg] at hra
          obtain ⟨i, _, e⟩ := rel_ptr hra
          exact ⟨_, e⟩
        · cases h
    obtain ⟨ad, e⟩ := hp
    refine ⟨z, ?_, h2⟩
    show (do loadVar t (← asAddr (tmps.getD a undef)) : Sem Value).run P w = _
    rw [e] at h1 ⊢
    simp only [asAddr, pure_bind]
    simpa [Instr.loadAt, Instr.sureAddr] using h1

include hcx in
theorem results_sound {μ : Inj} {fr : Fr} {H : Heap} {tmps : Array Value} {w : World} (hf : RelF μ fr.get tmps) (hw : RelW (szOf cx) base w0 μ H w) :
    ∀ {rs : List ResultVar} {vs : List AV}, aResults cx fr H rs = some vs → ∃ zs, (rs.mapM (rvRun tmps)).run P w = .ok zs w ∧ RelL μ vs zs := by
  intro rs
  induction rs with
  | nil => intro vs h; simp only [aResults] at h; injection h with h; subst h; exact ⟨[], by simp, .nil⟩
  | cons r rs ih =>
    intro vs h
    simp only [aResults] at h
    replace h := ob_eq h; obtain ⟨v, hv, h⟩ := h
    replace h := ob_eq h; obtain ⟨us, hus, h⟩ := h
    injection h with h; subst h
    obtain ⟨z, h1, h2⟩ := result_sound (P := P) hcx hf hw hv
    obtain ⟨zs, h3, h4⟩ := ih hus
    refine ⟨z :: zs, ?_, .cons h2 h4⟩
    rw [List.mapM_cons]
    simp [h1, h3]

include hcx in
theorem ends_sound {μ : Inj} {fr : Fr} {H : Heap} {tmps : Array Value} {w : World} (hf : RelF μ fr.get tmps) (hw : RelW (szOf cx) base w0 μ H w) {fn : Func} {vs : List AV} (h : aResults cx fr H fn.results.toList = some vs) :
    ∃ z, (results fn tmps).run P w = .ok z w ∧ RelV μ (single vs) z := by
  obtain ⟨zs, h1, h2⟩ := results_sound (P := P) hcx hf hw h
  have hl := h2.length
  have hrun : (results fn tmps).run P w = .ok (if h : zs.toArray.size = 1 then zs.toArray[0] else .tuple zs.toArray) w := by
    have e : results fn tmps = (do let vs ← fn.results.mapM (rvRun tmps); pure (if h : vs.size = 1 then vs[0] else .tuple vs)) := rfl
    rw [e, ← Array.toArray_toList (xs := fn.results), List.mapM_toArray]
    simp [h1]
  refine ⟨_, hrun, ?_⟩
  unfold single
  split
  · cases h2 with
    | cons a b => cases b; simpa using a
  · rename_i hne
    rw [dif_neg (by
      intro e
      simp at e
      rw [hl] at e
      match vs, e, hne with
      | [v], _, hne => exact hne v rfl)]
    exact .tuple h2

theorem shut_sound {fn : Func} {tmps : Array Value} {R : Ending → World → Prop} {F : Fence} {n : Nat} : ∀ (ds : List Nat) (H H' : Heap) (μ : Inj) (es : List Deferred) (w : World), shut ds H = some H' → RelD μ ds es → RelW (szOf cx) base w0 μ H w →
    H'.next = H.next ∧ ((∀ w', RelW (szOf cx) base w0 μ H' w' → LeavesIn F n P fn tmps R [] .returning w') → LeavesInM F n P fn tmps R es .returning w) := by
  intro ds
  induction ds with
  | nil => intro H H' μ es w h hd hw; cases hd; simp only [shut] at h; injection h with h; subst h; exact ⟨rfl, fun hk => hk w hw⟩
  | cons d ds ih =>
    intro H H' μ es w h hd hw
    cases hd with
    | cons hi hd =>
      rename_i i es
      simp only [shut] at h
      split at h
      · rename_i hg
        have hb := hw.blk d i hi
        rw [hg] at hb
        have hw' := RelW.gone hw hi (by rw [hg]; rfl) (.deferred none)
        obtain ⟨h1, h2⟩ := ih _ H' μ es _ h hd hw'
        refine ⟨h1, fun hk => ?_⟩
        exact ⟨by simp, .inl ⟨i.blk, _, rfl, run_takeDeferred hb.2, h2 hk⟩⟩
      · cases h

/-- What a summary of a function owes. -/
def SumOK (P : Program) (cx : Cx) (base : Nat → Prop) (w0 : World) : Prop :=
  ∀ {g : FuncId} {args : List AV} {H H' : Heap} {v : AV} {μ : Inj} {w : World} {xs : List Value}, cx.sum g args H = some (v, H') → RelW (szOf cx) base w0 μ H w → RelL μ args xs →
    ∀ r n, CallsIn (FF r) n P g xs.toArray w (CallPost cx base w0 μ H v H')

variable (hsum : SumOK P cx base w0) (hloop : LoopsOK P cx base w0)

include hcx in
theorem callFunc_run {g : FuncId} {fn : Func} (h : cx.fn g = some fn) (w : World) (args : Array Value) : (callFunc g args).run P w = .ok (.enter g args) w := by
  obtain ⟨h1, h2, h3⟩ := hcx.fn g fn h
  have h2' : ¬ fn.name = "runtime.NumGoroutine" := by simpa using h2
  have h3' : ¬ fn.body = none := by
    intro e; rw [e] at h3; cases h3
  simp [callFunc, h1, h2', h3']

include hcx hsum hloop in
/-- **The abstract machine's calls are the program's.** -/
theorem aCall_sound : ∀ f, CallerOK P cx base w0 (aCall cx f) := by
  intro f
  induction f with
  | zero => exact ⟨fun h => by simp at h, fun h => by simp at h⟩
  | succ f ih =>
    refine ⟨?_, ?_⟩
    · intro g args H H' v μ w xs h hw hr
      rw [aCall_succ] at h
      simp only [aCall1, callFn] at h
      replace h := ob_eq h; obtain ⟨fn, hfn, h⟩ := h
      refine ⟨callFunc_run hcx hfn w _, fun r n => ?_⟩
      split at h
      · rename_i q hq
        injection h with h; subst h
        exact hsum hq hw hr r n
      · unfold callBody at h
        replace h := ob_eq h; obtain ⟨body, hbody, h⟩ := h
        split at h
        · rename_i hle
          replace h := ob_eq h; obtain ⟨⟨X, s'⟩, hrun, h⟩ := h
          obtain ⟨h1, h2, h3⟩ := hcx.fn g fn hfn
          obtain ⟨hf0, hs0⟩ := start_sound hr fn.ntmps hle
          have hwp := aCode_sound hcx ih hloop (r := none) (n := n) f body ⟨ofList 0 args .nil, [], H⟩ s' X μ { tmps := xs.toArray ++ Array.replicate (fn.ntmps - xs.toArray.size) undef, defers := [] } w
            (bodyPostM (FF none) n P fn (CallPost cx base w0 μ H v H')) hrun hf0 hs0 .nil hw (.inr trivial) ?_
          · exact callsIn_of_wp_marks (F := FF none) h1 hbody trivial hwp
          · rintro a' w' ⟨e1, ⟨μ', e2, e3, e4, e5⟩, e6⟩
            unfold callEnd at h
            have fin : (shut s'.ds s'.H).ob (fun H' => (aResults cx s'.fr H' fn.results.toList).ob fun vs => some (single vs, H')) = some (v, H') → LeavesInM (FF none) n P fn a'.tmps (CallPost cx base w0 μ H v H') a'.defers .returning w' := by
              intro h
              replace h := ob_eq h; obtain ⟨H2, hH2, h⟩ := h
              replace h := ob_eq h; obtain ⟨vs, hvs, h⟩ := h
              injection h with h; injection h with e7 e8; subst e7; subst e8
              obtain ⟨e9, e10⟩ := shut_sound (P := P) (fn := fn) (tmps := a'.tmps) (R := CallPost cx base w0 μ H (single vs) H2) (F := FF none) (n := n) _ _ _ _ _ _ hH2 e4 e5
              refine e10 fun w2 hw2 => ?_
              obtain ⟨z, hz, hrz⟩ := ends_sound (P := P) hcx e3 hw2 hvs
              exact ⟨z, hz, z, rfl, by rw [e9]; exact e1, μ', e2, hrz, hw2⟩
            cases X with
            | normal => exact fin h
            | ret => exact fin h
            | exit id => cases h
        · cases h
    · intro l args H H' v μ w xs i h hw hr hi
      rw [aCall_succ] at h
      simp only [aCall1, callYield] at h
      split at h
      · rename_i fn n fr ps asg body d hg
        replace h := ob_eq h; obtain ⟨fr', hput, h⟩ := h
        replace h := ob_eq h; obtain ⟨⟨X, s1⟩, hrun1, h⟩ := h
        obtain ⟨hb, tmps, di, ls, pe, fn', g1, g2, g3, g4, g5⟩ := hw.loop hi hg
        obtain ⟨p1, p2, p3⟩ := putAll_sound ps args fr fr' tmps xs hput g4 g3 hr
        refine ⟨_, _, _, _, run_yield g1 (by simpa using p1), fun r m => ?_⟩
        have hfold : (ps.toArray.zip xs.toArray).foldl (fun tmps (x : Tmp × Value) => tmps.setIfInBounds x.1 x.2) tmps = (ps.zip xs).foldl (fun tmps (x : Tmp × Value) => tmps.setIfInBounds x.1 x.2) tmps := by
          simp
        refine roundIn_of_wpIn (F := FF r) trivial ?_
        show asg.wpIn (FF (some i.blk)) m P _ _ w
        unfold roundBody at h
        rw [cb_eq] at h
        split at h
        · rename_i hcond
          rw [Bool.and_eq_true] at hcond
          replace h := ob_eq h; obtain ⟨⟨Y, s2⟩, hrun2, h⟩ := h
          simp only at hrun2 h hcond
          cases X <;> simp only [AX.isNormal, Bool.false_eq_true, false_and] at hcond
          have hcond := hcond.2
          refine aCode_sound hcx ih hloop (r := some i.blk) (n := m) f asg ⟨fr', [], H⟩ s1 .normal μ _ w _ hrun1 (by simp only; exact hfold ▸ p2) (by simp only; exact hfold ▸ p3) .nil hw (.inr ⟨i, hi, rfl⟩) ?_
          rintro a1 w1 ⟨e1, ⟨μ1, e2, e3, e4, e5⟩, e6⟩
          have hi1 := hw.ext e2 _ _ hi
          unfold isReady at hcond
          split at hcond
          · rename_i fn2 n2 fr2 ps2 asg2 body2 d2 hg2
            obtain ⟨hb2, tmps2, di2, ls2, pe2, fn2', q1, q2, q3, q4, q5⟩ := e5.loop hi1 hg2
            have hls2 : ls2 = .ready := by cases ls2 <;> cases pe2 <;> first | rfl | exact q5.elim
            refine ⟨_, run_beginRound q1 hls2, ?_⟩
            have hw2 := RelW.turn e5 hi1 hg2 .busy .busy pe2 trivial q1
            refine aCode_sound hcx ih hloop (r := some i.blk) (n := m) f body ⟨s1.fr, s1.ds, s1.H.put l (Blk.setLS .busy (s1.H.get l))⟩ s2 Y μ1 a1 _ _ hrun2 e3 e6 e4 hw2 (.inr ⟨i, hi1, rfl⟩) ?_
            rintro a2 w2 ⟨f1, ⟨μ2, f2, f3, f4, f5⟩, f6⟩
            simp only [Heap.next_put] at f1 f2
            have hi2 := (e5.ext f2) _ _ hi1
            unfold roundEnd at h
            rw [cb_eq] at h
            split at h
            · rename_i hbusy
              injection h with h; injection h with h7 h8; subst h7; subst h8
              unfold isBusy at hbusy
              split at hbusy
              · rename_i fn3 n3 fr3 ps3 asg3 body3 d3 hg3
                simp only at hg3
                obtain ⟨hb3, tmps3, di3, ls3, pe3, fn3', t1, t2, t3, t4, t5⟩ := f5.loop hi2 hg3
                have fin : ∀ (j : Option Code), j = jumpOf Y → ∃ v w', (Instr.endRound i.blk j).run P w2 = .ok v w' ∧ CallPost cx base w0 μ H (.bool (jumpOf Y).isNone) (s2.H.put l (Blk.setLS (lsOf Y) (s2.H.get l))) (.returned v) w' := by
                  rintro j rfl
                  refine ⟨_, _, run_endRound (jumpOf Y) t1, _, rfl, ?_, μ2, e2.trans f2 e1, .bool _, ?_⟩
                  · simp only [Heap.next_put] at f1 e1 ⊢; omega
                  · refine RelW.turn f5 hi2 hg3 (lsOf Y) _ _ ?_ t1
                    cases Y <;> simp [lsOf, jumpOf, LS.fit]
                cases Y with
                | normal => exact fin none rfl
                | exit id => exact fin (some (.exit id)) rfl
                | ret => exact fin (some .ret) rfl
              · cases hbusy
            · cases h
          · cases hcond
        · cases h
      · cases h
end
end Go.Ab

/- One operation within the calculus; the operations of a region in the order of the text. -/
import Derived.Test.YtecncappdnhbaaaAbL
import Derived.OrdersIn
import Derived.RangeFuncLeaves
set_option autoImplicit false
set_option linter.unusedVariables false
set_option linter.unusedSimpArgs false
set_option linter.unusedSectionVars false
namespace Go.Ab
open Go.RowKit Go.MapKept

/-- The wide fence, in a round or not. -/
abbrev FF (r : Option Nat) : Fence := { fn := fun _ => True, depth := none, alive := false, round := r }

/-- What a call comes to. -/
def CallPost (cx : Cx) (base : Nat → Prop) (w0 : World) (μ : Inj) (H : Heap) (v : AV) (H' : Heap) : Ending → World → Prop :=
  fun e w' => ∃ Z, e = .returned Z ∧ LoudOK cx base w0 μ H v H' Z w'

structure CallerOK (P : Program) (cx : Cx) (base : Nat → Prop) (w0 : World) (call : Caller) : Prop where
  fn : ∀ {f : FuncId} {args : List AV} {H H' : Heap} {v : AV} {μ : Inj} {w : World} {xs : List Value}, call (.fn f) args H = some (v, H') → RelW (szOf cx) base w0 μ H w → RelL μ args xs →
    (callFunc f xs.toArray).run P w = .ok (.enter f xs.toArray) w ∧ ∀ r n, CallsIn (FF r) n P f xs.toArray w (CallPost cx base w0 μ H v H')
  yield : ∀ {l : Nat} {args : List AV} {H H' : Heap} {v : AV} {μ : Inj} {w : World} {xs : List Value} {i : BI}, call (.yield l) args H = some (v, H') → RelW (szOf cx) base w0 μ H w → RelL μ args xs → μ l = some i →
    ∃ f tmps asg body, (Instr.yield i.blk xs.toArray).run P w = .ok (.round i.blk f tmps asg body) w ∧ ∀ r n, RoundIn (FF r) n P i.blk f tmps asg body w (CallPost cx base w0 μ H v H')

section
variable {P : Program} {cx : Cx} (hcx : CxOK P cx) {μ : Inj} {base : Nat → Prop} {w0 w : World} {H : Heap} (hw : RelW (szOf cx) base w0 μ H w) {g : Env} {a : Act} (hf : RelF μ g a.tmps)
  {call : Caller} (hcall : CallerOK P cx base w0 call)

/-- What an operation's run comes to, in the calculus. -/
theorem uponIn_value {r : Option Nat} {n : Nat} {o : Oper} {next : Act → World → Prop} {Q : Exit → Act → World → Prop} {Z : Value} {w' : World}
    (hd : ∀ c, o.op ≠ .defer c) (h : (execOp a.eval o).run P w = .ok (.value Z) w') (hn : next (a.put o.dst Z) w') : o.wpIn (FF r) n P a w next Q := by
  refine ⟨fun _ _ => trivial, ?_⟩
  rw [Oper.semAt_eq _ _ _ hd, h]
  exact hn
theorem uponIn_skip {r : Option Nat} {n : Nat} {o : Oper} {next : Act → World → Prop} {Q : Exit → Act → World → Prop} {w' : World}
    (hd : ∀ c, o.op ≠ .defer c) (h : (execOp a.eval o).run P w = .ok .skip w') (hn : next (a.put o.dst undef) w') : o.wpIn (FF r) n P a w next Q := by
  refine ⟨fun _ _ => trivial, ?_⟩
  rw [Oper.semAt_eq _ _ _ hd, h]
  exact hn

include hw in
/-- What an allocation leaves. -/
theorem made_loud {m : Made} {x : Value} {ob : Obj} {i : BI} {w1 : World} (h : MadeOK P (szOf cx) base μ m w i x ob w1) :
    LoudOK cx base w0 μ H (m.1 H.next) (H.new m.2) x (w1.alloc ob) := by
  have hu := hw.unmapped
  have hw1 : RelW (szOf cx) base w0 μ H w1 := by
    refine ⟨⟨h.os.trans hw.below.os, h.tape.trans hw.below.tape, h.out.trans hw.below.output, by rw [h.heap]; exact hw.below.size, fun k hk => by rw [h.heap]; exact hw.below.block k hk⟩, by rw [h.heap]; exact hw.baseLe, hw.fresh,
      fun b i e => (hw.blk b i e).same fun _ => by rw [h.heap], hw.apart, by rw [h.heap]; exact hw.froz, hw.frozApart, by rw [h.heap]; exact hw.lo⟩
  refine ⟨by simp, μ.set H.next i, grow_set _ _ _, h.val _ _ (ext_set i hu) (Inj.set_same _ _ _), ?_⟩
  refine RelW.bind (hw1.addDead m.2) hu (by simp) ob i (by rw [h.at_, h.heap]) ?_
  rw [Heap.get_new, if_pos rfl]
  exact h.blk _ (ext_set i hu) hw.newOK

include hcx hw hf hcall in
/-- **One operation.** -/
theorem aOp_sound {o : Oper} {v : AV} {H' : Heap} (h : aOp cx call o.op g H = some (v, H')) {r : Option Nat} {n : Nat} {next : Act → World → Prop} {Q : Exit → Act → World → Prop}
    (hn : ∀ Z w', LoudOK cx base w0 μ H v H' Z w' → next (a.put o.dst Z) w') : o.wpIn (FF r) n P a w next Q := by
  rw [aOp_eq] at h
  unfold aOpK at h
  split at h
  · rename_i hk
    replace h := ob_eq h; obtain ⟨m, hm, h⟩ := h
    injection h with h; injection h with h1 h2; subst h1; subst h2
    obtain ⟨x, ob, i, w1, hrun, hok⟩ := aMade_sound hcx hf hm hk w
    refine uponIn_value (fun c e => ?_) hrun (hn _ _ (made_loud hw hok))
    rw [e] at hk; simp [kindOf] at hk
  · rename_i hk
    replace h := ob_eq h; obtain ⟨u, hu, h⟩ := h
    injection h with h; injection h with h1 h2; subst h1; subst h2
    obtain ⟨x, w', hrun, hv, hw'⟩ := aQuiet_sound hcx hw hf hu
    refine uponIn_value (fun c e => ?_) hrun (hn _ _ (LoudOK.same rfl hv hw'))
    rw [e] at hu; simp [aQuiet] at hu
  · rename_i hk
    obtain ⟨dst, op, ty', pos, after, guard⟩ := o
    have store : ∀ {s : Sem Unit} {H2 : Heap}, (∃ w', s.run P w = .ok () w' ∧ RelW (szOf cx) base w0 μ H2 w' ∧ H2.next = H.next) → v = .undef → H2 = H' →
        ∃ w', (do s; pure Next.skip : Sem Next).run P w = .ok .skip w' ∧ next (a.put dst undef) w' := by
      rintro s H2 ⟨w', h1, h2, h3⟩ rfl rfl
      exact ⟨w', by simp [h1], hn _ _ (LoudOK.same h3 .undef h2)⟩
    cases op <;> simp only [aLoud] at h <;> try (cases h; done)
    case store t x y =>
      simp only [lStore, ev2] at h
      replace h := ob_eq h; obtain ⟨p, hp, h⟩ := h
      replace h := ob_eq h; obtain ⟨q, hq, h⟩ := h
      replace h := ob_eq h; obtain ⟨H2, h2, h⟩ := h
      injection h with h; injection h with h3 h4
      obtain ⟨w', h5, h6⟩ := store (s := Instr.storeAt t (a.eval x) (a.eval y)) (aStore_sound hcx hw h2 (ev_sound hf hp) (ev_sound hf hq)) h3.symm h4
      exact uponIn_skip (fun c e => by cases e) h5 h6
    case mapUpdate t m k x =>
      simp only [lPut, ev2] at h
      replace h := ob_eq h; obtain ⟨s, hs, h⟩ := h
      replace h := ob_eq h; obtain ⟨p, hp, h⟩ := h
      replace h := ob_eq h; obtain ⟨q, hq, h⟩ := h
      replace h := ob_eq h; obtain ⟨H2, h2, h⟩ := h
      injection h with h; injection h with h3 h4
      obtain ⟨w', h5, h6⟩ := store (s := Instr.mapUpdate t (a.eval m) (a.eval k) (a.eval x)) (aMapPut_sound hcx hw h2 (ev_sound hf hs) (ev_sound hf hp) (ev_sound hf hq)) h3.symm h4
      exact uponIn_skip (fun c e => by cases e) h5 h6
    case insert t m k x =>
      simp only [lPut, ev2] at h
      replace h := ob_eq h; obtain ⟨s, hs, h⟩ := h
      replace h := ob_eq h; obtain ⟨p, hp, h⟩ := h
      replace h := ob_eq h; obtain ⟨q, hq, h⟩ := h
      replace h := ob_eq h; obtain ⟨H2, h2, h⟩ := h
      injection h with h; injection h with h3 h4
      obtain ⟨w', h5, h6⟩ := store (s := Instr.mapUpdate t (a.eval m) (a.eval k) (a.eval x)) (aMapPut_sound hcx hw h2 (ev_sound hf hs) (ev_sound hf hp) (ev_sound hf hq)) h3.symm h4
      exact uponIn_skip (fun c e => by cases e) h5 h6
    case call c =>
      have e : c.args.map a.eval = (c.args.toList.map a.eval).toArray := by rw [← Array.toList_map, Array.toArray_toList]
      unfold lCall at h
      split at h
      · rename_i b hb
        replace h := ob_eq h; obtain ⟨l, hl, h⟩ := h
        have hr := evs_sound hf hl
        have two : ∀ {α : Type} {ts : List α} {β : Type} {f : α → α → Option β} {y : β}, two2 ts f = some y → ∃ p q, ts = [p, q] ∧ f p q = some y := by
          intro α ts β f y h
          unfold two2 at h
          split at h
          · exact ⟨_, _, rfl, h⟩
          · cases h
        have fin : ∀ Z w', (builtin b c.argTypes ty' (c.args.map fun | .const _ => true | _ => false) (c.args.toList.map a.eval).toArray).run P w = .ok (.value Z) w' → LoudOK cx base w0 μ H v H' Z w' →
            Oper.wpIn (FF r) n P ⟨dst, .call c, ty', pos, after, guard⟩ a w next Q := by
          intro Z w' h1 h2
          refine uponIn_value (fun c e => by cases e) ?_ (hn _ _ h2)
          simp only [execOp, resolve, hb, pure_bind, invoke, e]
          exact h1
        cases b <;> simp only [lBuiltin] at h <;> try (cases h; done)
        case append =>
          obtain ⟨t, u, ht, h⟩ := two h
          obtain ⟨s, x, rfl, h⟩ := two h
          cases hxs : c.args.toList.map a.eval with
          | nil => rw [hxs] at hr; cases hr
          | cons S xs =>
            rw [hxs] at hr
            cases hr with
            | cons rs rest =>
              cases rest with
              | cons rx rest =>
                cases rest
                obtain ⟨Z, w', h1, h2⟩ := aAppend_sound (ty := ty') hcx hw h rs rx
                refine fin Z w' ?_ h2
                have e2 : c.argTypes = #[t, u] := by rw [← Array.toArray_toList (xs := c.argTypes), ht]
                rw [hxs, e2]
                simp [builtin, h1]
        case copy =>
          obtain ⟨t, u, ht, h⟩ := two h
          obtain ⟨s, x, rfl, h⟩ := two h
          cases hxs : c.args.toList.map a.eval with
          | nil => rw [hxs] at hr; cases hr
          | cons S xs =>
            rw [hxs] at hr
            cases hr with
            | cons rs rest =>
              cases rest with
              | cons rx rest =>
                cases rest
                obtain ⟨Z, w', h1, h2⟩ := aCopy_sound (u := u) (ty := ty') hcx hw h rs rx
                refine fin Z w' ?_ h2
                have e2 : c.argTypes = #[t, u] := by rw [← Array.toArray_toList (xs := c.argTypes), ht]
                rw [hxs, e2]
                simp [builtin, h1]
        case delete =>
          obtain ⟨t, u, ht, h⟩ := two h
          obtain ⟨s, x, rfl, h⟩ := two h
          replace h := ob_eq h; obtain ⟨H2, h2, h⟩ := h
          injection h with h; injection h with h3 h4; subst h3; subst h4
          cases hxs : c.args.toList.map a.eval with
          | nil => rw [hxs] at hr; cases hr
          | cons S xs =>
            rw [hxs] at hr
            cases hr with
            | cons rs rest =>
              cases rest with
              | cons rx rest =>
                cases rest
                obtain ⟨w', h5, h6, h7⟩ := aDelete_sound (u := u) (ty := ty') hcx hw h2 rs rx
                refine fin (.tuple #[]) w' ?_ (LoudOK.same h7 (.tuple (xs := []) .nil) h6)
                have e2 : c.argTypes = #[t, u] := by rw [← Array.toArray_toList (xs := c.argTypes), ht]
                rw [hxs, e2]
                simp [builtin, h5]
      · rename_i fo hb
        replace h := ob_eq h; obtain ⟨fv, hfv, h⟩ := h
        replace h := ob_eq h; obtain ⟨l, hl, h⟩ := h
        have hr := evs_sound hf hl
        have rf := ev_sound hf hfv
        unfold aCallV at h
        split at h
        · rename_i gf first captured
          generalize hF : a.eval fo = F at rf
          cases rf with
          | func r1 r2 =>
            rename_i xs ys
            obtain ⟨h1, h2⟩ := hcall.fn h hw ((r1.append hr).append r2)
            refine ⟨fun _ _ => trivial, ?_⟩
            rw [Oper.semAt_eq _ _ _ (fun c e => by cases e)]
            have hrun : (execOp a.eval ⟨dst, .call c, ty', pos, after, guard⟩).run P w = .ok (.enter gf (xs ++ c.args.toList.map a.eval ++ ys).toArray) w := by
              simp only [execOp, resolve, hb, hF, Deferred.ofValue, pure_bind, invoke, e]
              rw [← h1]; simp
            rw [hrun]
            refine ⟨fun e => (by cases e), (h2 r (n - 1)).mono ?_⟩
            rintro e w' ⟨Z, rfl, hl⟩
            exact hn Z w' hl
        · rename_i l'
          generalize hF : a.eval fo = F at rf
          cases rf with
          | yield hi =>
            rename_i i
            obtain ⟨f', tmps, asg, body, h1, h2⟩ := hcall.yield h hw hr hi
            refine ⟨fun _ _ => trivial, ?_⟩
            rw [Oper.semAt_eq _ _ _ (fun c e => by cases e)]
            have hrun : (execOp a.eval ⟨dst, .call c, ty', pos, after, guard⟩).run P w = .ok (.round i.blk f' tmps asg body) w := by
              simp only [execOp, resolve, hb, hF, Deferred.ofValue, pure_bind, invoke, e]
              rw [← h1]; simp
            rw [hrun]
            refine ⟨fun e => (by cases e), (h2 r (n - 1)).mono ?_⟩
            rintro e w' ⟨Z, rfl, hl⟩
            exact hn Z w' hl
        · cases h
      · cases h

/-! ### Guards; the operations of a region -/
theorem guard_sound {tmps : Array Value} (hf : RelF μ g tmps) (ops : Array Oper) (j : Nat) (want : Bool) (hk : ∀ t, (listAt ops.toList j).ob (·.dst) = some t → g t ≠ .any) : (yielded ops tmps j == some want) = aGuard ops.toList g j want := by
  unfold yielded aGuard
  rw [listAt_eq, Array.getElem?_toList] at hk ⊢
  generalize ops[j]? = oo at hk ⊢
  cases oo with
  | none => simp
  | some o =>
    simp only [Option.bind_some, ob_some] at hk ⊢
    cases hod : o.dst with
    | none => simp
    | some t =>
      rw [hod] at hk
      have hk := hk t rfl
      simp only [Option.bind_some]
      have h := hf t
      rw [Array.getD_eq_getD_getElem?] at h
      generalize g t = u at h hk
      cases hv : tmps[t]? with
      | none =>
        rw [hv] at h
        cases u <;> first | rfl | (cases h; done) | exact absurd rfl hk
      | some x =>
        rw [hv] at h
        simp only [Option.getD_some] at h
        cases h <;> first | rfl | exact absurd rfl hk

theorem wanted_sound {tmps : Array Value} (hf : RelF μ g tmps) (ops : Array Oper) (o : Oper) (hk : gknown ops.toList g o = true) : Region.wanted o (yielded ops tmps) = aWanted ops.toList g o := by
  unfold Region.wanted aWanted
  unfold gknown at hk
  cases hg : o.guard with
  | none => rfl
  | some q =>
    rw [hg] at hk
    simp only at hk
    exact guard_sound hf ops q.1 q.2 fun t ht e => by
      rw [ht] at hk
      simp only [e, isAny] at hk
      cases hk

theorem put_size (a : Act) (dst : Option Tmp) (v : Value) : (a.put dst v).tmps.size = a.tmps.size := by
  cases dst <;> simp [Act.put]
theorem put_defers (a : Act) (dst : Option Tmp) (v : Value) : (a.put dst v).defers = a.defers := by
  cases dst <;> rfl

theorem put_sound {μ' : Inj} {fr fr' : Fr} {nn : Nat} {dst : Option Tmp} {v : AV} {Z : Value} {a : Act} (hf : RelF μ fr.get a.tmps) (hs : a.tmps.size = nn) (h : fr.put nn dst v = some fr') (he : Ext μ μ') (hv : RelV μ' v Z) :
    RelF μ' fr'.get (a.put dst Z).tmps := by
  unfold Fr.put at h
  cases dst with
  | none => simp only at h; injection h with h; subst h; exact hf.mono he
  | some d =>
    simp only [cb_eq, nble] at h
    split at h
    · rename_i hd
      have hd : d < a.tmps.size := by rw [hs]; exact of_decide_eq_true hd
      injection h with h; subst h
      intro t
      show RelV μ' (T.get .undef (T.set .undef fr d v) t) _
      rw [T.get_set]
      simp only [Act.put, Array.getD_eq_getD_getElem?, Array.getElem?_setIfInBounds]
      by_cases ht : t = d
      · subst ht; rw [if_pos rfl, if_pos rfl, if_pos hd]; exact hv
      · rw [if_neg ht, if_neg (Ne.symm ht), ← Array.getD_eq_getD_getElem?]; exact (hf t).mono he
    · cases h

/-- What operations come to. -/
structure RunOK (cx : Cx) (base : Nat → Prop) (w0 : World) (nn : Nat) (μ : Inj) (H : Heap) (ds : List Deferred) (fr' : Fr) (H' : Heap) (a' : Act) (w' : World) : Prop where
  next : H.next ≤ H'.next
  ex : ∃ μ', Grow H.next μ μ' ∧ RelF μ' fr'.get a'.tmps ∧ RelW (szOf cx) base w0 μ' H' w'
  size : a'.tmps.size = nn
  defers : a'.defers = ds

include hcx hcall in
theorem aOps_sound {nn : Nat} {ops : Array Oper} {r : Option Nat} {n : Nat} {Q : Exit → Act → World → Prop} : ∀ (l : List Oper) (k : Nat) (μ : Inj) (fr : Fr) (H : Heap) (a : Act) (w : World) (fr' : Fr) (H' : Heap),
    ops.toList.drop k = l → aOps cx call nn ops.toList l fr H = some (fr', H') → RelF μ fr.get a.tmps → a.tmps.size = nn → RelW (szOf cx) base w0 μ H w →
    (∀ a' w', RunOK cx base w0 nn μ H a.defers fr' H' a' w' → Q .normal a' w') → wpOpsIn (FF r) n P ops Q (List.range' k l.length) a w := by
  intro l
  induction l with
  | nil =>
    intro k μ fr H a w fr' H' hl h hf hs hw hq
    rw [aOps_nil] at h
    injection h with h; injection h with h1 h2; subst h1; subst h2
    exact hq a w ⟨Nat.le_refl _, ⟨μ, Grow.refl _ _, hf, hw⟩, hs, rfl⟩
  | cons o l ih =>
    intro k μ fr H a w fr' H' hl h hf hs hw hq
    rw [aOps_cons] at h
    replace h := ob_eq h; obtain ⟨⟨v, H1⟩, hstep, h⟩ := h
    replace h := ob_eq h; obtain ⟨fr1, hput, h⟩ := h
    simp only at hput h
    have hok : ops[k]? = some o := by
      have : (ops.toList.drop k)[0]? = some o := by rw [hl]; rfl
      rw [List.getElem?_drop] at this
      simpa using this
    have hl' : ops.toList.drop (k + 1) = l := by
      have := congrArg List.tail hl
      simpa using this
    rw [List.length_cons, List.range'_succ]
    unfold wpOpsIn
    simp only [hok]
    obtain ⟨hgk, hstep⟩ := aStep_eq hstep
    rw [wanted_sound hf ops o hgk]
    unfold aStep0 at hstep
    have goOn : ∀ Z w', LoudOK cx base w0 μ H v H1 Z w' → wpOpsIn (FF r) n P ops Q (List.range' (k + 1) l.length) (a.put o.dst Z) w' := by
      rintro Z w' ⟨hn1, μ1, hg1, hv1, hw1⟩
      refine ih (k + 1) μ1 fr1 H1 (a.put o.dst Z) w' fr' H' hl' h (put_sound hf hs hput (hw.ext hg1) hv1) (by rw [put_size]; exact hs) hw1 fun a' w'' hr => hq a' w'' ?_
      obtain ⟨h1, ⟨μ2, h2, h3, h4⟩, h5, h6⟩ := hr
      exact ⟨Nat.le_trans hn1 h1, ⟨μ2, hg1.trans h2 hn1, h3, h4⟩, h5, h6.trans (put_defers _ _ _)⟩
    rw [cb_eq] at hstep
    split at hstep
    · rename_i hwt
      rw [if_pos hwt]
      exact aOp_sound hcx hw hf hcall hstep goOn
    · rename_i hwt
      rw [if_neg hwt]
      injection hstep with hstep; injection hstep with h1 h2; subst h1; subst h2
      exact ⟨fun _ _ => trivial, goOn undef w (LoudOK.same rfl .undef hw)⟩
end
end Go.Ab

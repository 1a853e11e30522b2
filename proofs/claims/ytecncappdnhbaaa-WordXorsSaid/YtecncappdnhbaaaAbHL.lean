/- Loops that write to a row of their own, or make it longer: the row is taken into a small heap, and comes back as a new one. -/
import Derived.Test.YtecncappdnhbaaaAbRow
set_option autoImplicit false
set_option linter.unusedVariables false
set_option linter.unusedSimpArgs false
set_option linter.unusedSectionVars false
noncomputable section
namespace Go.Ab
open Go.RowKit

mutual
theorem AV.ok_of_plain {p : Nat → Bool} : ∀ {v : AV}, v.plain = true → v.ok false p = true
  | .undef, _ => rfl
  | .any, _ => rfl
  | .int _ _, _ => rfl
  | .bool _, _ => rfl
  | .str _, _ => rfl
  | .ptr none, _ => rfl
  | .ptr (some _), h => by simp [AV.plain] at h
  | .slice none _ _, _ => rfl
  | .slice (some _) _ _, h => by simp [AV.plain] at h
  | .map none, _ => rfl
  | .map (some _), h => by simp [AV.plain] at h
  | .func f x y, h => by
    simp only [AV.plain, Bool.and_eq_true] at h
    simp only [AV.ok, AV.okL_of_plain h.1, AV.okL_of_plain h.2, Bool.and_self]
  | .yield _, h => by simp [AV.plain] at h
  | .nilFunc, _ => rfl
  | .nilIface, _ => rfl
  | .iface _ v, h => by simp only [AV.plain] at h; simp only [AV.ok, AV.ok_of_plain h]
  | .agg cs, h => by simp only [AV.plain] at h; simp only [AV.ok, AV.okL_of_plain h]
  | .tuple cs, h => by simp only [AV.plain] at h; simp only [AV.ok, AV.okL_of_plain h]
  | .fsl _ _ cs, h => by simp only [AV.plain] at h; simp only [AV.ok, AV.okL_of_plain h, Bool.not_false, Bool.and_self]
  | .fptr cs, h => by simp only [AV.plain] at h; simp only [AV.ok, AV.okL_of_plain h, Bool.not_false, Bool.and_self]
theorem AV.okL_of_plain {p : Nat → Bool} : ∀ {v : List AV}, AV.plainL v = true → AV.okL false p v = true
  | [], _ => rfl
  | v :: vs, h => by
    simp only [AV.plainL, Bool.and_eq_true] at h
    simp only [AV.okL, AV.ok_of_plain h.1, AV.okL_of_plain h.2, Bool.and_self]
end
mutual
theorem AV.ren_plain {ρ : Nat → Nat} : ∀ {v : AV}, v.plain = true → v.ren ρ = v
  | v, h => AV.ren_id (nf := false) (AV.ok_of_plain h)
theorem AV.renL_plain {ρ : Nat → Nat} : ∀ {v : List AV}, AV.plainL v = true → AV.renL ρ v = v
  | v, h => AV.renL_id (nf := false) (AV.okL_of_plain h)
end

/-- a small heap of one row, or none. -/
def mk1 (ob : Option Blk) : Heap := Option.rec (motive := fun _ => Heap) H0 (fun b => H0.new b) ob
def add1 (ob : Option Blk) (H : Heap) : Heap := Option.rec (motive := fun _ => Heap) H (fun b => H.new b) ob
def Blk.plainB : Blk → Bool
  | .cells o _ _ cs => o && AV.plainL cs
  | _ => false
/-- a value of the small heap. -/
def zeroIn (v : AV) : Bool := match v with
  | .slice p _ _ => (match p with
    | none => true
    | some p => Nat.beq p.1 0)
  | v => v.plain
def okIn (v : AV) (ob : Option Blk) : Prop := match ob with
  | some b => b.plainB = true ∧ zeroIn v = true
  | none => v.plain = true

/-- what a loop takes: its slot's value; the row behind it. -/
structure Own where
  conds : List Bool
  v : AV
  ob : Option Blk
  H : Heap
def ownOf (H : Heap) (v : AV) : Option Own :=
  match v with
  | .slice p len c => match p with
    | none => some ⟨[], .slice none len c, none, H⟩
    | some p => match H.get p.1 with
      | .cells o e n cs => some ⟨[o, AV.plainL cs], .slice (some (0, p.2)) len c, some (.cells o e n cs), H.put p.1 .dead⟩
      | _ => none
  | .int k n => some ⟨[], .int k n, none, H⟩
  | .bool b => some ⟨[], .bool b, none, H⟩
  | .fsl a b cs => some ⟨[AV.plainL cs], .fsl a b cs, none, H⟩
  | _ => none
def backOf (n : Nat) (v : AV) : AV :=
  match v with
  | .slice p len c => match p with
    | none => .slice none len c
    | some p => .slice (some (n, p.2)) len c
  | v => v

structure HLoop where
  nn : Nat
  code : Code
  own : Nat
  slots : List Nat
  m : AV → Option Blk → List AV → Option (List Bool × AX × AV × Option Blk × List AV)
def isNil {α : Type} (l : List α) : Bool := List.rec (motive := fun _ => Bool) true (fun _ _ _ => false) l
theorem isNil_eq {α : Type} {l : List α} (h : isNil l = true) : l = [] := by
  cases l with
  | nil => rfl
  | cons a l => cases h
def HLoop.lsum (L : HLoop) : LSum where
  code := L.code
  run nn s := cb (Nat.beq nn L.nn) (cb (isNil s.ds) ((ownOf s.H (s.fr.get L.own)).ob fun w => (L.m w.v w.ob (L.slots.map s.fr.get)).ob fun r =>
    cb (allTrue (w.conds ++ AV.plainL (L.slots.map s.fr.get) :: r.1)) (some (r.2.1, ⟨frameOf L.nn ((L.own, backOf s.H.next r.2.2.1) :: L.slots.zip r.2.2.2.2), [], add1 r.2.2.2.1 w.H⟩)) none) none) none
def HLoop.lsumS (L : HLoop) : Code × (Nat → St → S (AX × St)) :=
  (L.code, fun nn s => cb (Nat.beq nn L.nn) (cb (isNil s.ds) (S.bind (S.lift (ownOf s.H (s.fr.get L.own))) fun w => S.bind (S.lift (L.m w.v w.ob (L.slots.map s.fr.get))) fun r =>
    musts (w.conds ++ AV.plainL (L.slots.map s.fr.get) :: r.1) (S.pure (r.2.1, ⟨frameOf L.nn ((L.own, backOf s.H.next r.2.2.1) :: L.slots.zip r.2.2.2.2), [], add1 r.2.2.2.1 w.H⟩))) S.fail) S.fail)
theorem HLoop.snd (L : HLoop) (nn : Nat) (s : St) : Snd (L.lsumS.2 nn s) (L.lsum.run nn s) :=
  Snd.cb_bool (Snd.cb_bool (Snd.bind (Snd.lift _) fun w _ => Snd.bind (Snd.lift _) fun r _ => musts_snd (Snd.pure _) _) (Snd.fail _)) (Snd.fail _)

/-- what is owed for it. -/
def HLoop.OK (P : Program) (cx : Cx) (id : Nat) (L : HLoop) : Prop :=
  ∀ v ob us conds X v' ob' us', L.m v ob us = some (conds, X, v', ob', us') → allTrue conds = true → us.length = L.slots.length → AV.plainL us = true → okIn v ob →
    AV.plainL us' = true ∧ okIn v' ob' ∧ CodeOK P cx L.nn 0 (.block id L.code) ⟨frameOf L.nn ((L.own, v) :: L.slots.zip us), [], mk1 ob⟩ X ⟨frameOf L.nn ((L.own, v') :: L.slots.zip us'), [], mk1 ob'⟩

abbrev HTab := List ((FuncId × Nat) × HLoop)
def htFind (l : HTab) (fn : FuncId) (id : Nat) : Option HLoop := List.rec (motive := fun _ => Option HLoop) none (fun p _ r => cb (Nat.beq fn p.1.1 && Nat.beq id p.1.2) (some p.2) r) l
theorem htFind_mem {l : HTab} {fn : FuncId} {id : Nat} {L : HLoop} (h : htFind l fn id = some L) : ((fn, id), L) ∈ l := by
  induction l with
  | nil => cases h
  | cons p l ih =>
    change cb (Nat.beq fn p.1.1 && Nat.beq id p.1.2) (some p.2) (htFind l fn id) = some L at h
    cases hb : (Nat.beq fn p.1.1 && Nat.beq id p.1.2) with
    | true =>
      rw [hb, cb_true] at h
      injection h with h
      rw [Bool.and_eq_true] at hb
      have h1 := Nat.eq_of_beq_eq_true hb.1
      have h2 := Nat.eq_of_beq_eq_true hb.2
      subst h1; subst h2; subst h
      obtain ⟨⟨a, b⟩, c⟩ := p
      simp
    | false =>
      rw [hb, cb_false] at h
      simp [ih h]
def htLoop (l : HTab) : FuncId → Nat → Option LSum := fun fn id => (htFind l fn id).ob fun L => some L.lsum
def htLoopS (l : HTab) : LoopS := fun fn id => (htFind l fn id).ob fun L => some L.lsumS
theorem htLoops_snd {cx : Cx} {l : HTab} (h : cx.loop = htLoop l) : LoopsSOK cx (htLoopS l) := by
  refine ⟨fun fn id m hm => ?_, fun fn id hm => ?_⟩
  · unfold htLoopS at hm
    replace hm := ob_eq hm; obtain ⟨L, hL, hm⟩ := hm
    injection hm with hm; subst hm
    exact ⟨L.lsum, by rw [h, htLoop, hL]; rfl, rfl, fun n s => L.snd n s⟩
  · unfold htLoopS at hm
    rw [h, htLoop]
    cases hL : htFind l fn id with
    | none => rfl
    | some L => rw [hL] at hm; cases hm

section
variable {sz : TypeId → Nat} {base : Nat → Prop} {w0 w w' : World} {μ : Inj} {H : Heap}

theorem relF_frameOf' {μ : Inj} {tmps : Array Value} {n : Nat} (hs : tmps.size = n) (l : List (Nat × AV)) (h : ∀ q ∈ l, RelV μ q.2 (tmps.getD q.1 Go.undef)) : RelF μ (frameOf n l).get tmps := by
  intro t
  rw [frameOf_get]
  cases hx : l.find? fun p => p.1 == t with
  | some q =>
    have hm := List.mem_of_find?_eq_some hx
    have he := List.find?_some hx
    simp only [Option.map_some, Option.getD_some]
    rw [← eq_of_beq he]; exact h q hm
  | none =>
    simp only [Option.map_none, Option.getD_none]
    split
    · exact .any
    · rename_i ht
      rw [Array.getD_eq_getD_getElem?, Array.getElem?_eq_none (by omega)]
      exact .undef

/-- one row, by itself. -/
theorem relW_one (hw : RelW sz base w0 μ H w) {b : Nat} {i : BI} {e : TypeId} {n : Nat} {cs : List AV} (hi : μ b = some i) (hg : H.get b = .cells true e n cs) (hp : AV.plainL cs = true) :
    RelW sz (fun k => k < w.heap.size ∧ k ≠ i.blk) w ⟨fun j => if j = 0 then some i else none, μ.fz, w.heap.size⟩ (mk1 (some (.cells true e n cs))) w := by
  have h0 := hw.blk b i hi
  have hget : (mk1 (some (.cells true e n cs))).get 0 = .cells true e n cs := by
    show (H0.new _).get 0 = _
    rw [Heap.get_new]; rfl
  refine ⟨Keep.refl _ _, fun k h => h.1, fun c j e => ?_, fun c j e => ?_, fun c c' j j' e e' hne => ?_, hw.froz, fun c j k arr e hwr hz => ?_, Nat.le_refl _⟩
  · change (if c = 0 then some i else none) = some j at e
    split at e
    · rename_i h; subst h; show 0 < 1; omega
    · cases e
  · change (if c = 0 then some i else none) = some j at e
    split at e
    · rename_i h; subst h; injection e with e; subst e
      rw [hget]
      rw [hg] at h0
      obtain ⟨hl, arr, e', fr, ha, hcs, hown⟩ := h0
      obtain ⟨h1, h2⟩ := hown rfl
      refine ⟨hl, arr, e', fr, ha, fun k v hv => ?_, fun _ => ⟨fun h => h.2 rfl, h2⟩⟩
      obtain ⟨x, hx, hr⟩ := hcs k v hv
      have hvp : v.plain = true := by
        have key : ∀ l : List AV, AV.plainL l = true → ∀ v ∈ l, v.plain = true := by
          intro l
          induction l with
          | nil => intro _ v hv; cases hv
          | cons a l ih =>
            intro h v hv
            simp only [AV.plainL, Bool.and_eq_true] at h
            rcases List.mem_cons.1 hv with rfl | hv
            · exact h.1
            · exact ih h.2 v hv
        exact key _ hp v (List.mem_of_getElem? hv)
      refine ⟨x, hx, RelV.move (μ := μ) ?_ hvp hr⟩
      exact fun _ _ e => e
    · cases e
  · change (if c = 0 then some i else none) = some j at e
    change (if c' = 0 then some i else none) = some j' at e'
    split at e
    · split at e'
      · rename_i h h'; exact absurd (h.trans h'.symm) hne
      · cases e'
    · cases e
  · change (if c = 0 then some i else none) = some j at e
    split at e
    · injection e with e; subst e
      exact hw.frozApart b i k arr hi (by rw [hg]; rfl) hz
    · cases e

/-- none. -/
theorem relW_none (hw : RelW sz base w0 μ H w) : RelW sz (fun k => k < w.heap.size) w ⟨fun _ => none, μ.fz, w.heap.size⟩ (mk1 none) w := by
  refine ⟨Keep.refl _ _, fun k h => h, fun c j e => ?_, fun c j e => ?_, fun c c' j j' e e' hne => ?_, hw.froz, fun c j k arr e hwr hz => ?_, Nat.le_refl _⟩ <;> cases e

/-- back. -/
theorem relW_back {prot' : Nat → Prop} {μ' : Inj} {ob : Option Blk} {H1 : Heap} (hw : RelW sz base w0 μ H w) (hs : RelW sz prot' w μ' (mk1 ob) w') (hpp : ∀ k, base k → prot' k)
    (hz : ∀ k arr, μ.fz k = some arr → μ'.fz k = some arr) (hz3 : ∀ k arr, μ'.fz k = some arr → μ.fz k = some arr ∨ w.heap.size ≤ k) (hn : H1.next = H.next)
    (hold : ∀ c, c < H.next → H1.get c = .dead ∨ (H1.get c = H.get c ∧ ∀ i, μ c = some i → (H.get c).live = true → prot' i.blk)) (hob : ∀ b, ob = some b → b.plainB = true) :
    ∃ μ2, RelW sz base w0 μ2 (add1 ob H1) w' ∧ (∀ i, ob.isSome = true → μ' 0 = some i → μ2 H.next = some i) ∧ Grow H.next μ μ2 ∧ μ2.fz = μ'.fz := by
  have plainR : ∀ b : Blk, b.plainB = true → ∀ (ρ : Nat → Nat), b.ren ρ = b ∧ b.ok false (fun j => Nat.beq j 0 && ob.isSome) = true := by
    intro b hb ρ
    cases b <;> simp only [Blk.plainB] at hb <;> try (cases hb; done)
    simp only [Bool.and_eq_true] at hb
    exact ⟨by simp only [Blk.ren, AV.renL_plain hb.2], by simp only [Blk.ok, hb.1, AV.okL_of_plain hb.2, Bool.and_self]⟩
  have hsel : ∀ (sel : List Nat) (H' : Heap), sel = (match ob with | some _ => [0] | none => []) → H' = add1 ob H1 → _ := fun sel H' e1 e2 =>
    rebuild hw hs false (fun j => Nat.beq j 0 && ob.isSome) (fun j => H.next + j) sel (fun _ => none) μ'.fz H' hpp hz (fun _ _ e => e) hz3 (fun _ _ _ e => e)
      (by subst e1; subst e2; cases ob <;> simp [add1, hn])
      (by
        subst e1
        cases ob with
        | none => intro l l' j h; simp at h
        | some b => exact sel_one 0)
      (by
        intro j hj
        rw [Bool.and_eq_true] at hj
        have h0 := Nat.eq_of_beq_eq_true hj.1
        subst h0
        cases ob with
        | none => cases hj.2
        | some b => subst e1; exact .inl ⟨0, rfl, rfl⟩)
      (by
        intro c hc
        have he : H'.get c = H1.get c := by
          subst e2
          cases ob with
          | none => rfl
          | some b => show (H1.new b).get c = _; rw [Heap.get_new, if_neg (by omega)]
        rw [he]
        rcases hold c hc with h | ⟨h1, h2⟩
        · exact .inl h
        · exact .inr (.inl ⟨rfl, h1, h2⟩))
      (by intro c c' j hj; cases hj)
      (by
        intro l j hlj
        subst e1; subst e2
        cases ob with
        | none => simp at hlj
        | some b =>
          cases l with
          | succ l => simp at hlj
          | zero =>
            simp only [List.getElem?_cons_zero, Option.some.injEq] at hlj
            subst hlj
            have hg : (mk1 (some b)).get 0 = b := by show (H0.new b).get 0 = _; rw [Heap.get_new]; rfl
            obtain ⟨p1, p2⟩ := plainR b (hob b rfl) (fun j => H.next + j)
            rw [hg, p1]
            refine ⟨?_, p2⟩
            show (H1.new b).get (H.next + 0) = b
            rw [Heap.get_new, if_pos (by omega)])
  obtain ⟨r1, r2, r3⟩ := hsel _ _ rfl rfl
  refine ⟨_, r1, fun i hi e => ?_, r3, rfl⟩
  have := r2 0 i (by simp [hi]) e
  exact this
end

/-- **A list of such loops is sound**, if each is what its code does. -/
theorem htLoops_ok {P : Program} {cx : Cx} {l : HTab} (h : cx.loop = htLoop l) (hl : ∀ p ∈ l, p.2.OK P cx p.1.2) (base : Nat → Prop) (w0 : World) : LoopsOK P cx base w0 := by
  intro fn id L hL nn r n s s' X μ a w Q hrun h1 h2 h3 h4 hq
  rw [h, htLoop] at hL
  replace hL := ob_eq hL; obtain ⟨L0, hL0, hL⟩ := hL
  injection hL with hL; subst hL
  have hok : HLoop.OK P cx id L0 := hl _ (htFind_mem hL0)
  simp only [HLoop.lsum] at hrun
  cases hnn : Nat.beq nn L0.nn with
  | false => rw [hnn] at hrun; cases hrun
  | true =>
  rw [hnn, cb_true] at hrun
  have hnn := Nat.eq_of_beq_eq_true hnn
  subst hnn
  cases hds : isNil s.ds with
  | false => rw [hds] at hrun; cases hrun
  | true =>
  rw [hds, cb_true] at hrun
  have hds := isNil_eq hds
  rw [hds] at h3
  have hes : a.defers = [] := by
    generalize a.defers = es at h3
    cases h3; rfl
  replace hrun := ob_eq hrun; obtain ⟨ow, how, hrun⟩ := hrun
  replace hrun := ob_eq hrun; obtain ⟨⟨conds, X0, v', ob', us'⟩, hm, hrun⟩ := hrun
  simp only at hrun
  cases hc : allTrue (ow.conds ++ AV.plainL (L0.slots.map s.fr.get) :: conds) with
  | false => rw [hc] at hrun; cases hrun
  | true =>
  rw [hc, cb_true] at hrun
  injection hrun with hrun; injection hrun with e1 e2
  subst e1; subst e2
  rw [allTrue_append, allTrue_cons] at hc
  obtain ⟨hc1, hc2, hc3⟩ := hc
  -- the slots in the small heap
  have slot : ∀ (μs : Inj), (∀ k arr, μ.fz k = some arr → μs.fz k = some arr) → ∀ q ∈ L0.slots.zip (L0.slots.map s.fr.get), RelV μs q.2 (a.tmps.getD q.1 Go.undef) := by
    intro μs hz q hq
    obtain ⟨i, hi⟩ := List.getElem?_of_mem hq
    rw [List.getElem?_zip_eq_some] at hi
    obtain ⟨i1, i2⟩ := hi
    have hpl := AV.okL_get (nf := false) (p := fun _ => false) (AV.okL_of_plain hc2) i2
    rw [List.getElem?_map, i1] at i2
    simp only [Option.map_some, Option.some.injEq] at i2
    rw [← i2] at hpl ⊢
    have hr := h1 q.1
    have hpl' : (s.fr.get q.1).plain = true := by
      have key : ∀ (l : List Nat), AV.plainL (l.map s.fr.get) = true → ∀ t ∈ l, (s.fr.get t).plain = true := by
        intro l
        induction l with
        | nil => intro _ t ht; cases ht
        | cons a l ih =>
          intro h t ht
          simp only [List.map_cons, AV.plainL, Bool.and_eq_true] at h
          rcases List.mem_cons.1 ht with rfl | ht
          · exact h.1
          · exact ih h.2 t ht
      exact key _ hc2 q.1 (List.mem_of_getElem? i1)
    exact RelV.move hz hpl' hr
  -- what comes back
  have back : ∀ (prot' : Nat → Prop) (μs : Inj) (H1 : Heap), RelW (szOf cx) prot' w μs (mk1 ow.ob) w → RelV μs ow.v (a.tmps.getD L0.own Go.undef) → μs.fz = μ.fz → μs.lo = w.heap.size → okIn ow.v ow.ob → (∀ k, base k → prot' k) → H1.next = s.H.next →
      (∀ c, c < s.H.next → H1.get c = .dead ∨ (H1.get c = s.H.get c ∧ ∀ i, μ c = some i → (s.H.get c).live = true → prot' i.blk)) → ow.H = H1 → (Code.block id L0.code).wpIn (FF r) n P Q a w := by
    intro prot' μs H1 k1 k2 k3 k4 k5 k6 k7 k8 k9
    obtain ⟨o1, o2, o3⟩ := hok _ _ _ _ _ _ _ _ hm hc3 (by simp) hc2 k5
    have hin : RelF μs (frameOf L0.nn ((L0.own, ow.v) :: L0.slots.zip (L0.slots.map s.fr.get))).get a.tmps := by
      refine relF_frameOf' h2 _ fun q hq => ?_
      rcases List.mem_cons.1 hq with rfl | hq
      · exact k2
      · exact slot μs (by rw [k3]; exact fun _ _ e => e) q hq
    refine o3.ok (a := a) hin h2 (by rw [hes]; exact .nil) k1 fun a' w' ⟨μ', g, f, d, w1⟩ hs => ?_
    · obtain ⟨μ2, r1, r2, r3, r4⟩ := relW_back (H1 := H1) h4 w1 k6 (fun k arr e => g.fz k arr (by rw [k3]; exact e)) (fun k arr e => by
          rcases g.fzn k arr e with e | e
          · rw [k3] at e; exact .inl e
          · rw [k4] at e; exact .inr e) k7 k8 (fun b hb => by rw [hb] at o2; exact o2.1)
      refine hq a' w' ⟨?_, ⟨μ2, r3, ?_, ?_, by rw [k9]; exact r1⟩, hs⟩
      · show s.H.next ≤ (add1 ob' ow.H).next
        rw [k9]
        cases ob' with
        | none => show _ ≤ H1.next; omega
        | some b => show _ ≤ H1.next + 1; omega
      · have fzz : ∀ k arr, μ'.fz k = some arr → μ2.fz k = some arr := by rw [r4]; exact fun _ _ e => e
        intro t
        have ft := f t
        rw [frameOf_get] at ft ⊢
        by_cases ht : L0.own = t
        · subst ht
          simp only [List.find?_cons_of_pos, beq_self_eq_true, Option.map_some, Option.getD_some] at ft ⊢
          cases hob : ob' with
          | none =>
            rw [hob] at o2
            have o2 : v'.plain = true := o2
            have : backOf s.H.next v' = v' := by
              cases v' with
              | slice p l c =>
                cases p with
                | none => rfl
                | some p => simp [AV.plain] at o2
              | _ => rfl
            rw [this]
            exact RelV.move fzz o2 ft
          | some b =>
            rw [hob] at o2 r2
            obtain ⟨_, o2⟩ := o2
            cases v' with
            | slice p len c =>
              cases p with
              | none => exact RelV.move fzz rfl ft
              | some p =>
                exact RelV.ren (nf := false) (p := fun j => Nat.beq j 0) (v := .slice (some p) len c) (ρ := fun _ => s.H.next) (μ := μ') (μ' := μ2) (fun c i hc e => by
                  have := Nat.eq_of_beq_eq_true hc
                  subst this
                  exact r2 i rfl e) (fun _ => fzz) (by have o2 : Nat.beq p.1 0 = true := o2; simp only [AV.ok]; exact o2) ft
            | _ => exact RelV.move fzz o2 ft
        · have hb : (L0.own == t) = false := by simpa using ht
          simp only [List.find?_cons, hb] at ft ⊢
          refine RelV.move fzz ?_ ft
          cases hx : List.find? (fun p => p.1 == t) (L0.slots.zip us') with
          | none =>
            simp only [Option.map_none, Option.getD_none]
            split <;> rfl
          | some q =>
            simp only [Option.map_some, Option.getD_some]
            have hm := List.mem_of_find?_eq_some hx
            obtain ⟨i, hi⟩ := List.getElem?_of_mem hm
            rw [List.getElem?_zip_eq_some] at hi
            have key : ∀ (l : List AV) (i : Nat) (v : AV), AV.plainL l = true → l[i]? = some v → v.plain = true := by
              intro l
              induction l with
              | nil => intro i v _ h; cases h
              | cons a l ih =>
                intro i v hl h
                simp only [AV.plainL, Bool.and_eq_true] at hl
                cases i with
                | zero => simp at h; subst h; exact hl.1
                | succ i => exact ih i v hl.2 (by simpa using h)
            exact key _ _ _ o1 hi.2
      · generalize a'.defers = es at d
        cases d
        exact .nil
  -- the ways in
  have old : ∀ k, base k → k < w.heap.size := fun k hk => h4.baseLe k hk
  have hr := h1 L0.own
  have none_in : ∀ (v : AV), v.plain = true → s.fr.get L0.own = v ∨ (∃ l c, v = .slice none l c ∧ s.fr.get L0.own = v) → ow.v = v → ow.ob = none → ow.H = s.H → (Code.block id L0.code).wpIn (FF r) n P Q a w := by
    intro v hv hsv e1 e2 e3
    refine back (fun k => k < w.heap.size) ⟨fun _ => none, μ.fz, w.heap.size⟩ s.H (by rw [e2]; exact relW_none h4) ?_ rfl rfl ?_ old rfl (fun c hc => .inr ⟨rfl, fun i hi hlive => (h4.blk c i hi).lt hlive⟩) e3
    · rw [e1]
      have hsv : s.fr.get L0.own = v := by
        rcases hsv with h | ⟨_, _, _, h⟩ <;> exact h
      rw [hsv] at hr
      refine RelV.move (μ := μ) ?_ hv hr
      exact fun _ _ e => e
    · rw [e1, e2]; exact hv
  generalize hv : s.fr.get L0.own = v at how
  unfold ownOf at how
  cases v <;> try (cases how; done)
  case int k z => injection how with how; exact none_in _ rfl (.inl hv) (by rw [← how]) (by rw [← how]) (by rw [← how])
  case bool k => injection how with how; exact none_in _ rfl (.inl hv) (by rw [← how]) (by rw [← how]) (by rw [← how])
  case fsl nl l cs =>
    injection how with how
    rw [← how, allTrue_cons] at hc1
    exact none_in _ (by simpa [AV.plain] using hc1.1) (.inl hv) (by rw [← how]) (by rw [← how]) (by rw [← how])
  case slice p len c =>
    cases p with
    | none => injection how with how; exact none_in _ rfl (.inl hv) (by rw [← how]) (by rw [← how]) (by rw [← how])
    | some p =>
      simp only at how
      split at how
      · rename_i o e nc cs hg
        injection how with how
        rw [← how, allTrue_cons, allTrue_cons] at hc1
        obtain ⟨ho, hpl, _⟩ := hc1
        subst ho
        rw [hv] at hr
        obtain ⟨i, ad, k, hi, _⟩ := rel_slice hr
        have hbi := h4.blk p.1 i hi
        rw [hg] at hbi
        refine back (fun k => k < w.heap.size ∧ k ≠ i.blk) ⟨fun j => if j = 0 then some i else none, μ.fz, w.heap.size⟩ (s.H.put p.1 .dead) (by rw [← how]; exact relW_one h4 hi hg hpl) ?_ rfl rfl ?_ ?_ rfl ?_ (by rw [← how])
        · rw [← how]
          exact RelV.ren (nf := false) (p := fun j => Nat.beq j p.1) (ρ := fun _ => 0) (μ := μ) (μ' := ⟨fun j => if j = 0 then some i else none, μ.fz, w.heap.size⟩) (fun c j hc e => by
            have := Nat.eq_of_beq_eq_true hc
            subst this
            rw [hi] at e; exact e) (fun _ _ _ e => e) (by simp [AV.ok]) hr
        · rw [← how]
          exact ⟨by simp only [Blk.plainB, hpl, Bool.and_self], rfl⟩
        · intro k hk
          refine ⟨old k hk, fun e => ?_⟩
          subst e
          exact RelB.base hbi rfl hk
        · intro c hc
          rw [Heap.get_put]
          by_cases hcp : c = p.1
          · rw [if_pos hcp]; exact .inl rfl
          · rw [if_neg hcp]
            refine .inr ⟨rfl, fun j hj hlive => ⟨(h4.blk c j hj).lt hlive, fun e => ?_⟩⟩
            exact h4.apart p.1 c i j hi hj (fun h => hcp h.symm) (by rw [hg]; rfl) hlive e.symm
      · cases how
end Go.Ab

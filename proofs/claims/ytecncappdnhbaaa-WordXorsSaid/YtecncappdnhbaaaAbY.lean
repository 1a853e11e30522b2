/- What is known of functions that change nothing: their arguments are looked at as they stand; what is new, is new. -/
import Derived.Test.YtecncappdnhbaaaAbX
set_option autoImplicit false
set_option linter.unusedVariables false
set_option linter.unusedSimpArgs false
set_option linter.unusedSectionVars false
noncomputable section
namespace Go.Ab
open Go.RowKit

/-! ### How arguments stand -/
def vInt (b : Bool) (v : AV) : Option (List Bool × AV) := some ([], v)
/-- a value without blocks, or a row of values without blocks as a frozen one. -/
def view1 (cx : Cx) (H : Heap) (nf : Bool) (v : AV) : Option (List Bool × AV) :=
  match v with
  | .int k n => some ([], .int k n)
  | .bool b => some ([], .bool b)
  | .str s => some ([], .str s)
  | .ptr p => cb p.isNone (some ([], .ptr none)) none
  | .map r => cb r.isNone (some ([], .map none)) none
  | .nilFunc => some ([], .nilFunc)
  | .nilIface => some ([], .nilIface)
  | .fsl n l cs => some ([AV.plainL cs], .fsl n l cs)
  | .fptr cs => some ([AV.plainL cs], .fptr cs)
  | .slice p len c => match p with
    | none => some ([], .fsl true 0 [])
    | some p => cb nf (match H.get p.1 with
      | .cells _ e n cs => some ([Nat.ble (p.2 + len * szOf cx e) n, AV.plainL cs], .fsl false len (rowCut cs p.2 (len * szOf cx e)))
      | _ => none) none
  | _ => none
def views1 (cx : Cx) (H : Heap) (nf : Bool) (l : List AV) : Option (List Bool × List AV) :=
  List.rec (motive := fun _ => Option (List Bool × List AV)) (some ([], [])) (fun v _ r => (view1 cx H nf v).ob fun a => r.ob fun b => some (a.1 ++ b.1, a.2 :: b.2)) l
def viewV (cx : Cx) (H : Heap) (nf : Bool) (v : AV) : Option (List Bool × AV) :=
  match v with
  | .agg cs => (views1 cx H nf cs).ob fun r => some (r.1, .agg r.2)
  | .func f x y => (views1 cx H nf x).ob fun a => (views1 cx H nf y).ob fun b => some (a.1 ++ b.1, .func f a.2 b.2)
  | .ptr p => match p with
    | none => some ([], .ptr none)
    | some p => cb nf (match H.get p.1 with
      | .cells _ e n cs => (views1 cx H nf (List.drop p.2 cs)).ob fun r => some (r.1, .fptr r.2)
      | _ => none) none
  | v => view1 cx H nf v
def viewsV (cx : Cx) (H : Heap) (nf : Bool) (l : List AV) : Option (List Bool × List AV) :=
  List.rec (motive := fun _ => Option (List Bool × List AV)) (some ([], [])) (fun v _ r => (viewV cx H nf v).ob fun a => r.ob fun b => some (a.1 ++ b.1, a.2 :: b.2)) l

/-- all rows of the world as they stand. -/
def fzAll (w : World) : Nat → Option (Array Value) := fun k => match w.heap[k]? with
  | some (.cells arr _ _) => some arr
  | _ => none
/-- the injection by which a function is looked at. -/
def Inj.seen (μ : Inj) (nf : Bool) (w : World) : Inj := ⟨fun _ => none, cb nf (fzAll w) μ.fz, w.heap.size⟩

theorem allTrue_append {a b : List Bool} : allTrue (a ++ b) = true ↔ allTrue a = true ∧ allTrue b = true := by
  induction a with
  | nil => simp [allTrue]
  | cons x a ih => rw [List.cons_append, allTrue_cons, allTrue_cons, ih, and_assoc]

section
variable {P : Program} {cx : Cx} {base : Nat → Prop} {w0 w : World} {μ : Inj} {H : Heap} (hw : RelW (szOf cx) base w0 μ H w) {nf : Bool}

include hw in
theorem seen_fz : ∀ k arr, μ.fz k = some arr → (μ.seen nf w).fz k = some arr := by
  intro k arr h
  cases nf with
  | false => exact h
  | true =>
    obtain ⟨e, fr, hk⟩ := hw.froz k arr h
    show fzAll w k = some arr
    unfold fzAll
    rw [hk]
include hw in
theorem relW_seen : RelW (szOf cx) (Old w) w (μ.seen nf w) H0 w := by
  refine ⟨Keep.refl _ _, fun _ h => h, fun _ _ e => (by cases e), fun _ _ e => (by cases e), fun _ _ _ _ e => (by cases e), fun k arr e => ?_, fun _ _ _ _ e => (by cases e), Nat.le_refl _⟩
  cases nf with
  | false => exact hw.froz k arr e
  | true =>
    have e : fzAll w k = some arr := e
    unfold fzAll at e
    split at e
    · rename_i arr' t fr hk
      injection e with e; subst e
      exact ⟨t, fr, hk⟩
    · cases e

theorem plainL_cut {cs : List AV} (h : AV.plainL cs = true) (o n : Nat) : AV.plainL (rowCut cs o n) = true := by
  have key : ∀ l : List AV, AV.plainL l = true ↔ ∀ v ∈ l, v.plain = true := by
    intro l
    induction l with
    | nil => simp [AV.plainL]
    | cons v l ih => simp [AV.plainL, ih]
  rw [key] at h ⊢
  intro v hv
  exact h v (List.mem_of_mem_drop (List.mem_of_mem_take hv))

include hw in
theorem view1_sound {v u : AV} {c : List Bool} {x : Value} (h : view1 cx H nf v = some (c, u)) (hc : allTrue c = true) (hr : RelV μ v x) : RelV (μ.seen nf w) u x := by
  cases v <;> simp only [view1] at h <;> try (cases h; done)
  case int k n => injection h with h; injection h with h1 h2; subst h2; cases hr; exact .int _ _
  case bool b => injection h with h; injection h with h1 h2; subst h2; cases hr; exact .bool _
  case str s => injection h with h; injection h with h1 h2; subst h2; cases hr; exact .str _
  case nilFunc => injection h with h; injection h with h1 h2; subst h2; cases hr; exact .nilFunc
  case nilIface => injection h with h; injection h with h1 h2; subst h2; cases hr; exact .nilIface
  case ptr p =>
    cases p with
    | none => injection h with h; injection h with h1 h2; subst h2; cases hr; exact .ptrN
    | some p => cases h
  case map r =>
    cases r with
    | none => injection h with h; injection h with h1 h2; subst h2; cases hr; exact .mapN
    | some p => cases h
  case fsl n l cs =>
    injection h with h; injection h with h1 h2; subst h1; subst h2
    rw [allTrue_cons] at hc
    exact RelV.move (seen_fz hw) (by simpa [AV.plain] using hc.1) hr
  case fptr cs =>
    injection h with h; injection h with h1 h2; subst h1; subst h2
    rw [allTrue_cons] at hc
    exact RelV.move (seen_fz hw) (by simpa [AV.plain] using hc.1) hr
  case slice p len cp =>
    cases p with
    | none =>
      injection h with h; injection h with h1 h2; subst h2
      obtain ⟨rfl, rfl, rfl⟩ := rel_slice_none hr
      exact .fslN
    | some p =>
      cases nf with
      | false => cases h
      | true =>
        simp only [cb_true] at h
        split at h
        · rename_i own e n cs hg
          injection h with h; injection h with h1 h2; subst h1; subst h2
          rw [allTrue_cons, allTrue_cons] at hc
          obtain ⟨hle, hpl, _⟩ := hc
          have hle := Nat.le_of_ble_eq_true hle
          obtain ⟨i, ad, k, hi, rfl, hlk, had, _⟩ := rel_slice hr
          obtain ⟨hl, arr, e', fr, harr, hcs, _⟩ := hw.row hi hg
          have hcut : cellsAt H p (len * szOf cx e) = some (rowCut cs p.2 (len * szOf cx e)) := by
            unfold cellsAt
            rw [hg]
            simp only
            rw [if_pos hle]
          obtain ⟨xs, hrx, hxl, hxc⟩ := cells_read hw hcut hi
          refine RelV.fsl (arr := arr) (vs := xs) (fun hne => ?_) (RelL.move (seen_fz hw) (plainL_cut hpl _ _) hrx) (fun j y hj => ?_) hlk
          · have hk : k ≠ 0 := by
              intro hk
              apply hne
              have : len = 0 := by omega
              rw [this]; simp [rowCut]
            rw [had hk]
            refine ⟨rfl, ?_⟩
            show fzAll w i.blk = some arr
            unfold fzAll
            rw [harr]
          · have hj' : j < xs.length := (List.getElem?_eq_some_iff.1 hj).1
            have hk : k ≠ 0 := by
              intro hk
              have : len = 0 := by omega
              rw [hxl, this] at hj'; simp at hj'
            have := hxc j y hj
            rw [had hk]
            simpa [World.cell?, harr] using this
        · cases h

include hw in
theorem views1_sound : ∀ {vs us : List AV} {c : List Bool} {xs : List Value}, views1 cx H nf vs = some (c, us) → allTrue c = true → RelL μ vs xs → RelL (μ.seen nf w) us xs := by
  intro vs
  induction vs with
  | nil => intro us c xs h hc hr; cases hr; injection h with h; injection h with h1 h2; subst h2; exact .nil
  | cons v vs ih =>
    intro us c xs h hc hr
    cases hr with
    | cons a b =>
      change ((view1 cx H nf v).ob fun a => (views1 cx H nf vs).ob fun b => some (a.1 ++ b.1, a.2 :: b.2)) = some (c, us) at h
      replace h := ob_eq h; obtain ⟨⟨c1, u⟩, h1, h⟩ := h
      replace h := ob_eq h; obtain ⟨⟨c2, us'⟩, h2, h⟩ := h
      injection h with h; injection h with e1 e2; subst e1; subst e2
      rw [allTrue_append] at hc
      exact .cons (view1_sound hw h1 hc.1 a) (ih h2 hc.2 b)

include hw in
theorem viewV_sound {v u : AV} {c : List Bool} {x : Value} (h : viewV cx H nf v = some (c, u)) (hc : allTrue c = true) (hr : RelV μ v x) : RelV (μ.seen nf w) u x := by
  cases v
  case agg cs =>
    simp only [viewV] at h
    replace h := ob_eq h; obtain ⟨⟨c1, us⟩, h1, h⟩ := h
    injection h with h; injection h with e1 e2; subst e1; subst e2
    obtain ⟨xs, rfl, hx⟩ := rel_agg hr
    exact .agg (views1_sound hw h1 hc hx)
  case func f a b =>
    simp only [viewV] at h
    replace h := ob_eq h; obtain ⟨⟨c1, us⟩, h1, h⟩ := h
    replace h := ob_eq h; obtain ⟨⟨c2, vs⟩, h2, h⟩ := h
    injection h with h; injection h with e1 e2; subst e1; subst e2
    rw [allTrue_append] at hc
    cases hr with
    | func r1 r2 => exact .func (views1_sound hw h1 hc.1 r1) (views1_sound hw h2 hc.2 r2)
  case ptr p =>
    cases p with
    | none => simp only [viewV] at h; injection h with h; injection h with h1 h2; subst h2; cases hr; exact .ptrN
    | some p =>
      cases nf with
      | false => simp only [viewV, cb_false] at h; cases h
      | true =>
        simp only [viewV, cb_true] at h
        split at h
        · rename_i own e n cs hg
          replace h := ob_eq h; obtain ⟨⟨c1, us⟩, h1, h⟩ := h
          injection h with h; injection h with e1 e2; subst e1; subst e2
          obtain ⟨i, hi, rfl⟩ := rel_ptr hr
          obtain ⟨hl, arr, e', fr, harr, hcs, _⟩ := hw.row hi hg
          have hrx : RelL μ (cs.drop p.2) ((List.range (cs.length - p.2)).map fun j => (arr[i.off + p.2 + j]?).getD Go.undef) := by
            refine RelL.of_get (by simp) fun k v x hv hx => ?_
            rw [List.getElem?_drop] at hv
            obtain ⟨y, hy, r⟩ := hcs _ v hv
            have hk : k < cs.length - p.2 := by have := (List.getElem?_eq_some_iff.1 hv).1; omega
            simp [hk] at hx
            subst hx
            rw [Nat.add_assoc, hy]; exact r
          refine RelV.fptr (arr := arr) (fun hne => ⟨rfl, ?_⟩) (views1_sound hw h1 hc hrx) (fun j y hj => ?_)
          · show fzAll w i.blk = some arr
            unfold fzAll
            rw [harr]
          · have hj' := (List.getElem?_eq_some_iff.1 hj).1
            simp at hj'
            have hlt : p.2 + j < cs.length := by omega
            obtain ⟨y', hy', _⟩ := hcs (p.2 + j) _ (List.getElem?_eq_getElem hlt)
            simp [hj'] at hj
            rw [show i.off + p.2 + j = i.off + (p.2 + j) from by omega] at hj ⊢
            rw [hy'] at hj ⊢
            simp at hj; rw [hj]
        · cases h
  all_goals
    simp only [viewV] at h
    exact view1_sound hw h hc hr

include hw in
theorem viewsV_sound : ∀ {vs us : List AV} {c : List Bool} {xs : List Value}, viewsV cx H nf vs = some (c, us) → allTrue c = true → RelL μ vs xs → RelL (μ.seen nf w) us xs := by
  intro vs
  induction vs with
  | nil => intro us c xs h hc hr; cases hr; injection h with h; injection h with h1 h2; subst h2; exact .nil
  | cons v vs ih =>
    intro us c xs h hc hr
    cases hr with
    | cons a b =>
      change ((viewV cx H nf v).ob fun a => (viewsV cx H nf vs).ob fun b => some (a.1 ++ b.1, a.2 :: b.2)) = some (c, us) at h
      replace h := ob_eq h; obtain ⟨⟨c1, u⟩, h1, h⟩ := h
      replace h := ob_eq h; obtain ⟨⟨c2, us'⟩, h2, h⟩ := h
      injection h with h; injection h with e1 e2; subst e1; subst e2
      rw [allTrue_append] at hc
      exact .cons (viewV_sound hw h1 hc.1 a) (ih h2 hc.2 b)
end

/-! ### What is said of a function -/
/-- nf: arguments are looked at, and nothing of them is in the result; m: of what they look like: the conditions; the value and the new blocks, by the first new number. -/
structure RSum where
  nf : Bool
  m : List AV → Option (List Bool × (Nat → AV × List Blk))
def newAll (bs : List Blk) : Heap → Heap := List.rec (motive := fun _ => Heap → Heap) (fun H => H) (fun b _ r H => r (H.new b)) bs
theorem newAll_next (bs : List Blk) : ∀ H : Heap, (newAll bs H).next = H.next + bs.length := by
  induction bs with
  | nil => intro H; rfl
  | cons b bs ih => intro H; show (newAll bs (H.new b)).next = _; rw [ih]; simp; omega
theorem newAll_get (bs : List Blk) : ∀ (H : Heap) (c : Nat), (newAll bs H).get c = if c < H.next then H.get c else (bs[c - H.next]?).getD (H.get c) := by
  induction bs with
  | nil => intro H c; show H.get c = _; split <;> simp
  | cons b bs ih =>
    intro H c
    show (newAll bs (H.new b)).get c = _
    have hn : (H.new b).next = H.next + 1 := rfl
    rw [ih, Heap.get_new, hn]
    by_cases h : c < H.next
    · have h2 : c < H.next + 1 := by omega
      have h3 : c ≠ H.next := by omega
      simp [h, h2, h3]
    · by_cases h2 : c = H.next
      · subst h2; simp
      · obtain ⟨k, rfl⟩ : ∃ k, c = H.next + 1 + k := ⟨c - H.next - 1, by omega⟩
        have h3 : ¬ H.next + 1 + k < H.next + 1 := by omega
        have h4 : H.next + 1 + k - (H.next + 1) = k := by omega
        have h5 : H.next + 1 + k - H.next = k + 1 := by omega
        rw [if_neg h3, if_neg h, if_neg h2, h4, h5, List.getElem?_cons_succ]

abbrev FTab := List (FuncId × RSum)
def ftFind (l : FTab) (g : FuncId) : Option RSum := List.rec (motive := fun _ => Option RSum) none (fun p _ r => cb (Nat.beq g p.1) (some p.2) r) l
theorem ftFind_mem {l : FTab} {g : FuncId} {s : RSum} (h : ftFind l g = some s) : (g, s) ∈ l := by
  induction l with
  | nil => cases h
  | cons p l ih =>
    change cb (Nat.beq g p.1) (some p.2) (ftFind l g) = some s at h
    cases hb : Nat.beq g p.1 with
    | true =>
      rw [hb, cb_true] at h
      injection h with h
      have := Nat.eq_of_beq_eq_true hb
      subst this; subst h
      obtain ⟨a, b⟩ := p
      simp
    | false =>
      rw [hb, cb_false] at h
      simp [ih h]
/-- the heap's types alone are looked at. -/
def tyCx (ty : TypeId → Option ATy) : Cx := { ty := ty, fn := fun _ => none, sum := fun _ _ _ => none }
def ftSum (ty : TypeId → Option ATy) (l : FTab) : FuncId → List AV → Heap → Option (AV × Heap) := fun g args H =>
  (ftFind l g).ob fun s => (viewsV (tyCx ty) H s.nf args).ob fun r => (s.m r.2).ob fun q => cb (allTrue (r.1 ++ q.1)) (some ((q.2 H.next).1, newAll (q.2 H.next).2 H)) none
def ftSumS (ty : TypeId → Option ATy) (l : FTab) : FuncId → Option (List AV → Heap → S (AV × Heap)) := fun g =>
  (ftFind l g).ob fun s => some fun args H => S.bind (S.lift (viewsV (tyCx ty) H s.nf args)) fun r => S.bind (S.lift (s.m r.2)) fun q => musts (r.1 ++ q.1) (S.pure ((q.2 H.next).1, newAll (q.2 H.next).2 H))

/-- a value is told with less. -/
def AV.Le (u v : AV) : Prop := ∀ (μ : Inj) (x : Value), RelV μ u x → RelV μ v x
theorem AV.Le.refl (v : AV) : AV.Le v v := fun _ _ h => h
theorem AV.Le.of_eq {u v : AV} (h : u = v) : AV.Le u v := h ▸ AV.Le.refl _
/-- **What is owed for a function**: a run by itself in an empty heap; sel: the blocks that are left, in order. -/
def RSum.OK (cx : Cx) (g : FuncId) (s : RSum) : Prop :=
  ∀ us c q, s.m us = some (c, q) → allTrue c = true → ∃ (f : Nat) (v : AV) (h' : Heap) (sel : List Nat), aCall cx f (.fn g) us H0 = some (v, h') ∧ v.ok s.nf (fun b => sel.contains b) = true ∧ (∀ (l l' j : Nat), sel[l]? = some j → sel[l']? = some j → l = l') ∧
    ∀ (n : Nat) (ρ : Nat → Nat), (∀ (l j : Nat), sel[l]? = some j → ρ j = n + l) → AV.Le (v.ren ρ) (q n).1 ∧ (q n).2.length = sel.length ∧ ∀ (l j : Nat) (b : Blk), sel[l]? = some j → (q n).2[l]? = some b → (h'.get j).ren ρ = b ∧ (h'.get j).ok s.nf (fun b => sel.contains b) = true

theorem ftSums_ok {P : Program} {cx cx' : Cx} {l : FTab} (hcx : CxOK P cx) (hs : SumAll P cx) (hty : cx'.ty = cx.ty) (h : cx'.sum = ftSum cx.ty l) (hl : ∀ p ∈ l, p.2.OK cx p.1) (base : Nat → Prop) (w0 : World) : SumOK P cx' base w0 := by
  intro g args H H' v μ w xs hsum hw hr r n
  have hsz : szOf cx' = szOf cx := by funext e; simp [szOf, hty]
  have hszT : szOf (tyCx cx.ty) = szOf cx := rfl
  have hw1 : RelW (szOf cx) base w0 μ H w := hsz ▸ hw
  have hwT : RelW (szOf (tyCx cx.ty)) base w0 μ H w := hw1
  rw [h] at hsum
  unfold ftSum at hsum
  replace hsum := ob_eq hsum; obtain ⟨s, hf, hsum⟩ := hsum
  replace hsum := ob_eq hsum; obtain ⟨⟨c1, us⟩, hv, hsum⟩ := hsum
  replace hsum := ob_eq hsum; obtain ⟨⟨c2, q⟩, hm, hsum⟩ := hsum
  simp only at hsum hm
  cases hc : allTrue (c1 ++ c2) with
  | false => rw [hc] at hsum; cases hsum
  | true =>
    rw [hc, cb_true] at hsum
    injection hsum with hsum; injection hsum with e1 e2
    rw [allTrue_append] at hc
    obtain ⟨f, v0, h', sel, hrun, hvok, hnd, hsel⟩ := hl _ (ftFind_mem hf) us c2 q hm hc.2
    have hus := viewsV_sound hwT hv hc.1 hr
    have h1 := ((aCall_sound hcx (hs.sum (Old w) w) (hs.loop (Old w) w) f).fn hrun (relW_seen (cx := cx) (nf := s.nf) hw1) hus).2 r n
    refine h1.mono ?_
    rintro e w' ⟨Z, rfl, _, μ', hg, hz, hw'⟩
    let ρ : Nat → Nat := fun b => H.next + sel.idxOf b
    have hρ : ∀ (l j : Nat), sel[l]? = some j → ρ j = H.next + l := by
      intro l j hlj
      have hlt := (List.getElem?_eq_some_iff.1 hlj).1
      have hmem := List.mem_of_getElem? hlj
      have hi : sel.idxOf j < sel.length := List.idxOf_lt_length_of_mem hmem
      have := hnd (sel.idxOf j) l j (by rw [List.getElem?_eq_getElem hi, List.getElem_idxOf]) hlj
      show H.next + sel.idxOf j = _
      rw [this]
    obtain ⟨k1, k2, k3⟩ := hsel H.next ρ hρ
    let fz : Nat → Option (Array Value) := cb s.nf μ.fz μ'.fz
    have hzz : ∀ k arr, μ.fz k = some arr → μ'.fz k = some arr := fun k arr e => hg.fz k arr (seen_fz hw1 k arr e)
    obtain ⟨r1, r2, r3⟩ := rebuild hw1 hw' s.nf (fun b => sel.contains b) ρ sel (fun _ => none) fz H' (fun k hk => hw1.baseLe k hk)
      (by
        intro k arr e
        cases hnf : s.nf with
        | true => simp only [fz, hnf, cb_true]; exact e
        | false => simp only [fz, hnf, cb_false]; exact hzz k arr e)
      (by
        intro k arr e
        cases hnf : s.nf with
        | true => simp only [fz, hnf, cb_true] at e; exact hzz k arr e
        | false => simp only [fz, hnf, cb_false] at e; exact e)
      (by
        intro k arr e
        cases hnf : s.nf with
        | true => simp only [fz, hnf, cb_true] at e; exact .inl e
        | false =>
          simp only [fz, hnf, cb_false] at e
          rcases hg.fzn k arr e with e | e
          · rw [hnf] at e; exact .inl e
          · exact .inr e)
      (by
        intro hnf k arr e
        simp only [fz, hnf, cb_false]; exact e)
      (by rw [← e2, newAll_next, k2])
      hnd
      (by
        intro j hj
        have hj : j ∈ sel := by simpa using hj
        obtain ⟨l, hl⟩ := List.getElem?_of_mem hj
        exact .inl ⟨l, hl, hρ l j hl⟩)
      (by
        intro c hc
        right; left
        refine ⟨rfl, ?_, fun i hi hlive => ?_⟩
        · rw [← e2, newAll_get, if_pos hc]
        · exact (hw1.blk c i hi).lt hlive)
      (by intro c c' j hj; cases hj)
      (by
        intro l j hlj
        have hlt := (List.getElem?_eq_some_iff.1 hlj).1
        have hb : (q H.next).2[l]? = some (q H.next).2[l] := List.getElem?_eq_getElem (by omega)
        obtain ⟨m1, m2⟩ := k3 l j _ hlj hb
        refine ⟨?_, m2⟩
        rw [← e2, newAll_get, if_neg (by omega), show H.next + l - H.next = l by omega, hb, m1]; rfl)
    have hgr : Grow H.next μ (Inj.join μ μ' H.next sel fz) := r3
    refine ⟨Z, rfl, ?_, Inj.join μ μ' H.next sel fz, hgr, ?_, ?_⟩
    · rw [← e2, newAll_next]; omega
    · rw [← e1]
      refine k1 _ _ ?_
      refine RelV.ren (nf := s.nf) (p := fun b => sel.contains b) (fun b i hb e => r2 b i hb e) (fun hnf k arr e => ?_) hvok hz
      show fz k = some arr
      simp only [fz, hnf, cb_false]; exact e
    · rw [hsz]; exact r1

theorem ftSums_snd {cx : Cx} {l : FTab} {ls : LoopS} (h : cx.sum = ftSum cx.ty l) (hl : LoopsSOK cx ls) : SumsOK cx { fn := ftSumS cx.ty l, loop := ls } := by
  refine ⟨fun g m args H hm => ?_, fun g args H hm => ?_, hl⟩
  · simp only [ftSumS] at hm
    replace hm := ob_eq hm; obtain ⟨s, hs, hm⟩ := hm
    injection hm with hm; subst hm
    rw [h, ftSum, hs, ob_some]
    exact Snd.bind (Snd.lift _) fun r _ => Snd.bind (Snd.lift _) fun q _ => musts_snd (Snd.pure _) _
  · simp only [ftSumS] at hm
    rw [h, ftSum]
    cases hs : ftFind l g with
    | none => rfl
    | some s => rw [hs] at hm; cases hm
end Go.Ab

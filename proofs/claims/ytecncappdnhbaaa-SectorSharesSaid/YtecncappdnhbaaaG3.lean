/- Texts of the abstract machine and of the laws, merged. -/
import Derived.Test.YtecncappdnhbaaaG2
/- What is known of functions that change nothing: their arguments are looked at as they stand; what is new, is new. -/
section
set_option autoImplicit false
set_option linter.unusedVariables false
set_option linter.unusedSimpArgs false
set_option linter.unusedSectionVars false
noncomputable section
namespace Go.Ab
open Go.RowKit

/-! ### How arguments stand -/
/-- a value without blocks, or a row of values without blocks as a frozen one. -/
def view1 (cx : Cx) (H : Heap) (nf : Bool) (v : AV) : Option (List Bool × AV) :=
  match v with
  | .int k n => some ([], .int k n)
  | .bool b => some ([], .bool b)
  | .str s => some ([], .str s)
  | .ptr p => cb p.isNone (some ([], .ptr none)) none
  | .map r => cb r.isNone (some ([], .map none)) none
  | .nilFunc => some ([], .nilFunc)
  | .nilIface => some ([], .nilIface)
  | .fsl n l cs => some ([AV.plainL cs], .fsl n l cs)
  | .fptr cs => some ([AV.plainL cs], .fptr cs)
  | .slice p len c => match p with
    | none => some ([], .fsl true 0 [])
    | some p => cb nf (match H.get p.1 with
      | .cells _ e n cs => some ([Nat.ble (p.2 + len * szOf cx e) n, AV.plainL cs], .fsl false len (rowCut cs p.2 (len * szOf cx e)))
      | _ => none) none
  | _ => none
def views1 (cx : Cx) (H : Heap) (nf : Bool) (l : List AV) : Option (List Bool × List AV) :=
  List.rec (motive := fun _ => Option (List Bool × List AV)) (some ([], [])) (fun v _ r => (view1 cx H nf v).ob fun a => r.ob fun b => some (a.1 ++ b.1, a.2 :: b.2)) l
def viewV (cx : Cx) (H : Heap) (nf : Bool) (v : AV) : Option (List Bool × AV) :=
  match v with
  | .agg cs => (views1 cx H nf cs).ob fun r => some (r.1, .agg r.2)
  | .func f x y => (views1 cx H nf x).ob fun a => (views1 cx H nf y).ob fun b => some (a.1 ++ b.1, .func f a.2 b.2)
  | .ptr p => match p with
    | none => some ([], .ptr none)
    | some p => cb nf (match H.get p.1 with
      | .cells _ e n cs => (views1 cx H nf (List.drop p.2 cs)).ob fun r => some (r.1, .fptr r.2)
      | _ => none) none
  | v => view1 cx H nf v
def viewsV (cx : Cx) (H : Heap) (nf : Bool) (l : List AV) : Option (List Bool × List AV) :=
  List.rec (motive := fun _ => Option (List Bool × List AV)) (some ([], [])) (fun v _ r => (viewV cx H nf v).ob fun a => r.ob fun b => some (a.1 ++ b.1, a.2 :: b.2)) l

/-- all rows of the world as they stand. -/
def fzAll (w : World) : Nat → Option (Array Value) := fun k => match w.heap[k]? with
  | some (.cells arr _ _) => some arr
  | _ => none
/-- the injection by which a function is looked at. -/
def Inj.seen (μ : Inj) (nf : Bool) (w : World) : Inj := ⟨fun _ => none, cb nf (fzAll w) μ.fz, w.heap.size⟩

theorem allTrue_append {a b : List Bool} : allTrue (a ++ b) = true ↔ allTrue a = true ∧ allTrue b = true := by
  induction a with
  | nil => simp [allTrue]
  | cons x a ih => rw [List.cons_append, allTrue_cons, allTrue_cons, ih, and_assoc]

section
variable {P : Program} {cx : Cx} {base : Nat → Prop} {w0 w : World} {μ : Inj} {H : Heap} (hw : RelW (szOf cx) base w0 μ H w) {nf : Bool}

include hw in
theorem seen_fz : ∀ k arr, μ.fz k = some arr → (μ.seen nf w).fz k = some arr := by
  intro k arr h
  cases nf with
  | false => exact h
  | true =>
    obtain ⟨e, fr, hk⟩ := hw.froz k arr h
    show fzAll w k = some arr
    unfold fzAll
    rw [hk]
include hw in
theorem relW_seen : RelW (szOf cx) (Old w) w (μ.seen nf w) H0 w := by
  refine ⟨Keep.refl _ _, fun _ h => h, fun _ _ e => (by cases e), fun _ _ e => (by cases e), fun _ _ _ _ e => (by cases e), fun k arr e => ?_, fun _ _ _ _ e => (by cases e), Nat.le_refl _⟩
  cases nf with
  | false => exact hw.froz k arr e
  | true =>
    have e : fzAll w k = some arr := e
    unfold fzAll at e
    split at e
    · rename_i arr' t fr hk
      injection e with e; subst e
      exact ⟨t, fr, hk⟩
    · cases e

theorem plainL_cut {cs : List AV} (h : AV.plainL cs = true) (o n : Nat) : AV.plainL (rowCut cs o n) = true := by
  have key : ∀ l : List AV, AV.plainL l = true ↔ ∀ v ∈ l, v.plain = true := by
    intro l
    induction l with
    | nil => simp [AV.plainL]
    | cons v l ih => simp [AV.plainL, ih]
  rw [key] at h ⊢
  intro v hv
  exact h v (List.mem_of_mem_drop (List.mem_of_mem_take hv))

include hw in
theorem view1_sound {v u : AV} {c : List Bool} {x : Value} (h : view1 cx H nf v = some (c, u)) (hc : allTrue c = true) (hr : RelV μ v x) : RelV (μ.seen nf w) u x := by
  cases v <;> simp only [view1] at h <;> try (cases h; done)
  case int k n => injection h with h; injection h with h1 h2; subst h2; cases hr; exact .int _ _
  case bool b => injection h with h; injection h with h1 h2; subst h2; cases hr; exact .bool _
  case str s => injection h with h; injection h with h1 h2; subst h2; cases hr; exact .str _
  case nilFunc => injection h with h; injection h with h1 h2; subst h2; cases hr; exact .nilFunc
  case nilIface => injection h with h; injection h with h1 h2; subst h2; cases hr; exact .nilIface
  case ptr p =>
    cases p with
    | none => injection h with h; injection h with h1 h2; subst h2; cases hr; exact .ptrN
    | some p => cases h
  case map r =>
    cases r with
    | none => injection h with h; injection h with h1 h2; subst h2; cases hr; exact .mapN
    | some p => cases h
  case fsl n l cs =>
    injection h with h; injection h with h1 h2; subst h1; subst h2
    rw [allTrue_cons] at hc
    exact RelV.move (seen_fz hw) (by simpa [AV.plain] using hc.1) hr
  case fptr cs =>
    injection h with h; injection h with h1 h2; subst h1; subst h2
    rw [allTrue_cons] at hc
    exact RelV.move (seen_fz hw) (by simpa [AV.plain] using hc.1) hr
  case slice p len cp =>
    cases p with
    | none =>
      injection h with h; injection h with h1 h2; subst h2
      obtain ⟨rfl, rfl, rfl⟩ := rel_slice_none hr
      exact .fslN
    | some p =>
      cases nf with
      | false => cases h
      | true =>
        simp only [cb_true] at h
        split at h
        · rename_i own e n cs hg
          injection h with h; injection h with h1 h2; subst h1; subst h2
          rw [allTrue_cons, allTrue_cons] at hc
          obtain ⟨hle, hpl, _⟩ := hc
          have hle := Nat.le_of_ble_eq_true hle
          obtain ⟨i, ad, k, hi, rfl, hlk, had, _⟩ := rel_slice hr
          obtain ⟨hl, arr, e', fr, harr, hcs, _⟩ := hw.row hi hg
          have hcut : cellsAt H p (len * szOf cx e) = some (rowCut cs p.2 (len * szOf cx e)) := by
            unfold cellsAt
            rw [hg]
            simp only
            rw [if_pos hle]
          obtain ⟨xs, hrx, hxl, hxc⟩ := cells_read hw hcut hi
          refine RelV.fsl (arr := arr) (vs := xs) (fun hne => ?_) (RelL.move (seen_fz hw) (plainL_cut hpl _ _) hrx) (fun j y hj => ?_) hlk
          · have hk : k ≠ 0 := by
              intro hk
              apply hne
              have : len = 0 := by omega
              rw [this]; simp [rowCut]
            rw [had hk]
            refine ⟨rfl, ?_⟩
            show fzAll w i.blk = some arr
            unfold fzAll
            rw [harr]
          · have hj' : j < xs.length := (List.getElem?_eq_some_iff.1 hj).1
            have hk : k ≠ 0 := by
              intro hk
              have : len = 0 := by omega
              rw [hxl, this] at hj'; simp at hj'
            have := hxc j y hj
            rw [had hk]
            simpa [World.cell?, harr] using this
        · cases h

include hw in
theorem views1_sound : ∀ {vs us : List AV} {c : List Bool} {xs : List Value}, views1 cx H nf vs = some (c, us) → allTrue c = true → RelL μ vs xs → RelL (μ.seen nf w) us xs := by
  intro vs
  induction vs with
  | nil => intro us c xs h hc hr; cases hr; injection h with h; injection h with h1 h2; subst h2; exact .nil
  | cons v vs ih =>
    intro us c xs h hc hr
    cases hr with
    | cons a b =>
      change ((view1 cx H nf v).ob fun a => (views1 cx H nf vs).ob fun b => some (a.1 ++ b.1, a.2 :: b.2)) = some (c, us) at h
      replace h := ob_eq h; obtain ⟨⟨c1, u⟩, h1, h⟩ := h
      replace h := ob_eq h; obtain ⟨⟨c2, us'⟩, h2, h⟩ := h
      injection h with h; injection h with e1 e2; subst e1; subst e2
      rw [allTrue_append] at hc
      exact .cons (view1_sound hw h1 hc.1 a) (ih h2 hc.2 b)

include hw in
theorem viewV_sound {v u : AV} {c : List Bool} {x : Value} (h : viewV cx H nf v = some (c, u)) (hc : allTrue c = true) (hr : RelV μ v x) : RelV (μ.seen nf w) u x := by
  cases v
  case agg cs =>
    simp only [viewV] at h
    replace h := ob_eq h; obtain ⟨⟨c1, us⟩, h1, h⟩ := h
    injection h with h; injection h with e1 e2; subst e1; subst e2
    obtain ⟨xs, rfl, hx⟩ := rel_agg hr
    exact .agg (views1_sound hw h1 hc hx)
  case func f a b =>
    simp only [viewV] at h
    replace h := ob_eq h; obtain ⟨⟨c1, us⟩, h1, h⟩ := h
    replace h := ob_eq h; obtain ⟨⟨c2, vs⟩, h2, h⟩ := h
    injection h with h; injection h with e1 e2; subst e1; subst e2
    rw [allTrue_append] at hc
    cases hr with
    | func r1 r2 => exact .func (views1_sound hw h1 hc.1 r1) (views1_sound hw h2 hc.2 r2)
  case ptr p =>
    cases p with
    | none => simp only [viewV] at h; injection h with h; injection h with h1 h2; subst h2; cases hr; exact .ptrN
    | some p =>
      cases nf with
      | false => simp only [viewV, cb_false] at h; cases h
      | true =>
        simp only [viewV, cb_true] at h
        split at h
        · rename_i own e n cs hg
          replace h := ob_eq h; obtain ⟨⟨c1, us⟩, h1, h⟩ := h
          injection h with h; injection h with e1 e2; subst e1; subst e2
          obtain ⟨i, hi, rfl⟩ := rel_ptr hr
          obtain ⟨hl, arr, e', fr, harr, hcs, _⟩ := hw.row hi hg
          have hrx : RelL μ (cs.drop p.2) ((List.range (cs.length - p.2)).map fun j => (arr[i.off + p.2 + j]?).getD Go.undef) := by
            refine RelL.of_get (by simp) fun k v x hv hx => ?_
            rw [List.getElem?_drop] at hv
            obtain ⟨y, hy, r⟩ := hcs _ v hv
            have hk : k < cs.length - p.2 := by have := (List.getElem?_eq_some_iff.1 hv).1; omega
            simp [hk] at hx
            subst hx
            rw [Nat.add_assoc, hy]; exact r
          refine RelV.fptr (arr := arr) (fun hne => ⟨rfl, ?_⟩) (views1_sound hw h1 hc hrx) (fun j y hj => ?_)
          · show fzAll w i.blk = some arr
            unfold fzAll
            rw [harr]
          · have hj' := (List.getElem?_eq_some_iff.1 hj).1
            simp at hj'
            have hlt : p.2 + j < cs.length := by omega
            obtain ⟨y', hy', _⟩ := hcs (p.2 + j) _ (List.getElem?_eq_getElem hlt)
            simp [hj'] at hj
            rw [show i.off + p.2 + j = i.off + (p.2 + j) from by omega] at hj ⊢
            rw [hy'] at hj ⊢
            simp at hj; rw [hj]
        · cases h
  all_goals
    simp only [viewV] at h
    exact view1_sound hw h hc hr

include hw in
theorem viewsV_sound : ∀ {vs us : List AV} {c : List Bool} {xs : List Value}, viewsV cx H nf vs = some (c, us) → allTrue c = true → RelL μ vs xs → RelL (μ.seen nf w) us xs := by
  intro vs
  induction vs with
  | nil => intro us c xs h hc hr; cases hr; injection h with h; injection h with h1 h2; subst h2; exact .nil
  | cons v vs ih =>
    intro us c xs h hc hr
    cases hr with
    | cons a b =>
      change ((viewV cx H nf v).ob fun a => (viewsV cx H nf vs).ob fun b => some (a.1 ++ b.1, a.2 :: b.2)) = some (c, us) at h
      replace h := ob_eq h; obtain ⟨⟨c1, u⟩, h1, h⟩ := h
      replace h := ob_eq h; obtain ⟨⟨c2, us'⟩, h2, h⟩ := h
      injection h with h; injection h with e1 e2; subst e1; subst e2
      rw [allTrue_append] at hc
      exact .cons (viewV_sound hw h1 hc.1 a) (ih h2 hc.2 b)
end

/-! ### What is said of a function -/
/-- nf: arguments are looked at, and nothing of them is in the result; m: of what they look like: the conditions; the value and the new blocks, by the first new number. -/
structure RSum where
  nf : Bool
  m : List AV → Option (List Bool × (Nat → AV × List Blk))
def newAll (bs : List Blk) : Heap → Heap := List.rec (motive := fun _ => Heap → Heap) (fun H => H) (fun b _ r H => r (H.new b)) bs
theorem newAll_next (bs : List Blk) : ∀ H : Heap, (newAll bs H).next = H.next + bs.length := by
  induction bs with
  | nil => intro H; rfl
  | cons b bs ih => intro H; show (newAll bs (H.new b)).next = _; rw [ih]; simp; omega
theorem newAll_get (bs : List Blk) : ∀ (H : Heap) (c : Nat), (newAll bs H).get c = if c < H.next then H.get c else (bs[c - H.next]?).getD (H.get c) := by
  induction bs with
  | nil => intro H c; show H.get c = _; split <;> simp
  | cons b bs ih =>
    intro H c
    show (newAll bs (H.new b)).get c = _
    have hn : (H.new b).next = H.next + 1 := rfl
    rw [ih, Heap.get_new, hn]
    by_cases h : c < H.next
    · have h2 : c < H.next + 1 := by omega
      have h3 : c ≠ H.next := by omega
      simp [h, h2, h3]
    · by_cases h2 : c = H.next
      · subst h2; simp
      · obtain ⟨k, rfl⟩ : ∃ k, c = H.next + 1 + k := ⟨c - H.next - 1, by omega⟩
        have h3 : ¬ H.next + 1 + k < H.next + 1 := by omega
        have h4 : H.next + 1 + k - (H.next + 1) = k := by omega
        have h5 : H.next + 1 + k - H.next = k + 1 := by omega
        rw [if_neg h3, if_neg h, if_neg h2, h4, h5, List.getElem?_cons_succ]

abbrev FTab := List (FuncId × RSum)
def ftFind (l : FTab) (g : FuncId) : Option RSum := List.rec (motive := fun _ => Option RSum) none (fun p _ r => cb (Nat.beq g p.1) (some p.2) r) l
theorem ftFind_mem {l : FTab} {g : FuncId} {s : RSum} (h : ftFind l g = some s) : (g, s) ∈ l := by
  induction l with
  | nil => cases h
  | cons p l ih =>
    change cb (Nat.beq g p.1) (some p.2) (ftFind l g) = some s at h
    cases hb : Nat.beq g p.1 with
    | true =>
      rw [hb, cb_true] at h
      injection h with h
      have := Nat.eq_of_beq_eq_true hb
      subst this; subst h
      obtain ⟨a, b⟩ := p
      simp
    | false =>
      rw [hb, cb_false] at h
      simp [ih h]
/-- the heap's types alone are looked at. -/
def tyCx (ty : TypeId → Option ATy) : Cx := { ty := ty, fn := fun _ => none, sum := fun _ _ _ => none }
def ftSum (ty : TypeId → Option ATy) (l : FTab) : FuncId → List AV → Heap → Option (AV × Heap) := fun g args H =>
  (ftFind l g).ob fun s => (viewsV (tyCx ty) H s.nf args).ob fun r => (s.m r.2).ob fun q => cb (allTrue (r.1 ++ q.1)) (some ((q.2 H.next).1, newAll (q.2 H.next).2 H)) none
def ftSumS (ty : TypeId → Option ATy) (l : FTab) : FuncId → Option (List AV → Heap → S (AV × Heap)) := fun g =>
  (ftFind l g).ob fun s => some fun args H => S.bind (S.lift (viewsV (tyCx ty) H s.nf args)) fun r => S.bind (S.lift (s.m r.2)) fun q => musts (r.1 ++ q.1) (S.pure ((q.2 H.next).1, newAll (q.2 H.next).2 H))

/-- a value is told with less. -/
def AV.Le (u v : AV) : Prop := ∀ (μ : Inj) (x : Value), RelV μ u x → RelV μ v x
theorem AV.Le.refl (v : AV) : AV.Le v v := fun _ _ h => h
theorem AV.Le.of_eq {u v : AV} (h : u = v) : AV.Le u v := h ▸ AV.Le.refl _
/-- **What is owed for a function**: a run by itself in an empty heap; sel: the blocks that are left, in order. -/
def RSum.OK (cx : Cx) (g : FuncId) (s : RSum) : Prop :=
  ∀ us c q, s.m us = some (c, q) → allTrue c = true → ∃ (f : Nat) (v : AV) (h' : Heap) (sel : List Nat), aCall cx f (.fn g) us H0 = some (v, h') ∧ v.ok s.nf (fun b => sel.contains b) = true ∧ (∀ (l l' j : Nat), sel[l]? = some j → sel[l']? = some j → l = l') ∧
    ∀ (n : Nat) (ρ : Nat → Nat), (∀ (l j : Nat), sel[l]? = some j → ρ j = n + l) → AV.Le (v.ren ρ) (q n).1 ∧ (q n).2.length = sel.length ∧ ∀ (l j : Nat) (b : Blk), sel[l]? = some j → (q n).2[l]? = some b → (h'.get j).ren ρ = b ∧ (h'.get j).ok s.nf (fun b => sel.contains b) = true

theorem ftSums_ok {P : Program} {cx cx' : Cx} {l : FTab} (hcx : CxOK P cx) (hs : SumAll P cx) (hty : cx'.ty = cx.ty) (h : cx'.sum = ftSum cx.ty l) (hl : ∀ p ∈ l, p.2.OK cx p.1) (base : Nat → Prop) (w0 : World) : SumOK P cx' base w0 := by
  intro g args H H' v μ w xs hsum hw hr r n
  have hsz : szOf cx' = szOf cx := by funext e; simp [szOf, hty]
  have hszT : szOf (tyCx cx.ty) = szOf cx := rfl
  have hw1 : RelW (szOf cx) base w0 μ H w := hsz ▸ hw
  have hwT : RelW (szOf (tyCx cx.ty)) base w0 μ H w := hw1
  rw [h] at hsum
  unfold ftSum at hsum
  replace hsum := ob_eq hsum; obtain ⟨s, hf, hsum⟩ := hsum
  replace hsum := ob_eq hsum; obtain ⟨⟨c1, us⟩, hv, hsum⟩ := hsum
  replace hsum := ob_eq hsum; obtain ⟨⟨c2, q⟩, hm, hsum⟩ := hsum
  simp only at hsum hm
  cases hc : allTrue (c1 ++ c2) with
  | false => rw [hc] at hsum; cases hsum
  | true =>
    rw [hc, cb_true] at hsum
    injection hsum with hsum; injection hsum with e1 e2
    rw [allTrue_append] at hc
    obtain ⟨f, v0, h', sel, hrun, hvok, hnd, hsel⟩ := hl _ (ftFind_mem hf) us c2 q hm hc.2
    have hus := viewsV_sound hwT hv hc.1 hr
    have h1 := ((aCall_sound hcx (hs.sum (Old w) w) (hs.loop (Old w) w) f).fn hrun (relW_seen (cx := cx) (nf := s.nf) hw1) hus).2 r n
    refine h1.mono ?_
    rintro e w' ⟨Z, rfl, _, μ', hg, hz, hw'⟩
    let ρ : Nat → Nat := fun b => H.next + sel.idxOf b
    have hρ : ∀ (l j : Nat), sel[l]? = some j → ρ j = H.next + l := by
      intro l j hlj
      have hlt := (List.getElem?_eq_some_iff.1 hlj).1
      have hmem := List.mem_of_getElem? hlj
      have hi : sel.idxOf j < sel.length := List.idxOf_lt_length_of_mem hmem
      have := hnd (sel.idxOf j) l j (by rw [List.getElem?_eq_getElem hi, List.getElem_idxOf]) hlj
      show H.next + sel.idxOf j = _
      rw [this]
    obtain ⟨k1, k2, k3⟩ := hsel H.next ρ hρ
    let fz : Nat → Option (Array Value) := cb s.nf μ.fz μ'.fz
    have hzz : ∀ k arr, μ.fz k = some arr → μ'.fz k = some arr := fun k arr e => hg.fz k arr (seen_fz hw1 k arr e)
    obtain ⟨r1, r2, r3⟩ := rebuild hw1 hw' s.nf (fun b => sel.contains b) ρ sel (fun _ => none) fz H' (fun k hk => hw1.baseLe k hk)
      (by
        intro k arr e
        cases hnf : s.nf with
        | true => simp only [fz, hnf, cb_true]; exact e
        | false => simp only [fz, hnf, cb_false]; exact hzz k arr e)
      (by
        intro k arr e
        cases hnf : s.nf with
        | true => simp only [fz, hnf, cb_true] at e; exact hzz k arr e
        | false => simp only [fz, hnf, cb_false] at e; exact e)
      (by
        intro k arr e
        cases hnf : s.nf with
        | true => simp only [fz, hnf, cb_true] at e; exact .inl e
        | false =>
          simp only [fz, hnf, cb_false] at e
          rcases hg.fzn k arr e with e | e
          · rw [hnf] at e; exact .inl e
          · exact .inr e)
      (by
        intro hnf k arr e
        simp only [fz, hnf, cb_false]; exact e)
      (by rw [← e2, newAll_next, k2])
      hnd
      (by
        intro j hj
        have hj : j ∈ sel := by simpa using hj
        obtain ⟨l, hl⟩ := List.getElem?_of_mem hj
        exact .inl ⟨l, hl, hρ l j hl⟩)
      (by
        intro c hc
        right; left
        refine ⟨rfl, ?_, fun i hi hlive => ?_⟩
        · rw [← e2, newAll_get, if_pos hc]
        · exact (hw1.blk c i hi).lt hlive)
      (by intro c c' j hj; cases hj)
      (by
        intro l j hlj
        have hlt := (List.getElem?_eq_some_iff.1 hlj).1
        have hb : (q H.next).2[l]? = some (q H.next).2[l] := List.getElem?_eq_getElem (by omega)
        obtain ⟨m1, m2⟩ := k3 l j _ hlj hb
        refine ⟨?_, m2⟩
        rw [← e2, newAll_get, if_neg (by omega), show H.next + l - H.next = l by omega, hb, m1]; rfl)
    have hgr : Grow H.next μ (Inj.join μ μ' H.next sel fz) := r3
    refine ⟨Z, rfl, ?_, Inj.join μ μ' H.next sel fz, hgr, ?_, ?_⟩
    · rw [← e2, newAll_next]; omega
    · rw [← e1]
      refine k1 _ _ ?_
      refine RelV.ren (nf := s.nf) (p := fun b => sel.contains b) (fun b i hb e => r2 b i hb e) (fun hnf k arr e => ?_) hvok hz
      show fz k = some arr
      simp only [fz, hnf, cb_false]; exact e
    · rw [hsz]; exact r1

theorem ftSums_snd {cx : Cx} {l : FTab} {ls : LoopS} (h : cx.sum = ftSum cx.ty l) (hl : LoopsSOK cx ls) : SumsOK cx { fn := ftSumS cx.ty l, loop := ls } := by
  refine ⟨fun g m args H hm => ?_, fun g args H hm => ?_, hl⟩
  · simp only [ftSumS] at hm
    replace hm := ob_eq hm; obtain ⟨s, hs, hm⟩ := hm
    injection hm with hm; subst hm
    rw [h, ftSum, hs, ob_some]
    exact Snd.bind (Snd.lift _) fun r _ => Snd.bind (Snd.lift _) fun q _ => musts_snd (Snd.pure _) _
  · simp only [ftSumS] at hm
    rw [h, ftSum]
    cases hs : ftFind l g with
    | none => rfl
    | some s => rw [hs] at hm; cases hm
end Go.Ab
end
end

/- The machine with what is known of functions and of loops; runs that tell a part of what comes. -/
section
set_option autoImplicit false
set_option linter.unusedVariables false
set_option linter.unusedSimpArgs false
set_option linter.unusedSectionVars false
noncomputable section
namespace Go.Ab
open Go.RowKit

def mkCx (ty : TypeId → Option ATy) (fn : FuncId → Option Func) (ft : FTab) (lt : LTab) : Cx := { ty := ty, fn := fn, sum := ftSum ty ft, loop := ltLoop lt }
def mkS (ty : TypeId → Option ATy) (ft : FTab) (lt : LTab) : SumS := { fn := ftSumS ty ft, loop := ltLoopS lt }
theorem mkS_ok (ty : TypeId → Option ATy) (fn : FuncId → Option Func) (ft : FTab) (lt : LTab) : SumsOK (mkCx ty fn ft lt) (mkS ty ft lt) :=
  ftSums_snd (cx := mkCx ty fn ft lt) rfl (ltLoops_snd rfl)

/-- What is known of a function is so, by itself. -/
def RSum.Sound (P : Program) (ty : TypeId → Option ATy) (g : FuncId) (s : RSum) : Prop :=
  ∀ base w0, SumOK P { ty := ty, fn := fun _ => none, sum := ftSum ty [(g, s)] } base w0
theorem ftSum_one {ty : TypeId → Option ATy} {l : FTab} {g : FuncId} {args : List AV} {H : Heap} {r : AV × Heap} (h : ftSum ty l g args H = some r) : ∃ s, (g, s) ∈ l ∧ ftSum ty [(g, s)] g args H = some r := by
  unfold ftSum at h
  replace h := ob_eq h; obtain ⟨s, hs, h⟩ := h
  refine ⟨s, ftFind_mem hs, ?_⟩
  have : ftFind [(g, s)] g = some s := by
    show cb (Nat.beq g g) (some s) none = _
    simp
  unfold ftSum
  rw [this]; exact h
theorem sums_all {P : Program} {ty : TypeId → Option ATy} {fn : FuncId → Option Func} {ft : FTab} {lt : LTab} (hf : ∀ p ∈ ft, RSum.Sound P ty p.1 p.2) (hl : ∀ p ∈ lt, p.2.OK P (tyCx ty) p.1.2) : SumAll P (mkCx ty fn ft lt) := by
  refine ⟨fun base w0 => ?_, fun base w0 => ltLoops_ok (cx := mkCx ty fn ft lt) rfl (fun p hp vs conds X vs' h1 h2 h3 ds H => ⟨fun {_ _ _ _ _ _ _ _} => (hl p hp vs conds X vs' h1 h2 h3 ds H).ok⟩) base w0⟩
  intro g args H H' v μ w xs hsum hw hr r n
  obtain ⟨s, hs, hsum⟩ := ftSum_one hsum
  exact hf _ hs base w0 hsum hw hr r n
/-- A row of a function, by a run with what was known before. -/
theorem RSum.sound {P : Program} {ty : TypeId → Option ATy} {fn : FuncId → Option Func} {ft : FTab} {lt : LTab} (hcx : CxOK P (mkCx ty fn ft lt)) (hs : SumAll P (mkCx ty fn ft lt)) {g : FuncId} {s : RSum} (h : s.OK (mkCx ty fn ft lt) g) : RSum.Sound P ty g s := by
  intro base w0
  exact ftSums_ok hcx hs (cx' := { ty := ty, fn := fun _ => none, sum := ftSum ty [(g, s)] }) rfl rfl (fun p hp => by
    have : p = (g, s) := by simpa using hp
    subst this; exact h) base w0

/-! ### Runs -/
/-- so many closed tests, and others behind them. -/
def oc (n : Nat) (q : List Ans) : List Ans := Nat.rec (motive := fun _ => List Ans) q (fun _ r => .c :: r) n
def cs (n : Nat) (q : List Ans) : List Ans := Nat.rec (motive := fun _ => List Ans) q (fun _ r => .c :: r) n
/-- what a symbolic run comes to: a part of it, and what it took. -/
def part {α β : Type} (p : α → β) (o : Out α) : Option (β × List Cnd) := Option.rec (motive := fun _ => Option (β × List Cnd)) none (fun r => some (p r.1, r.2.2)) o
theorem part_eq {α β : Type} {p : α → β} {o : Out α} {b : β} {c : List Cnd} (h : part p o = some (b, c)) : ∃ a q, o = some (a, q, c) ∧ p a = b := by
  cases o with
  | none => cases h
  | some r =>
    obtain ⟨a, q, c'⟩ := r
    change some (p a, c') = some (b, c) at h
    injection h with h; injection h with h1 h2; subst h1; subst h2
    exact ⟨a, q, rfl, rfl⟩

/-- a call's value and some of its blocks. -/
def pCallB (ids : List Nat) (r : AV × Heap) : AV × List Blk := (r.1, ids.map r.2.get)
theorem call_run {ty : TypeId → Option ATy} {fn : FuncId → Option Func} {ft : FTab} {lt : LTab} {f : Nat} {t : Tgt} {args : List AV} {H : Heap} {v : AV} {ids : List Nat} {bs : List Blk} {q : List Ans} {c : List Cnd}
    (h : part (pCallB ids) (callS (mkCx ty fn ft lt) (mkS ty ft lt) f t args H q) = some ((v, bs), c)) (hc : HoldsL c) : ∃ h', aCall (mkCx ty fn ft lt) f t args H = some (v, h') ∧ ids.map h'.get = bs := by
  obtain ⟨⟨v', h'⟩, q', h1, h2⟩ := part_eq h
  injection h2 with h2 h3
  subst h2
  exact ⟨h', callS_snd _ (mkS_ok ty fn ft lt) f t args H q _ q' c h1 hc, h3⟩



/-- the block of code of a number. -/
def findBlock (id : Nat) : Code → Option Code
  | .seq a b => match findBlock id a with
    | some c => some c
    | none => findBlock id b
  | .cond _ a b => match findBlock id a with
    | some c => some c
    | none => findBlock id b
  | .block id' b => if id = id' then some b else findBlock id b
  | .loop b => findBlock id b
  | .rangeFunc _ _ a b => match findBlock id a with
    | some c => some c
    | none => findBlock id b
  | _ => none
def blockOf (f : Func) (id : Nat) : Code := (f.body.bind (findBlock id)).getD .skip
/-- what a loop goes round. -/
def roundOf (c : Code) : Code :=
  match c with
  | .loop b => b
  | c => c
end Go.Ab
end
end

/- How a law's arguments come in: as they stand in the world. -/
section
section
set_option autoImplicit false
set_option linter.unusedVariables false
set_option linter.unusedSimpArgs false
set_option linter.unusedSectionVars false
namespace Go.Ab
open Go.RowKit

noncomputable def Inj.start (w : World) : Inj := ⟨fun _ => none, fzAll w, w.heap.size⟩
theorem relW_start (sz : TypeId → Nat) (w : World) : RelW sz (Old w) w (Inj.start w) H0 w := by
  refine ⟨Keep.refl _ _, fun _ h => h, fun _ _ e => (by cases e), fun _ _ e => (by cases e), fun _ _ _ _ e => (by cases e), fun k arr e => ?_, fun _ _ _ _ e => (by cases e), Nat.le_refl _⟩
  have e : fzAll w k = some arr := e
  unfold fzAll at e
  split at e
  · rename_i arr' t fr hk
    injection e with e; subst e
    exact ⟨t, fr, hk⟩
  · cases e

/-- **A law**: the run by itself says what the call does. -/
theorem law_calls {P : Program} {cx : Cx} (hcx : CxOK P cx) (hs : SumAll P cx) {f : Nat} {g : FuncId} {us : List AV} {h' : Heap} {w : World} {xs : List Value}
    (h : aCall cx f (.fn g) us H0 = some (.bool true, h')) (hr : RelL (Inj.start w) us xs) : Calls P g xs.toArray w fun e w' => e = .returned (.bool true) ∧ Below w.heap.size w w' := by
  refine (calls_of_aCall hcx (hs.sum _ _) (hs.loop _ _) h (relW_start _ w) hr).mono ?_
  rintro e w' ⟨Z, μ, rfl, hz, hb⟩
  cases hz
  exact ⟨rfl, hb⟩

theorem cell_spot {w : World} {a : Addr} {v : Value} (h : w.cell? a = some v) : a.spot = none ∧ ∃ arr e fr, w.heap[a.block]? = some (.cells arr e fr) ∧ arr[a.off]? = some v := by
  unfold World.cell? at h
  split at h
  · rename_i c e fr hc
    split at h
    · cases h
    · rename_i hs
      exact ⟨by simpa using hs, c, e, fr, hc, h⟩
  · cases h

/-- A slice of integers. -/
theorem row_in {w : World} {k : IntKind} {a : Option Addr} {len cap : Nat} {zs : List Int}
    (h : (a = none ∧ len = 0 ∧ cap = 0 ∧ zs = []) ∨ ∃ x, a = some x ∧ len ≤ cap ∧ cap ≤ maxLen ∧ zs.length = cap ∧ (∀ i, i < zs.length → w.cell? (x.add i) = some (.int k (zs.getD i 0))) ∧ ∀ n ∈ zs, (Lit.int k n).wf = true) :
    ∃ nl, RelV (Inj.start w) (.fsl nl len ((zs.take len).map (AV.int k))) (.slice a len cap) ∧ (zs.take len).length = len ∧ (nl = true → len = 0) ∧ len ≤ maxLen ∧ ∀ n ∈ zs.take len, (Lit.int k n).wf = true := by
  rcases h with ⟨rfl, rfl, rfl, rfl⟩ | ⟨x, rfl, h1, h2, h3, h4, h5⟩
  · exact ⟨true, .fslN, rfl, fun _ => rfl, Nat.zero_le _, fun n hn => by cases hn⟩
  · have hlen : (zs.take len).length = len := by rw [List.length_take]; omega
    refine ⟨false, ?_, hlen, (fun h => by cases h), by omega, fun n hn => h5 n (List.mem_of_mem_take hn)⟩
    have hfz : len ≠ 0 → x.spot = none ∧ ∃ arr e fr, w.heap[x.block]? = some (.cells arr e fr) := by
      intro hl
      have h0 := h4 0 (by omega)
      have : x.add 0 = x := by simp [Addr.add]
      rw [this] at h0
      obtain ⟨s1, arr, e, fr, s2, _⟩ := cell_spot h0
      exact ⟨s1, arr, e, fr, s2⟩
    by_cases hl : len = 0
    · subst hl
      exact .fsl (arr := #[]) (vs := []) (fun hn => absurd rfl hn) .nil (fun k x hx => by cases hx) (Nat.zero_le _)
    · obtain ⟨s1, arr, e, fr, s2⟩ := hfz hl
      refine .fsl (arr := arr) (vs := (zs.take len).map (Value.int k)) (fun _ => ⟨s1, ?_⟩) ?_ (fun j y hj => ?_) h1
      · show fzAll w x.block = some arr
        unfold fzAll; rw [s2]
      · refine RelL.of_get (by simp) fun j v y hv hy => ?_
        rw [List.getElem?_map] at hv hy
        cases hz : (zs.take len)[j]? with
        | none => rw [hz] at hv; cases hv
        | some z => rw [hz] at hv hy; cases hv; cases hy; exact .int _ _
      · rw [List.getElem?_map] at hj
        cases hz : (zs.take len)[j]? with
        | none => rw [hz] at hj; cases hj
        | some z =>
          rw [hz] at hj; cases hj
          have hjl : j < len := by have := (List.getElem?_eq_some_iff.1 hz).1; omega
          rw [List.getElem?_take, if_pos hjl] at hz
          have h0 := h4 j (by omega)
          have hg : zs.getD j 0 = z := by rw [List.getD_eq_getElem?_getD, hz]; rfl
          rw [hg] at h0
          obtain ⟨_, arr', e', fr', t2, t3⟩ := cell_spot h0
          have hb : (x.add j).block = x.block ∧ (x.add j).off = x.off + j := ⟨(addr_add_off x j).1, (addr_add_off x j).2.1⟩
          rw [hb.1, s2] at t2
          injection t2 with t2; injection t2 with t2 _ _; subst t2
          rw [hb.2] at t3; exact t3

theorem int_range {k : IntKind} {n : Int} (h : (Lit.int k n).wf = true) : k.min ≤ n ∧ n ≤ k.max := by
  simpa [Lit.wf] using h
theorem u8_range {n : Int} (h : (Lit.int .u8 n).wf = true) : 0 ≤ n ∧ n < 256 := by
  have := int_range h
  simp [IntKind.min, IntKind.max, IntKind.signed, IntKind.bits] at this
  omega
theorem bytes_of_ints {zs : List Int} (h : ∀ n ∈ zs, (Lit.int .u8 n).wf = true) : ∃ l : List UInt8, l.length = zs.length ∧ zs.map (AV.int .u8) = ofBytes l := by
  induction zs with
  | nil => exact ⟨[], rfl, rfl⟩
  | cons z zs ih =>
    obtain ⟨l, h1, h2⟩ := ih fun n hn => h n (by simp [hn])
    obtain ⟨r1, r2⟩ := u8_range (h z (by simp))
    refine ⟨UInt8.ofNat z.toNat :: l, by simp [h1], ?_⟩
    simp only [List.map_cons, h2, ofBytes]
    congr 2
    have : (UInt8.ofNat z.toNat).toNat = z.toNat % 256 := by simp
    rw [this]
    omega
end Go.Ab
end
end

/- Rows of functions: of plain values; of new blocks. -/
section
set_option autoImplicit false
set_option linter.unusedVariables false
set_option linter.unusedSimpArgs false
set_option linter.unusedSectionVars false
noncomputable section
namespace Go.Ab
open Go.RowKit

mutual
theorem AV.ren_id {nf : Bool} {ρ : Nat → Nat} : ∀ {v : AV}, v.ok nf (fun _ => false) = true → v.ren ρ = v
  | .undef, _ => rfl
  | .any, _ => rfl
  | .int _ _, _ => rfl
  | .bool _, _ => rfl
  | .str _, _ => rfl
  | .ptr none, _ => rfl
  | .ptr (some _), h => by simp [AV.ok] at h
  | .slice none _ _, _ => rfl
  | .slice (some _) _ _, h => by simp [AV.ok] at h
  | .map none, _ => rfl
  | .map (some _), h => by simp [AV.ok] at h
  | .func f x y, h => by
    simp only [AV.ok, Bool.and_eq_true] at h
    simp only [AV.ren, AV.renL_id h.1, AV.renL_id h.2]
  | .yield _, h => by simp [AV.ok] at h
  | .nilFunc, _ => rfl
  | .nilIface, _ => rfl
  | .iface _ v, h => by simp only [AV.ok] at h; simp only [AV.ren, AV.ren_id h]
  | .agg cs, h => by simp only [AV.ok] at h; simp only [AV.ren, AV.renL_id h]
  | .tuple cs, h => by simp only [AV.ok] at h; simp only [AV.ren, AV.renL_id h]
  | .fsl _ _ cs, h => by simp only [AV.ok, Bool.and_eq_true] at h; simp only [AV.ren, AV.renL_id h.2]
  | .fptr cs, h => by simp only [AV.ok, Bool.and_eq_true] at h; simp only [AV.ren, AV.renL_id h.2]
theorem AV.renL_id {nf : Bool} {ρ : Nat → Nat} : ∀ {v : List AV}, AV.okL nf (fun _ => false) v = true → AV.renL ρ v = v
  | [], _ => rfl
  | v :: vs, h => by
    simp only [AV.okL, Bool.and_eq_true] at h
    simp only [AV.renL, AV.ren_id h.1, AV.renL_id h.2]
end
mutual
theorem AV.ok_mono {nf : Bool} {p q : Nat → Bool} (hpq : ∀ b, p b = true → q b = true) : ∀ {v : AV}, v.ok nf p = true → v.ok nf q = true
  | .undef, _ => rfl
  | .any, _ => rfl
  | .int _ _, _ => rfl
  | .bool _, _ => rfl
  | .str _, _ => rfl
  | .ptr none, _ => rfl
  | .ptr (some a), h => hpq _ h
  | .slice none _ _, _ => rfl
  | .slice (some _) _ _, h => hpq _ h
  | .map none, _ => rfl
  | .map (some _), h => hpq _ h
  | .func f x y, h => by
    simp only [AV.ok, Bool.and_eq_true] at h ⊢
    exact ⟨AV.okL_mono hpq h.1, AV.okL_mono hpq h.2⟩
  | .yield _, h => hpq _ h
  | .nilFunc, _ => rfl
  | .nilIface, _ => rfl
  | .iface _ v, h => AV.ok_mono (v := v) hpq h
  | .agg cs, h => AV.okL_mono (v := cs) hpq h
  | .tuple cs, h => AV.okL_mono (v := cs) hpq h
  | .fsl _ _ cs, h => by simp only [AV.ok, Bool.and_eq_true] at h ⊢; exact ⟨h.1, AV.okL_mono hpq h.2⟩
  | .fptr cs, h => by simp only [AV.ok, Bool.and_eq_true] at h ⊢; exact ⟨h.1, AV.okL_mono hpq h.2⟩
theorem AV.okL_mono {nf : Bool} {p q : Nat → Bool} (hpq : ∀ b, p b = true → q b = true) : ∀ {v : List AV}, AV.okL nf p v = true → AV.okL nf q v = true
  | [], _ => rfl
  | v :: vs, h => by
    simp only [AV.okL, Bool.and_eq_true] at h ⊢
    exact ⟨AV.ok_mono hpq h.1, AV.okL_mono hpq h.2⟩
end

/-- a plain result. -/
def RSum.pl (nf : Bool) (m : List AV → Option (List Bool × AV)) : RSum := ⟨nf, fun us => (m us).ob fun r => some (r.1, fun _ => (r.2, []))⟩
theorem RSum.pl_ok {cx : Cx} {g : FuncId} {nf : Bool} {m : List AV → Option (List Bool × AV)}
    (h : ∀ us c v, m us = some (c, v) → allTrue c = true → v.ok nf (fun _ => false) = true ∧ ∃ f h', aCall cx f (.fn g) us H0 = some (v, h')) : (RSum.pl nf m).OK cx g := by
  intro us c q hq hc
  simp only [RSum.pl] at hq
  replace hq := ob_eq hq; obtain ⟨⟨c', v⟩, hm, hq⟩ := hq
  injection hq with hq; injection hq with e1 e2; subst e1; subst e2
  obtain ⟨hv, f, h', hrun⟩ := h us c' v hm hc
  refine ⟨f, v, h', [], hrun, AV.ok_mono (fun b hb => by cases hb) hv, (fun l l' j e => by cases e), fun n ρ hρ => ⟨AV.Le.of_eq (AV.ren_id hv), rfl, fun l j b e => by cases e⟩⟩

/-- a result in new blocks of plain cells; the value by the first number. -/
def RSum.nb (nf : Bool) (m : List AV → Option (List Bool × (Nat → AV) × List Blk)) : RSum := ⟨nf, fun us => (m us).ob fun r => some (r.1, fun n => (r.2.1 n, r.2.2))⟩
def Blk.plainOwn (nf : Bool) : Blk → Bool
  | .cells o _ _ cs => o && AV.okL nf (fun _ => false) cs
  | _ => false
theorem RSum.nb_ok {cx : Cx} {g : FuncId} {nf : Bool} {m : List AV → Option (List Bool × (Nat → AV) × List Blk)}
    (h : ∀ us c v bs, m us = some (c, v, bs) → allTrue c = true → (∀ b ∈ bs, b.plainOwn nf = true) ∧ ∃ (f : Nat) (h' : Heap) (sel : List Nat) (v0 : AV), aCall cx f (.fn g) us H0 = some (v0, h') ∧ sel.map h'.get = bs ∧
      (∀ (l l' j : Nat), sel[l]? = some j → sel[l']? = some j → l = l') ∧ v0.ok nf (fun b => sel.contains b) = true ∧ ∀ (n : Nat) (ρ : Nat → Nat), (∀ (l j : Nat), sel[l]? = some j → ρ j = n + l) → AV.Le (v0.ren ρ) (v n)) : (RSum.nb nf m).OK cx g := by
  intro us c q hq hc
  simp only [RSum.nb] at hq
  replace hq := ob_eq hq; obtain ⟨⟨c', v, bs⟩, hm, hq⟩ := hq
  injection hq with hq; injection hq with e1 e2; subst e1; subst e2
  obtain ⟨hb, f, h', sel, v0, hrun, hsel, hnd, hok, hren⟩ := h us c' v bs hm hc
  refine ⟨f, v0, h', sel, hrun, hok, hnd, fun n ρ hρ => ⟨hren n ρ hρ, by rw [← hsel]; simp, fun l j b e eb => ?_⟩⟩
  have hb1 : h'.get j = b := by
    simp only [← hsel, List.getElem?_map, e] at eb
    simpa using eb
  have hb2 := hb b (List.mem_of_getElem? eb)
  rw [hb1]
  cases b <;> simp only [Blk.plainOwn] at hb2 <;> try (cases hb2; done)
  simp only [Bool.and_eq_true] at hb2
  refine ⟨?_, ?_⟩
  · simp only [Blk.ren]; rw [AV.renL_id hb2.2]
  · simp only [Blk.ok, Bool.and_eq_true]; exact ⟨hb2.1, AV.okL_mono (fun b hb => by cases hb) hb2.2⟩

/-- a function without arguments. -/
def RSum.const (v : AV) : RSum := RSum.pl true fun us => match us with
  | [] => some ([], v)
  | _ => none
theorem RSum.const_ok {cx : Cx} {g : FuncId} {v : AV} (hv : v.ok true (fun _ => false) = true) {f : Nat} (h : ∃ h', aCall cx f (.fn g) [] H0 = some (v, h')) : (RSum.const v).OK cx g := by
  refine RSum.pl_ok fun us c u hm hc => ?_
  split at hm
  · injection hm with hm; injection hm with e1 e2; subst e2
    obtain ⟨h', h⟩ := h
    exact ⟨hv, f, h', h⟩
  · cases hm
/-- of a row of no cells the capacity isn't told. -/
theorem AV.Le.empty (b : Nat) : AV.Le (.slice (some (b, 0)) 0 (some 0)) (.slice (some (b, 0)) 0 none) := by
  intro μ x h
  cases h with
  | slice e h1 h2 => exact .sliceU e h1 h2 (fun _ => by simp)
/-- one block. -/
theorem sel_one (k : Nat) : ∀ (l l' j : Nat), [k][l]? = some j → [k][l']? = some j → l = l' := by
  intro l l' j h h'
  cases l with
  | zero => cases l' with
    | zero => rfl
    | succ l' => simp at h'
  | succ l => simp at h

/-- **A loop that leaves the heap, by rounds**: enc: the slots' values of a state; fin: how it ends from there. -/
theorem PLoop.ok_by {P : Program} {ty : TypeId → Option ATy} {L : PLoop} {id : Nat} {b : Code} (hb : L.code = .loop b) {α : Type} (enc : α → List AV) (fin : α → AX × List AV) (ok : α → Prop) (meas : α → Nat)
    (hm : ∀ vs conds X vs', L.m vs = some (conds, X, vs') → allTrue conds = true → ∃ p, ok p ∧ vs = enc p ∧ X = AX.inBlock id (fin p).1 ∧ vs' = (fin p).2)
    (step : ∀ p, ok p → ∀ ds H, (∃ p', ok p' ∧ fin p' = fin p ∧ meas p' < meas p ∧ CodeOK P (tyCx ty) L.nn H.next b ⟨frameOf L.nn (L.slots.zip (enc p)), ds, H⟩ .normal ⟨frameOf L.nn (L.slots.zip (enc p')), ds, H⟩) ∨
      ((fin p).1 ≠ .normal ∧ CodeOK P (tyCx ty) L.nn H.next b ⟨frameOf L.nn (L.slots.zip (enc p)), ds, H⟩ (fin p).1 ⟨frameOf L.nn (L.slots.zip (fin p).2), ds, H⟩)) : L.OK P (tyCx ty) id := by
  intro vs conds X vs' h hc _ ds H
  obtain ⟨p, hp, rfl, rfl, rfl⟩ := hm vs conds X vs' h hc
  have key := CodeOK.loop (P := P) (cx := tyCx ty) (nn := L.nn) (n0 := H.next) (b := b) (fun q : {q // ok q} => ⟨frameOf L.nn (L.slots.zip (enc q.1)), ds, H⟩) (fun q => ((fin q.1).1, ⟨frameOf L.nn (L.slots.zip (fin q.1).2), ds, H⟩)) (fun q => meas q.1) (fun q => by
    rcases step q.1 q.2 ds H with ⟨p', h1, h2, h3, h4⟩ | ⟨h1, h2⟩
    · exact .inl ⟨⟨p', h1⟩, h4, by simp only [h2], h3⟩
    · exact .inr ⟨h2, h1⟩) ⟨p, hp⟩
  rw [hb]
  exact CodeOK.block id key
end Go.Ab
end
end

/- Loops that write to a row of their own, or make it longer: the row is taken into a small heap, and comes back as a new one. -/
section
set_option autoImplicit false
set_option linter.unusedVariables false
set_option linter.unusedSimpArgs false
set_option linter.unusedSectionVars false
noncomputable section
namespace Go.Ab
open Go.RowKit

mutual
theorem AV.ok_of_plain {p : Nat → Bool} : ∀ {v : AV}, v.plain = true → v.ok false p = true
  | .undef, _ => rfl
  | .any, _ => rfl
  | .int _ _, _ => rfl
  | .bool _, _ => rfl
  | .str _, _ => rfl
  | .ptr none, _ => rfl
  | .ptr (some _), h => by simp [AV.plain] at h
  | .slice none _ _, _ => rfl
  | .slice (some _) _ _, h => by simp [AV.plain] at h
  | .map none, _ => rfl
  | .map (some _), h => by simp [AV.plain] at h
  | .func f x y, h => by
    simp only [AV.plain, Bool.and_eq_true] at h
    simp only [AV.ok, AV.okL_of_plain h.1, AV.okL_of_plain h.2, Bool.and_self]
  | .yield _, h => by simp [AV.plain] at h
  | .nilFunc, _ => rfl
  | .nilIface, _ => rfl
  | .iface _ v, h => by simp only [AV.plain] at h; simp only [AV.ok, AV.ok_of_plain h]
  | .agg cs, h => by simp only [AV.plain] at h; simp only [AV.ok, AV.okL_of_plain h]
  | .tuple cs, h => by simp only [AV.plain] at h; simp only [AV.ok, AV.okL_of_plain h]
  | .fsl _ _ cs, h => by simp only [AV.plain] at h; simp only [AV.ok, AV.okL_of_plain h, Bool.not_false, Bool.and_self]
  | .fptr cs, h => by simp only [AV.plain] at h; simp only [AV.ok, AV.okL_of_plain h, Bool.not_false, Bool.and_self]
theorem AV.okL_of_plain {p : Nat → Bool} : ∀ {v : List AV}, AV.plainL v = true → AV.okL false p v = true
  | [], _ => rfl
  | v :: vs, h => by
    simp only [AV.plainL, Bool.and_eq_true] at h
    simp only [AV.okL, AV.ok_of_plain h.1, AV.okL_of_plain h.2, Bool.and_self]
end
mutual
theorem AV.ren_plain {ρ : Nat → Nat} : ∀ {v : AV}, v.plain = true → v.ren ρ = v
  | v, h => AV.ren_id (nf := false) (AV.ok_of_plain h)
theorem AV.renL_plain {ρ : Nat → Nat} : ∀ {v : List AV}, AV.plainL v = true → AV.renL ρ v = v
  | v, h => AV.renL_id (nf := false) (AV.okL_of_plain h)
end

/-- a small heap of one row, or none. -/
def mk1 (ob : Option Blk) : Heap := Option.rec (motive := fun _ => Heap) H0 (fun b => H0.new b) ob
def add1 (ob : Option Blk) (H : Heap) : Heap := Option.rec (motive := fun _ => Heap) H (fun b => H.new b) ob
def Blk.plainB : Blk → Bool
  | .cells o _ _ cs => o && AV.plainL cs
  | _ => false
/-- a value of the small heap. -/
def zeroIn (v : AV) : Bool := match v with
  | .slice p _ _ => (match p with
    | none => true
    | some p => Nat.beq p.1 0)
  | v => v.plain
def okIn (v : AV) (ob : Option Blk) : Prop := match ob with
  | some b => b.plainB = true ∧ zeroIn v = true
  | none => v.plain = true

/-- what a loop takes: its slot's value; the row behind it. -/
structure Own where
  conds : List Bool
  v : AV
  ob : Option Blk
  H : Heap
def ownOf (H : Heap) (v : AV) : Option Own :=
  match v with
  | .slice p len c => match p with
    | none => some ⟨[], .slice none len c, none, H⟩
    | some p => match H.get p.1 with
      | .cells o e n cs => some ⟨[o, AV.plainL cs], .slice (some (0, p.2)) len c, some (.cells o e n cs), H.put p.1 .dead⟩
      | _ => none
  | .int k n => some ⟨[], .int k n, none, H⟩
  | .bool b => some ⟨[], .bool b, none, H⟩
  | .fsl a b cs => some ⟨[AV.plainL cs], .fsl a b cs, none, H⟩
  | _ => none
def backOf (n : Nat) (v : AV) : AV :=
  match v with
  | .slice p len c => match p with
    | none => .slice none len c
    | some p => .slice (some (n, p.2)) len c
  | v => v

structure HLoop where
  nn : Nat
  code : Code
  own : Nat
  slots : List Nat
  m : AV → Option Blk → List AV → Option (List Bool × AX × AV × Option Blk × List AV)
def isNil {α : Type} (l : List α) : Bool := List.rec (motive := fun _ => Bool) true (fun _ _ _ => false) l
theorem isNil_eq {α : Type} {l : List α} (h : isNil l = true) : l = [] := by
  cases l with
  | nil => rfl
  | cons a l => cases h
def HLoop.lsum (L : HLoop) : LSum where
  code := L.code
  run nn s := cb (Nat.beq nn L.nn) (cb (isNil s.ds) ((ownOf s.H (s.fr.get L.own)).ob fun w => (L.m w.v w.ob (L.slots.map s.fr.get)).ob fun r =>
    cb (allTrue (w.conds ++ AV.plainL (L.slots.map s.fr.get) :: r.1)) (some (r.2.1, ⟨frameOf L.nn ((L.own, backOf s.H.next r.2.2.1) :: L.slots.zip r.2.2.2.2), [], add1 r.2.2.2.1 w.H⟩)) none) none) none
def HLoop.lsumS (L : HLoop) : Code × (Nat → St → S (AX × St)) :=
  (L.code, fun nn s => cb (Nat.beq nn L.nn) (cb (isNil s.ds) (S.bind (S.lift (ownOf s.H (s.fr.get L.own))) fun w => S.bind (S.lift (L.m w.v w.ob (L.slots.map s.fr.get))) fun r =>
    musts (w.conds ++ AV.plainL (L.slots.map s.fr.get) :: r.1) (S.pure (r.2.1, ⟨frameOf L.nn ((L.own, backOf s.H.next r.2.2.1) :: L.slots.zip r.2.2.2.2), [], add1 r.2.2.2.1 w.H⟩))) S.fail) S.fail)
theorem HLoop.snd (L : HLoop) (nn : Nat) (s : St) : Snd (L.lsumS.2 nn s) (L.lsum.run nn s) :=
  Snd.cb_bool (Snd.cb_bool (Snd.bind (Snd.lift _) fun w _ => Snd.bind (Snd.lift _) fun r _ => musts_snd (Snd.pure _) _) (Snd.fail _)) (Snd.fail _)

/-- what is owed for it. -/
def HLoop.OK (P : Program) (cx : Cx) (id : Nat) (L : HLoop) : Prop :=
  ∀ v ob us conds X v' ob' us', L.m v ob us = some (conds, X, v', ob', us') → allTrue conds = true → us.length = L.slots.length → AV.plainL us = true → okIn v ob →
    AV.plainL us' = true ∧ okIn v' ob' ∧ CodeOK P cx L.nn 0 (.block id L.code) ⟨frameOf L.nn ((L.own, v) :: L.slots.zip us), [], mk1 ob⟩ X ⟨frameOf L.nn ((L.own, v') :: L.slots.zip us'), [], mk1 ob'⟩

abbrev HTab := List ((FuncId × Nat) × HLoop)
def htFind (l : HTab) (fn : FuncId) (id : Nat) : Option HLoop := List.rec (motive := fun _ => Option HLoop) none (fun p _ r => cb (Nat.beq fn p.1.1 && Nat.beq id p.1.2) (some p.2) r) l
theorem htFind_mem {l : HTab} {fn : FuncId} {id : Nat} {L : HLoop} (h : htFind l fn id = some L) : ((fn, id), L) ∈ l := by
  induction l with
  | nil => cases h
  | cons p l ih =>
    change cb (Nat.beq fn p.1.1 && Nat.beq id p.1.2) (some p.2) (htFind l fn id) = some L at h
    cases hb : (Nat.beq fn p.1.1 && Nat.beq id p.1.2) with
    | true =>
      rw [hb, cb_true] at h
      injection h with h
      rw [Bool.and_eq_true] at hb
      have h1 := Nat.eq_of_beq_eq_true hb.1
      have h2 := Nat.eq_of_beq_eq_true hb.2
      subst h1; subst h2; subst h
      obtain ⟨⟨a, b⟩, c⟩ := p
      simp
    | false =>
      rw [hb, cb_false] at h
      simp [ih h]
def htLoop (l : HTab) : FuncId → Nat → Option LSum := fun fn id => (htFind l fn id).ob fun L => some L.lsum
def htLoopS (l : HTab) : LoopS := fun fn id => (htFind l fn id).ob fun L => some L.lsumS
theorem htLoops_snd {cx : Cx} {l : HTab} (h : cx.loop = htLoop l) : LoopsSOK cx (htLoopS l) := by
  refine ⟨fun fn id m hm => ?_, fun fn id hm => ?_⟩
  · unfold htLoopS at hm
    replace hm := ob_eq hm; obtain ⟨L, hL, hm⟩ := hm
    injection hm with hm; subst hm
    exact ⟨L.lsum, by rw [h, htLoop, hL]; rfl, rfl, fun n s => L.snd n s⟩
  · unfold htLoopS at hm
    rw [h, htLoop]
    cases hL : htFind l fn id with
    | none => rfl
    | some L => rw [hL] at hm; cases hm

section
variable {sz : TypeId → Nat} {base : Nat → Prop} {w0 w w' : World} {μ : Inj} {H : Heap}

theorem relF_frameOf' {μ : Inj} {tmps : Array Value} {n : Nat} (hs : tmps.size = n) (l : List (Nat × AV)) (h : ∀ q ∈ l, RelV μ q.2 (tmps.getD q.1 Go.undef)) : RelF μ (frameOf n l).get tmps := by
  intro t
  rw [frameOf_get]
  cases hx : l.find? fun p => p.1 == t with
  | some q =>
    have hm := List.mem_of_find?_eq_some hx
    have he := List.find?_some hx
    simp only [Option.map_some, Option.getD_some]
    rw [← eq_of_beq he]; exact h q hm
  | none =>
    simp only [Option.map_none, Option.getD_none]
    split
    · exact .any
    · rename_i ht
      rw [Array.getD_eq_getD_getElem?, Array.getElem?_eq_none (by omega)]
      exact .undef

/-- one row, by itself. -/
theorem relW_one (hw : RelW sz base w0 μ H w) {b : Nat} {i : BI} {e : TypeId} {n : Nat} {cs : List AV} (hi : μ b = some i) (hg : H.get b = .cells true e n cs) (hp : AV.plainL cs = true) :
    RelW sz (fun k => k < w.heap.size ∧ k ≠ i.blk) w ⟨fun j => if j = 0 then some i else none, μ.fz, w.heap.size⟩ (mk1 (some (.cells true e n cs))) w := by
  have h0 := hw.blk b i hi
  have hget : (mk1 (some (.cells true e n cs))).get 0 = .cells true e n cs := by
    show (H0.new _).get 0 = _
    rw [Heap.get_new]; rfl
  refine ⟨Keep.refl _ _, fun k h => h.1, fun c j e => ?_, fun c j e => ?_, fun c c' j j' e e' hne => ?_, hw.froz, fun c j k arr e hwr hz => ?_, Nat.le_refl _⟩
  · change (if c = 0 then some i else none) = some j at e
    split at e
    · rename_i h; subst h; show 0 < 1; omega
    · cases e
  · change (if c = 0 then some i else none) = some j at e
    split at e
    · rename_i h; subst h; injection e with e; subst e
      rw [hget]
      rw [hg] at h0
      obtain ⟨hl, arr, e', fr, ha, hcs, hown⟩ := h0
      obtain ⟨h1, h2⟩ := hown rfl
      refine ⟨hl, arr, e', fr, ha, fun k v hv => ?_, fun _ => ⟨fun h => h.2 rfl, h2⟩⟩
      obtain ⟨x, hx, hr⟩ := hcs k v hv
      have hvp : v.plain = true := by
        have key : ∀ l : List AV, AV.plainL l = true → ∀ v ∈ l, v.plain = true := by
          intro l
          induction l with
          | nil => intro _ v hv; cases hv
          | cons a l ih =>
            intro h v hv
            simp only [AV.plainL, Bool.and_eq_true] at h
            rcases List.mem_cons.1 hv with rfl | hv
            · exact h.1
            · exact ih h.2 v hv
        exact key _ hp v (List.mem_of_getElem? hv)
      refine ⟨x, hx, RelV.move (μ := μ) ?_ hvp hr⟩
      exact fun _ _ e => e
    · cases e
  · change (if c = 0 then some i else none) = some j at e
    change (if c' = 0 then some i else none) = some j' at e'
    split at e
    · split at e'
      · rename_i h h'; exact absurd (h.trans h'.symm) hne
      · cases e'
    · cases e
  · change (if c = 0 then some i else none) = some j at e
    split at e
    · injection e with e; subst e
      exact hw.frozApart b i k arr hi (by rw [hg]; rfl) hz
    · cases e

/-- none. -/
theorem relW_none (hw : RelW sz base w0 μ H w) : RelW sz (fun k => k < w.heap.size) w ⟨fun _ => none, μ.fz, w.heap.size⟩ (mk1 none) w := by
  refine ⟨Keep.refl _ _, fun k h => h, fun c j e => ?_, fun c j e => ?_, fun c c' j j' e e' hne => ?_, hw.froz, fun c j k arr e hwr hz => ?_, Nat.le_refl _⟩ <;> cases e

/-- back. -/
theorem relW_back {prot' : Nat → Prop} {μ' : Inj} {ob : Option Blk} {H1 : Heap} (hw : RelW sz base w0 μ H w) (hs : RelW sz prot' w μ' (mk1 ob) w') (hpp : ∀ k, base k → prot' k)
    (hz : ∀ k arr, μ.fz k = some arr → μ'.fz k = some arr) (hz3 : ∀ k arr, μ'.fz k = some arr → μ.fz k = some arr ∨ w.heap.size ≤ k) (hn : H1.next = H.next)
    (hold : ∀ c, c < H.next → H1.get c = .dead ∨ (H1.get c = H.get c ∧ ∀ i, μ c = some i → (H.get c).live = true → prot' i.blk)) (hob : ∀ b, ob = some b → b.plainB = true) :
    ∃ μ2, RelW sz base w0 μ2 (add1 ob H1) w' ∧ (∀ i, ob.isSome = true → μ' 0 = some i → μ2 H.next = some i) ∧ Grow H.next μ μ2 ∧ μ2.fz = μ'.fz := by
  have plainR : ∀ b : Blk, b.plainB = true → ∀ (ρ : Nat → Nat), b.ren ρ = b ∧ b.ok false (fun j => Nat.beq j 0 && ob.isSome) = true := by
    intro b hb ρ
    cases b <;> simp only [Blk.plainB] at hb <;> try (cases hb; done)
    simp only [Bool.and_eq_true] at hb
    exact ⟨by simp only [Blk.ren, AV.renL_plain hb.2], by simp only [Blk.ok, hb.1, AV.okL_of_plain hb.2, Bool.and_self]⟩
  have hsel : ∀ (sel : List Nat) (H' : Heap), sel = (match ob with | some _ => [0] | none => []) → H' = add1 ob H1 → _ := fun sel H' e1 e2 =>
    rebuild hw hs false (fun j => Nat.beq j 0 && ob.isSome) (fun j => H.next + j) sel (fun _ => none) μ'.fz H' hpp hz (fun _ _ e => e) hz3 (fun _ _ _ e => e)
      (by subst e1; subst e2; cases ob <;> simp [add1, hn])
      (by
        subst e1
        cases ob with
        | none => intro l l' j h; simp at h
        | some b => exact sel_one 0)
      (by
        intro j hj
        rw [Bool.and_eq_true] at hj
        have h0 := Nat.eq_of_beq_eq_true hj.1
        subst h0
        cases ob with
        | none => cases hj.2
        | some b => subst e1; exact .inl ⟨0, rfl, rfl⟩)
      (by
        intro c hc
        have he : H'.get c = H1.get c := by
          subst e2
          cases ob with
          | none => rfl
          | some b => show (H1.new b).get c = _; rw [Heap.get_new, if_neg (by omega)]
        rw [he]
        rcases hold c hc with h | ⟨h1, h2⟩
        · exact .inl h
        · exact .inr (.inl ⟨rfl, h1, h2⟩))
      (by intro c c' j hj; cases hj)
      (by
        intro l j hlj
        subst e1; subst e2
        cases ob with
        | none => simp at hlj
        | some b =>
          cases l with
          | succ l => simp at hlj
          | zero =>
            simp only [List.getElem?_cons_zero, Option.some.injEq] at hlj
            subst hlj
            have hg : (mk1 (some b)).get 0 = b := by show (H0.new b).get 0 = _; rw [Heap.get_new]; rfl
            obtain ⟨p1, p2⟩ := plainR b (hob b rfl) (fun j => H.next + j)
            rw [hg, p1]
            refine ⟨?_, p2⟩
            show (H1.new b).get (H.next + 0) = b
            rw [Heap.get_new, if_pos (by omega)])
  obtain ⟨r1, r2, r3⟩ := hsel _ _ rfl rfl
  refine ⟨_, r1, fun i hi e => ?_, r3, rfl⟩
  have := r2 0 i (by simp [hi]) e
  exact this
end

/-- **A list of such loops is sound**, if each is what its code does. -/
theorem htLoops_ok {P : Program} {cx : Cx} {l : HTab} (h : cx.loop = htLoop l) (hl : ∀ p ∈ l, p.2.OK P cx p.1.2) (base : Nat → Prop) (w0 : World) : LoopsOK P cx base w0 := by
  intro fn id L hL nn r n s s' X μ a w Q hrun h1 h2 h3 h4 hq
  rw [h, htLoop] at hL
  replace hL := ob_eq hL; obtain ⟨L0, hL0, hL⟩ := hL
  injection hL with hL; subst hL
  have hok : HLoop.OK P cx id L0 := hl _ (htFind_mem hL0)
  simp only [HLoop.lsum] at hrun
  cases hnn : Nat.beq nn L0.nn with
  | false => rw [hnn] at hrun; cases hrun
  | true =>
  rw [hnn, cb_true] at hrun
  have hnn := Nat.eq_of_beq_eq_true hnn
  subst hnn
  cases hds : isNil s.ds with
  | false => rw [hds] at hrun; cases hrun
  | true =>
  rw [hds, cb_true] at hrun
  have hds := isNil_eq hds
  rw [hds] at h3
  have hes : a.defers = [] := by
    generalize a.defers = es at h3
    cases h3; rfl
  replace hrun := ob_eq hrun; obtain ⟨ow, how, hrun⟩ := hrun
  replace hrun := ob_eq hrun; obtain ⟨⟨conds, X0, v', ob', us'⟩, hm, hrun⟩ := hrun
  simp only at hrun
  cases hc : allTrue (ow.conds ++ AV.plainL (L0.slots.map s.fr.get) :: conds) with
  | false => rw [hc] at hrun; cases hrun
  | true =>
  rw [hc, cb_true] at hrun
  injection hrun with hrun; injection hrun with e1 e2
  subst e1; subst e2
  rw [allTrue_append, allTrue_cons] at hc
  obtain ⟨hc1, hc2, hc3⟩ := hc
  -- the slots in the small heap
  have slot : ∀ (μs : Inj), (∀ k arr, μ.fz k = some arr → μs.fz k = some arr) → ∀ q ∈ L0.slots.zip (L0.slots.map s.fr.get), RelV μs q.2 (a.tmps.getD q.1 Go.undef) := by
    intro μs hz q hq
    obtain ⟨i, hi⟩ := List.getElem?_of_mem hq
    rw [List.getElem?_zip_eq_some] at hi
    obtain ⟨i1, i2⟩ := hi
    have hpl := AV.okL_get (nf := false) (p := fun _ => false) (AV.okL_of_plain hc2) i2
    rw [List.getElem?_map, i1] at i2
    simp only [Option.map_some, Option.some.injEq] at i2
    rw [← i2] at hpl ⊢
    have hr := h1 q.1
    have hpl' : (s.fr.get q.1).plain = true := by
      have key : ∀ (l : List Nat), AV.plainL (l.map s.fr.get) = true → ∀ t ∈ l, (s.fr.get t).plain = true := by
        intro l
        induction l with
        | nil => intro _ t ht; cases ht
        | cons a l ih =>
          intro h t ht
          simp only [List.map_cons, AV.plainL, Bool.and_eq_true] at h
          rcases List.mem_cons.1 ht with rfl | ht
          · exact h.1
          · exact ih h.2 t ht
      exact key _ hc2 q.1 (List.mem_of_getElem? i1)
    exact RelV.move hz hpl' hr
  -- what comes back
  have back : ∀ (prot' : Nat → Prop) (μs : Inj) (H1 : Heap), RelW (szOf cx) prot' w μs (mk1 ow.ob) w → RelV μs ow.v (a.tmps.getD L0.own Go.undef) → μs.fz = μ.fz → μs.lo = w.heap.size → okIn ow.v ow.ob → (∀ k, base k → prot' k) → H1.next = s.H.next →
      (∀ c, c < s.H.next → H1.get c = .dead ∨ (H1.get c = s.H.get c ∧ ∀ i, μ c = some i → (s.H.get c).live = true → prot' i.blk)) → ow.H = H1 → (Code.block id L0.code).wpIn (FF r) n P Q a w := by
    intro prot' μs H1 k1 k2 k3 k4 k5 k6 k7 k8 k9
    obtain ⟨o1, o2, o3⟩ := hok _ _ _ _ _ _ _ _ hm hc3 (by simp) hc2 k5
    have hin : RelF μs (frameOf L0.nn ((L0.own, ow.v) :: L0.slots.zip (L0.slots.map s.fr.get))).get a.tmps := by
      refine relF_frameOf' h2 _ fun q hq => ?_
      rcases List.mem_cons.1 hq with rfl | hq
      · exact k2
      · exact slot μs (by rw [k3]; exact fun _ _ e => e) q hq
    refine o3.ok (a := a) hin h2 (by rw [hes]; exact .nil) k1 fun a' w' ⟨μ', g, f, d, w1⟩ hs => ?_
    · obtain ⟨μ2, r1, r2, r3, r4⟩ := relW_back (H1 := H1) h4 w1 k6 (fun k arr e => g.fz k arr (by rw [k3]; exact e)) (fun k arr e => by
          rcases g.fzn k arr e with e | e
          · rw [k3] at e; exact .inl e
          · rw [k4] at e; exact .inr e) k7 k8 (fun b hb => by rw [hb] at o2; exact o2.1)
      refine hq a' w' ⟨?_, ⟨μ2, r3, ?_, ?_, by rw [k9]; exact r1⟩, hs⟩
      · show s.H.next ≤ (add1 ob' ow.H).next
        rw [k9]
        cases ob' with
        | none => show _ ≤ H1.next; omega
        | some b => show _ ≤ H1.next + 1; omega
      · have fzz : ∀ k arr, μ'.fz k = some arr → μ2.fz k = some arr := by rw [r4]; exact fun _ _ e => e
        intro t
        have ft := f t
        rw [frameOf_get] at ft ⊢
        by_cases ht : L0.own = t
        · subst ht
          simp only [List.find?_cons_of_pos, beq_self_eq_true, Option.map_some, Option.getD_some] at ft ⊢
          cases hob : ob' with
          | none =>
            rw [hob] at o2
            have o2 : v'.plain = true := o2
            have : backOf s.H.next v' = v' := by
              cases v' with
              | slice p l c =>
                cases p with
                | none => rfl
                | some p => simp [AV.plain] at o2
              | _ => rfl
            rw [this]
            exact RelV.move fzz o2 ft
          | some b =>
            rw [hob] at o2 r2
            obtain ⟨_, o2⟩ := o2
            cases v' with
            | slice p len c =>
              cases p with
              | none => exact RelV.move fzz rfl ft
              | some p =>
                exact RelV.ren (nf := false) (p := fun j => Nat.beq j 0) (v := .slice (some p) len c) (ρ := fun _ => s.H.next) (μ := μ') (μ' := μ2) (fun c i hc e => by
                  have := Nat.eq_of_beq_eq_true hc
                  subst this
                  exact r2 i rfl e) (fun _ => fzz) (by have o2 : Nat.beq p.1 0 = true := o2; simp only [AV.ok]; exact o2) ft
            | _ => exact RelV.move fzz o2 ft
        · have hb : (L0.own == t) = false := by simpa using ht
          simp only [List.find?_cons, hb] at ft ⊢
          refine RelV.move fzz ?_ ft
          cases hx : List.find? (fun p => p.1 == t) (L0.slots.zip us') with
          | none =>
            simp only [Option.map_none, Option.getD_none]
            split <;> rfl
          | some q =>
            simp only [Option.map_some, Option.getD_some]
            have hm := List.mem_of_find?_eq_some hx
            obtain ⟨i, hi⟩ := List.getElem?_of_mem hm
            rw [List.getElem?_zip_eq_some] at hi
            have key : ∀ (l : List AV) (i : Nat) (v : AV), AV.plainL l = true → l[i]? = some v → v.plain = true := by
              intro l
              induction l with
              | nil => intro i v _ h; cases h
              | cons a l ih =>
                intro i v hl h
                simp only [AV.plainL, Bool.and_eq_true] at hl
                cases i with
                | zero => simp at h; subst h; exact hl.1
                | succ i => exact ih i v hl.2 (by simpa using h)
            exact key _ _ _ o1 hi.2
      · generalize a'.defers = es at d
        cases d
        exact .nil
  -- the ways in
  have old : ∀ k, base k → k < w.heap.size := fun k hk => h4.baseLe k hk
  have hr := h1 L0.own
  have none_in : ∀ (v : AV), v.plain = true → s.fr.get L0.own = v ∨ (∃ l c, v = .slice none l c ∧ s.fr.get L0.own = v) → ow.v = v → ow.ob = none → ow.H = s.H → (Code.block id L0.code).wpIn (FF r) n P Q a w := by
    intro v hv hsv e1 e2 e3
    refine back (fun k => k < w.heap.size) ⟨fun _ => none, μ.fz, w.heap.size⟩ s.H (by rw [e2]; exact relW_none h4) ?_ rfl rfl ?_ old rfl (fun c hc => .inr ⟨rfl, fun i hi hlive => (h4.blk c i hi).lt hlive⟩) e3
    · rw [e1]
      have hsv : s.fr.get L0.own = v := by
        rcases hsv with h | ⟨_, _, _, h⟩ <;> exact h
      rw [hsv] at hr
      refine RelV.move (μ := μ) ?_ hv hr
      exact fun _ _ e => e
    · rw [e1, e2]; exact hv
  generalize hv : s.fr.get L0.own = v at how
  unfold ownOf at how
  cases v <;> try (cases how; done)
  case int k z => injection how with how; exact none_in _ rfl (.inl hv) (by rw [← how]) (by rw [← how]) (by rw [← how])
  case bool k => injection how with how; exact none_in _ rfl (.inl hv) (by rw [← how]) (by rw [← how]) (by rw [← how])
  case fsl nl l cs =>
    injection how with how
    rw [← how, allTrue_cons] at hc1
    exact none_in _ (by simpa [AV.plain] using hc1.1) (.inl hv) (by rw [← how]) (by rw [← how]) (by rw [← how])
  case slice p len c =>
    cases p with
    | none => injection how with how; exact none_in _ rfl (.inl hv) (by rw [← how]) (by rw [← how]) (by rw [← how])
    | some p =>
      simp only at how
      split at how
      · rename_i o e nc cs hg
        injection how with how
        rw [← how, allTrue_cons, allTrue_cons] at hc1
        obtain ⟨ho, hpl, _⟩ := hc1
        subst ho
        rw [hv] at hr
        obtain ⟨i, ad, k, hi, _⟩ := rel_slice hr
        have hbi := h4.blk p.1 i hi
        rw [hg] at hbi
        refine back (fun k => k < w.heap.size ∧ k ≠ i.blk) ⟨fun j => if j = 0 then some i else none, μ.fz, w.heap.size⟩ (s.H.put p.1 .dead) (by rw [← how]; exact relW_one h4 hi hg hpl) ?_ rfl rfl ?_ ?_ rfl ?_ (by rw [← how])
        · rw [← how]
          exact RelV.ren (nf := false) (p := fun j => Nat.beq j p.1) (ρ := fun _ => 0) (μ := μ) (μ' := ⟨fun j => if j = 0 then some i else none, μ.fz, w.heap.size⟩) (fun c j hc e => by
            have := Nat.eq_of_beq_eq_true hc
            subst this
            rw [hi] at e; exact e) (fun _ _ _ e => e) (by simp [AV.ok]) hr
        · rw [← how]
          exact ⟨by simp only [Blk.plainB, hpl, Bool.and_self], rfl⟩
        · intro k hk
          refine ⟨old k hk, fun e => ?_⟩
          subst e
          exact RelB.base hbi rfl hk
        · intro c hc
          rw [Heap.get_put]
          by_cases hcp : c = p.1
          · rw [if_pos hcp]; exact .inl rfl
          · rw [if_neg hcp]
            refine .inr ⟨rfl, fun j hj hlive => ⟨(h4.blk c j hj).lt hlive, fun e => ?_⟩⟩
            exact h4.apart p.1 c i j hi hj (fun h => hcp h.symm) (by rw [hg]; rfl) hlive e.symm
      · cases how
end Go.Ab
end
end

/- The machine with loops that write to a row of their own; their proofs by rounds. -/
section
set_option autoImplicit false
set_option linter.unusedVariables false
set_option linter.unusedSimpArgs false
set_option linter.unusedSectionVars false
noncomputable section
namespace Go.Ab
open Go.RowKit

def mkCxH (ty : TypeId → Option ATy) (fn : FuncId → Option Func) (ft : FTab) (lt : HTab) : Cx := { ty := ty, fn := fn, sum := ftSum ty ft, loop := htLoop lt }
def mkSH (ty : TypeId → Option ATy) (ft : FTab) (lt : HTab) : SumS := { fn := ftSumS ty ft, loop := htLoopS lt }
theorem mkSH_ok (ty : TypeId → Option ATy) (fn : FuncId → Option Func) (ft : FTab) (lt : HTab) : SumsOK (mkCxH ty fn ft lt) (mkSH ty ft lt) :=
  ftSums_snd (cx := mkCxH ty fn ft lt) rfl (htLoops_snd rfl)
theorem sums_allH {P : Program} {ty : TypeId → Option ATy} {fn : FuncId → Option Func} {ft : FTab} {lt : HTab} (hf : ∀ p ∈ ft, RSum.Sound P ty p.1 p.2) (hl : ∀ p ∈ lt, p.2.OK P (tyCx ty) p.1.2) : SumAll P (mkCxH ty fn ft lt) := by
  refine ⟨fun base w0 => ?_, fun base w0 => htLoops_ok (cx := mkCxH ty fn ft lt) rfl (fun p hp v ob us conds X v' ob' us' h1 h2 h3 h4 h5 => by
    obtain ⟨k1, k2, k3⟩ := hl p hp v ob us conds X v' ob' us' h1 h2 h3 h4 h5
    exact ⟨k1, k2, ⟨fun {_ _ _ _ _ _ _ _} => k3.ok⟩⟩) base w0⟩
  intro g args H H' v μ w xs hsum hw hr r n
  obtain ⟨s, hs, hsum⟩ := ftSum_one hsum
  exact hf _ hs base w0 hsum hw hr r n
theorem RSum.soundH {P : Program} {ty : TypeId → Option ATy} {fn : FuncId → Option Func} {ft : FTab} {lt : HTab} (hcx : CxOK P (mkCxH ty fn ft lt)) (hs : SumAll P (mkCxH ty fn ft lt)) {g : FuncId} {s : RSum} (h : s.OK (mkCxH ty fn ft lt) g) : RSum.Sound P ty g s := by
  intro base w0
  exact ftSums_ok hcx hs (cx' := { ty := ty, fn := fun _ => none, sum := ftSum ty [(g, s)] }) rfl rfl (fun p hp => by
    have : p = (g, s) := by simpa using hp
    subst this; exact h) base w0
theorem call_runH {ty : TypeId → Option ATy} {fn : FuncId → Option Func} {ft : FTab} {lt : HTab} {f : Nat} {t : Tgt} {args : List AV} {H : Heap} {v : AV} {ids : List Nat} {bs : List Blk} {q : List Ans} {c : List Cnd}
    (h : part (pCallB ids) (callS (mkCxH ty fn ft lt) (mkSH ty ft lt) f t args H q) = some ((v, bs), c)) (hc : HoldsL c) : ∃ h', aCall (mkCxH ty fn ft lt) f t args H = some (v, h') ∧ ids.map h'.get = bs := by
  obtain ⟨⟨v', h'⟩, q', h1, h2⟩ := part_eq h
  injection h2 with h2 h3
  subst h2
  exact ⟨h', callS_snd _ (mkSH_ok ty fn ft lt) f t args H q _ q' c h1 hc, h3⟩

theorem plainL_get : ∀ {l : List AV} {i : Nat} {v : AV}, AV.plainL l = true → l[i]? = some v → v.plain = true := by
  intro l
  induction l with
  | nil => intro i v _ h; cases h
  | cons a l ih =>
    intro i v hl h
    simp only [AV.plainL, Bool.and_eq_true] at hl
    cases i with
    | zero => simp at h; subst h; exact hl.1
    | succ i => exact ih hl.2 (by simpa using h)

section
variable {sz : TypeId → Nat} {base : Nat → Prop} {w0 w w' : World} {μ : Inj} {H : Heap}
theorem relW_forget (hw : RelW sz base w0 μ H w) : RelW sz base w0 ⟨fun _ => none, μ.fz, μ.lo⟩ (mk1 none) w := by
  refine ⟨hw.below, hw.baseLe, fun c j e => ?_, fun c j e => ?_, fun c c' j j' e e' hne => ?_, hw.froz, fun c j k arr e hwr hz => ?_, hw.lo⟩ <;> cases e
end

/-- code around a row of its own: its end, the row's slot, other slots, the row. -/
def pOwn (own : Nat) (sl : List Nat) (k : Nat) (r : AX × St) : AX × AV × List AV × List Nat × Blk := (r.1, r.2.fr.get own, sl.map r.2.fr.get, r.2.ds, r.2.H.get k)
theorem own_run0 {P : Program} {ty : TypeId → Option ATy} {fn : FuncId → Option Func} {ft : FTab} {lt : HTab} (hcx : CxOK P (mkCxH ty fn ft lt)) (hs : SumAll P (mkCxH ty fn ft lt)) {g f : Nat} {k : FuncId} {nn : Nat} {b : Code} {s : St} {X : AX} {own kk : Nat} {sl : List Nat} {v : AV} {us : List AV} {bb : Blk} {q : List Ans} {c : List Cnd}
    (h : part (pOwn own sl kk) (codeS (mkCxH ty fn ft lt) (htLoopS lt) (callS (mkCxH ty fn ft lt) (mkSH ty ft lt) g) k none nn f b s q) = some ((X, v, us, [], bb), c)) (hc : HoldsL c) (hr : noRange b = true) (hb : v.plain = true) (hv : AV.plainL us = true) :
    CodeOK P (tyCx ty) nn 0 b s X ⟨frameOf nn ((own, v) :: sl.zip us), [], mk1 none⟩ := by
  obtain ⟨⟨X', s1⟩, q', h1, h2⟩ := part_eq h
  unfold pOwn at h2
  injection h2 with e1 h2; injection h2 with e2 h2; injection h2 with e3 h2; injection h2 with e4 e5
  simp only at e1 e2
  subst e1
  have hrun := codeS_snd _ (htLoops_snd rfl) (callS_snd _ (mkSH_ok ty fn ft lt) g) k none nn f b s q _ q' c h1 hc
  have key : CodeOK P (mkCxH ty fn ft lt) nn 0 b s X' s1 := CodeOK.run hcx hs hrun (Nat.zero_le _) hr
  have wk : Weak P (mkCxH ty fn ft lt) nn 0 s1 ⟨frameOf nn ((own, v) :: sl.zip us), [], mk1 none⟩ := by
    refine ⟨fun {base w0 w μ tmps es} k1 k2 k3 k4 => ?_⟩
    refine ⟨⟨fun _ => none, μ.fz, μ.lo⟩, ⟨fun _ h => absurd h (Nat.not_lt_zero _), fun _ _ e => e, rfl, fun _ _ e => .inl e⟩, ?_, ?_, relW_forget k4⟩
    · show RelF _ (frameOf nn ((own, v) :: sl.zip us)).get tmps
      refine relF_frameOf' k2 _ fun p hp => ?_
      have fin : ∀ t u, u.plain = true → s1.fr.get t = u → RelV ⟨fun _ => none, μ.fz, μ.lo⟩ u (tmps.getD t Go.undef) := by
        intro t u hu ht
        have hr0 := k1 t
        rw [ht] at hr0
        refine RelV.move (μ := μ) ?_ hu hr0
        exact fun _ _ e => e
      rcases List.mem_cons.1 hp with rfl | hp
      · exact fin _ _ hb e2
      · obtain ⟨i, hi⟩ := List.getElem?_of_mem hp
        rw [List.getElem?_zip_eq_some] at hi
        obtain ⟨i1, i2⟩ := hi
        refine fin _ _ (plainL_get hv i2) ?_
        rw [← e3, List.getElem?_map, i1] at i2
        simpa using i2
    · rw [e4] at k3
      cases k3
      exact .nil
  have fin := key.weak wk
  exact ⟨fun {_ _ _ _ _ _ _ _} => fin.ok⟩

/-- By rounds. -/
abbrev HSt := AV × Option Blk × List AV
def HLoop.st (L : HLoop) (x : HSt) : St := ⟨frameOf L.nn ((L.own, x.1) :: L.slots.zip x.2.2), [], mk1 x.2.1⟩
theorem HLoop.ok_by {P : Program} {ty : TypeId → Option ATy} {L : HLoop} {id : Nat} {b : Code} (hb : L.code = .loop b) {α : Type} (enc : α → HSt) (fin : α → AX × HSt) (ok : α → Prop) (meas : α → Nat)
    (hm : ∀ v ob us conds X v' ob' us', L.m v ob us = some (conds, X, v', ob', us') → allTrue conds = true → AV.plainL us = true → okIn v ob → ∃ p, ok p ∧ (v, ob, us) = enc p ∧ X = AX.inBlock id (fin p).1 ∧ (v', ob', us') = (fin p).2 ∧ AV.plainL us' = true ∧ okIn v' ob')
    (step : ∀ p, ok p → (∃ p', ok p' ∧ fin p' = fin p ∧ meas p' < meas p ∧ CodeOK P (tyCx ty) L.nn 0 b (L.st (enc p)) .normal (L.st (enc p'))) ∨
      ((fin p).1 ≠ .normal ∧ CodeOK P (tyCx ty) L.nn 0 b (L.st (enc p)) (fin p).1 (L.st (fin p).2))) : L.OK P (tyCx ty) id := by
  intro v ob us conds X v' ob' us' h hc _ hpl hin
  obtain ⟨p, hp, e1, e2, e3, h1, h2⟩ := hm v ob us conds X v' ob' us' h hc hpl hin
  refine ⟨h1, h2, ?_⟩
  have key := CodeOK.loop (P := P) (cx := tyCx ty) (nn := L.nn) (n0 := 0) (b := b) (fun q : {q // ok q} => L.st (enc q.1)) (fun q => ((fin q.1).1, L.st (fin q.1).2)) (fun q => meas q.1) (fun q => by
    rcases step q.1 q.2 with ⟨p', h1, h2, h3, h4⟩ | ⟨h1, h2⟩
    · exact .inl ⟨⟨p', h1⟩, h4, by simp only [h2], h3⟩
    · exact .inr ⟨h2, h1⟩) ⟨p, hp⟩
  simp only [← e1, ← e3] at key
  rw [hb, e2]
  exact CodeOK.block id key
end Go.Ab
end
end

/- Loops around several rows of their own: the rows are taken into a small heap in the order in which the slots name them, and come back as new ones. -/
section
set_option autoImplicit false
set_option linter.unusedVariables false
set_option linter.unusedSimpArgs false
set_option linter.unusedSectionVars false
noncomputable section
namespace Go.Ab
open Go.RowKit

def mkL (bs : List Blk) : Heap := newAll bs H0
theorem mkL_next (bs : List Blk) : (mkL bs).next = bs.length := by
  unfold mkL; rw [newAll_next]; show 0 + _ = _; omega
theorem mkL_get (bs : List Blk) (j : Nat) : (mkL bs).get j = (bs[j]?).getD .dead := by
  unfold mkL
  rw [newAll_get, if_neg (by show ¬ j < 0; omega)]
  rfl
def killL (ns : List Nat) (H : Heap) : Heap := List.rec (motive := fun _ => Heap) H (fun b _ r => r.put b .dead) ns
theorem killL_next (ns : List Nat) (H : Heap) : (killL ns H).next = H.next := by
  induction ns with
  | nil => rfl
  | cons b ns ih => show ((killL ns H).put b .dead).next = _; rw [Heap.next_put, ih]
theorem killL_get (ns : List Nat) (H : Heap) (c : Nat) : (killL ns H).get c = if c ∈ ns then .dead else H.get c := by
  induction ns with
  | nil => rfl
  | cons b ns ih =>
    show ((killL ns H).put b .dead).get c = _
    rw [Heap.get_put]
    by_cases h : c = b
    · subst h; simp
    · rw [if_neg h, ih]; simp [h]
def memB (b : Nat) (l : List Nat) : Bool := List.rec (motive := fun _ => Bool) false (fun a _ r => cb (Nat.beq b a) true r) l
theorem memB_false {b : Nat} {l : List Nat} (h : memB b l = false) : b ∉ l := by
  induction l with
  | nil => simp
  | cons a l ih =>
    change cb (Nat.beq b a) true (memB b l) = false at h
    cases hb : Nat.beq b a with
    | true => rw [hb] at h; cases h
    | false =>
      rw [hb, cb_false] at h
      have : b ≠ a := fun e => by subst e; simp at hb
      simp [this, ih h]
def nodupB (l : List Nat) : Bool := List.rec (motive := fun _ => Bool) true (fun a l r => cb (memB a l) false r) l
theorem nodupB_true {l : List Nat} (h : nodupB l = true) : l.Nodup := by
  induction l with
  | nil => exact List.nodup_nil
  | cons a l ih =>
    change cb (memB a l) false (nodupB l) = true at h
    cases hb : memB a l with
    | true => rw [hb] at h; cases h
    | false =>
      rw [hb, cb_false] at h
      exact List.nodup_cons.2 ⟨memB_false hb, ih h⟩

/-- what a loop takes of a slot. -/
structure Own2 where
  conds : List Bool
  v : AV
  bs : List Blk
  ns : List Nat
def own2 (H : Heap) (k : Nat) (v : AV) : Option Own2 :=
  match v with
  | .slice p len c => match p with
    | none => some ⟨[], .slice none len c, [], []⟩
    | some p => match H.get p.1 with
      | .cells o e n cs => some ⟨[o, AV.plainL cs], .slice (some (k, p.2)) len c, [.cells o e n cs], [p.1]⟩
      | _ => none
  | .ptr p => match p with
    | none => some ⟨[], .ptr none, [], []⟩
    | some p => match H.get p.1 with
      | .cells o e n cs => some ⟨[o, AV.plainL cs], .ptr (some (k, p.2)), [.cells o e n cs], [p.1]⟩
      | _ => none
  | .int t n => some ⟨[], .int t n, [], []⟩
  | .bool b => some ⟨[], .bool b, [], []⟩
  | .str s => some ⟨[], .str s, [], []⟩
  | .fsl a b cs => some ⟨[AV.plainL cs], .fsl a b cs, [], []⟩
  | .func f x y => some ⟨[AV.plainL x && AV.plainL y], .func f x y, [], []⟩
  | _ => none
structure Owns2 where
  conds : List Bool
  vs : List AV
  bs : List Blk
  ns : List Nat
def owns2 (H : Heap) (l : List AV) : Nat → Option Owns2 :=
  List.rec (motive := fun _ => Nat → Option Owns2) (fun _ => some ⟨[], [], [], []⟩) (fun v _ r k => (own2 H k v).ob fun o => (r (k + o.bs.length)).ob fun q => some ⟨o.conds ++ q.conds, o.v :: q.vs, o.bs ++ q.bs, o.ns ++ q.ns⟩) l
def backS (n : Nat) (v : AV) : AV :=
  match v with
  | .slice p len c => match p with
    | none => .slice none len c
    | some p => .slice (some (n + p.1, p.2)) len c
  | .ptr p => match p with
    | none => .ptr none
    | some p => .ptr (some (n + p.1, p.2))
  | v => v
def inS (k : Nat) (v : AV) : Bool := match v with
  | .slice p _ _ => (match p with
    | none => true
    | some p => Nat.blt p.1 k)
  | .ptr p => (match p with
    | none => true
    | some p => Nat.blt p.1 k)
  | v => v.plain

section
variable {sz : TypeId → Nat} {base : Nat → Prop} {w0 w w' : World} {μ : Inj} {H : Heap}
/-- the injection of the rows taken. -/
def Inj.take (μ : Inj) (w : World) (ns : List Nat) : Inj := ⟨fun j => (ns[j]?).bind fun b => μ b, μ.fz, w.heap.size⟩
def protL (μ : Inj) (w : World) (ns : List Nat) (k : Nat) : Prop := k < w.heap.size ∧ ∀ b ∈ ns, ∀ i, μ b = some i → k ≠ i.blk

theorem relW_take (hw : RelW sz base w0 μ H w) {ns : List Nat} {bs : List Blk} (hl : ns.length = bs.length) (hnd : ns.Nodup) (hg : ∀ (j b : Nat), ns[j]? = some b → bs[j]? = some (H.get b) ∧ (H.get b).plainB = true) :
    RelW sz (protL μ w ns) w (μ.take w ns) (mkL bs) w := by
  have own : ∀ b : Blk, b.plainB = true → b.writes = true ∧ b.live = true := by
    intro b h
    cases b <;> simp only [Blk.plainB] at h <;> try (cases h; done)
    simp only [Bool.and_eq_true] at h
    exact ⟨h.1, rfl⟩
  have get : ∀ (j b : Nat), ns[j]? = some b → (mkL bs).get j = H.get b := by
    intro j b h
    rw [mkL_get, (hg j b h).1]; rfl
  refine ⟨Keep.refl _ _, fun k h => h.1, fun j i e => ?_, fun j i e => ?_, fun j j' i i' e e' hne h1 h2 => ?_, hw.froz, fun j i k arr e hwr hz => ?_, Nat.le_refl _⟩
  · obtain ⟨b, hb, _⟩ := Option.bind_eq_some_iff.1 e
    rw [mkL_next, ← hl]
    exact (List.getElem?_eq_some_iff.1 hb).1
  · obtain ⟨b, hb, e⟩ := Option.bind_eq_some_iff.1 e
    rw [get j b hb]
    have h0 := hw.blk b i e
    have hp := (hg j b hb).2
    cases hx : H.get b with
    | cells o t n cs =>
      rw [hx] at h0 hp
      simp only [Blk.plainB, Bool.and_eq_true] at hp
      obtain ⟨hl', arr, e', fr, ha, hcs, hown⟩ := h0
      refine ⟨hl', arr, e', fr, ha, fun k v hv => ?_, fun h => ⟨fun hh => hh.2 b (List.mem_of_getElem? hb) i e rfl, (hown h).2⟩⟩
      obtain ⟨x, hx, hr⟩ := hcs k v hv
      refine ⟨x, hx, RelV.move (μ := μ) ?_ (plainL_get hp.2 hv) hr⟩
      exact fun _ _ e => e
    | _ => rw [hx] at hp; cases hp
  · obtain ⟨b, hb, e⟩ := Option.bind_eq_some_iff.1 e
    obtain ⟨b', hb', e'⟩ := Option.bind_eq_some_iff.1 e'
    have hbb : b ≠ b' := by
      intro h
      subst h
      have q1 := List.getElem?_eq_some_iff.1 hb
      have q2 := List.getElem?_eq_some_iff.1 hb'
      obtain ⟨q1, r1⟩ := q1
      obtain ⟨q2, r2⟩ := q2
      exact hne ((List.getElem_inj hnd).1 (r1.trans r2.symm))
    exact hw.apart b b' i i' e e' hbb (own _ (hg j b hb).2).1 (own _ (hg j' b' hb').2).2
  · obtain ⟨b, hb, e⟩ := Option.bind_eq_some_iff.1 e
    exact hw.frozApart b i k arr e (own _ (hg j b hb).2).1 hz

/-- back. -/
theorem relW_backL {prot' : Nat → Prop} {μ' : Inj} {bs : List Blk} {H1 : Heap} (hw : RelW sz base w0 μ H w) (hs : RelW sz prot' w μ' (mkL bs) w') (hpp : ∀ k, base k → prot' k)
    (hz : ∀ k arr, μ.fz k = some arr → μ'.fz k = some arr) (hz3 : ∀ k arr, μ'.fz k = some arr → μ.fz k = some arr ∨ w.heap.size ≤ k) (hn : H1.next = H.next)
    (hold : ∀ c, c < H.next → H1.get c = .dead ∨ (H1.get c = H.get c ∧ ∀ i, μ c = some i → (H.get c).live = true → prot' i.blk)) (hob : ∀ b ∈ bs, b.plainB = true) :
    ∃ μ2, RelW sz base w0 μ2 (newAll bs H1) w' ∧ (∀ j i, j < bs.length → μ' j = some i → μ2 (H.next + j) = some i) ∧ Grow H.next μ μ2 ∧ μ2.fz = μ'.fz := by
  have hr : ∀ l j : Nat, (List.range bs.length)[l]? = some j → j = l ∧ l < bs.length := by
    intro l j h
    obtain ⟨h1, h2⟩ := List.getElem?_eq_some_iff.1 h
    simp at h1 h2
    exact ⟨h2.symm, h1⟩
  obtain ⟨r1, r2, r3⟩ := rebuild hw hs false (fun j => Nat.blt j bs.length) (fun j => H.next + j) (List.range bs.length) (fun _ => none) μ'.fz (newAll bs H1) hpp hz (fun _ _ e => e) hz3 (fun _ _ _ e => e)
      (by rw [newAll_next, hn, List.length_range])
      (by
        intro l l' j h h'
        rw [← (hr l j h).1, ← (hr l' j h').1])
      (by
        intro j hj
        have hj : j < bs.length := by simpa [Nat.blt_eq] using hj
        exact .inl ⟨j, by rw [List.getElem?_range hj], rfl⟩)
      (by
        intro c hc
        have he : (newAll bs H1).get c = H1.get c := by rw [newAll_get, if_pos (by omega)]
        rw [he]
        rcases hold c hc with h | ⟨h1, h2⟩
        · exact .inl h
        · exact .inr (.inl ⟨rfl, h1, h2⟩))
      (by intro c c' j hj; cases hj)
      (by
        intro l j hlj
        obtain ⟨rfl, hlt⟩ := hr l j hlj
        have hb : bs[j]? = some bs[j] := List.getElem?_eq_getElem hlt
        have hp := hob _ (List.getElem_mem hlt)
        rw [mkL_get, newAll_get, if_neg (by omega), show H.next + j - H1.next = j by omega, hb, Option.getD_some, Option.getD_some]
        cases hx : bs[j] with
        | cells o e n cs =>
          rw [hx] at hp
          simp only [Blk.plainB, Bool.and_eq_true] at hp
          exact ⟨by simp only [Blk.ren, AV.renL_plain hp.2], by simp only [Blk.ok, hp.1, AV.okL_of_plain hp.2, Bool.and_self]⟩
        | _ => rw [hx] at hp; cases hp)
  exact ⟨_, r1, fun j i hj e => r2 j i (by simpa [Nat.blt_eq] using hj) e, r3, rfl⟩

theorem own2_ok (hw : RelW sz base w0 μ H w) {k : Nat} {v : AV} {o : Own2} {x : Value} (h : own2 H k v = some o) (hc : allTrue o.conds = true) (hr : RelV μ v x) :
    o.bs.length = o.ns.length ∧ (∀ (j b : Nat), o.ns[j]? = some b → o.bs[j]? = some (H.get b) ∧ (H.get b).plainB = true) ∧ inS (k + o.bs.length) o.v = true ∧
    ∀ ns : List Nat, (∀ j b, o.ns[j]? = some b → ns[k + j]? = some b) → RelV (μ.take w ns) o.v x := by
  have pl : ∀ u : AV, u.plain = true → inS k u = true := by
    intro u hu
    cases u with
    | slice p len c =>
      cases p with
      | none => rfl
      | some p => simp [AV.plain] at hu
    | ptr p =>
      cases p with
      | none => rfl
      | some p => simp [AV.plain] at hu
    | _ => exact hu
  have mv : ∀ u : AV, u.plain = true → RelV μ u x → ∀ ns, RelV (μ.take w ns) u x := by
    intro u hu hr ns
    refine RelV.move (μ := μ) ?_ hu hr
    exact fun _ _ e => e
  cases v <;> simp only [own2] at h <;> try (cases h; done)
  case int t n => injection h with h; subst h; exact ⟨rfl, fun j b e => by simp at e, rfl, fun ns _ => mv _ rfl hr ns⟩
  case bool b => injection h with h; subst h; exact ⟨rfl, fun j b e => by simp at e, rfl, fun ns _ => mv _ rfl hr ns⟩
  case str b => injection h with h; subst h; exact ⟨rfl, fun j b e => by simp at e, rfl, fun ns _ => mv _ rfl hr ns⟩
  case fsl a b cs =>
    injection h with h; subst h
    rw [allTrue_cons] at hc
    have hp : (AV.fsl a b cs).plain = true := by simpa [AV.plain] using hc.1
    exact ⟨rfl, fun j b e => by simp at e, hp, fun ns _ => mv _ hp hr ns⟩
  case func f a b =>
    injection h with h; subst h
    rw [allTrue_cons] at hc
    have hp : (AV.func f a b).plain = true := by simpa [AV.plain] using hc.1
    exact ⟨rfl, fun j b e => by simp at e, hp, fun ns _ => mv _ hp hr ns⟩
  case slice p len c =>
    cases p with
    | none => injection h with h; subst h; exact ⟨rfl, fun j b e => by simp at e, rfl, fun ns _ => mv _ rfl hr ns⟩
    | some p =>
      simp only at h
      split at h
      · rename_i o' e n cs hg
        injection h with h; subst h
        simp only [allTrue_cons] at hc
        refine ⟨rfl, fun j b e => ?_, ?_, fun ns hns => ?_⟩
        · cases j with
          | zero =>
            simp only [List.getElem?_cons_zero, Option.some.injEq] at e
            subst e
            exact ⟨by simp [hg], by rw [hg]; simp [Blk.plainB, hc.1, hc.2.1]⟩
          | succ j => simp at e
        · simp [inS, Nat.blt_eq]
        · have := hns 0 p.1 rfl
          exact RelV.ren (nf := false) (p := fun j => Nat.beq j p.1) (v := .slice (some p) len c) (ρ := fun _ => k) (μ := μ) (μ' := μ.take w ns) (fun c i hc e => by
            have hh := Nat.eq_of_beq_eq_true hc
            subst hh
            show (ns[k]?).bind _ = _
            rw [Nat.add_zero] at this
            rw [this]; exact e) (fun _ _ _ e => e) (by simp [AV.ok]) hr
      · cases h
  case ptr p =>
    cases p with
    | none => injection h with h; subst h; exact ⟨rfl, fun j b e => by simp at e, rfl, fun ns _ => mv _ rfl hr ns⟩
    | some p =>
      simp only at h
      split at h
      · rename_i o' e n cs hg
        injection h with h; subst h
        simp only [allTrue_cons] at hc
        refine ⟨rfl, fun j b e => ?_, ?_, fun ns hns => ?_⟩
        · cases j with
          | zero =>
            simp only [List.getElem?_cons_zero, Option.some.injEq] at e
            subst e
            exact ⟨by simp [hg], by rw [hg]; simp [Blk.plainB, hc.1, hc.2.1]⟩
          | succ j => simp at e
        · simp [inS, Nat.blt_eq]
        · have := hns 0 p.1 rfl
          exact RelV.ren (nf := false) (p := fun j => Nat.beq j p.1) (v := .ptr (some p)) (ρ := fun _ => k) (μ := μ) (μ' := μ.take w ns) (fun c i hc e => by
            have hh := Nat.eq_of_beq_eq_true hc
            subst hh
            show (ns[k]?).bind _ = _
            rw [Nat.add_zero] at this
            rw [this]; exact e) (fun _ _ _ e => e) (by simp [AV.ok]) hr
      · cases h
end
end Go.Ab
end
end

/- Loops around several rows of their own: tables, soundness, rounds. -/
section
set_option autoImplicit false
set_option linter.unusedVariables false
set_option linter.unusedSimpArgs false
set_option linter.unusedSectionVars false
noncomputable section
namespace Go.Ab
open Go.RowKit

theorem inS_mono {k k' : Nat} (h : k ≤ k') {u : AV} (hu : inS k u = true) : inS k' u = true := by
  cases u with
  | slice p len c =>
    cases p with
    | none => rfl
    | some p =>
      have hu : Nat.blt p.1 k = true := hu
      show Nat.blt p.1 k' = true
      rw [Nat.blt_eq] at hu ⊢; omega
  | ptr p =>
    cases p with
    | none => rfl
    | some p =>
      have hu : Nat.blt p.1 k = true := hu
      show Nat.blt p.1 k' = true
      rw [Nat.blt_eq] at hu ⊢; omega
  | _ => exact hu
section
variable {sz : TypeId → Nat} {base : Nat → Prop} {w0 w w' : World} {μ : Inj} {H : Heap}
theorem owns2_ok (hw : RelW sz base w0 μ H w) : ∀ {vs : List AV} {k : Nat} {o : Owns2} {xs : List Value}, owns2 H vs k = some o → allTrue o.conds = true → RelL μ vs xs →
    o.bs.length = o.ns.length ∧ (∀ (j b : Nat), o.ns[j]? = some b → o.bs[j]? = some (H.get b) ∧ (H.get b).plainB = true) ∧ (∀ u ∈ o.vs, inS (k + o.bs.length) u = true) ∧ o.vs.length = vs.length ∧
    ∀ ns : List Nat, (∀ j b, o.ns[j]? = some b → ns[k + j]? = some b) → RelL (μ.take w ns) o.vs xs := by
  intro vs
  induction vs with
  | nil =>
    intro k o xs h hc hr
    injection h with h; subst h
    cases hr
    exact ⟨rfl, fun j b e => (by simp at e), fun u hu => (by cases hu), rfl, fun _ _ => .nil⟩
  | cons v vs ih =>
    intro k o xs h hc hr
    change ((own2 H k v).ob fun o => (owns2 H vs (k + o.bs.length)).ob fun q => some ⟨o.conds ++ q.conds, o.v :: q.vs, o.bs ++ q.bs, o.ns ++ q.ns⟩) = some o at h
    replace h := ob_eq h; obtain ⟨o1, h1, h⟩ := h
    replace h := ob_eq h; obtain ⟨o2, h2, h⟩ := h
    injection h with h; subst h
    rw [allTrue_append] at hc
    cases hr with
    | cons a b =>
      obtain ⟨p1, p2, p3, p4⟩ := own2_ok hw h1 hc.1 a
      obtain ⟨q1, q2, q3, q5, q4⟩ := ih h2 hc.2 b
      refine ⟨by simp [p1, q1], fun j b e => ?_, fun u hu => ?_, by simp [q5], fun ns hns => ?_⟩
      · by_cases hj : j < o1.ns.length
        · rw [List.getElem?_append_left hj] at e
          rw [List.getElem?_append_left (by omega)]
          exact p2 j b e
        · rw [List.getElem?_append_right (by omega)] at e
          rw [List.getElem?_append_right (by omega), p1]
          exact q2 _ b e
      · rcases List.mem_cons.1 hu with rfl | hu
        · exact inS_mono (by simp) p3
        · exact inS_mono (by simp; omega) (q3 u hu)
      · refine .cons (p4 ns fun j b e => hns j b ?_) (q4 ns fun j b e => ?_)
        · rw [List.getElem?_append_left (List.getElem?_eq_some_iff.1 e).1]; exact e
        · have := hns (o1.ns.length + j) b (by rw [List.getElem?_append_right (by omega)]; rw [Nat.add_sub_cancel_left]; exact e)
          rw [p1, Nat.add_assoc]; exact this
end

structure MLoop where
  nn : Nat
  code : Code
  slots : List Nat
  m : List AV → List Blk → Option (List Bool × AX × List AV × List Blk)
def MLoop.lsum (L : MLoop) : LSum where
  code := L.code
  run nn s := cb (Nat.beq nn L.nn) (cb (isNil s.ds) ((owns2 s.H (L.slots.map s.fr.get) 0).ob fun o => (L.m o.vs o.bs).ob fun r =>
    cb (allTrue (nodupB o.ns :: (o.conds ++ r.1))) (some (r.2.1, ⟨frameOf L.nn (L.slots.zip (r.2.2.1.map (backS s.H.next))), [], newAll r.2.2.2 (killL o.ns s.H)⟩)) none) none) none
def MLoop.lsumS (L : MLoop) : Code × (Nat → St → S (AX × St)) :=
  (L.code, fun nn s => cb (Nat.beq nn L.nn) (cb (isNil s.ds) (S.bind (S.lift (owns2 s.H (L.slots.map s.fr.get) 0)) fun o => S.bind (S.lift (L.m o.vs o.bs)) fun r =>
    musts (nodupB o.ns :: (o.conds ++ r.1)) (S.pure (r.2.1, ⟨frameOf L.nn (L.slots.zip (r.2.2.1.map (backS s.H.next))), [], newAll r.2.2.2 (killL o.ns s.H)⟩))) S.fail) S.fail)
theorem MLoop.snd (L : MLoop) (nn : Nat) (s : St) : Snd (L.lsumS.2 nn s) (L.lsum.run nn s) :=
  Snd.cb_bool (Snd.cb_bool (Snd.bind (Snd.lift _) fun w _ => Snd.bind (Snd.lift _) fun r _ => musts_snd (Snd.pure _) _) (Snd.fail _)) (Snd.fail _)
abbrev MSt := List AV × List Blk
def MLoop.st (L : MLoop) (x : MSt) : St := ⟨frameOf L.nn (L.slots.zip x.1), [], mkL x.2⟩
def inM (x : MSt) : Prop := (∀ u ∈ x.1, inS x.2.length u = true) ∧ ∀ b ∈ x.2, b.plainB = true
/-- what is owed for it. -/
def MLoop.OK (P : Program) (cx : Cx) (id : Nat) (L : MLoop) : Prop :=
  ∀ vs bs conds X vs' bs', L.m vs bs = some (conds, X, vs', bs') → allTrue conds = true → vs.length = L.slots.length → inM (vs, bs) →
    inM (vs', bs') ∧ CodeOK P cx L.nn 0 (.block id L.code) (L.st (vs, bs)) X (L.st (vs', bs'))

abbrev MTab := List ((FuncId × Nat) × MLoop)
def mtFind (l : MTab) (fn : FuncId) (id : Nat) : Option MLoop := List.rec (motive := fun _ => Option MLoop) none (fun p _ r => cb (Nat.beq fn p.1.1 && Nat.beq id p.1.2) (some p.2) r) l
theorem mtFind_mem {l : MTab} {fn : FuncId} {id : Nat} {L : MLoop} (h : mtFind l fn id = some L) : ((fn, id), L) ∈ l := by
  induction l with
  | nil => cases h
  | cons p l ih =>
    change cb (Nat.beq fn p.1.1 && Nat.beq id p.1.2) (some p.2) (mtFind l fn id) = some L at h
    cases hb : (Nat.beq fn p.1.1 && Nat.beq id p.1.2) with
    | true =>
      rw [hb, cb_true] at h
      injection h with h
      rw [Bool.and_eq_true] at hb
      have h1 := Nat.eq_of_beq_eq_true hb.1
      have h2 := Nat.eq_of_beq_eq_true hb.2
      subst h1; subst h2; subst h
      obtain ⟨⟨a, b⟩, c⟩ := p
      simp
    | false =>
      rw [hb, cb_false] at h
      simp [ih h]
def mtLoop (l : MTab) : FuncId → Nat → Option LSum := fun fn id => (mtFind l fn id).ob fun L => some L.lsum
def mtLoopS (l : MTab) : LoopS := fun fn id => (mtFind l fn id).ob fun L => some L.lsumS
theorem mtLoops_snd {cx : Cx} {l : MTab} (h : cx.loop = mtLoop l) : LoopsSOK cx (mtLoopS l) := by
  refine ⟨fun fn id m hm => ?_, fun fn id hm => ?_⟩
  · unfold mtLoopS at hm
    replace hm := ob_eq hm; obtain ⟨L, hL, hm⟩ := hm
    injection hm with hm; subst hm
    exact ⟨L.lsum, by rw [h, mtLoop, hL]; rfl, rfl, fun n s => L.snd n s⟩
  · unfold mtLoopS at hm
    rw [h, mtLoop]
    cases hL : mtFind l fn id with
    | none => rfl
    | some L => rw [hL] at hm; cases hm

theorem relL_zip {μ : Inj} {tmps : Array Value} : ∀ {sl : List Nat} {vs : List AV}, RelL μ vs (sl.map fun t => tmps.getD t Go.undef) → ∀ q ∈ sl.zip vs, RelV μ q.2 (tmps.getD q.1 Go.undef) := by
  intro sl
  induction sl with
  | nil => intro vs _ q hq; simp at hq
  | cons t sl ih =>
    intro vs h q hq
    cases h with
    | cons a b =>
      rcases List.mem_cons.1 hq with rfl | hq
      · exact a
      · exact ih b q hq
theorem relL_slots {μ : Inj} {fr : Fr} {tmps : Array Value} (h : RelF μ fr.get tmps) (sl : List Nat) : RelL μ (sl.map fr.get) (sl.map fun t => tmps.getD t Go.undef) := by
  induction sl with
  | nil => exact .nil
  | cons t sl ih => exact .cons (h t) ih

/-- values of the small heap, taken back. -/
theorem back_val {μ' μ2 : Inj} {n k : Nat} (hm : ∀ j i, j < k → μ' j = some i → μ2 (n + j) = some i) (hz : ∀ (k : Nat) (arr : Array Value), μ'.fz k = some arr → μ2.fz k = some arr) {v : AV} {x : Value} (hv : inS k v = true) (hr : RelV μ' v x) : RelV μ2 (backS n v) x := by
  cases v with
  | slice p len c =>
    cases p with
    | none => exact RelV.move hz rfl hr
    | some p =>
      have hv : Nat.blt p.1 k = true := hv
      exact RelV.ren (nf := false) (p := fun j => Nat.blt j k) (v := .slice (some p) len c) (ρ := fun j => n + j) (μ := μ') (μ' := μ2) (fun c i hc e => hm c i (by simpa [Nat.blt_eq] using hc) e) (fun _ => hz) (by simp only [AV.ok]; exact hv) hr
  | ptr p =>
    cases p with
    | none => exact RelV.move hz rfl hr
    | some p =>
      have hv : Nat.blt p.1 k = true := hv
      exact RelV.ren (nf := false) (p := fun j => Nat.blt j k) (v := .ptr (some p)) (ρ := fun j => n + j) (μ := μ') (μ' := μ2) (fun c i hc e => hm c i (by simpa [Nat.blt_eq] using hc) e) (fun _ => hz) (by simp only [AV.ok]; exact hv) hr
  | _ => exact RelV.move hz hv hr
theorem find_zip_map (f : AV → AV) (t : Nat) : ∀ (sl : List Nat) (vs : List AV), (List.find? (fun p => p.1 == t) (sl.zip (vs.map f))) = (List.find? (fun p => p.1 == t) (sl.zip vs)).map fun q => (q.1, f q.2) := by
  intro sl
  induction sl with
  | nil => intro vs; simp
  | cons a sl ih =>
    intro vs
    cases vs with
    | nil => simp
    | cons v vs =>
      simp only [List.map_cons, List.zip_cons_cons, List.find?_cons]
      cases hb : (a == t) with
      | true => simp
      | false => simp only; exact ih vs

theorem mtLoops_ok {P : Program} {cx : Cx} {l : MTab} (h : cx.loop = mtLoop l) (hl : ∀ p ∈ l, p.2.OK P cx p.1.2) (base : Nat → Prop) (w0 : World) : LoopsOK P cx base w0 := by
  intro fn id L hL nn r n s s' X μ a w Q hrun h1 h2 h3 h4 hq
  rw [h, mtLoop] at hL
  replace hL := ob_eq hL; obtain ⟨L0, hL0, hL⟩ := hL
  injection hL with hL; subst hL
  have hok : MLoop.OK P cx id L0 := hl _ (mtFind_mem hL0)
  simp only [MLoop.lsum] at hrun
  cases hnn : Nat.beq nn L0.nn with
  | false => rw [hnn] at hrun; cases hrun
  | true =>
  rw [hnn, cb_true] at hrun
  have hnn := Nat.eq_of_beq_eq_true hnn
  subst hnn
  cases hds : isNil s.ds with
  | false => rw [hds] at hrun; cases hrun
  | true =>
  rw [hds, cb_true] at hrun
  have hds := isNil_eq hds
  rw [hds] at h3
  have hes : a.defers = [] := by
    generalize a.defers = es at h3
    cases h3; rfl
  replace hrun := ob_eq hrun; obtain ⟨o, ho, hrun⟩ := hrun
  replace hrun := ob_eq hrun; obtain ⟨⟨conds, X0, vs', bs'⟩, hm, hrun⟩ := hrun
  simp only at hrun
  cases hc : allTrue (nodupB o.ns :: (o.conds ++ conds)) with
  | false => rw [hc] at hrun; cases hrun
  | true =>
  rw [hc, cb_true] at hrun
  injection hrun with hrun; injection hrun with e1 e2
  subst e1; subst e2
  rw [allTrue_cons, allTrue_append] at hc
  obtain ⟨hnd, hc1, hc2⟩ := hc
  have hnd := nodupB_true hnd
  obtain ⟨p1, p2, p3, p5, p4⟩ := owns2_ok h4 ho hc1 (relL_slots h1 L0.slots)
  have pb : ∀ b ∈ o.bs, b.plainB = true := by
    intro b hb
    obtain ⟨j, hj, hb⟩ := List.getElem_of_mem hb
    obtain ⟨q1, q2⟩ := p2 j o.ns[j] (List.getElem?_eq_getElem (by omega))
    rw [List.getElem?_eq_getElem hj] at q1
    injection q1 with q1
    rw [← hb, q1]; exact q2
  obtain ⟨⟨o1, o2⟩, o3⟩ := hok _ _ _ _ _ _ hm hc2 (by rw [p5]; simp) ⟨by simpa using p3, pb⟩
  have ws := relW_take h4 (bs := o.bs) p1.symm hnd p2
  have hin : RelF (μ.take w o.ns) (frameOf L0.nn (L0.slots.zip o.vs)).get a.tmps := relF_frameOf' h2 _ (relL_zip (p4 o.ns fun j b e => by rw [Nat.zero_add]; exact e))
  have own : ∀ b : Blk, b.plainB = true → b.writes = true := by
    intro b h
    cases b <;> simp only [Blk.plainB] at h <;> try (cases h; done)
    simp only [Bool.and_eq_true] at h
    exact h.1
  refine o3.ok (a := a) hin h2 (by rw [hes]; exact .nil) ws fun a' w' ⟨μ', g, f, d, w1⟩ hs => ?_
  obtain ⟨μ2, r1, r2, r3, r4⟩ := relW_backL (H1 := killL o.ns s.H) h4 w1 (fun k hk => ⟨h4.baseLe k hk, fun b hb i hi e => by
      obtain ⟨j, hj⟩ := List.getElem?_of_mem hb
      subst e
      exact RelB.base (h4.blk b i hi) (own _ (p2 j b hj).2) hk⟩) g.fz (fun k arr e => g.fzn k arr e) (killL_next _ _) (fun c hc => by
      rw [killL_get]
      by_cases hcn : c ∈ o.ns
      · rw [if_pos hcn]; exact .inl rfl
      · rw [if_neg hcn]
        refine .inr ⟨rfl, fun i hi hlive => ⟨(h4.blk c i hi).lt hlive, fun b hb j hj e => ?_⟩⟩
        obtain ⟨l, hl⟩ := List.getElem?_of_mem hb
        exact h4.apart b c j i hj hi (fun h => hcn (h ▸ hb)) (own _ (p2 l b hl).2) hlive e.symm) o2
  refine hq a' w' ⟨?_, ⟨μ2, r3, ?_, ?_, r1⟩, hs⟩
  · show s.H.next ≤ (newAll bs' (killL o.ns s.H)).next
    rw [newAll_next, killL_next]; omega
  · have fzz : ∀ k arr, μ'.fz k = some arr → μ2.fz k = some arr := by rw [r4]; exact fun _ _ e => e
    intro t
    have ft := f t
    change RelV μ' ((frameOf L0.nn (L0.slots.zip vs')).get t) _ at ft
    show RelV μ2 ((frameOf L0.nn (L0.slots.zip (vs'.map (backS s.H.next)))).get t) _
    rw [frameOf_get] at ft ⊢
    rw [find_zip_map]
    cases hx : List.find? (fun p => p.1 == t) (L0.slots.zip vs') with
    | none =>
      rw [hx] at ft
      simp only [Option.map_none, Option.getD_none] at ft ⊢
      refine RelV.move fzz ?_ ft
      split <;> rfl
    | some q =>
      rw [hx] at ft
      simp only [Option.map_some, Option.getD_some] at ft ⊢
      have hm := List.mem_of_find?_eq_some hx
      exact back_val (k := bs'.length) r2 fzz (o1 q.2 (List.of_mem_zip hm).2) ft
  · generalize a'.defers = es at d
    cases d
    exact .nil
end Go.Ab
end
end

/- The machine with loops around several rows of their own; rounds. -/
section
set_option autoImplicit false
set_option linter.unusedVariables false
set_option linter.unusedSimpArgs false
set_option linter.unusedSectionVars false
noncomputable section
namespace Go.Ab
open Go.RowKit

def mkCxM (ty : TypeId → Option ATy) (fn : FuncId → Option Func) (ft : FTab) (lt : MTab) : Cx := { ty := ty, fn := fn, sum := ftSum ty ft, loop := mtLoop lt }
def mkSM (ty : TypeId → Option ATy) (ft : FTab) (lt : MTab) : SumS := { fn := ftSumS ty ft, loop := mtLoopS lt }
theorem mkSM_ok (ty : TypeId → Option ATy) (fn : FuncId → Option Func) (ft : FTab) (lt : MTab) : SumsOK (mkCxM ty fn ft lt) (mkSM ty ft lt) :=
  ftSums_snd (cx := mkCxM ty fn ft lt) rfl (mtLoops_snd rfl)
theorem sums_allM {P : Program} {ty : TypeId → Option ATy} {fn : FuncId → Option Func} {ft : FTab} {lt : MTab} (hf : ∀ p ∈ ft, RSum.Sound P ty p.1 p.2) (hl : ∀ p ∈ lt, p.2.OK P (tyCx ty) p.1.2) : SumAll P (mkCxM ty fn ft lt) := by
  refine ⟨fun base w0 => ?_, fun base w0 => mtLoops_ok (cx := mkCxM ty fn ft lt) rfl (fun p hp vs bs conds X vs' bs' h1 h2 h3 h4 => by
    obtain ⟨k1, k3⟩ := hl p hp vs bs conds X vs' bs' h1 h2 h3 h4
    exact ⟨k1, ⟨fun {_ _ _ _ _ _ _ _} => k3.ok⟩⟩) base w0⟩
  intro g args H H' v μ w xs hsum hw hr r n
  obtain ⟨s, hs, hsum⟩ := ftSum_one hsum
  exact hf _ hs base w0 hsum hw hr r n
theorem RSum.soundM {P : Program} {ty : TypeId → Option ATy} {fn : FuncId → Option Func} {ft : FTab} {lt : MTab} (hcx : CxOK P (mkCxM ty fn ft lt)) (hs : SumAll P (mkCxM ty fn ft lt)) {g : FuncId} {s : RSum} (h : s.OK (mkCxM ty fn ft lt) g) : RSum.Sound P ty g s := by
  intro base w0
  exact ftSums_ok hcx hs (cx' := { ty := ty, fn := fun _ => none, sum := ftSum ty [(g, s)] }) rfl rfl (fun p hp => by
    have : p = (g, s) := by simpa using hp
    subst this; exact h) base w0

def idxN (b : Nat) (l : List Nat) : Nat := List.rec (motive := fun _ => Nat) 0 (fun a _ r => cb (Nat.beq b a) 0 (Nat.succ r)) l
theorem idxN_get {b : Nat} {l : List Nat} (h : memB b l = true) : l[idxN b l]? = some b := by
  induction l with
  | nil => cases h
  | cons a l ih =>
    change cb (Nat.beq b a) true (memB b l) = true at h
    show (a :: l)[cb (Nat.beq b a) 0 (Nat.succ (idxN b l))]? = _
    cases hb : Nat.beq b a with
    | true => have := Nat.eq_of_beq_eq_true hb; subst this; rfl
    | false =>
      rw [hb, cb_false] at h
      rw [cb_false]
      exact ih h
def renS (ks : List Nat) (v : AV) : AV :=
  match v with
  | .slice p len c => match p with
    | none => .slice none len c
    | some p => .slice (some (idxN p.1 ks, p.2)) len c
  | .ptr p => match p with
    | none => .ptr none
    | some p => .ptr (some (idxN p.1 ks, p.2))
  | v => v
def okS (ks : List Nat) (v : AV) : Bool :=
  match v with
  | .slice p _ _ => (match p with
    | none => true
    | some p => memB p.1 ks)
  | .ptr p => (match p with
    | none => true
    | some p => memB p.1 ks)
  | v => v.plain
section
variable {sz : TypeId → Nat} {base : Nat → Prop} {w0 w w' : World} {μ : Inj} {H : Heap}
/-- of a heap some rows are told. -/
theorem relW_pickL (hw : RelW sz base w0 μ H w) {ks : List Nat} {bs : List Blk} (hnd : ks.Nodup) (hg : ks.map H.get = bs) (hp : ∀ b ∈ bs, b.plainB = true) : RelW sz base w0 ⟨fun j => (ks[j]?).bind fun b => μ b, μ.fz, μ.lo⟩ (mkL bs) w := by
  have own : ∀ b : Blk, b.plainB = true → b.writes = true ∧ b.live = true := by
    intro b h
    cases b <;> simp only [Blk.plainB] at h <;> try (cases h; done)
    simp only [Bool.and_eq_true] at h
    exact ⟨h.1, rfl⟩
  have get : ∀ (j b : Nat), ks[j]? = some b → (mkL bs).get j = H.get b ∧ (H.get b).plainB = true := by
    intro j b h
    have e : bs[j]? = some (H.get b) := by rw [← hg, List.getElem?_map, h]; rfl
    exact ⟨by rw [mkL_get, e]; rfl, hp _ (List.mem_of_getElem? e)⟩
  refine ⟨hw.below, hw.baseLe, fun j i e => ?_, fun j i e => ?_, fun j j' i i' e e' hne h1 h2 => ?_, hw.froz, fun j i k arr e hwr hz => ?_, hw.lo⟩
  · obtain ⟨b, hb, _⟩ := Option.bind_eq_some_iff.1 e
    rw [mkL_next, ← hg, List.length_map]
    exact (List.getElem?_eq_some_iff.1 hb).1
  · obtain ⟨b, hb, e⟩ := Option.bind_eq_some_iff.1 e
    rw [(get j b hb).1]
    have h0 := hw.blk b i e
    have hp := (get j b hb).2
    cases hx : H.get b with
    | cells o t n cs =>
      rw [hx] at h0 hp
      simp only [Blk.plainB, Bool.and_eq_true] at hp
      obtain ⟨hl', arr, e', fr, ha, hcs, hown⟩ := h0
      refine ⟨hl', arr, e', fr, ha, fun k v hv => ?_, hown⟩
      obtain ⟨x, hx, hr⟩ := hcs k v hv
      refine ⟨x, hx, RelV.move (μ := μ) ?_ (plainL_get hp.2 hv) hr⟩
      exact fun _ _ e => e
    | _ => rw [hx] at hp; cases hp
  · obtain ⟨b, hb, e⟩ := Option.bind_eq_some_iff.1 e
    obtain ⟨b', hb', e'⟩ := Option.bind_eq_some_iff.1 e'
    have hbb : b ≠ b' := by
      intro h
      subst h
      obtain ⟨q1, r1⟩ := List.getElem?_eq_some_iff.1 hb
      obtain ⟨q2, r2⟩ := List.getElem?_eq_some_iff.1 hb'
      exact hne ((List.getElem_inj hnd).1 (r1.trans r2.symm))
    exact hw.apart b b' i i' e e' hbb (own _ (get j b hb).2).1 (own _ (get j' b' hb').2).2
  · obtain ⟨b, hb, e⟩ := Option.bind_eq_some_iff.1 e
    exact hw.frozApart b i k arr e (own _ (get j b hb).2).1 hz
end

/-- code around rows of its own: its end, slots, the rows. -/
def pRows (sl ks : List Nat) (r : AX × St) : AX × List AV × List Nat × List Blk := (r.1, sl.map r.2.fr.get, r.2.ds, ks.map r.2.H.get)
theorem rows_run {P : Program} {ty : TypeId → Option ATy} {fn : FuncId → Option Func} {ft : FTab} {lt : MTab} (hcx : CxOK P (mkCxM ty fn ft lt)) (hs : SumAll P (mkCxM ty fn ft lt)) {g f : Nat} {k : FuncId} {nn : Nat} {b : Code} {s : St} {X : AX} {sl ks : List Nat} {us vs : List AV} {bs : List Blk} {q : List Ans} {c : List Cnd}
    (h : part (pRows sl ks) (codeS (mkCxM ty fn ft lt) (mtLoopS lt) (callS (mkCxM ty fn ft lt) (mkSM ty ft lt) g) k none nn f b s q) = some ((X, us, [], bs), c)) (hc : HoldsL c) (hr : noRange b = true) (hk : nodupB ks = true) (hvs : us.map (renS ks) = vs) (hb : bs.all Blk.plainB = true) (hu : us.all (okS ks) = true) :
    CodeOK P (tyCx ty) nn 0 b s X ⟨frameOf nn (sl.zip vs), [], mkL bs⟩ := by
  subst hvs
  obtain ⟨⟨X', s1⟩, q', h1, h2⟩ := part_eq h
  unfold pRows at h2
  injection h2 with e1 h2; injection h2 with e2 h2; injection h2 with e3 e4
  simp only at e1 e2
  subst e1
  have hrun := codeS_snd _ (mtLoops_snd rfl) (callS_snd _ (mkSM_ok ty fn ft lt) g) k none nn f b s q _ q' c h1 hc
  have key : CodeOK P (mkCxM ty fn ft lt) nn 0 b s X' s1 := CodeOK.run hcx hs hrun (Nat.zero_le _) hr
  have wk : Weak P (mkCxM ty fn ft lt) nn 0 s1 ⟨frameOf nn (sl.zip (us.map (renS ks))), [], mkL bs⟩ := by
    refine ⟨fun {base w0 w μ tmps es} k1 k2 k3 k4 => ?_⟩
    refine ⟨⟨fun j => (ks[j]?).bind fun b => μ b, μ.fz, μ.lo⟩, ⟨fun _ h => absurd h (Nat.not_lt_zero _), fun _ _ e => e, rfl, fun _ _ e => .inl e⟩, ?_, ?_, relW_pickL k4 (nodupB_true hk) e4 (by simpa using hb)⟩
    · show RelF _ (frameOf nn (sl.zip (us.map (renS ks)))).get tmps
      refine relF_frameOf' k2 _ fun p hp => ?_
      obtain ⟨i, hi⟩ := List.getElem?_of_mem hp
      rw [List.getElem?_zip_eq_some] at hi
      obtain ⟨i1, i2⟩ := hi
      rw [List.getElem?_map, Option.map_eq_some_iff] at i2
      obtain ⟨u, i2, i3⟩ := i2
      have hok : okS ks u = true := (List.all_eq_true.1 hu) u (List.mem_of_getElem? i2)
      have hg : s1.fr.get p.1 = u := by
        rw [← e2, List.getElem?_map, i1] at i2
        simpa using i2
      have hr0 := k1 p.1
      rw [hg] at hr0
      rw [← i3]
      have mv : u.plain = true → RelV (μ := ⟨fun j => (ks[j]?).bind fun b => μ b, μ.fz, μ.lo⟩) u (tmps.getD p.1 Go.undef) := by
        intro hp
        refine RelV.move (μ := μ) ?_ hp hr0
        exact fun _ _ e => e
      cases u with
      | slice pp len c =>
        cases pp with
        | none => exact mv rfl
        | some pp =>
          have hok : memB pp.1 ks = true := hok
          exact RelV.ren (nf := false) (p := fun j => Nat.beq j pp.1) (v := .slice (some pp) len c) (ρ := fun _ => idxN pp.1 ks) (μ := μ) (μ' := ⟨fun j => (ks[j]?).bind fun b => μ b, μ.fz, μ.lo⟩) (fun c j hc e => by
            have := Nat.eq_of_beq_eq_true hc
            subst this
            show (ks[idxN _ ks]?).bind _ = _
            rw [idxN_get hok]; exact e) (fun _ _ _ e => e) (by simp [AV.ok]) hr0
      | ptr pp =>
        cases pp with
        | none => exact mv rfl
        | some pp =>
          have hok : memB pp.1 ks = true := hok
          exact RelV.ren (nf := false) (p := fun j => Nat.beq j pp.1) (v := .ptr (some pp)) (ρ := fun _ => idxN pp.1 ks) (μ := μ) (μ' := ⟨fun j => (ks[j]?).bind fun b => μ b, μ.fz, μ.lo⟩) (fun c j hc e => by
            have := Nat.eq_of_beq_eq_true hc
            subst this
            show (ks[idxN _ ks]?).bind _ = _
            rw [idxN_get hok]; exact e) (fun _ _ _ e => e) (by simp [AV.ok]) hr0
      | _ => exact mv hok
    · rw [e3] at k3
      cases k3
      exact .nil
  have fin := key.weak wk
  exact ⟨fun {_ _ _ _ _ _ _ _} => fin.ok⟩

theorem MLoop.ok_by {P : Program} {ty : TypeId → Option ATy} {L : MLoop} {id : Nat} {b : Code} (hb : L.code = .loop b) {α : Type} (enc : α → MSt) (fin : α → AX × MSt) (ok : α → Prop) (meas : α → Nat)
    (hm : ∀ vs bs conds X vs' bs', L.m vs bs = some (conds, X, vs', bs') → allTrue conds = true → inM (vs, bs) → ∃ p, ok p ∧ (vs, bs) = enc p ∧ X = AX.inBlock id (fin p).1 ∧ (vs', bs') = (fin p).2 ∧ inM (vs', bs'))
    (step : ∀ p, ok p → (∃ p', ok p' ∧ fin p' = fin p ∧ meas p' < meas p ∧ CodeOK P (tyCx ty) L.nn 0 b (L.st (enc p)) .normal (L.st (enc p'))) ∨
      ((fin p).1 ≠ .normal ∧ CodeOK P (tyCx ty) L.nn 0 b (L.st (enc p)) (fin p).1 (L.st (fin p).2))) : L.OK P (tyCx ty) id := by
  intro vs bs conds X vs' bs' h hc _ hin
  obtain ⟨p, hp, e1, e2, e3, h1⟩ := hm vs bs conds X vs' bs' h hc hin
  refine ⟨h1, ?_⟩
  have key := CodeOK.loop (P := P) (cx := tyCx ty) (nn := L.nn) (n0 := 0) (b := b) (fun q : {q // ok q} => L.st (enc q.1)) (fun q => ((fin q.1).1, L.st (fin q.1).2)) (fun q => meas q.1) (fun q => by
    rcases step q.1 q.2 with ⟨p', h1, h2, h3, h4⟩ | ⟨h1, h2⟩
    · exact .inl ⟨⟨p', h1⟩, h4, by simp only [h2], h3⟩
    · exact .inr ⟨h2, h1⟩) ⟨p, hp⟩
  simp only [← e1, ← e3] at key
  show CodeOK P (tyCx ty) L.nn 0 (.block id L.code) _ _ _
  rw [hb, e2]
  exact CodeOK.block id key
end Go.Ab
end
end

/- Functions of which more than one thing is known: which of them counts, tests of the arguments tell. -/
section
set_option autoImplicit false
set_option linter.unusedVariables false
set_option linter.unusedSimpArgs false
set_option linter.unusedSectionVars false
noncomputable section
namespace Go.Ab
open Go.RowKit

abbrev RowM := List AV → Option (List Bool × (Nat → AV × List Blk))
inductive RTree where
  | leaf (m : RowM)
  | node (t : List AV → Bool) (l r : RTree)
def RTree.m (t : RTree) (us : List AV) : Option (List Bool × (Nat → AV × List Blk)) :=
  RTree.rec (motive := fun _ => Option (List Bool × (Nat → AV × List Blk))) (fun m => m us) (fun c _ _ l r => cb (c us) l r) t
def RTree.mS (t : RTree) (us : List AV) : S (List Bool × (Nat → AV × List Blk)) :=
  RTree.rec (motive := fun _ => S (List Bool × (Nat → AV × List Blk))) (fun m => S.lift (m us)) (fun c _ _ l r => S.test (c us) l r) t
theorem RTree.snd (us : List AV) : ∀ t : RTree, Snd (t.mS us) (t.m us)
  | .leaf m => Snd.lift _
  | .node c l r => Snd.cb_test (fun _ => RTree.snd us l) (fun _ => RTree.snd us r)
def RTree.All (p : RowM → Prop) : RTree → Prop
  | .leaf m => p m
  | .node _ l r => l.All p ∧ r.All p
theorem RTree.pick {p : RowM → Prop} (us : List AV) : ∀ {t : RTree}, t.All p → ∃ m, p m ∧ m us = t.m us
  | .leaf m, h => ⟨m, h, rfl⟩
  | .node c l r, h => by
    cases hc : c us with
    | true =>
      obtain ⟨m, h1, h2⟩ := RTree.pick us h.1
      exact ⟨m, h1, h2.trans (by show _ = cb (c us) (l.m us) (r.m us); rw [hc]; rfl)⟩
    | false =>
      obtain ⟨m, h1, h2⟩ := RTree.pick us h.2
      exact ⟨m, h1, h2.trans (by show _ = cb (c us) (l.m us) (r.m us); rw [hc]; rfl)⟩

structure RT where
  nf : Bool
  t : RTree
def RT.sum (x : RT) : RSum := ⟨x.nf, x.t.m⟩
/-- of a row that is known: a leaf. -/
def RSum.rt (s : RSum) : RT := ⟨s.nf, .leaf s.m⟩
theorem RT.sound {P : Program} {ty : TypeId → Option ATy} {g : FuncId} {x : RT} (h : x.t.All fun m => RSum.Sound P ty g ⟨x.nf, m⟩) : RSum.Sound P ty g x.sum := by
  intro base w0 g' args H H' v μ w xs hsum hw hr r n
  have hsum' : ftSum ty [(g, x.sum)] g' args H = some (v, H') := hsum
  unfold ftSum at hsum'
  replace hsum' := ob_eq hsum'; obtain ⟨s, hf, hsum'⟩ := hsum'
  have hg : (g', s) = (g, x.sum) := by simpa using ftFind_mem hf
  injection hg with hg1 hg2
  subst hg1; subst hg2
  replace hsum' := ob_eq hsum'; obtain ⟨⟨c1, us⟩, hv, hsum'⟩ := hsum'
  obtain ⟨m, hm1, hm2⟩ := RTree.pick us h
  refine hm1 base w0 (g := g') (args := args) (H := H) (H' := H') (v := v) (μ := μ) (w := w) (xs := xs) ?_ hw hr r n
  show ftSum ty [(g', ⟨x.nf, m⟩)] g' args H = some (v, H')
  unfold ftSum
  have e1 : ftFind [(g', (⟨x.nf, m⟩ : RSum))] g' = some ⟨x.nf, m⟩ := by
    show cb (Nat.beq g' g') _ _ = _
    simp
  rw [e1, ob_some]
  show (viewsV (tyCx ty) H x.nf args).ob _ = _
  have hv' : viewsV (tyCx ty) H x.nf args = some (c1, us) := hv
  rw [hv', ob_some]
  show ((m us).ob _) = _
  rw [hm2]
  exact hsum'
theorem RSum.rt_sound {P : Program} {ty : TypeId → Option ATy} {g : FuncId} {s : RSum} (h : RSum.Sound P ty g s) : RSum.Sound P ty g s.rt.sum := RT.sound h

abbrev TTab := List (FuncId × RT)
def ttFind (l : TTab) (g : FuncId) : Option RT := List.rec (motive := fun _ => Option RT) none (fun p _ r => cb (Nat.beq g p.1) (some p.2) r) l
def ttTab (l : TTab) : FTab := List.rec (motive := fun _ => FTab) [] (fun p _ r => (p.1, p.2.sum) :: r) l
theorem ttFind_tab (l : TTab) (g : FuncId) : ftFind (ttTab l) g = (ttFind l g).map RT.sum := by
  induction l with
  | nil => rfl
  | cons p l ih =>
    show cb (Nat.beq g p.1) (some p.2.sum) (ftFind (ttTab l) g) = (cb (Nat.beq g p.1) (some p.2) (ttFind l g)).map RT.sum
    cases Nat.beq g p.1 with
    | true => rfl
    | false => exact ih
theorem ttTab_mem {l : TTab} {q : FuncId × RSum} (h : q ∈ ttTab l) : ∃ p ∈ l, q = (p.1, p.2.sum) := by
  induction l with
  | nil => cases h
  | cons p l ih =>
    rcases List.mem_cons.1 h with h | h
    · exact ⟨p, List.mem_cons_self, h⟩
    · obtain ⟨p', h1, h2⟩ := ih h
      exact ⟨p', List.mem_cons_of_mem _ h1, h2⟩
def ttSumS (ty : TypeId → Option ATy) (l : TTab) : FuncId → Option (List AV → Heap → S (AV × Heap)) := fun g =>
  (ttFind l g).ob fun s => some fun args H => S.bind (S.lift (viewsV (tyCx ty) H s.nf args)) fun r => S.bind (s.t.mS r.2) fun q => musts (r.1 ++ q.1) (S.pure ((q.2 H.next).1, newAll (q.2 H.next).2 H))
theorem ttSums_snd {cx : Cx} {l : TTab} {ls : LoopS} (h : cx.sum = ftSum cx.ty (ttTab l)) (hl : LoopsSOK cx ls) : SumsOK cx { fn := ttSumS cx.ty l, loop := ls } := by
  refine ⟨fun g m args H hm => ?_, fun g args H hm => ?_, hl⟩
  · simp only [ttSumS] at hm
    replace hm := ob_eq hm; obtain ⟨s, hs, hm⟩ := hm
    injection hm with hm; subst hm
    rw [h, ftSum, ttFind_tab, hs]
    exact Snd.bind (Snd.lift _) fun r _ => Snd.bind (RTree.snd r.2 s.t) fun q _ => musts_snd (Snd.pure _) _
  · simp only [ttSumS] at hm
    rw [h, ftSum, ttFind_tab]
    cases hs : ttFind l g with
    | none => rfl
    | some s => rw [hs] at hm; cases hm

def mkCxT (ty : TypeId → Option ATy) (fn : FuncId → Option Func) (ft : TTab) (lt : MTab) : Cx := { ty := ty, fn := fn, sum := ftSum ty (ttTab ft), loop := mtLoop lt }
def mkST (ty : TypeId → Option ATy) (ft : TTab) (lt : MTab) : SumS := { fn := ttSumS ty ft, loop := mtLoopS lt }
theorem mkST_ok (ty : TypeId → Option ATy) (fn : FuncId → Option Func) (ft : TTab) (lt : MTab) : SumsOK (mkCxT ty fn ft lt) (mkST ty ft lt) :=
  ttSums_snd (cx := mkCxT ty fn ft lt) rfl (mtLoops_snd rfl)
/-- what is owed, one by one. -/
def TOK (P : Program) (ty : TypeId → Option ATy) : TTab → Prop
  | [] => True
  | p :: l => RSum.Sound P ty p.1 p.2.sum ∧ TOK P ty l
theorem TOK.mem {P : Program} {ty : TypeId → Option ATy} : ∀ {l : TTab}, TOK P ty l → ∀ p ∈ l, RSum.Sound P ty p.1 p.2.sum
  | [], _, p, h => by cases h
  | q :: l, hl, p, h => by
    rcases List.mem_cons.1 h with h | h
    · subst h; exact hl.1
    · exact TOK.mem hl.2 p h
def MOK (P : Program) (ty : TypeId → Option ATy) : MTab → Prop
  | [] => True
  | p :: l => p.2.OK P (tyCx ty) p.1.2 ∧ MOK P ty l
theorem MOK.mem {P : Program} {ty : TypeId → Option ATy} : ∀ {l : MTab}, MOK P ty l → ∀ p ∈ l, p.2.OK P (tyCx ty) p.1.2
  | [], _, p, h => by cases h
  | q :: l, hl, p, h => by
    rcases List.mem_cons.1 h with h | h
    · subst h; exact hl.1
    · exact MOK.mem hl.2 p h
theorem sums_allT {P : Program} {ty : TypeId → Option ATy} {fn : FuncId → Option Func} {ft : TTab} {lt : MTab} (hf : TOK P ty ft) (hl : MOK P ty lt) : SumAll P (mkCxT ty fn ft lt) :=
  sums_allM (ft := ttTab ft) (fun q hq => by
    obtain ⟨p, hp, rfl⟩ := ttTab_mem hq
    exact hf.mem p hp) hl.mem
theorem RSum.soundT {P : Program} {ty : TypeId → Option ATy} {fn : FuncId → Option Func} {ft : TTab} {lt : MTab} (hcx : CxOK P (mkCxT ty fn ft lt)) (hs : SumAll P (mkCxT ty fn ft lt)) {g : FuncId} {s : RSum} (h : s.OK (mkCxT ty fn ft lt) g) : RSum.Sound P ty g s :=
  RSum.soundM (ft := ttTab ft) hcx hs h
theorem call_runT {ty : TypeId → Option ATy} {fn : FuncId → Option Func} {ft : TTab} {lt : MTab} {f : Nat} {t : Tgt} {args : List AV} {H : Heap} {v : AV} {ids : List Nat} {bs : List Blk} {q : List Ans} {c : List Cnd}
    (h : part (pCallB ids) (callS (mkCxT ty fn ft lt) (mkST ty ft lt) f t args H q) = some ((v, bs), c)) (hc : HoldsL c) : ∃ h', aCall (mkCxT ty fn ft lt) f t args H = some (v, h') ∧ ids.map h'.get = bs := by
  obtain ⟨⟨v', h'⟩, q', h1, h2⟩ := part_eq h
  injection h2 with h2 h3
  subst h2
  exact ⟨h', callS_snd _ (mkST_ok ty fn ft lt) f t args H q _ q' c h1 hc, h3⟩
end Go.Ab
end
end

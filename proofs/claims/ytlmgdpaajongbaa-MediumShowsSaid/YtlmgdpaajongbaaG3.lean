/- Texts of the abstract machine and of the laws, merged. -/
import Derived.Test.YtlmgdpaajongbaaG2
import Derived.ChangeArms
import Derived.OpenShut
import Derived.Deep.Slices
set_option autoImplicit false
set_option linter.unusedVariables false
set_option linter.unusedSimpArgs false
set_option linter.unusedSectionVars false
set_option maxRecDepth 100000
section
noncomputable section
namespace Go.Ab
open Go.RowKit
def view1 (cx : Cx) (H : Heap) (nf : Bool) (v : AV) : Option (List Bool × AV) :=
  match v with
  | .int k n => some ([], .int k n)
  | .bool b => some ([], .bool b)
  | .str s => some ([], .str s)
  | .ptr p => cb p.isNone (some ([], .ptr none)) none
  | .map r => cb r.isNone (some ([], .map none)) none
  | .nilFunc => some ([], .nilFunc)
  | .nilIface => some ([], .nilIface)
  | .fsl n l cs => some ([AV.plainL cs], .fsl n l cs)
  | .fptr cs => some ([AV.plainL cs], .fptr cs)
  | .slice p len c => match p with
    | none => some ([], .fsl true 0 [])
    | some p => cb nf (match H.get p.1 with
      | .cells _ e n cs => some ([Nat.ble (p.2 + len * szOf cx e) n, AV.plainL cs], .fsl false len (rowCut cs p.2 (len * szOf cx e)))
      | _ => none) none
  | _ => none
def views1 (cx : Cx) (H : Heap) (nf : Bool) (l : List AV) : Option (List Bool × List AV) :=
  List.rec (motive := fun _ => Option (List Bool × List AV)) (some ([], [])) (fun v _ r => (view1 cx H nf v).ob fun a => r.ob fun b => some (a.1 ++ b.1, a.2 :: b.2)) l
def viewV (cx : Cx) (H : Heap) (nf : Bool) (v : AV) : Option (List Bool × AV) :=
  match v with
  | .agg cs => (views1 cx H nf cs).ob fun r => some (r.1, .agg r.2)
  | .func f x y => (views1 cx H nf x).ob fun a => (views1 cx H nf y).ob fun b => some (a.1 ++ b.1, .func f a.2 b.2)
  | .ptr p => match p with
    | none => some ([], .ptr none)
    | some p => cb nf (match H.get p.1 with
      | .cells _ e n cs => (views1 cx H nf (List.drop p.2 cs)).ob fun r => some (r.1, .fptr r.2)
      | _ => none) none
  | v => view1 cx H nf v
def viewsV (cx : Cx) (H : Heap) (nf : Bool) (l : List AV) : Option (List Bool × List AV) :=
  List.rec (motive := fun _ => Option (List Bool × List AV)) (some ([], [])) (fun v _ r => (viewV cx H nf v).ob fun a => r.ob fun b => some (a.1 ++ b.1, a.2 :: b.2)) l
def fzAll (w : World) : Nat → Option (Array Value) := fun k => match w.heap[k]? with
  | some (.cells arr _ _) => some arr
  | _ => none
def Inj.seen (μ : Inj) (nf : Bool) (w : World) : Inj := ⟨fun _ => none, cb nf (fzAll w) μ.fz, w.heap.size⟩
theorem allTrue_append {a b : List Bool} : allTrue (a ++ b) = true ↔ allTrue a = true ∧ allTrue b = true := by
  induction a with
  | nil => simp [allTrue]
  | cons x a ih => rw [List.cons_append, allTrue_cons, allTrue_cons, ih, and_assoc]
section
variable {P : Program} {cx : Cx} {base : Nat → Prop} {w0 w : World} {μ : Inj} {H : Heap} (hw : RelW (szOf cx) base w0 μ H w) {nf : Bool}
include hw in
theorem seen_fz : ∀ k arr, μ.fz k = some arr → (μ.seen nf w).fz k = some arr := by
  intro k arr h
  cases nf with
  | false => exact h
  | true =>
    obtain ⟨e, fr, hk⟩ := hw.froz k arr h
    show fzAll w k = some arr
    unfold fzAll
    rw [hk]
include hw in
theorem relW_seen : RelW (szOf cx) (Old w) w (μ.seen nf w) H0 w := by
  refine ⟨Keep.refl _ _, fun _ h => h, fun _ _ e => (by cases e), fun _ _ e => (by cases e), fun _ _ _ _ e => (by cases e), fun k arr e => ?_, fun _ _ _ _ e => (by cases e), Nat.le_refl _⟩
  cases nf with
  | false => exact hw.froz k arr e
  | true =>
    have e : fzAll w k = some arr := e
    unfold fzAll at e
    split at e
    · rename_i arr' t fr hk
      injection e with e; subst e
      exact ⟨t, fr, hk⟩
    · cases e
theorem plainL_cut {cs : List AV} (h : AV.plainL cs = true) (o n : Nat) : AV.plainL (rowCut cs o n) = true := by
  have key : ∀ l : List AV, AV.plainL l = true ↔ ∀ v ∈ l, v.plain = true := by
    intro l
    induction l with
    | nil => simp [AV.plainL]
    | cons v l ih => simp [AV.plainL, ih]
  rw [key] at h ⊢
  intro v hv
  exact h v (List.mem_of_mem_drop (List.mem_of_mem_take hv))
include hw in
theorem view1_sound {v u : AV} {c : List Bool} {x : Value} (h : view1 cx H nf v = some (c, u)) (hc : allTrue c = true) (hr : RelV μ v x) : RelV (μ.seen nf w) u x := by
  cases v <;> simp only [view1] at h <;> try (cases h; done)
  case int k n => injection h with h; injection h with h1 h2; subst h2; cases hr; exact .int _ _
  case bool b => injection h with h; injection h with h1 h2; subst h2; cases hr; exact .bool _
  case str s => injection h with h; injection h with h1 h2; subst h2; cases hr; exact .str _
  case nilFunc => injection h with h; injection h with h1 h2; subst h2; cases hr; exact .nilFunc
  case nilIface => injection h with h; injection h with h1 h2; subst h2; cases hr; exact .nilIface
  case ptr p =>
    cases p with
    | none => injection h with h; injection h with h1 h2; subst h2; cases hr; exact .ptrN
    | some p => cases h
  case map r =>
    cases r with
    | none => injection h with h; injection h with h1 h2; subst h2; cases hr; exact .mapN
    | some p => cases h
  case fsl n l cs =>
    injection h with h; injection h with h1 h2; subst h1; subst h2
    rw [allTrue_cons] at hc
    exact RelV.move (seen_fz hw) (by simpa [AV.plain] using hc.1) hr
  case fptr cs =>
    injection h with h; injection h with h1 h2; subst h1; subst h2
    rw [allTrue_cons] at hc
    exact RelV.move (seen_fz hw) (by simpa [AV.plain] using hc.1) hr
  case slice p len cp =>
    cases p with
    | none =>
      injection h with h; injection h with h1 h2; subst h2
      obtain ⟨rfl, rfl, rfl⟩ := rel_slice_none hr
      exact .fslN
    | some p =>
      cases nf with
      | false => cases h
      | true =>
        simp only [cb_true] at h
        split at h
        · rename_i own e n cs hg
          injection h with h; injection h with h1 h2; subst h1; subst h2
          rw [allTrue_cons, allTrue_cons] at hc
          obtain ⟨hle, hpl, _⟩ := hc
          have hle := Nat.le_of_ble_eq_true hle
          obtain ⟨i, ad, k, hi, rfl, hlk, had, _⟩ := rel_slice hr
          obtain ⟨hl, arr, e', fr, harr, hcs, _⟩ := hw.row hi hg
          have hcut : cellsAt H p (len * szOf cx e) = some (rowCut cs p.2 (len * szOf cx e)) := by
            unfold cellsAt
            rw [hg]
            simp only
            rw [if_pos hle]
          obtain ⟨xs, hrx, hxl, hxc⟩ := cells_read hw hcut hi
          refine RelV.fsl (arr := arr) (vs := xs) (fun hne => ?_) (RelL.move (seen_fz hw) (plainL_cut hpl _ _) hrx) (fun j y hj => ?_) hlk
          · have hk : k ≠ 0 := by
              intro hk
              apply hne
              have : len = 0 := by omega
              rw [this]; simp [rowCut]
            rw [had hk]
            refine ⟨rfl, ?_⟩
            show fzAll w i.blk = some arr
            unfold fzAll
            rw [harr]
          · have hj' : j < xs.length := (List.getElem?_eq_some_iff.1 hj).1
            have hk : k ≠ 0 := by
              intro hk
              have : len = 0 := by omega
              rw [hxl, this] at hj'; simp at hj'
            have := hxc j y hj
            rw [had hk]
            simpa [World.cell?, harr] using this
        · cases h
include hw in
theorem views1_sound : ∀ {vs us : List AV} {c : List Bool} {xs : List Value}, views1 cx H nf vs = some (c, us) → allTrue c = true → RelL μ vs xs → RelL (μ.seen nf w) us xs := by
  intro vs
  induction vs with
  | nil => intro us c xs h hc hr; cases hr; injection h with h; injection h with h1 h2; subst h2; exact .nil
  | cons v vs ih =>
    intro us c xs h hc hr
    cases hr with
    | cons a b =>
      change ((view1 cx H nf v).ob fun a => (views1 cx H nf vs).ob fun b => some (a.1 ++ b.1, a.2 :: b.2)) = some (c, us) at h
      replace h := ob_eq h; obtain ⟨⟨c1, u⟩, h1, h⟩ := h
      replace h := ob_eq h; obtain ⟨⟨c2, us'⟩, h2, h⟩ := h
      injection h with h; injection h with e1 e2; subst e1; subst e2
      rw [allTrue_append] at hc
      exact .cons (view1_sound hw h1 hc.1 a) (ih h2 hc.2 b)
include hw in
theorem viewV_sound {v u : AV} {c : List Bool} {x : Value} (h : viewV cx H nf v = some (c, u)) (hc : allTrue c = true) (hr : RelV μ v x) : RelV (μ.seen nf w) u x := by
  cases v
  case agg cs =>
    simp only [viewV] at h
    replace h := ob_eq h; obtain ⟨⟨c1, us⟩, h1, h⟩ := h
    injection h with h; injection h with e1 e2; subst e1; subst e2
    obtain ⟨xs, rfl, hx⟩ := rel_agg hr
    exact .agg (views1_sound hw h1 hc hx)
  case func f a b =>
    simp only [viewV] at h
    replace h := ob_eq h; obtain ⟨⟨c1, us⟩, h1, h⟩ := h
    replace h := ob_eq h; obtain ⟨⟨c2, vs⟩, h2, h⟩ := h
    injection h with h; injection h with e1 e2; subst e1; subst e2
    rw [allTrue_append] at hc
    cases hr with
    | func r1 r2 => exact .func (views1_sound hw h1 hc.1 r1) (views1_sound hw h2 hc.2 r2)
  case ptr p =>
    cases p with
    | none => simp only [viewV] at h; injection h with h; injection h with h1 h2; subst h2; cases hr; exact .ptrN
    | some p =>
      cases nf with
      | false => simp only [viewV, cb_false] at h; cases h
      | true =>
        simp only [viewV, cb_true] at h
        split at h
        · rename_i own e n cs hg
          replace h := ob_eq h; obtain ⟨⟨c1, us⟩, h1, h⟩ := h
          injection h with h; injection h with e1 e2; subst e1; subst e2
          obtain ⟨i, hi, rfl⟩ := rel_ptr hr
          obtain ⟨hl, arr, e', fr, harr, hcs, _⟩ := hw.row hi hg
          have hrx : RelL μ (cs.drop p.2) ((List.range (cs.length - p.2)).map fun j => (arr[i.off + p.2 + j]?).getD Go.undef) := by
            refine RelL.of_get (by simp) fun k v x hv hx => ?_
            rw [List.getElem?_drop] at hv
            obtain ⟨y, hy, r⟩ := hcs _ v hv
            have hk : k < cs.length - p.2 := by have := (List.getElem?_eq_some_iff.1 hv).1; omega
            simp [hk] at hx
            subst hx
            rw [Nat.add_assoc, hy]; exact r
          refine RelV.fptr (arr := arr) (fun hne => ⟨rfl, ?_⟩) (views1_sound hw h1 hc hrx) (fun j y hj => ?_)
          · show fzAll w i.blk = some arr
            unfold fzAll
            rw [harr]
          · have hj' := (List.getElem?_eq_some_iff.1 hj).1
            simp at hj'
            have hlt : p.2 + j < cs.length := by omega
            obtain ⟨y', hy', _⟩ := hcs (p.2 + j) _ (List.getElem?_eq_getElem hlt)
            simp [hj'] at hj
            rw [show i.off + p.2 + j = i.off + (p.2 + j) from by omega] at hj ⊢
            rw [hy'] at hj ⊢
            simp at hj; rw [hj]
        · cases h
  all_goals
    simp only [viewV] at h
    exact view1_sound hw h hc hr
include hw in
theorem viewsV_sound : ∀ {vs us : List AV} {c : List Bool} {xs : List Value}, viewsV cx H nf vs = some (c, us) → allTrue c = true → RelL μ vs xs → RelL (μ.seen nf w) us xs := by
  intro vs
  induction vs with
  | nil => intro us c xs h hc hr; cases hr; injection h with h; injection h with h1 h2; subst h2; exact .nil
  | cons v vs ih =>
    intro us c xs h hc hr
    cases hr with
    | cons a b =>
      change ((viewV cx H nf v).ob fun a => (viewsV cx H nf vs).ob fun b => some (a.1 ++ b.1, a.2 :: b.2)) = some (c, us) at h
      replace h := ob_eq h; obtain ⟨⟨c1, u⟩, h1, h⟩ := h
      replace h := ob_eq h; obtain ⟨⟨c2, us'⟩, h2, h⟩ := h
      injection h with h; injection h with e1 e2; subst e1; subst e2
      rw [allTrue_append] at hc
      exact .cons (viewV_sound hw h1 hc.1 a) (ih h2 hc.2 b)
end
structure RSum where
  nf : Bool
  m : List AV → Option (List Bool × (Nat → AV × List Blk))
def newAll (bs : List Blk) : Heap → Heap := List.rec (motive := fun _ => Heap → Heap) (fun H => H) (fun b _ r H => r (H.new b)) bs
theorem newAll_next (bs : List Blk) : ∀ H : Heap, (newAll bs H).next = H.next + bs.length := by
  induction bs with
  | nil => intro H; rfl
  | cons b bs ih => intro H; show (newAll bs (H.new b)).next = _; rw [ih]; simp; omega
theorem newAll_get (bs : List Blk) : ∀ (H : Heap) (c : Nat), (newAll bs H).get c = if c < H.next then H.get c else (bs[c - H.next]?).getD (H.get c) := by
  induction bs with
  | nil => intro H c; show H.get c = _; split <;> simp
  | cons b bs ih =>
    intro H c
    show (newAll bs (H.new b)).get c = _
    have hn : (H.new b).next = H.next + 1 := rfl
    rw [ih, Heap.get_new, hn]
    by_cases h : c < H.next
    · have h2 : c < H.next + 1 := by omega
      have h3 : c ≠ H.next := by omega
      simp [h, h2, h3]
    · by_cases h2 : c = H.next
      · subst h2; simp
      · obtain ⟨k, rfl⟩ : ∃ k, c = H.next + 1 + k := ⟨c - H.next - 1, by omega⟩
        have h3 : ¬ H.next + 1 + k < H.next + 1 := by omega
        have h4 : H.next + 1 + k - (H.next + 1) = k := by omega
        have h5 : H.next + 1 + k - H.next = k + 1 := by omega
        rw [if_neg h3, if_neg h, if_neg h2, h4, h5, List.getElem?_cons_succ]
abbrev FTab := List (FuncId × RSum)
def ftFind (l : FTab) (g : FuncId) : Option RSum := List.rec (motive := fun _ => Option RSum) none (fun p _ r => cb (Nat.beq g p.1) (some p.2) r) l
theorem ftFind_mem {l : FTab} {g : FuncId} {s : RSum} (h : ftFind l g = some s) : (g, s) ∈ l := by
  induction l with
  | nil => cases h
  | cons p l ih =>
    change cb (Nat.beq g p.1) (some p.2) (ftFind l g) = some s at h
    cases hb : Nat.beq g p.1 with
    | true =>
      rw [hb, cb_true] at h
      injection h with h
      have := Nat.eq_of_beq_eq_true hb
      subst this; subst h
      obtain ⟨a, b⟩ := p
      simp
    | false =>
      rw [hb, cb_false] at h
      simp [ih h]
def tyCx (ty : TypeId → Option ATy) : Cx := { ty := ty, fn := fun _ => none, sum := fun _ _ _ => none }
def ftSum (ty : TypeId → Option ATy) (l : FTab) : FuncId → List AV → Heap → Option (AV × Heap) := fun g args H =>
  (ftFind l g).ob fun s => (viewsV (tyCx ty) H s.nf args).ob fun r => (s.m r.2).ob fun q => cb (allTrue (r.1 ++ q.1)) (some ((q.2 H.next).1, newAll (q.2 H.next).2 H)) none
def AV.Le (u v : AV) : Prop := ∀ (μ : Inj) (x : Value), RelV μ u x → RelV μ v x
theorem AV.Le.refl (v : AV) : AV.Le v v := fun _ _ h => h
theorem AV.Le.of_eq {u v : AV} (h : u = v) : AV.Le u v := h ▸ AV.Le.refl _
def RSum.OK (cx : Cx) (g : FuncId) (s : RSum) : Prop :=
  ∀ us c q, s.m us = some (c, q) → allTrue c = true → ∃ (f : Nat) (v : AV) (h' : Heap) (sel : List Nat), aCall cx f (.fn g) us H0 = some (v, h') ∧ v.ok s.nf (fun b => sel.contains b) = true ∧ (∀ (l l' j : Nat), sel[l]? = some j → sel[l']? = some j → l = l') ∧
    ∀ (n : Nat) (ρ : Nat → Nat), (∀ (l j : Nat), sel[l]? = some j → ρ j = n + l) → AV.Le (v.ren ρ) (q n).1 ∧ (q n).2.length = sel.length ∧ ∀ (l j : Nat) (b : Blk), sel[l]? = some j → (q n).2[l]? = some b → (h'.get j).ren ρ = b ∧ (h'.get j).ok s.nf (fun b => sel.contains b) = true
theorem ftSums_ok {P : Program} {cx cx' : Cx} {l : FTab} (hcx : CxOK P cx) (hs : SumAll P cx) (hty : cx'.ty = cx.ty) (h : cx'.sum = ftSum cx.ty l) (hl : ∀ p ∈ l, p.2.OK cx p.1) (base : Nat → Prop) (w0 : World) : SumOK P cx' base w0 := by
  intro g args H H' v μ w xs hsum hw hr r n
  have hsz : szOf cx' = szOf cx := by funext e; simp [szOf, hty]
  have hszT : szOf (tyCx cx.ty) = szOf cx := rfl
  have hw1 : RelW (szOf cx) base w0 μ H w := hsz ▸ hw
  have hwT : RelW (szOf (tyCx cx.ty)) base w0 μ H w := hw1
  rw [h] at hsum
  unfold ftSum at hsum
  replace hsum := ob_eq hsum; obtain ⟨s, hf, hsum⟩ := hsum
  replace hsum := ob_eq hsum; obtain ⟨⟨c1, us⟩, hv, hsum⟩ := hsum
  replace hsum := ob_eq hsum; obtain ⟨⟨c2, q⟩, hm, hsum⟩ := hsum
  simp only at hsum hm
  cases hc : allTrue (c1 ++ c2) with
  | false => rw [hc] at hsum; cases hsum
  | true =>
    rw [hc, cb_true] at hsum
    injection hsum with hsum; injection hsum with e1 e2
    rw [allTrue_append] at hc
    obtain ⟨f, v0, h', sel, hrun, hvok, hnd, hsel⟩ := hl _ (ftFind_mem hf) us c2 q hm hc.2
    have hus := viewsV_sound hwT hv hc.1 hr
    have h1 := ((aCall_sound hcx (hs.sum (Old w) w) (hs.loop (Old w) w) f).fn hrun (relW_seen (cx := cx) (nf := s.nf) hw1) hus).2 r n
    refine h1.mono ?_
    rintro e w' ⟨Z, rfl, _, μ', hg, hz, hw'⟩
    let ρ : Nat → Nat := fun b => H.next + sel.idxOf b
    have hρ : ∀ (l j : Nat), sel[l]? = some j → ρ j = H.next + l := by
      intro l j hlj
      have hlt := (List.getElem?_eq_some_iff.1 hlj).1
      have hmem := List.mem_of_getElem? hlj
      have hi : sel.idxOf j < sel.length := List.idxOf_lt_length_of_mem hmem
      have := hnd (sel.idxOf j) l j (by rw [List.getElem?_eq_getElem hi, List.getElem_idxOf]) hlj
      show H.next + sel.idxOf j = _
      rw [this]
    obtain ⟨k1, k2, k3⟩ := hsel H.next ρ hρ
    let fz : Nat → Option (Array Value) := cb s.nf μ.fz μ'.fz
    have hzz : ∀ k arr, μ.fz k = some arr → μ'.fz k = some arr := fun k arr e => hg.fz k arr (seen_fz hw1 k arr e)
    obtain ⟨r1, r2, r3⟩ := rebuild hw1 hw' s.nf (fun b => sel.contains b) ρ sel (fun _ => none) fz H' (fun k hk => hw1.baseLe k hk)
      (by
        intro k arr e
        cases hnf : s.nf with
        | true => simp only [fz, hnf, cb_true]; exact e
        | false => simp only [fz, hnf, cb_false]; exact hzz k arr e)
      (by
        intro k arr e
        cases hnf : s.nf with
        | true => simp only [fz, hnf, cb_true] at e; exact hzz k arr e
        | false => simp only [fz, hnf, cb_false] at e; exact e)
      (by
        intro k arr e
        cases hnf : s.nf with
        | true => simp only [fz, hnf, cb_true] at e; exact .inl e
        | false =>
          simp only [fz, hnf, cb_false] at e
          rcases hg.fzn k arr e with e | e
          · rw [hnf] at e; exact .inl e
          · exact .inr e)
      (by
        intro hnf k arr e
        simp only [fz, hnf, cb_false]; exact e)
      (by rw [← e2, newAll_next, k2])
      hnd
      (by
        intro j hj
        have hj : j ∈ sel := by simpa using hj
        obtain ⟨l, hl⟩ := List.getElem?_of_mem hj
        exact .inl ⟨l, hl, hρ l j hl⟩)
      (by
        intro c hc
        right; left
        refine ⟨rfl, ?_, fun i hi hlive => ?_⟩
        · rw [← e2, newAll_get, if_pos hc]
        · exact (hw1.blk c i hi).lt hlive)
      (by intro c c' j hj; cases hj)
      (by
        intro l j hlj
        have hlt := (List.getElem?_eq_some_iff.1 hlj).1
        have hb : (q H.next).2[l]? = some (q H.next).2[l] := List.getElem?_eq_getElem (by omega)
        obtain ⟨m1, m2⟩ := k3 l j _ hlj hb
        refine ⟨?_, m2⟩
        rw [← e2, newAll_get, if_neg (by omega), show H.next + l - H.next = l by omega, hb, m1]; rfl)
    have hgr : Grow H.next μ (Inj.join μ μ' H.next sel fz) := r3
    refine ⟨Z, rfl, ?_, Inj.join μ μ' H.next sel fz, hgr, ?_, ?_⟩
    · rw [← e2, newAll_next]; omega
    · rw [← e1]
      refine k1 _ _ ?_
      refine RelV.ren (nf := s.nf) (p := fun b => sel.contains b) (fun b i hb e => r2 b i hb e) (fun hnf k arr e => ?_) hvok hz
      show fz k = some arr
      simp only [fz, hnf, cb_false]; exact e
    · rw [hsz]; exact r1
end Go.Ab
end
end

section
noncomputable section
namespace Go.Ab
open Go.RowKit
def mkCx (ty : TypeId → Option ATy) (fn : FuncId → Option Func) (ft : FTab) (lt : LTab) : Cx := { ty := ty, fn := fn, sum := ftSum ty ft, loop := ltLoop lt }
def RSum.Sound (P : Program) (ty : TypeId → Option ATy) (g : FuncId) (s : RSum) : Prop :=
  ∀ base w0, SumOK P { ty := ty, fn := fun _ => none, sum := ftSum ty [(g, s)] } base w0
theorem ftSum_one {ty : TypeId → Option ATy} {l : FTab} {g : FuncId} {args : List AV} {H : Heap} {r : AV × Heap} (h : ftSum ty l g args H = some r) : ∃ s, (g, s) ∈ l ∧ ftSum ty [(g, s)] g args H = some r := by
  unfold ftSum at h
  replace h := ob_eq h; obtain ⟨s, hs, h⟩ := h
  refine ⟨s, ftFind_mem hs, ?_⟩
  have : ftFind [(g, s)] g = some s := by
    show cb (Nat.beq g g) (some s) none = _
    simp
  unfold ftSum
  rw [this]; exact h
theorem sums_all {P : Program} {ty : TypeId → Option ATy} {fn : FuncId → Option Func} {ft : FTab} {lt : LTab} (hf : ∀ p ∈ ft, RSum.Sound P ty p.1 p.2) (hl : ∀ p ∈ lt, p.2.OK P (tyCx ty) p.1.2) : SumAll P (mkCx ty fn ft lt) := by
  refine ⟨fun base w0 => ?_, fun base w0 => ltLoops_ok (cx := mkCx ty fn ft lt) rfl (fun p hp vs conds X vs' h1 h2 h3 ds H => ⟨fun {_ _ _ _ _ _ _ _} => (hl p hp vs conds X vs' h1 h2 h3 ds H).ok⟩) base w0⟩
  intro g args H H' v μ w xs hsum hw hr r n
  obtain ⟨s, hs, hsum⟩ := ftSum_one hsum
  exact hf _ hs base w0 hsum hw hr r n
theorem RSum.sound {P : Program} {ty : TypeId → Option ATy} {fn : FuncId → Option Func} {ft : FTab} {lt : LTab} (hcx : CxOK P (mkCx ty fn ft lt)) (hs : SumAll P (mkCx ty fn ft lt)) {g : FuncId} {s : RSum} (h : s.OK (mkCx ty fn ft lt) g) : RSum.Sound P ty g s := by
  intro base w0
  exact ftSums_ok hcx hs (cx' := { ty := ty, fn := fun _ => none, sum := ftSum ty [(g, s)] }) rfl rfl (fun p hp => by
    have : p = (g, s) := by simpa using hp
    subst this; exact h) base w0
def oc (n : Nat) (q : Ans) : Ans := Nat.rec (motive := fun _ => Ans) q (fun _ r => .c r) n
def qStep (n : Nat) (l : List Ans) : List Ans :=
  List.rec (motive := fun _ => List Ans) [.s] (fun a r _ => cb (Nat.beq n 0) (.y a :: r) (cb (Nat.beq n 1) (.z a :: r) (cb (Nat.beq n 2) (List.rec (motive := fun _ => List Ans) [] (fun b r _ => .b a b :: r) r) (cb (Nat.beq n 3) (.s :: a :: r) (oc (Nat.sub n 3) a :: r))))) l
def qN (l : List Nat) : Ans := List.rec (motive := fun _ => Ans) .s (fun a _ _ => a) (List.rec (motive := fun _ => List Ans) [.s] (fun n _ r => qStep n r) l : List Ans)
def findBlock (id : Nat) : Code → Option Code
  | .seq a b => match findBlock id a with
    | some c => some c
    | none => findBlock id b
  | .cond _ a b => match findBlock id a with
    | some c => some c
    | none => findBlock id b
  | .block id' b => if id = id' then some b else findBlock id b
  | .loop b => findBlock id b
  | .rangeFunc _ _ a b => match findBlock id a with
    | some c => some c
    | none => findBlock id b
  | _ => none
def blockOf (f : Func) (id : Nat) : Code := (f.body.bind (findBlock id)).getD .skip
def roundOf (c : Code) : Code :=
  match c with
  | .loop b => b
  | c => c
abbrev cnT {b : Bool} : Cnd := .tst b true
abbrev cnF {b : Bool} : Cnd := .tst b false
end Go.Ab
end
end

section
section
namespace Go.Ab
open Go.RowKit
noncomputable def Inj.start (w : World) : Inj := ⟨fun _ => none, fzAll w, w.heap.size⟩
theorem relW_start (sz : TypeId → Nat) (w : World) : RelW sz (Old w) w (Inj.start w) H0 w := by
  refine ⟨Keep.refl _ _, fun _ h => h, fun _ _ e => (by cases e), fun _ _ e => (by cases e), fun _ _ _ _ e => (by cases e), fun k arr e => ?_, fun _ _ _ _ e => (by cases e), Nat.le_refl _⟩
  have e : fzAll w k = some arr := e
  unfold fzAll at e
  split at e
  · rename_i arr' t fr hk
    injection e with e; subst e
    exact ⟨t, fr, hk⟩
  · cases e
theorem law_calls {P : Program} {cx : Cx} (hcx : CxOK P cx) (hs : SumAll P cx) {f : Nat} {g : FuncId} {us : List AV} {h' : Heap} {w : World} {xs : List Value}
    (h : aCall cx f (.fn g) us H0 = some (.bool true, h')) (hr : RelL (Inj.start w) us xs) : Calls P g xs.toArray w fun e w' => e = .returned (.bool true) ∧ Below w.heap.size w w' := by
  refine (calls_of_aCall hcx (hs.sum _ _) (hs.loop _ _) h (relW_start _ w) hr).mono ?_
  rintro e w' ⟨Z, μ, rfl, hz, hb⟩
  cases hz
  exact ⟨rfl, hb⟩
theorem cell_spot {w : World} {a : Addr} {v : Value} (h : w.cell? a = some v) : a.spot = none ∧ ∃ arr e fr, w.heap[a.block]? = some (.cells arr e fr) ∧ arr[a.off]? = some v := by
  unfold World.cell? at h
  split at h
  · rename_i c e fr hc
    split at h
    · cases h
    · rename_i hs
      exact ⟨by simpa using hs, c, e, fr, hc, h⟩
  · cases h
theorem int_range {k : IntKind} {n : Int} (h : (Lit.int k n).wf = true) : k.min ≤ n ∧ n ≤ k.max := by
  simpa [Lit.wf] using h
end Go.Ab
end
end

section
section
namespace Go.Ab
open Go.RowKit Go.ChangeShapes Go.WideShapes Go.Deep
inductive IT where
  | bool
  | int (k : IntKind)
  | str
  | struct (fs : IT)
  | nil
  | cons (h t : IT)
  | slice (e : IT) (n : Nat)
  | arr (e : IT) (n sz : Nat)
def IT.is : IT → List AV → Prop
  | .bool, us => ∃ b, us = [.bool b]
  | .int k, us => ∃ n, us = [.int k n] ∧ k.min ≤ n ∧ n ≤ k.max
  | .str, us => ∃ s : List UInt8, us = [.str s] ∧ s.length ≤ maxLen
  | .struct fs, us => fs.is us
  | .nil, us => us = []
  | .cons h t, us => ∃ a b, us = a ++ b ∧ h.is a ∧ t.is b
  | .slice e n, us => ∃ (nl : Bool) (ls : List (List AV)), us = [.fsl nl ls.length ls.flatten] ∧ (nl = true → ls = []) ∧ ls.length ≤ maxLen ∧ ∀ l ∈ ls, e.is l ∧ l.length = n
  | .arr e n sz, us => ∃ ls : List (List AV), ls.length = n ∧ us = ls.flatten ∧ ∀ l ∈ ls, e.is l ∧ l.length = sz
mutual
def IT.okB (P : Program) : IT → TypeId → Bool
  | .bool, t => match P.underlying t with
    | some .bool => true
    | _ => false
  | .int k, t => match P.underlying t with
    | some (.int k') => decide (k' = k)
    | _ => false
  | .str, t => match P.underlying t with
    | some .string => true
    | _ => false
  | .struct fs, t => match P.underlying t with
    | some (.struct fields) => IT.chB P fs fields.toList 0 (P.cellsOf t)
    | _ => false
  | .slice e n, t => match P.underlying t with
    | some (.slice e') => IT.okB P e e' && decide (P.cellsOf e' = n)
    | _ => false
  | .arr e n sz, t => match P.underlying t with
    | some (.array m e') => decide (m = n) && IT.okB P e e' && decide (P.cellsOf e' = sz) && decide (P.cellsOf t = n * sz)
    | _ => false
  | .nil, _ => false
  | .cons _ _, _ => false
def IT.chB (P : Program) : IT → List Field → Nat → Nat → Bool
  | .nil, fs, o, tot => fs.isEmpty && decide (o = tot)
  | .cons h t, fs, o, tot => match fs with
    | f :: fs => decide (f.offset = o) && IT.okB P h f.type && IT.chB P t fs (o + P.cellsOf f.type) tot
    | [] => false
  | _, _, _, _ => false
end
theorem RelL.flat {μ : Inj} : ∀ {ls : List (List AV)} {cs : List (List Value)}, ls.length = cs.length → (∀ (i : Nat) (l : List AV) (c : List Value), ls[i]? = some l → cs[i]? = some c → RelL μ l c) → RelL μ ls.flatten cs.flatten := by
  intro ls
  induction ls with
  | nil => intro cs h _; cases cs with
    | nil => exact .nil
    | cons _ _ => simp at h
  | cons l ls ih =>
    intro cs h hi
    cases cs with
    | nil => simp at h
    | cons c cs =>
      rw [List.flatten_cons, List.flatten_cons]
      exact (hi 0 l c rfl rfl).append (ih (by simpa using h) fun i l' c' h1 h2 => hi (i + 1) l' c' (by simpa using h1) (by simpa using h2))
theorem flat_at {α : Type} {n : Nat} : ∀ {ls : List (List α)} {k : Nat} {x : α}, (∀ l ∈ ls, l.length = n) → ls.flatten[k]? = some x → ∃ i j l, k = i * n + j ∧ ls[i]? = some l ∧ l[j]? = some x ∧ j < n := by
  intro ls
  induction ls with
  | nil => intro k x _ h; simp at h
  | cons l ls ih =>
    intro k x hl h
    rw [List.flatten_cons] at h
    have hn := hl l (by simp)
    by_cases hk : k < l.length
    · rw [List.getElem?_append_left hk] at h
      exact ⟨0, k, l, by omega, rfl, h, by omega⟩
    · rw [List.getElem?_append_right (by omega)] at h
      obtain ⟨i, j, l', h1, h2, h3, h4⟩ := ih (fun l' hl' => hl l' (by simp [hl'])) h
      exact ⟨i + 1, j, l', by rw [Nat.add_mul]; omega, by simpa using h2, h3, h4⟩
section
variable {H : Type} {enc : TypeId × Value → H} {P : Program} {w : World} {spare : Nat → Bool} {held : Bool}
mutual
theorem trod_in : ∀ (it : IT) {t : TypeId} {fuel : Nat} {cs : List Value} {x : DataW H × List MemPlace}, it.okB P t = true → DataW.trod enc P w 0 spare held fuel t cs = some x → ∃ us, it.is us ∧ RelL (Inj.start w) us cs := by
  intro it t fuel cs x hk h
  cases it with
  | bool =>
    simp only [IT.okB] at hk
    split at hk
    · rename_i ht
      obtain ⟨b, rfl, _⟩ := DataW.trod_bool ht h
      exact ⟨[.bool b], ⟨b, rfl⟩, .cons (.bool b) .nil⟩
    · cases hk
  | int k =>
    simp only [IT.okB] at hk
    split at hk
    · rename_i k' ht
      have := of_decide_eq_true hk
      subst this
      obtain ⟨n, rfl, _, hw⟩ := DataW.trod_int ht h
      obtain ⟨r1, r2⟩ := int_range hw
      exact ⟨[.int _ n], ⟨n, rfl, r1, r2⟩, .cons (.int _ n) .nil⟩
    · cases hk
  | str =>
    simp only [IT.okB] at hk
    split at hk
    · rename_i ht
      obtain ⟨s, rfl, _, hs⟩ := DataW.trod_string ht h
      refine ⟨[.str s.data.toList], ⟨_, rfl, ?_⟩, .cons ?_ .nil⟩
      · have : s.data.toList.length = s.size := Array.length_toList
        omega
      · have := RelV.str (μ := Inj.start w) s.data.toList
        simpa using this
    · cases hk
  | struct fs =>
    simp only [IT.okB] at hk
    split at hk
    · rename_i fields ht
      obtain ⟨xs, n, _, _, hl, hxl, hf⟩ := DataW.trod_struct ht h
      obtain ⟨us, h1, h2⟩ := trod_ch fs (cs := cs) (o := 0) (tot := P.cellsOf t) (n := n) hk hl (fun i f hi => by
        have hi' : fields[i]? = some f := by simpa using hi
        have := hf i f hi'
        have hlt : i < xs.length := by rw [hxl]; exact (Array.getElem?_eq_some_iff.1 hi').1
        exact ⟨_, this.trans (List.getElem?_eq_getElem hlt)⟩)
      exact ⟨us, h1, by simpa using h2⟩
    · cases hk
  | nil => cases hk
  | cons _ _ => cases hk
  | arr e n sz =>
    simp only [IT.okB] at hk
    split at hk
    · rename_i m e' ht
      simp only [Bool.and_eq_true, decide_eq_true_eq] at hk
      obtain ⟨⟨⟨h1, h2⟩, h3⟩, h4⟩ := hk
      subst h1; subst h3
      obtain ⟨xs, f, _, _, hl, hxl, hf⟩ := DataW.trod_array ht h
      have each : ∀ i, ∃ us : List AV, i < m → e.is us ∧ us.length = P.cellsOf e' ∧ RelL (Inj.start w) us ((cs.drop (i * P.cellsOf e')).take (P.cellsOf e')) := by
        intro i
        by_cases hi : i < m
        · have he := hf i hi
          have hlt : i < xs.length := by omega
          obtain ⟨us, u1, u2⟩ := trod_in e h2 (he.trans (List.getElem?_eq_getElem hlt))
          refine ⟨us, fun _ => ⟨u1, ?_, u2⟩⟩
          have := u2.length
          rw [← this, List.length_take, List.length_drop, hl, h4]
          have : (i + 1) * P.cellsOf e' ≤ m * P.cellsOf e' := Nat.mul_le_mul_right _ hi
          rw [Nat.add_mul] at this
          omega
        · exact ⟨[], fun h => absurd h hi⟩
      let U : Nat → List AV := fun i => Classical.choose (each i)
      have hU : ∀ i, i < m → e.is (U i) ∧ (U i).length = P.cellsOf e' ∧ RelL (Inj.start w) (U i) ((cs.drop (i * P.cellsOf e')).take (P.cellsOf e')) := fun i => Classical.choose_spec (each i)
      refine ⟨((List.range m).map U).flatten, ⟨(List.range m).map U, by simp, rfl, fun l hl' => ?_⟩, ?_⟩
      · obtain ⟨i, hi, rfl⟩ := List.mem_map.1 hl'
        exact ⟨(hU i (by simpa using hi)).1, (hU i (by simpa using hi)).2.1⟩
      · have key : ∀ k, k ≤ m → RelL (Inj.start w) ((List.range k).map U).flatten (cs.take (k * P.cellsOf e')) := by
          intro k
          induction k with
          | zero => intro _; simp; exact .nil
          | succ k ih =>
            intro hk
            rw [List.range_succ, List.map_append, List.flatten_append, Nat.add_mul, Nat.one_mul, List.take_add]
            refine (ih (by omega)).append ?_
            simpa using (hU k (by omega)).2.2
        have := key m (Nat.le_refl _)
        rwa [List.take_of_length_le (by omega)] at this
    · cases hk
  | slice e n =>
    simp only [IT.okB] at hk
    split at hk
    · rename_i e' ht
      simp only [Bool.and_eq_true, decide_eq_true_eq] at hk
      obtain ⟨h2, h3⟩ := hk
      subst h3
      rcases open_slice ht h with ⟨rfl, _⟩ | ⟨a, len, cap, m, f, D, Pl, rfl, _, hlc, hcm, hm, _, hi⟩
      · exact ⟨[.fsl true 0 []], ⟨true, [], rfl, fun _ => rfl, Nat.zero_le _, fun l hl => by cases hl⟩, .cons .fslN .nil⟩
      have hlm : len ≤ m := by rw [hm]; split <;> omega
      have each : ∀ i, ∃ q : List AV × List Value, i < len → e.is q.1 ∧ q.1.length = P.cellsOf e' ∧ RelL (Inj.start w) q.1 q.2 ∧ w.cells? 0 (a.add (i * P.cellsOf e')) (P.cellsOf e') = some q.2 := by
        intro i
        by_cases hil : i < len
        · obtain ⟨cs', hc, htr⟩ := hi i (by omega)
          obtain ⟨us, u1, u2⟩ := trod_in e h2 htr
          refine ⟨(us, cs'), fun _ => ⟨u1, ?_, u2, hc⟩⟩
          have := u2.length
          rw [← this]; exact (World.cells?_some hc).2.1
        · exact ⟨([], []), fun h => absurd h hil⟩
      let Q : Nat → List AV × List Value := fun i => Classical.choose (each i)
      have hQ : ∀ i, i < len → e.is (Q i).1 ∧ (Q i).1.length = P.cellsOf e' ∧ RelL (Inj.start w) (Q i).1 (Q i).2 ∧ w.cells? 0 (a.add (i * P.cellsOf e')) (P.cellsOf e') = some (Q i).2 := fun i => Classical.choose_spec (each i)
      have hlen : ((List.range len).map fun i => (Q i).1).length = len := by simp
      refine ⟨[.fsl false ((List.range len).map fun i => (Q i).1).length ((List.range len).map fun i => (Q i).1).flatten], ⟨false, _, rfl, (fun h => by cases h), (by rw [hlen]; omega), fun l hl => ?_⟩, .cons ?_ .nil⟩
      · obtain ⟨i, hi, rfl⟩ := List.mem_map.1 hl
        have := hQ i (by simpa using hi)
        exact ⟨this.1, this.2.1⟩
      · rw [hlen]
        have cell : ∀ i j x, i < len → ((Q i).2)[j]? = some x → w.cell? ((a.add (i * P.cellsOf e')).add j) = some x := by
          intro i j x hi hj
          obtain ⟨_, c1, c2⟩ := World.cells?_some (hQ i hi).2.2.2
          have hlt := (List.getElem?_eq_some_iff.1 hj).1
          rw [c2 j (by omega)]; exact hj
        have rl : RelL (Inj.start w) ((List.range len).map fun i => (Q i).1).flatten ((List.range len).map fun i => (Q i).2).flatten := by
          refine RelL.flat (by simp) fun i l c h1 h2 => ?_
          rw [List.getElem?_map, Option.map_eq_some_iff] at h1 h2
          obtain ⟨i1, h1, rfl⟩ := h1
          obtain ⟨i2, h2, rfl⟩ := h2
          rw [h1] at h2; injection h2 with h2; subst h2
          obtain ⟨hlt, he⟩ := List.getElem?_eq_some_iff.1 h1
          simp at hlt he
          subst he
          exact (hQ i hlt).2.2.1
        have at_ : ∀ k x, (((List.range len).map fun i => (Q i).2).flatten)[k]? = some x → ∃ arr t fr, (k = 0 → a.spot = none) ∧ w.heap[a.block]? = some (.cells arr t fr) ∧ arr[a.off + k]? = some x := by
          intro k x hk
          obtain ⟨i, j, l, rfl, h1, h2, hjn⟩ := flat_at (n := P.cellsOf e') (fun l hl => by
            obtain ⟨i, hi, rfl⟩ := List.mem_map.1 hl
            exact (World.cells?_some (hQ i (by simpa using hi)).2.2.2).2.1) hk
          rw [List.getElem?_map, Option.map_eq_some_iff] at h1
          obtain ⟨i1, h1, rfl⟩ := h1
          obtain ⟨hlt, he⟩ := List.getElem?_eq_some_iff.1 h1
          simp at hlt he
          subst he
          have := cell i j x hlt h2
          obtain ⟨s, arr, t, fr, s2, s3⟩ := cell_spot this
          have q1 := addr_add_off (a.add (i * P.cellsOf e')) j
          have q2 := addr_add_off a (i * P.cellsOf e')
          refine ⟨arr, t, fr, ?_, ?_, ?_⟩
          · intro hk0
            have hj0 : j = 0 := by omega
            have hi0 : i * P.cellsOf e' = 0 := by omega
            rw [hj0, hi0] at s
            simpa [Addr.add] using s
          · rw [← q2.1, ← q1.1]; exact s2
          · have e1 : ((a.add (i * P.cellsOf e')).add j).off = a.off + (i * P.cellsOf e' + j) := by rw [q1.2.1, q2.2.1]; omega
            rw [← e1]; exact s3
        cases hc : ((List.range len).map fun i => (Q i).2).flatten with
        | nil =>
          have hz : ((List.range len).map fun i => (Q i).1).flatten = [] := by
            have := rl.length
            rw [hc] at this
            exact List.eq_nil_of_length_eq_zero this.symm
          rw [hz]
          exact .fsl (arr := #[]) (vs := []) (fun hn => absurd rfl hn) .nil (fun k x hx => by cases hx) hlc
        | cons v0 vs =>
          obtain ⟨arr, t, fr, s1, s2, _⟩ := at_ 0 v0 (by rw [hc]; rfl)
          have s1 := s1 rfl
          rw [hc] at rl
          refine .fsl (arr := arr) (vs := v0 :: vs) (fun _ => ⟨s1, ?_⟩) rl (fun k x hk => ?_) hlc
          · show fzAll w a.block = some arr
            unfold fzAll; rw [s2]
          · obtain ⟨arr', t', fr', _, q2, q3⟩ := at_ k x (by rw [hc]; exact hk)
            rw [s2] at q2
            injection q2 with q2; injection q2 with q2 _ _; subst q2
            exact q3
    · cases hk
theorem trod_ch : ∀ (it : IT) {fs : List Field} {o tot n : Nat} {cs : List Value}, IT.chB P it fs o tot = true → cs.length = tot → (∀ (i : Nat) (f : Field), fs[i]? = some f → ∃ x, DataW.trod enc P w 0 spare held n f.type ((cs.drop f.offset).take (P.cellsOf f.type)) = some x) →
    ∃ us, it.is us ∧ RelL (Inj.start w) us (cs.drop o) := by
  intro it fs o tot n cs hk hl hf
  cases it with
  | nil =>
    simp only [IT.chB, Bool.and_eq_true, decide_eq_true_eq] at hk
    refine ⟨[], rfl, ?_⟩
    rw [List.drop_of_length_le (by omega)]
    exact .nil
  | cons a t =>
    simp only [IT.chB] at hk
    split at hk
    · rename_i f fs
      simp only [Bool.and_eq_true, decide_eq_true_eq] at hk
      obtain ⟨⟨h1, h2⟩, h3⟩ := hk
      obtain ⟨x, hx⟩ := hf 0 f rfl
      rw [h1] at hx
      obtain ⟨us, u1, u2⟩ := trod_in a h2 hx
      obtain ⟨vs, v1, v2⟩ := trod_ch t (n := n) h3 hl (fun i g hg => hf (i + 1) g (by simpa using hg))
      refine ⟨us ++ vs, ⟨us, vs, rfl, u1, v1⟩, ?_⟩
      have e : cs.drop o = (cs.drop o).take (P.cellsOf f.type) ++ cs.drop (o + P.cellsOf f.type) := by
        have := (List.take_append_drop (P.cellsOf f.type) (cs.drop o)).symm
        rwa [List.drop_drop] at this
      rw [e]
      exact u2.append v2
    · cases hk
  | bool => cases hk
  | int k => cases hk
  | str => cases hk
  | struct fs => cases hk
  | slice e n => cases hk
  | arr e n sz => cases hk
end
end
end Go.Ab
end
end
